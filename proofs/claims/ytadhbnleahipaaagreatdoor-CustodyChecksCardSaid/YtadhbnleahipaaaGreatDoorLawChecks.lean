/-
  Chapter 47: the law Checks, walked out of the contracts.
-/
import Derived.Test.YtadhbnleahipaaaGreatDoorCuSign
namespace Go.Proofs.YtadhbnleahipaaaGreatDoor
open Go.RowKit
set_option maxRecDepth 100000 in
set_option maxHeartbeats 2000000 in
theorem lawChecks_any (v : Value) (L : List Cu) (date : Int) (w : World) (he : Env w) (hr : CuRow w v L) (hw : ∀ j, CuWf (cuAt L j)) (_hd : -9223372036854775808 ≤ date ∧ date ≤ 9223372036854775807) :
    Calls Tryz.prog 3 #[v, .int .i64 date] w (TrueP w) := by
  have HG := Lib.hid (great47_any v L w hr (fun i => ⟨(hw i).root, (hw i).media, (hw i).sig⟩))
  have HF := Lib.hid (show ∀ W, Below w.heap.size w W → Calls Tryz.prog 12 #[] W (TrueP W) from fun W hW => awake47_any W (he.below hW))
  have HR := Lib.hid hr
  have HW := Lib.hid hw
  obtain ⟨hmax, hr⟩ := hr
  have hv : ∃ a cap, v = .slice a L.length cap := by
    rcases hr with ⟨rfl, a, cap, rfl, _⟩ | ⟨_, b, o, cap, rfl, _⟩
    · exact ⟨a, cap, rfl⟩
    · exact ⟨_, cap, rfl⟩
  have HL := Lib.hid (show 0 < L.length → ∃ b o cap, v = .slice (some ⟨b, o, none⟩) L.length cap ∧ b < w.heap.size ∧ CuAt w b o L from fun h => by
    rcases hr with ⟨rfl, _⟩ | ⟨_, b, o, cap, e, _, _, hb, hL⟩
    · exact absurd h (by decide)
    · exact ⟨b, o, cap, e, hb, hL⟩)
  clear hr hw
  obtain ⟨a, cap, rfl⟩ := hv
  go_enter Tryz.func3, Tryz.ntmps3
  go_wp2_with fail
  refine HG.out.mono ?_
  rintro e w1 ⟨g, rfl, hg, hgs, rfl⟩
  clear HG
  rcases hg with rfl | rfl
  case inr =>
    go_wp2_with fail
    refine (HF.out _ (below_refl _)).mono ?_
    rintro e w9 ⟨rfl, hb9⟩
    go_wp2_with fail
    go_ret
    exact ⟨rfl, hb9⟩
  obtain ⟨hl4, hsm⟩ := hgs.out rfl
  have hok := cusOk_small HW.out hsm
  have HOK := Lib.hid hok
  have HCP := Lib.hid (show ∀ W, Below w.heap.size w W → Calls Tryz.prog 17 #[.slice a L.length cap] W (ErrP (checkV L) W) from fun W hW => check_any _ L W (he.below hW) (HR.out.below hW) (by omega) hok)
  have HCR := Lib.hid (show ∀ W, Below w.heap.size w W → Calls Tryz.prog 18 #[.slice a L.length cap] W (ErrP (checkV L) W) from fun W hW => checkR_any _ L W (HR.out.below hW) (by omega) hok)
  have HKP := Lib.hid (show ∀ W, Below w.heap.size w W → Calls Tryz.prog 15 #[.slice a L.length cap, .int .i64 date] W (VerP (keepV L date) W) from fun W hW => keeper_any _ L date W (he.below hW) (HR.out.below hW) (by omega) hok)
  have HKR := Lib.hid (show ∀ W, Below w.heap.size w W → Calls Tryz.prog 16 #[.slice a L.length cap, .int .i64 date] W (VerP (keepV L date) W) from fun W hW => keeperR_any _ L date W (HR.out.below hW) (by omega) hok)
  have HE := Lib.hid he
  clear hgs hsm hok he
  go_wp2_with fail
  go_loopw [20] (fun i wr => ∃ k : Nat, k ≤ L.length ∧ i = .int .i64 k ∧ Below w.heap.size w wr) (fun i _ => L.length - (intOf i).toNat)
  case atStart => exact ⟨0, by omega, rfl, below_refl _⟩
  case round =>
    obtain ⟨k, hk, rfl, hbw⟩ := hrel
    by_cases hlt : k < L.length
    · obtain ⟨b, o, cap', e, hb, hL⟩ := HL.out (by omega)
      cases e
      have hLr := hL.below hbw hb
      obtain ⟨c0, c1, c2, c3, c4⟩ := cuCells hLr hlt
      have hc := HOK.out k
      have HDP := Lib.hid (cuDigest_any (cuAt L k).root (cuAt L k).media (cuAt L k).sig (cuAt L k).fr (cuAt L k).un wr (HE.out.below hbw) (by have := hc.root; omega) (by have := hc.media; omega) hc.fr hc.un)
      change Hid (Calls _ _ _ _ (RootP (cuAt L k).d (cuAt L k).e wr)) at HDP
      have HDR := Lib.hid (show ∀ W, Calls Tryz.prog 14 #[.agg #[.string (cuAt L k).root, .string (cuAt L k).media, .int .i64 (cuAt L k).fr, .int .i64 (cuAt L k).un, .string (cuAt L k).sig]] W (RootP (cuAt L k).d (cuAt L k).e W) from
        fun W => cuDigestR_any (cuAt L k).root (cuAt L k).media (cuAt L k).sig (cuAt L k).fr (cuAt L k).un W (by have := hc.root; omega) (by have := hc.media; omega) hc.fr hc.un)
      have HC := Lib.hid (show ∀ W, Below wr.heap.size wr W → W.cell? ⟨b, o + k * 5, none⟩ = some (.string (cuAt L k).root) ∧ W.cell? ⟨b, o + k * 5 + 1, none⟩ = some (.string (cuAt L k).media) ∧ W.cell? ⟨b, o + k * 5 + 2, none⟩ = some (.int .i64 (cuAt L k).fr) ∧
        W.cell? ⟨b, o + k * 5 + 3, none⟩ = some (.int .i64 (cuAt L k).un) ∧ W.cell? ⟨b, o + k * 5 + 4, none⟩ = some (.string (cuAt L k).sig) from
        fun W hW => cuCells (hLr.below hW (Nat.lt_of_lt_of_le hb hbw.size)) hlt)
      generalize (cuAt L k).e = er at *
      generalize (cuAt L k).d = dg at *
      generalize cuAt L k = c at *
      clear hc hLr hL
      go_wp2_with fail
      refine HDP.out.mono ?_
      rintro e w1 ⟨t, rfl, ht, hb1⟩
      obtain ⟨e0, e1, e2, e3, e4⟩ := HC.out _ hb1
      clear c0 c1 c2 c3 c4 HDP HC
      go_wp2_with fail
      refine (HDR.out _).mono ?_
      rintro e w2 ⟨t2, rfl, ht2, hb2⟩
      obtain rfl : t = t2 := list_inj (ht.out.trans ht2.out.symm)
      have hb3 := step2 (step2 hbw hb1) hb2
      clear ht ht2 HDR e0 e1 e2 e3 e4
      go_wp2_with fail
      go_roundw
      case rel => exact ⟨k + 1, by omega, by go_num, hb3⟩
      case measure => simp [intOf]; omega
    · clear HOK HL HE HW HR
      go_wp2_with fail
      refine (HKP.out _ hbw).mono ?_
      rintro e w1 ⟨n, x, rfl, hv1, hb1⟩
      have hb1 := step2 hbw hb1
      go_wp2_with fail
      refine (HKR.out _ hb1).mono ?_
      rintro e w2 ⟨n2, x2, rfl, hv2, hb2⟩
      have hb2 := step2 hb1 hb2
      obtain ⟨rfl, rfl⟩ : n = n2 ∧ x = x2 := by have := hv1.out.symm.trans hv2.out; simpa using this
      clear hv1 hv2
      go_wp2_with fail
      refine (HCP.out _ hb2).mono ?_
      rintro e w3 ⟨rfl, hb3⟩
      have hb3 := step2 hb2 hb3
      go_wp2_with fail
      refine (HCR.out _ hb3).mono ?_
      rintro e w4 ⟨rfl, hb4⟩
      have hb4 := step2 hb3 hb4
      generalize checkV L = q at *
      go_wp2_with fail
      refine (HF.out _ hb4).mono ?_
      rintro e w5 ⟨rfl, hb5⟩
      go_wp2_with fail
      go_ret
      exact ⟨rfl, step2 hb4 hb5⟩
end Go.Proofs.YtadhbnleahipaaaGreatDoor
