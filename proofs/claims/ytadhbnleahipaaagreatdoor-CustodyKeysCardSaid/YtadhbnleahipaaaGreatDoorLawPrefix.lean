/-
  Chapter 47: the law Prefix, walked out of the contracts.
-/
import Derived.Test.YtadhbnleahipaaaGreatDoorChain
namespace Go.Proofs.YtadhbnleahipaaaGreatDoor
open Go.RowKit
/-! the law Prefix -/
/-- what the laws on chains share: the chain of a list of terms, and its Check -/
theorem own_form {base : Nat} {w : World} {v : Value} {L : List Cu} (h : OwnCus base w v L) : (v = .slice none 0 0 ∧ L = []) ∨ ∃ g cap, v = .slice (some ⟨g, 0, none⟩) L.length cap ∧ L.length ≤ cap ∧ cap ≤ maxLen := by
  rcases h.2 with ⟨rfl, h0⟩ | ⟨g, cap, cur, rfl, _, _, hl, hm, _⟩
  · exact .inl ⟨rfl, List.eq_nil_of_length_eq_zero h0⟩
  · exact .inr ⟨g, cap, rfl, hl, hm⟩
theorem cuRow_take {w : World} {g cap : Nat} {L : List Cu} (h : CuRow w (.slice (some ⟨g, 0, none⟩) L.length cap) L) (hc : L.length ≤ cap) (hm : cap ≤ maxLen) (p : Nat) (hp : p ≤ L.length) : CuRow w (.slice (some ⟨g, 0, none⟩) p cap) (L.take p) := by
  have hl : (L.take p).length = p := by rw [List.length_take]; omega
  by_cases h0 : p = 0
  · subst h0
    exact ⟨by rw [hl]; exact Nat.zero_le _, .inl ⟨rfl, _, cap, rfl, fun e => by cases e⟩⟩
  · rcases h.2 with ⟨rfl, _⟩ | ⟨_, b, o, cap', e, _, _, hb, hat⟩
    · simp at hp; omega
    · cases e
      refine ⟨by rw [hl]; omega, .inr ⟨by omega, g, 0, cap, by rw [hl], by omega, hm, hb, fun i hi => ?_⟩⟩
      rw [hl] at hi
      rw [cuAt_take hi]; exact hat i (by omega)
theorem cusOk_take {L : List Cu} (h : CusOk L) (p : Nat) : CusOk (L.take p) := by
  intro j
  by_cases hj : j < p
  · rw [cuAt_take hj]; exact h j
  · rw [cuAt, List.getD_eq_getElem?_getD, List.getElem?_eq_none (by rw [List.length_take]; omega)]
    exact ⟨by decide, by decide, by decide, by decide, by decide⟩
set_option maxRecDepth 100000 in
set_option maxHeartbeats 2000000 in
theorem lawPrefix_any (v : Value) (T : List Tm) (n : Int) (w : World) (he : Env w) (hr : TmRow w v T) (hok : ∀ i, TmOk (tmAt T i)) (hn : 0 ≤ n ∧ n ≤ 255) :
    Calls Tryz.prog 4 #[v, .int .u8 n] w (TrueP w) := by
  have HF := Lib.hid (show ∀ W, Below w.heap.size w W → Calls Tryz.prog 12 #[] W (TrueP W) from fun W hW => awake47_any W (he.below hW))
  have HT := Lib.hid (terms_any v T w hr hok)
  have HE := Lib.hid he
  have HOK := Lib.hid (chainV_ok hok)
  have hlT := chainV_length T
  clear hr hok he
  go_enter Tryz.func4, Tryz.ntmps4
  go_wp2_with fail
  refine HT.out.mono ?_
  rintro e w1 (⟨h4, rfl, rfl⟩ | ⟨h4, u, rfl, hown, hb1⟩)
  · clear HT
    go_wp2_with fail
    refine (HF.out _ (below_refl _)).mono ?_
    rintro e w9 ⟨rfl, hb9⟩
    go_wp2_with fail
    go_ret
    exact ⟨rfl, hb9⟩
  clear HT
  have hrow := cuRow_own hown
  rw [← hlT] at h4
  generalize hL : chainV T = L at *
  clear hL hlT
  have HC := Lib.hid (show ∀ W, Below w1.heap.size w1 W → Calls Tryz.prog 17 #[u] W (ErrP (checkV L) W) from fun W hW => check_any u L W (HE.out.below (step2 hb1 hW)) (hrow.below hW) (by omega) HOK.out)
  rcases own_form hown with ⟨rfl, rfl⟩ | ⟨g, cap, rfl, hlc, hcm⟩
  · have hC0 : checkV [] = 0 := rfl
    rw [hC0] at HC
    clear hown hrow
    have hr1 : n % 1 = 0 := Int.emod_one n
    go_wp2_with fail
    refine (HC.out _ (below_refl _)).mono ?_
    rintro e w2 ⟨rfl, hb2⟩
    go_wp2_with fail
    refine (HC.out _ hb2).mono ?_
    rintro e w3 ⟨rfl, hb3⟩
    have hb3 := step2 hb2 hb3
    go_wp2_with fail
    refine (HF.out _ (step2 hb1 hb3)).mono ?_
    rintro e w9 ⟨rfl, hb9⟩
    go_wp2_with fail
    go_ret
    exact ⟨rfl, step2 (step2 hb1 hb3) hb9⟩
  · obtain ⟨p, hp⟩ : ∃ p : Nat, n % ((L.length : Int) + 1) = p := ⟨(n % ((L.length : Int) + 1)).toNat, (Int.toNat_of_nonneg (Int.emod_nonneg _ (by omega))).symm⟩
    have hpl : p ≤ L.length := by
      have := Int.emod_lt_of_pos n (show (0 : Int) < (L.length : Int) + 1 by omega)
      rw [hp] at this; omega
    have HQ := Lib.hid (show ∀ W, Below w1.heap.size w1 W → Calls Tryz.prog 17 #[.slice (some ⟨g, 0, none⟩) p cap] W (ErrP (checkN L p) W) from fun W hW => by
      have := check_any (.slice (some ⟨g, 0, none⟩) p cap) (L.take p) W (HE.out.below (step2 hb1 hW)) ((cuRow_take hrow hlc hcm p hpl).below hW) (by rw [List.length_take]; omega) (cusOk_take HOK.out p)
      rw [checkV_take L p hpl] at this; exact this)
    have hcm2 : cap ≤ 9223372036854775807 := hcm
    by_cases hq : checkN L p = 0
    · rw [hq] at HQ
      clear hown hrow hq hcm
      generalize checkV L = r at *
      generalize L.length = N at *
      go_wp2_with fail
      refine (HQ.out _ (below_refl _)).mono ?_
      rintro e w2 ⟨rfl, hb2⟩
      by_cases hr0 : r = 0
      · subst hr0
        go_wp2_with fail
        refine (HC.out _ hb2).mono ?_
        rintro e w3 ⟨rfl, hb3⟩
        have hb3 := step2 hb2 hb3
        go_wp2_with fail
        refine (HF.out _ (step2 hb1 hb3)).mono ?_
        rintro e w9 ⟨rfl, hb9⟩
        go_wp2_with fail
        go_ret
        exact ⟨rfl, step2 (step2 hb1 hb3) hb9⟩
      · obtain ⟨x1, x2⟩ := neq0 hr0
        go_wp2_with fail
        refine (HC.out _ hb2).mono ?_
        rintro e w3 ⟨rfl, hb3⟩
        have hb3 := step2 hb2 hb3
        go_wp2_with fail
        refine (HF.out _ (step2 hb1 hb3)).mono ?_
        rintro e w9 ⟨rfl, hb9⟩
        go_wp2_with fail
        go_ret
        exact ⟨rfl, step2 (step2 hb1 hb3) hb9⟩
    · have hall : checkV L = checkN L p := checkN_err hq hpl
      rw [hall] at HC
      obtain ⟨x1, x2⟩ := neq0 hq
      clear hown hrow hq hcm hall
      generalize checkN L p = r at *
      generalize L.length = N at *
      go_wp2_with fail
      refine (HQ.out _ (below_refl _)).mono ?_
      rintro e w2 ⟨rfl, hb2⟩
      go_wp2_with fail
      refine (HC.out _ hb2).mono ?_
      rintro e w3 ⟨rfl, hb3⟩
      have hb3 := step2 hb2 hb3
      go_wp2_with fail
      refine (HC.out _ hb3).mono ?_
      rintro e w4 ⟨rfl, hb4⟩
      have hb3 := step2 hb3 hb4
      go_wp2_with fail
      refine (HF.out _ (step2 hb1 hb3)).mono ?_
      rintro e w9 ⟨rfl, hb9⟩
      go_wp2_with fail
      go_ret
      exact ⟨rfl, step2 (step2 hb1 hb3) hb9⟩
end Go.Proofs.YtadhbnleahipaaaGreatDoor
