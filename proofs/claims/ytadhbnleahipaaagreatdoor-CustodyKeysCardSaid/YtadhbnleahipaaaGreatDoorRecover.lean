/-
  Recover: the public key of a signature, in the program and in the reference.
-/
import Derived.Test.YtadhbnleahipaaaGreatDoorTree
import Derived.Test.YtadhbnleahipaaaGreatDoorSignR
import Derived.Deep.CutBlock
import Derived.Deep.CutRange
namespace Go.Proofs.YtadhbnleahipaaaGreatDoor
open Go.RowKit
/-- the ends of the first n chains, from a signature -/
def endsR (D : List Nat) (sig : List UInt8) : Nat → List (List UInt8)
  | 0 => []
  | i + 1 => endsR D sig i ++ [chainL ((sig.drop (16 * i)).take 16) (15 - D.getD i 0)]
def recoverL (m sig : List UInt8) : List UInt8 := if sig.length = 560 then hashL (lPublic :: endsR (digitsL m) sig 35) else []
def recoverE (sig : List UInt8) : Int := if sig.length = 560 then 0 else 4
theorem endsR_length (D : List Nat) (sig : List UInt8) : ∀ n, (endsR D sig n).length = n
  | 0 => rfl
  | n + 1 => by rw [endsR, List.length_append, endsR_length D sig n]; rfl
theorem chainL_le {x : List UInt8} (h : x.length ≤ 16) (n : Nat) : (chainL x n).length ≤ 16 := by
  cases n with
  | zero => exact h
  | succ n => rw [chainL, hashL_length]; exact Nat.le_refl _
theorem totS_endsR (D : List Nat) (sig : List UInt8) : ∀ n, totS ((endsR D sig n).map bA) ≤ 26 * n
  | 0 => Nat.le_refl _
  | n + 1 => by
    rw [endsR, List.map_append, List.map_cons, List.map_nil, totS_snoc]
    have := totS_endsR D sig n
    have : (bA (chainL ((sig.drop (16 * n)).take 16) (15 - D.getD n 0))).size ≤ 16 := chainL_le (by rw [List.length_take]; omega) _
    omega
set_option maxHeartbeats 1000000 in
set_option maxRecDepth 100000 in
theorem recover_any (m sig : ByteArray) (w : World) (he : Env w) (hm : m.size ≤ 1073741824) (hsg : sig.size ≤ 140737488355328) :
    Calls Tryz.prog 50 #[.string m, .string sig] w (RootP (recoverL m.data.toList sig.data.toList) (recoverE sig.data.toList) w) := by
  by_cases h5 : sig.size = 560
  case neg =>
    have e1 := Lib.hid (show recoverE sig.data.toList = 4 by rw [recoverE, if_neg (by rw [toList_size]; exact h5)])
    have e2 := Lib.hid (show recoverL m.data.toList sig.data.toList = [] by rw [recoverL, if_neg (by rw [toList_size]; exact h5)])
    rw [e1.out, e2.out]
    have hne : ((sig.size : Int) == 560) = false := by
      have : ¬ (sig.size : Int) = 560 := fun e => h5 (by omega)
      simpa using this
    have hne2 : ((sig.size : Int) != 560) = true := by rw [bne, hne]; rfl
    clear h5
    go_enter Tryz.func50, Tryz.ntmps50
    go_wp2_with fail
    go_ret2
    exact ⟨_, rfl, rfl, below_refl _⟩
  have e1 := Lib.hid (show recoverE sig.data.toList = 0 by rw [recoverE, if_pos (by rw [toList_size]; exact h5)])
  have e2 := Lib.hid (show recoverL m.data.toList sig.data.toList = hashL (lPublic :: endsR (digitsL m.data.toList) sig.data.toList 35) by rw [recoverL, if_pos (by rw [toList_size]; exact h5)])
  rw [e1.out, e2.out]
  have hne : ((sig.size : Int) == 560) = true := by
    have : (sig.size : Int) = 560 := by omega
    simpa using this
  have hne2 : ((sig.size : Int) != 560) = false := by rw [bne, hne]; rfl
  have hs1 : 560 ≤ sig.size := by omega
  have hs2 : sig.size ≤ 560 := by omega
  clear h5
  obtain ⟨i0, hi, hz0, hz1, hz2⟩ := info_parts infoStr
  have hdg := Lib.hid (digits_any m w he hm)
  go_enter Tryz.func50, Tryz.ntmps50
  go_wp2_with fail
  refine hdg.out.mono ?_
  rintro e w0 ⟨v, rfl, hrow, hb0⟩
  clear hdg
  obtain ⟨D, hD⟩ : ∃ D, digitsL m.data.toList = D := ⟨_, rfl⟩
  have hDl : D.length = 35 := by rw [← hD]; exact digitsL_length _
  have hDd : Hid (∀ k, D.getD k 0 ≤ 15) := by rw [← hD]; exact fun k => digitsL_getD _ k
  rw [hD] at hrow
  have HD := Lib.hid hD; clear hD
  obtain ⟨hrl, hrc⟩ := row_cases (Row.of_owns hrow)
  rw [nats_length, hDl] at hrc
  have HDL := Lib.hid hDl; clear hDl
  rcases hrc with ⟨hn, _⟩ | ⟨_, ba, oa, ca, rfl, hca, hca2, hcell⟩
  · exfalso; have := congrArg List.length hn; rw [nats_length, HDL.out] at this; cases this
  have hcl : Hid (∀ k, k < 35 → w0.cell? ⟨ba, oa + k, none⟩ = some (.int .i64 (D.getD k 0 : Nat))) := fun k hk => hcell k _ (nats_get D k (by rw [HDL.out]; exact hk))
  clear hcell hrow hrl
  go_wp2_with fail
  go_loopw [6, 15] (fun v i wr => ∃ k : Nat, k ≤ 35 ∧ i = .int .i64 k ∧ OwnStrs w0.heap.size wr v ((endsR D sig.data.toList k).map bA) ∧ Below w0.heap.size w0 wr) (fun _ i _ => 35 - (intOf i).toNat)
  case atStart => exact ⟨0, by omega, rfl, World.ownsRow_nil _ _ _ _, below_refl _⟩
  case round =>
    obtain ⟨k, hk2, rfl, hown, hbw⟩ := hrel
    by_cases hlt : k < 35
    · have ck : wr.cell? ⟨ba, oa + k, none⟩ = some (.int .i64 (D.getD k 0 : Nat)) := by
        have := hcl.out k hlt
        exact (hbw.cell (World.block_lt_of_cell? w0 _ this)).trans this
      obtain ⟨d, hd⟩ : ∃ d, D.getD k 0 = d := ⟨_, rfl⟩
      have hd15 : d ≤ 15 := by rw [← hd]; exact hDd.out k
      rw [hd] at ck
      have HDD := Lib.hid hd; clear hd
      obtain ⟨x, hx⟩ : ∃ x, sig.extract (k * 16) ((k + 1) * 16) = x := ⟨_, rfl⟩
      have hxl : Hid (x.data.toList = (sig.data.toList.drop (16 * k)).take 16) := by
        rw [Hid, ← hx, extract_list, show (k + 1) * 16 - k * 16 = 16 from by omega, show k * 16 = 16 * k from by omega]
      have hxs : x.size ≤ 16 := by rw [← toList_size, hxl.out, List.length_take]; omega
      have HX := Lib.hid hx
      clear hx
      have hwk := Lib.hid (fun W (hW : Env W) => walk_any x (15 - d) W hW (by omega) (by omega))
      go_wp2_with fail
      rw [HX.out, show (15 : Int) - (d : Int) = ((15 - d : Nat) : Int) from by omega]
      refine (hwk.out _ (he.below (step2 hb0 hbw))).mono ?_
      rintro e w2 ⟨u, rfl, hu, hb2⟩
      have hb12 := step2 hbw hb2
      have hown1 := hown.below hb2
      have hown1' : w2.ownsRow w0.heap.size 9 1 _ ((endsR D sig.data.toList k).map bA).length (((endsR D sig.data.toList k).map bA).map Value.string) := hown1
      have hln : ((endsR D sig.data.toList k).map bA).length = k := by rw [List.length_map, endsR_length]
      have hnx : ((endsR D sig.data.toList (k + 1)).map bA).map Value.string = ((endsR D sig.data.toList k).map bA).map Value.string ++ [.string u] := by
        rw [endsR, List.map_append, List.map_append, eq_bA hu.out, hxl.out, HDD.out]; rfl
      have hln2 : ((endsR D sig.data.toList (k + 1)).map bA).length = k + 1 := by rw [List.length_map, endsR_length]
      have HNX := Lib.hid hnx
      have HL2 := Lib.hid hln2
      rw [hln] at hown1'
      clear hln hnx hln2 hown1 hwk hown
      obtain ⟨xs, hxs2⟩ : ∃ xs, ((endsR D sig.data.toList k).map bA).map Value.string = xs := ⟨_, rfl⟩
      rw [hxs2] at hown1'
      have HXS := Lib.hid hxs2; clear hxs2
      go_wp2_with (at_builtin; refine wpList_append_own _ rfl _ _ 56 rfl w0.heap.size 9 i0 (.string ⟨#[]⟩) 1 16 Tryz.underlying56 hi hz0 hz1 hz2 rfl (by decide) _ _ _ rfl (hown1'.alloc _) ⟨w2.heap.size, 0, none⟩ 1 1 [.string u] rfl rfl (fun j x h => cell_str1 w2 u _ j x h) ?c2 ?c3 ?c4 ?c5 ?_)
      case c2 => intro x hx; simp only [List.mem_singleton] at hx; subst hx; rfl
      case c3 => unfold maxLen; omega
      case c4 => omega
      case c5 => have := hb12.size; simp; omega
      intro v' w3 hown2 hgrow _
      have hb3 := below_grownBy (hb12.alloc hb12.size _) (hown1'.alloc _) hgrow (by have := hb12.size; simp; omega)
      have hown3 : OwnStrs w0.heap.size w3 v' ((endsR D sig.data.toList (k + 1)).map bA) := by
        unfold OwnStrs
        rw [HL2.out, HNX.out, HXS.out]
        exact hown2
      clear hgrow hown2 hown1'
      go_wp2_with fail
      go_roundw
      case rel => exact ⟨k + 1, by omega, by go_num, hown3, hb3⟩
      case measure => simp [intOf]; omega
    · obtain rfl : k = 35 := by omega
      have hpb := Lib.hid (public_any _ (endsR D sig.data.toList 35) wr (he.below (step2 hb0 hbw)) hown.strs (by have := totS_endsR D sig.data.toList 35; omega))
      go_wp2_with fail
      refine hpb.out.mono ?_
      rintro e w1 ⟨t, rfl, hts, hb1⟩
      go_wp2_with fail
      go_ret2
      exact ⟨_, rfl, by rw [Hid, hts.out, HD.out], step2 (step2 hb0 hbw) hb1⟩
set_option maxHeartbeats 1000000 in
set_option maxRecDepth 100000 in
theorem recoverR_any (m sig : ByteArray) (w : World) (hm : m.size ≤ 1073741824) (hsg : sig.size ≤ 140737488355328) :
    Calls Tryz.prog 103 #[.string m, .string sig] w (RootP (recoverL m.data.toList sig.data.toList) (recoverE sig.data.toList) w) := by
  by_cases h5 : sig.size = 560
  case neg =>
    have e1 := Lib.hid (show recoverE sig.data.toList = 4 by rw [recoverE, if_neg (by rw [toList_size]; exact h5)])
    have e2 := Lib.hid (show recoverL m.data.toList sig.data.toList = [] by rw [recoverL, if_neg (by rw [toList_size]; exact h5)])
    rw [e1.out, e2.out]
    have hne : ((sig.size : Int) == 560) = false := by
      have : ¬ (sig.size : Int) = 560 := fun e => h5 (by omega)
      simpa using this
    have hne2 : ((sig.size : Int) != 560) = true := by rw [bne, hne]; rfl
    clear h5
    go_enter Tryz.func103, Tryz.ntmps103
    go_wp2_with fail
    go_ret2
    exact ⟨_, rfl, rfl, below_refl _⟩
  have e1 := Lib.hid (show recoverE sig.data.toList = 0 by rw [recoverE, if_pos (by rw [toList_size]; exact h5)])
  have e2 := Lib.hid (show recoverL m.data.toList sig.data.toList = hashL (lPublic :: endsR (digitsL m.data.toList) sig.data.toList 35) by rw [recoverL, if_pos (by rw [toList_size]; exact h5)])
  rw [e1.out, e2.out]
  have hne : ((sig.size : Int) == 560) = true := by
    have : (sig.size : Int) = 560 := by omega
    simpa using this
  have hne2 : ((sig.size : Int) != 560) = false := by rw [bne, hne]; rfl
  have hs1 : 560 ≤ sig.size := by omega
  have hs2 : sig.size ≤ 560 := by omega
  clear h5
  obtain ⟨i0, hi, hz0, hz1, hz2⟩ := info_parts infoStr
  have hown0 : OwnStrs w.heap.size (w.alloc (.cells #[.string ⟨#[112, 117, 98, 108, 105, 99]⟩] 9)) (.slice (some ⟨w.heap.size, 0, none⟩) 1 1) ([lPublic].map bA) := owns_full (base := w.heap.size) (e := 9) w #[.string ⟨#[112, 117, 98, 108, 105, 99]⟩] 1 (Nat.le_refl _) (by decide) rfl
  have hbel0 : Below w.heap.size w (w.alloc (.cells #[.string ⟨#[112, 117, 98, 108, 105, 99]⟩] 9)) := (below_refl w).alloc (Nat.le_refl _) _
  have hdg := Lib.hid (digitsR_any m (w.alloc (.cells #[.string ⟨#[112, 117, 98, 108, 105, 99]⟩] 9)) hm)
  go_enter Tryz.func103, Tryz.ntmps103
  go_wp2_with fail
  refine hdg.out.mono ?_
  rintro e w0 ⟨v, rfl, hrow, hb0⟩
  clear hdg
  have hown0 := hown0.below hb0
  have hb0 := step2 hbel0 hb0
  clear hbel0
  obtain ⟨D, hD⟩ : ∃ D, digitsL m.data.toList = D := ⟨_, rfl⟩
  have hDl : D.length = 35 := by rw [← hD]; exact digitsL_length _
  have hDd : Hid (∀ k, D.getD k 0 ≤ 15) := by rw [← hD]; exact fun k => digitsL_getD _ k
  rw [hD] at hrow
  have HD := Lib.hid hD; clear hD
  rw [hDl] at hrow
  have HDL := Lib.hid hDl; clear hDl
  obtain ⟨hlen, hrow⟩ := hrow
  rcases hrow with ⟨_, hn⟩ | ⟨g, cap, cur, rfl, _, hg, hnc, hcm, hcs, htake⟩
  · cases hn
  have hcur : Hid (∀ k, k < 35 → cur[k]? = some (.int .i64 (D.getD k 0 : Nat))) := fun k hk => by
    have h1 := nats_get D k (by rw [HDL.out]; exact hk)
    rw [← htake, List.getElem?_take, if_pos (by omega)] at h1
    rw [← h1, Array.getElem?_toList]
  have HG := Lib.hid hg
  clear hlen hg hcs htake
  go_wp2_with fail
  go_loopw [6, 16] (fun v i wr => ∃ k : Nat, k ≤ 35 ∧ i = .int .i64 k ∧ OwnStrs w.heap.size wr v ((lPublic :: endsR D sig.data.toList k).map bA) ∧ Hid (wr.heap[g]? = some (.cells cur 3 (0, 0))) ∧ Below w.heap.size w wr) (fun _ i _ => 35 - (intOf i).toNat)
  case atStart => exact ⟨0, by omega, rfl, hown0, HG, hb0⟩
  case round =>
    obtain ⟨k, hk2, rfl, hown, hc, hbw⟩ := hrel
    by_cases hlt : k < 35
    · obtain ⟨d, hd⟩ : ∃ d, D.getD k 0 = d := ⟨_, rfl⟩
      have hd15 : d ≤ 15 := by rw [← hd]; exact hDd.out k
      have ck : wr.cell? ⟨g, k, none⟩ = some (.int .i64 d) := by
        have := hcur.out k hlt
        rw [hd] at this
        unfold World.cell?
        rw [hc.out]
        simpa using this
      have HDD := Lib.hid hd; clear hd
      obtain ⟨x, hx⟩ : ∃ x, sig.extract (16 * k) (16 * k + 16) = x := ⟨_, rfl⟩
      have hxl : Hid (x.data.toList = (sig.data.toList.drop (16 * k)).take 16) := by
        rw [Hid, ← hx, extract_list, show 16 * k + 16 - 16 * k = 16 from by omega]
      have hxs : x.size ≤ 16 := by rw [← toList_size, hxl.out, List.length_take]; omega
      have HX := Lib.hid hx
      clear hx
      have hwk := Lib.hid (fun W => steps_any x (15 - d) W (by omega) (by omega))
      go_wp2_with fail
      rw [HX.out, show (15 : Int) - (d : Int) = ((15 - d : Nat) : Int) from by omega]
      refine (hwk.out _).mono ?_
      rintro e w2 ⟨u, rfl, hu, hb2⟩
      have hb12 := step2 hbw hb2
      have hlt2 := (Array.getElem?_eq_some_iff.1 hc.out).1
      have hc2 : Hid (w2.heap[g]? = some (.cells cur 3 (0, 0))) := by
        rw [Hid, hb2.block g hlt2]; exact hc.out
      have hown1 := hown.below hb2
      have hown1' : w2.ownsRow w.heap.size 9 1 _ ((lPublic :: endsR D sig.data.toList k).map bA).length (((lPublic :: endsR D sig.data.toList k).map bA).map Value.string) := hown1
      have hln : ((lPublic :: endsR D sig.data.toList k).map bA).length = k + 1 := by rw [List.length_map, List.length_cons, endsR_length]
      have hnx : ((lPublic :: endsR D sig.data.toList (k + 1)).map bA).map Value.string = ((lPublic :: endsR D sig.data.toList k).map bA).map Value.string ++ [.string u] := by
        rw [endsR, ← List.cons_append, List.map_append, List.map_append, eq_bA hu.out, hxl.out, HDD.out]; rfl
      have hln2 : ((lPublic :: endsR D sig.data.toList (k + 1)).map bA).length = k + 1 + 1 := by rw [List.length_map, List.length_cons, endsR_length]
      have HNX := Lib.hid hnx
      have HL2 := Lib.hid hln2
      rw [hln] at hown1'
      clear hln hnx hln2 hown1 hwk hown hlt2 hc ck
      obtain ⟨xs, hxs2⟩ : ∃ xs, ((lPublic :: endsR D sig.data.toList k).map bA).map Value.string = xs := ⟨_, rfl⟩
      rw [hxs2] at hown1'
      have HXS := Lib.hid hxs2; clear hxs2
      go_wp2_with (at_builtin; refine wpList_append_own _ rfl _ _ 56 rfl w.heap.size 9 i0 (.string ⟨#[]⟩) 1 16 Tryz.underlying56 hi hz0 hz1 hz2 rfl (by decide) _ _ _ rfl (hown1'.alloc _) ⟨w2.heap.size, 0, none⟩ 1 1 [.string u] rfl rfl (fun j x h => cell_str1 w2 u _ j x h) ?c2 ?c3 ?c4 ?c5 ?_)
      case c2 => intro x hx; simp only [List.mem_singleton] at hx; subst hx; rfl
      case c3 => unfold maxLen; omega
      case c4 => omega
      case c5 => have := hb12.size; simp; omega
      intro v' w3 hown2 hgrow _
      have hb3 := below_grownBy (hb12.alloc hb12.size _) (hown1'.alloc _) hgrow (by have := hb12.size; simp; omega)
      have hlt3 := (Array.getElem?_eq_some_iff.1 hc2.out).1
      have hc3 : Hid (w3.heap[g]? = some (.cells cur 3 (0, 0))) := block_kept (by rw [((Below.refl _ w2).alloc (Nat.le_refl _) _).block g hlt3]; exact hc2.out) (hown1'.alloc _) hgrow (by decide)
      have hown3 : OwnStrs w.heap.size w3 v' ((lPublic :: endsR D sig.data.toList (k + 1)).map bA) := by
        unfold OwnStrs
        rw [HL2.out, HNX.out, HXS.out]
        exact hown2
      clear hgrow hown2 hown1' hlt3 hc2
      go_wp2_with fail
      go_roundw
      case rel => exact ⟨k + 1, by omega, by go_num, hown3, hc3, hb3⟩
      case measure => simp [intOf]; omega
    · obtain rfl : k = 35 := by omega
      have hpb := Lib.hid (H_any _ ((lPublic :: endsR D sig.data.toList 35).map bA) wr hown.strs (by rw [List.map_cons, totS_cons]; have := totS_endsR D sig.data.toList 35; show 10 + 6 + _ ≤ _; omega))
      go_wp2_with fail
      refine hpb.out.mono ?_
      rintro e w1 ⟨t, rfl, hts, hb1⟩
      go_wp2_with fail
      go_ret2
      exact ⟨_, rfl, by rw [Hid, hts.out, map_bA, HD.out], step2 hbw hb1⟩
end Go.Proofs.YtadhbnleahipaaaGreatDoor
