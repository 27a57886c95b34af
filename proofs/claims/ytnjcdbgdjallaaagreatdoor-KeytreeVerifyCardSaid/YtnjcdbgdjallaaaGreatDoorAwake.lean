/-
  Chapter 30: what its laws share: great, awake.
-/
import Derived.Test.YtnjcdbgdjallaaaGreatDoorKeySignR
import Derived.Deep.CutBlock
import Derived.Deep.CutRange
namespace Go.Proofs.YtnjcdbgdjallaaaGreatDoor
open Go.RowKit
def totZ (l : List ByteArray) : Nat := (l.map fun s => s.size).sum
theorem totZ_take (l : List ByteArray) (k : Nat) (h : k < l.length) : totZ (l.take (k + 1)) = totZ (l.take k) + l[k].size := by
  rw [List.take_succ_eq_append_getElem h]; unfold totZ; rw [List.map_append, List.sum_append]; simp only [List.map_cons, List.map_nil, List.sum_cons, List.sum_nil]; omega
theorem size_totZ (l : List ByteArray) (k : Nat) (h : k < l.length) : l[k].size ≤ totZ l := by
  have h1 := totZ_take l k h
  have h2 : totZ l = totZ (l.take (k + 1)) + totZ (l.drop (k + 1)) := by
    conv => lhs; rw [← List.take_append_drop (k + 1) l]
    unfold totZ; rw [List.map_append, List.sum_append]
  omega
def GreatP (l : List ByteArray) (w : World) (e : Ending) (w' : World) : Prop := ∃ b : Bool, e = .returned (.bool b) ∧ Hid (b = false → totZ l ≤ 300) ∧ w = w'
set_option maxHeartbeats 1000000 in
theorem great_any (va : Value) (la : List ByteArray) (w : World) (ha : Strs w va la) (hx : totZ la ≤ 4611686018427387904) :
    Calls Tryz.prog 8 #[va] w (GreatP la w) := by
  obtain ⟨hla, ha⟩ := row_cases ha
  simp only [List.length_map] at hla ha
  unfold maxLen at hla
  rcases ha with ⟨h0, aa, ca, rfl, _⟩ | ⟨h0, ba, oa, ca, rfl, hca, hca2, hcella⟩
  · have hla0 : la = [] := by simpa using h0
    subst hla0
    go_enter Tryz.func8, Tryz.ntmps8
    go_wp2_with fail
    refine wp_loop_rounds 1 ?_; rw [rounds_succ]
    go_wp2_with fail
    go_ret
    exact ⟨false, rfl, fun _ => by simp [totZ], rfl⟩
  · have hsz := fun k (h : k < la.length) => Nat.le_trans (size_totZ la k h) hx
    have HSZ := Lib.hid hsz; clear hsz
    go_enter Tryz.func8, Tryz.ntmps8
    go_wp2_with fail
    go_loop [3, 8] (fun n i => ∃ k m : Nat, k ≤ la.length ∧ i = .int .i64 k ∧ n = .int .i64 m ∧ m ≤ 300 ∧ Hid (m = totZ (la.take k))) (fun _ i => la.length - (intOf i).toNat)
    case atStart => exact ⟨0, 0, by omega, rfl, rfl, by omega, by rw [Hid]; rfl⟩
    case round =>
      obtain ⟨k, m, hk, rfl, rfl, hm, hmt⟩ := hrel
      by_cases hlt : k < la.length
      · have c1 : w.cell? ⟨ba, oa + k, none⟩ = some (.string la[k]) := hcella k (.string la[k]) (by simp [hlt])
        have h1 := totZ_take la k hlt
        have h2 := HSZ.out k hlt
        rw [← hmt.out] at h1
        generalize la[k] = x at *
        have H1 := Lib.hid h1
        clear h1 hcella
        by_cases hb : 300 < m + x.size
        · go_wp2_with fail
          go_ret
          exact ⟨true, rfl, fun e => (by cases e), rfl⟩
        · go_wp2_with fail
          go_round
          case rel => exact ⟨k + 1, m + x.size, by omega, by go_num, by go_num, by omega, H1.out.symm⟩
          case measure => simp [intOf]; omega
      · have ht : la.take k = la := List.take_of_length_le (by omega)
        rw [ht] at hmt
        clear ht
        go_wp2_with fail
        go_ret
        exact ⟨false, rfl, fun _ => by rw [← hmt.out]; exact hm, rfl⟩
theorem treeL_zero (s : List UInt8) : ((treeL s 0).getD 0 []).getD 0 [] = publicL s 0 := by
  rw [treeL, levelsL]
  show (leavesL s 1).getD 0 [] = _
  rw [leavesL, leavesL]; rfl
theorem rootL_zero (s : List UInt8) : rootL s 0 = publicL s 0 := by
  rw [rootL, if_neg (by decide)]; exact treeL_zero s
theorem itoa560 : Lib.itoa 560 = [53, 54, 48] := by
  rw [Lib.itoa, if_neg (by decide), show Int.toNat 560 = 560 from rfl, Lib.decDigits, dif_neg (by decide), Lib.decDigits, dif_neg (by decide), Lib.decDigits, dif_pos (by decide)]; rfl
theorem itoa0 : Lib.itoa 0 = [48] := by rw [Lib.itoa, if_neg (by decide), Lib.decDigits]; rfl
theorem treeSign_zero (s m : List UInt8) : Lib.hasPrefix (treeSignL s 0 0 m) [48, 32, 48, 32, 53, 54, 48, 58] = true := by
  have hl : (signL s 0 m).length = 560 := by rw [signL, if_neg (by decide), sigL_length]
  rw [treeSignL, if_neg (by decide), if_neg (by decide), strL, hl, numL, itoa0, show ((560 : Nat) : Int) = 560 from rfl, itoa560]
  simp [Lib.hasPrefix]
theorem treeSignE_zero : treeSignE 0 0 = 0 := by decide
theorem rootE_zero : rootE 0 = 0 := by decide
set_option maxHeartbeats 1000000 in
theorem awake_any (w : World) (he : Env w) : Calls Tryz.prog 9 #[] w (TrueP w) := by
  go_enter Tryz.func9, Tryz.ntmps9
  go_wp2_with fail
  refine (root_any _ 0 _ he (by decide) (by decide)).mono ?_
  rintro e w1 ⟨t, rfl, ht, hb1⟩
  rw [rootL_zero] at ht
  rw [rootE_zero]
  have he1 := he.below hb1
  go_wp2_with fail
  refine (treeSign_any _ 0 0 _ _ he1 (by decide) (by decide) (by decide) (by decide)).mono ?_
  rintro e w2 ⟨g, rfl, hg, hb2⟩
  rw [treeSignE_zero]
  have hb12 := step2 hb1 hb2
  have hgp := treeSign_zero [115] [109]
  have HGP : Hid (Lib.hasPrefix g.data.toList [48, 32, 48, 32, 53, 54, 48, 58] = true) := by rw [Hid, hg.out]; exact hgp
  clear hgp
  go_wp2_with fail
  refine (publicOf_any _ 0 _ (he.below hb12) (by decide) (by decide)).mono ?_
  rintro e w3 ⟨p, rfl, hp, hb3⟩
  obtain rfl : t = p := list_inj (by rw [ht.out, hp.out])
  clear ht hp
  go_wp2_with fail
  refine (Tryz.strings_HasPrefix _ _ _).mono ?_
  rintro e w4 ⟨rfl, rfl⟩
  have HG2 := HGP.out
  go_wp2_with fail
  go_ret
  exact ⟨rfl, step2 hb12 hb3⟩
end Go.Proofs.YtnjcdbgdjallaaaGreatDoor
