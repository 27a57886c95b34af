/-
  The laws of netstrings, walked out of the contracts.
-/
import Derived.Test.YtkeblehaffcnoaaDoorNetWalks
namespace Go.Proofs.YtkeblehaffcnoaaDoor
open Go.RowKit

def TrueP (w : World) (e : Ending) (w' : World) : Prop := e = .returned (.bool true) ∧ Below w.heap.size w w'

theorem itoa3 : Lib.itoa 3 = [51] := by rw [Lib.itoa, if_neg (by decide), Lib.decDigits]; rfl
theorem itoaM12 : Lib.itoa (-12) = [45, 49, 50] := by
  rw [Lib.itoa, if_pos (by decide), show Int.natAbs (-12) = 12 from rfl, Lib.decDigits, dif_neg (by decide), Lib.decDigits, dif_pos (by decide)]; rfl
theorem rd_awake : rdStr [51, 58, 97, 98, 99, 44] 0 = ([97, 98, 99], 6, 0) := by decide +kernel
theorem rd_awake2 : rdNum [48, 55, 32] 0 = (0, 0, 3) := by decide +kernel

theorem lit_of {s : ByteArray} {l : List UInt8} (h : s.data.toList = l) : s = ⟨l.toArray⟩ := list_inj h

set_option maxHeartbeats 1000000 in
theorem awake_any (w : World) (he : Env w) : Calls Tryd.prog 12 #[] w (TrueP w) := by
  go_enter Tryd.func12, Tryd.ntmps12
  go_wp2_with fail
  refine (readString_any _ _ _ (by decide) he).mono ?_
  rintro e w1 ⟨u, x, y, rfl, h1, hb1⟩
  obtain ⟨hu, rfl, rfl⟩ : u.data.toList = [97, 98, 99] ∧ x = 6 ∧ y = 0 := by
    have := h1.out
    rw [show (⟨#[51, 58, 97, 98, 99, 44]⟩ : ByteArray).data.toList = [51, 58, 97, 98, 99, 44] from rfl, rd_awake] at this
    simp only [Prod.mk.injEq] at this
    exact ⟨this.1.symm, this.2.1.symm, this.2.2.symm⟩
  obtain rfl := lit_of hu
  clear hu h1
  have he1 := he.below hb1
  go_wp2_with fail
  refine (readNumber_any _ _ _ (by decide) he1).mono ?_
  rintro e w2 ⟨n, x, y, rfl, h1, hb2⟩
  obtain ⟨rfl, rfl, rfl⟩ : n = 0 ∧ x = 0 ∧ y = 3 := by
    have := h1.out
    rw [show (⟨#[48, 55, 32]⟩ : ByteArray).data.toList = [48, 55, 32] from rfl, rd_awake2] at this
    simp only [Prod.mk.injEq] at this
    exact ⟨this.1.symm, this.2.1.symm, this.2.2.symm⟩
  clear h1
  have he2 := he1.below hb2
  go_wp2_with fail
  refine (number_any _ _ he2 (by decide) (by decide)).mono ?_
  rintro e w3 ⟨t, rfl, ht, hb3⟩
  rw [numL, itoaM12] at ht
  obtain rfl := lit_of ht.out
  clear ht
  have he3 := he2.below hb3
  go_wp2_with fail
  refine (string_any _ _ he3 (by decide)).mono ?_
  rintro e w4 ⟨t, rfl, ht, hb4⟩
  rw [strL, show (⟨#[97, 98, 99]⟩ : ByteArray).data.toList.length = 3 from rfl, show Lib.itoa ((3 : Nat) : Int) = [51] from itoa3] at ht
  obtain rfl := lit_of ht.out
  clear ht
  go_wp2_with fail
  go_ret
  exact ⟨rfl, step2 (step2 (step2 hb1 hb2) hb3) hb4⟩

set_option maxHeartbeats 1000000 in
theorem lawReading_any (s : ByteArray) (a : Int) (w : World) (he : Env w) (hs : s.size ≤ 140737488355328) :
    Calls Tryd.prog 3 #[.string s, .int .i64 a] w (TrueP w) := by
  by_cases hbig : 1000 < s.size
  · go_enter Tryd.func3, Tryd.ntmps3
    go_wp2_with fail
    refine (awake_any _ he).mono ?_
    rintro e w1 ⟨rfl, hb1⟩
    go_wp2_with fail
    go_ret
    exact ⟨rfl, hb1⟩
  go_enter Tryd.func3, Tryd.ntmps3
  go_wp2_with fail
  refine (readNumber_any s a _ hs he).mono ?_
  rintro e w1 ⟨n, x, y, rfl, h1, hb1⟩
  go_wp2_with fail
  refine (refReadNumber_any s a _ hs).mono ?_
  rintro e w2 ⟨n', x', y', rfl, h2, rfl⟩
  rw [h1.out] at h2
  simp only [Hid, Prod.mk.injEq] at h2
  obtain ⟨rfl, rfl, rfl⟩ := h2
  clear h1
  have he1 := he.below hb1
  go_wp2_with fail
  refine (readString_any s a _ hs he1).mono ?_
  rintro e w2 ⟨u, x, y, rfl, h1, hb2⟩
  go_wp2_with fail
  refine (refReadString_any s a _ (by omega)).mono ?_
  rintro e w3 ⟨u', x', y', rfl, h2, rfl⟩
  rw [h1.out] at h2
  simp only [Hid, Prod.mk.injEq] at h2
  obtain ⟨hu, rfl, rfl⟩ := h2
  obtain rfl := list_inj hu
  clear h1 hu
  have he2 := he1.below hb2
  go_wp2_with fail
  refine (awake_any _ he2).mono ?_
  rintro e w4 ⟨rfl, hb3⟩
  go_wp2_with fail
  go_ret
  exact ⟨rfl, step2 (step2 hb1 hb2) hb3⟩
end Go.Proofs.YtkeblehaffcnoaaDoor
