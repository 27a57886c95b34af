/-
  Chapter 47: Digest and Sign, in the program and in the reference.
-/
import Derived.Test.YtadhbnleahipaaaGreatDoorVerifyR
import Derived.Deep.CutBlock
import Derived.Deep.CutRange
import Derived.BigQuiet
import Derived.Deep.RegionHeld3
namespace Go.Proofs.YtadhbnleahipaaaGreatDoor
open Go.RowKit
def lCustody : List UInt8 := [99, 117, 115, 116, 111, 100, 121]
/-- a statement of custody -/
structure Cu where
  root : ByteArray
  media : ByteArray
  fr : Int
  un : Int
  sig : ByteArray
def Cu.cells (c : Cu) : Array Value := #[.string c.root, .string c.media, .int .i64 c.fr, .int .i64 c.un, .string c.sig]
def cuE (r m : List UInt8) (a b : Int) : Int :=
  if r.length ≠ 16 ∨ (m ≠ [] ∧ m.length ≠ 32) then 1 else if a < 0 ∨ 1000000000 < a ∨ b < 0 ∨ 1000000000 < b then 2 else if b < a then 14 else 0
def cuD (r m : List UInt8) (a b : Int) : List UInt8 := sumB (strL lCustody ++ strL r ++ strL m ++ numL a ++ numL b)
def cuL (r m : List UInt8) (a b : Int) : List UInt8 := if cuE r m a b = 0 then cuD r m a b else []
/-- the way that a statement takes through Digest -/
inductive CuWay (r m : ByteArray) (a b : Int) : Prop
  | root (h : ¬ r.size = 16)
  | media (h : r.size = 16) (h1 : 0 < m.size) (h2 : ¬ m.size = 32)
  | a0 (h : r.size = 16) (hm : m.size = 0 ∨ m.size = 32) (h : a < 0)
  | a1 (h : r.size = 16) (hm : m.size = 0 ∨ m.size = 32) (h0 : 0 ≤ a) (h : 1000000000 < a)
  | b0 (h : r.size = 16) (hm : m.size = 0 ∨ m.size = 32) (h0 : 0 ≤ a) (h1 : a ≤ 1000000000) (h : b < 0)
  | b1 (h : r.size = 16) (hm : m.size = 0 ∨ m.size = 32) (h0 : 0 ≤ a) (h1 : a ≤ 1000000000) (h2 : 0 ≤ b) (h : 1000000000 < b)
  | order (h : r.size = 16) (hm : m.size = 0 ∨ m.size = 32) (h0 : 0 ≤ a) (h1 : a ≤ 1000000000) (h2 : 0 ≤ b) (h3 : b ≤ 1000000000) (h : b < a)
  | ok (h : r.size = 16) (hm : m.size = 0 ∨ m.size = 32) (h0 : 0 ≤ a) (h2 : b ≤ 1000000000) (h : a ≤ b)
theorem cuWay (r m : ByteArray) (a b : Int) : CuWay r m a b := by
  by_cases h : r.size = 16
  case neg => exact .root h
  by_cases hm : m.size = 0 ∨ m.size = 32
  case neg => exact .media h (by omega) (by omega)
  by_cases h0 : a < 0
  · exact .a0 h hm h0
  by_cases h1 : 1000000000 < a
  · exact .a1 h hm (by omega) h1
  by_cases h2 : b < 0
  · exact .b0 h hm (by omega) (by omega) h2
  by_cases h3 : 1000000000 < b
  · exact .b1 h hm (by omega) (by omega) (by omega) h3
  by_cases h4 : b < a
  · exact .order h hm (by omega) (by omega) (by omega) (by omega) h4
  · exact .ok h hm (by omega) (by omega) (by omega)
theorem sz_eq {n : Nat} {s : ByteArray} (h : s.size = n) : ((s.size : Int) == (n : Int)) = true ∧ ((s.size : Int) != (n : Int)) = false := by
  subst h; simp
theorem sz_ne {n : Nat} {s : ByteArray} (h : ¬ s.size = n) : ((s.size : Int) == (n : Int)) = false ∧ ((s.size : Int) != (n : Int)) = true := by
  have e : ((s.size : Int) == (n : Int)) = false := by
    have : ¬ (s.size : Int) = n := fun e => h (by omega)
    simpa using this
  exact ⟨e, by rw [bne, e]; rfl⟩
theorem empty_yes {s : ByteArray} (h : s.size = 0) : s.toList.isEmpty = true := by
  rw [isEmpty_list, List.isEmpty_iff]; exact List.eq_nil_of_length_eq_zero h
theorem empty_no {s : ByteArray} (h : 0 < s.size) : s.toList.isEmpty = false := by
  rw [isEmpty_list, Bool.eq_false_iff]; intro e; rw [List.isEmpty_iff] at e
  have : s.size = 0 := by rw [← toList_size, e]; rfl
  omega
theorem cuE_of {r m : ByteArray} {a b : Int} : CuWay r m a b → cuE r.data.toList m.data.toList a b = 1 ∨ cuE r.data.toList m.data.toList a b = 2 ∨ cuE r.data.toList m.data.toList a b = 14 ∨ cuE r.data.toList m.data.toList a b = 0 := by
  intro _; unfold cuE; split
  · exact .inl rfl
  · split
    · exact .inr (.inl rfl)
    · split
      · exact .inr (.inr (.inl rfl))
      · exact .inr (.inr (.inr rfl))
theorem cu_nil {m : ByteArray} : m.data.toList = [] ↔ m.size = 0 := ⟨fun h => by rw [← toList_size, h]; rfl, fun h => List.eq_nil_of_length_eq_zero h⟩
theorem cuE_arg {r m : ByteArray} {a b : Int} (h : ¬ r.size = 16 ∨ (0 < m.size ∧ ¬ m.size = 32)) : cuE r.data.toList m.data.toList a b = 1 := by
  rw [cuE, if_pos]
  rcases h with h | ⟨h1, h2⟩
  · exact .inl h
  · exact .inr ⟨fun e => by rw [cu_nil] at e; omega, h2⟩
theorem cuE_past {r m : ByteArray} (h : r.size = 16) (hm : m.size = 0 ∨ m.size = 32) : ¬ (r.data.toList.length ≠ 16 ∨ (m.data.toList ≠ [] ∧ m.data.toList.length ≠ 32)) := by
  rintro (h1 | ⟨h1, h2⟩)
  · exact h1 h
  · rcases hm with hm | hm
    · exact h1 (cu_nil.2 hm)
    · exact h2 hm
theorem cuE_range {r m : ByteArray} {a b : Int} (h : r.size = 16) (hm : m.size = 0 ∨ m.size = 32) (hr : a < 0 ∨ 1000000000 < a ∨ b < 0 ∨ 1000000000 < b) : cuE r.data.toList m.data.toList a b = 2 := by
  rw [cuE, if_neg (cuE_past h hm), if_pos hr]
theorem cuE_order {r m : ByteArray} {a b : Int} (h : r.size = 16) (hm : m.size = 0 ∨ m.size = 32) (hr : ¬ (a < 0 ∨ 1000000000 < a ∨ b < 0 ∨ 1000000000 < b)) (ho : b < a) : cuE r.data.toList m.data.toList a b = 14 := by
  rw [cuE, if_neg (cuE_past h hm), if_neg hr, if_pos ho]
theorem cuE_ok {r m : ByteArray} {a b : Int} (h : r.size = 16) (hm : m.size = 0 ∨ m.size = 32) (hr : ¬ (a < 0 ∨ 1000000000 < a ∨ b < 0 ∨ 1000000000 < b)) (ho : ¬ b < a) : cuE r.data.toList m.data.toList a b = 0 := by
  rw [cuE, if_neg (cuE_past h hm), if_neg hr, if_neg ho]
theorem cuL_no {r m : List UInt8} {a b e : Int} (h : cuE r m a b = e) (he : e ≠ 0) : cuL r m a b = [] := by rw [cuL, h, if_neg he]
theorem cuL_ok {r m : List UInt8} {a b : Int} (h : cuE r m a b = 0) : cuL r m a b = cuD r m a b := by rw [cuL, h, if_pos rfl]
theorem below_drew0 {B : Nat} {a w : World} (h : Below B a w) : Below B a w.drew := h.trans (Below.drew (Below.refl _ _))
theorem cuD_eq (r m t1 t2 t3 : ByteArray) (a b : Int) (h1 : t1.data.toList = strsL [⟨#[99, 117, 115, 116, 111, 100, 121]⟩, r, m]) (h2 : t2.data.toList = numL a) (h3 : t3.data.toList = numL b) :
    sumB (([t1, t2, t3] : List ByteArray).map fun s => s.data.toList).flatten = cuD r.data.toList m.data.toList a b := by
  rw [cuD]
  congr 1
  simp only [List.map_cons, List.map_nil, List.flatten_cons, List.flatten_nil, List.append_nil, h1, h2, h3, strsL]
  simp only [List.append_assoc]; rfl
set_option maxRecDepth 100000 in
set_option maxHeartbeats 2000000 in
theorem cuDigest_any (r m sg : ByteArray) (a b : Int) (w : World) (he : Env w) (_hr : r.size ≤ 140737488355328) (hm : m.size ≤ 140737488355328) (ha : -9223372036854775808 ≤ a ∧ a ≤ 9223372036854775807) (hb : -9223372036854775808 ≤ b ∧ b ≤ 9223372036854775807) :
    Calls Tryz.prog 13 #[.agg #[.string r, .string m, .int .i64 a, .int .i64 b, .string sg]] w (RootP (cuL r.data.toList m.data.toList a b) (cuE r.data.toList m.data.toList a b) w) := by
  have hb0 : Below w.heap.size w (w.alloc (.cells #[.string r, .string m, .int .i64 a, .int .i64 b, .string sg] 29)) := (below_refl w).alloc (Nat.le_refl _) _
  have k0 : (w.alloc (.cells #[.string r, .string m, .int .i64 a, .int .i64 b, .string sg] 29)).cell? ⟨w.heap.size, 0, none⟩ = some (.string r) := by rw [alloc_new_cell]; rfl
  have k1 : (w.alloc (.cells #[.string r, .string m, .int .i64 a, .int .i64 b, .string sg] 29)).cell? ⟨w.heap.size, 1, none⟩ = some (.string m) := by rw [alloc_new_cell]; rfl
  have k2 : (w.alloc (.cells #[.string r, .string m, .int .i64 a, .int .i64 b, .string sg] 29)).cell? ⟨w.heap.size, 2, none⟩ = some (.int .i64 a) := by rw [alloc_new_cell]; rfl
  have k3 : (w.alloc (.cells #[.string r, .string m, .int .i64 a, .int .i64 b, .string sg] 29)).cell? ⟨w.heap.size, 3, none⟩ = some (.int .i64 b) := by rw [alloc_new_cell]; rfl
  cases cuWay r m a b with
  | root h =>
    have e1 := cuE_arg (m := m) (a := a) (b := b) (.inl h)
    rw [cuL_no e1 (by decide), e1]
    obtain ⟨x1, x2⟩ := sz_ne h
    clear h e1
    go_enter Tryz.func13, Tryz.ntmps13
    go_wp2_with fail
    go_ret2
    exact ⟨_, rfl, rfl, hb0⟩
  | media h h1 h2 =>
    have e1 := cuE_arg (r := r) (a := a) (b := b) (.inr ⟨h1, h2⟩)
    rw [cuL_no e1 (by decide), e1]
    obtain ⟨x1, x2⟩ := sz_eq h
    obtain ⟨x3, x4⟩ := sz_ne h2
    have x5 := empty_no h1
    clear h h1 h2 e1
    go_enter Tryz.func13, Tryz.ntmps13
    go_wp2_with fail
    go_ret2
    exact ⟨_, rfl, rfl, hb0⟩
  | a0 h hm h0 =>
    have e1 := cuE_range (b := b) h hm (.inl h0)
    rw [cuL_no e1 (by decide), e1]
    obtain ⟨x1, x2⟩ := sz_eq h
    rcases hm with hm | hm
    · have x5 := empty_yes hm
      clear hm h e1
      go_enter Tryz.func13, Tryz.ntmps13
      go_wp2_with fail
      go_ret2
      exact ⟨_, rfl, rfl, hb0⟩
    · obtain ⟨x3, x4⟩ := sz_eq hm
      have x5 := empty_no (s := m) (by omega)
      clear hm h e1
      go_enter Tryz.func13, Tryz.ntmps13
      go_wp2_with fail
      go_ret2
      exact ⟨_, rfl, rfl, hb0⟩
  | a1 h hm h0 h1 =>
    have e1 := cuE_range (b := b) h hm (.inr (.inl h1))
    rw [cuL_no e1 (by decide), e1]
    obtain ⟨x1, x2⟩ := sz_eq h
    rcases hm with hm | hm
    · have x5 := empty_yes hm
      clear hm h e1
      go_enter Tryz.func13, Tryz.ntmps13
      go_wp2_with fail
      go_ret2
      exact ⟨_, rfl, rfl, hb0⟩
    · obtain ⟨x3, x4⟩ := sz_eq hm
      have x5 := empty_no (s := m) (by omega)
      clear hm h e1
      go_enter Tryz.func13, Tryz.ntmps13
      go_wp2_with fail
      go_ret2
      exact ⟨_, rfl, rfl, hb0⟩
  | b0 h hm h0 h1 h2 =>
    have e1 := cuE_range (a := a) h hm (.inr (.inr (.inl h2)))
    rw [cuL_no e1 (by decide), e1]
    obtain ⟨x1, x2⟩ := sz_eq h
    rcases hm with hm | hm
    · have x5 := empty_yes hm
      clear hm h e1
      go_enter Tryz.func13, Tryz.ntmps13
      go_wp2_with fail
      go_ret2
      exact ⟨_, rfl, rfl, hb0⟩
    · obtain ⟨x3, x4⟩ := sz_eq hm
      have x5 := empty_no (s := m) (by omega)
      clear hm h e1
      go_enter Tryz.func13, Tryz.ntmps13
      go_wp2_with fail
      go_ret2
      exact ⟨_, rfl, rfl, hb0⟩
  | b1 h hm h0 h1 h2 h3 =>
    have e1 := cuE_range (a := a) h hm (.inr (.inr (.inr h3)))
    rw [cuL_no e1 (by decide), e1]
    obtain ⟨x1, x2⟩ := sz_eq h
    rcases hm with hm | hm
    · have x5 := empty_yes hm
      clear hm h e1
      go_enter Tryz.func13, Tryz.ntmps13
      go_wp2_with fail
      go_ret2
      exact ⟨_, rfl, rfl, hb0⟩
    · obtain ⟨x3, x4⟩ := sz_eq hm
      have x5 := empty_no (s := m) (by omega)
      clear hm h e1
      go_enter Tryz.func13, Tryz.ntmps13
      go_wp2_with fail
      go_ret2
      exact ⟨_, rfl, rfl, hb0⟩
  | order h hm h0 h1 h2 h3 h4 =>
    have e1 := cuE_order h hm (by omega) h4
    rw [cuL_no e1 (by decide), e1]
    obtain ⟨x1, x2⟩ := sz_eq h
    rcases hm with hm | hm
    · have x5 := empty_yes hm
      clear hm h e1
      go_enter Tryz.func13, Tryz.ntmps13
      go_wp2_with fail
      go_ret2
      exact ⟨_, rfl, rfl, hb0⟩
    · obtain ⟨x3, x4⟩ := sz_eq hm
      have x5 := empty_no (s := m) (by omega)
      clear hm h e1
      go_enter Tryz.func13, Tryz.ntmps13
      go_wp2_with fail
      go_ret2
      exact ⟨_, rfl, rfl, hb0⟩
  | ok h hm h0 h1 h2 =>
    have e1 := cuE_ok (a := a) (b := b) h hm (by omega) (by omega)
    rw [cuL_ok e1, e1]
    obtain ⟨x1, x2⟩ := sz_eq h
    have hmz : m.size ≤ 32 := by omega
    have hrz : r.size ≤ 16 := by omega
    obtain ⟨W0, hW0⟩ : ∃ W0, w.alloc (.cells #[.string r, .string m, .int .i64 a, .int .i64 b, .string sg] 29) = W0 := ⟨_, rfl⟩
    rw [hW0] at hb0 k0 k1 k2 k3
    have hsz : W0.heap.size = w.heap.size + 1 := by rw [← hW0]; simp
    have HW := Lib.hid (show ∀ W, Below W0.heap.size W0 W → Below w.heap.size w W from fun W hW => hb0.trans (hW.mono (by omega)))
    have HK := Lib.hid (show ∀ W, Below W0.heap.size W0 W → W.cell? ⟨w.heap.size, 0, none⟩ = some (.string r) ∧ W.cell? ⟨w.heap.size, 1, none⟩ = some (.string m) ∧ W.cell? ⟨w.heap.size, 2, none⟩ = some (.int .i64 a) ∧ W.cell? ⟨w.heap.size, 3, none⟩ = some (.int .i64 b) from
      fun W hW => ⟨(hW.cell (World.block_lt_of_cell? W0 _ k0)).trans k0, (hW.cell (World.block_lt_of_cell? W0 _ k1)).trans k1, (hW.cell (World.block_lt_of_cell? W0 _ k2)).trans k2, (hW.cell (World.block_lt_of_cell? W0 _ k3)).trans k3⟩)
    have hbd : Below W0.heap.size W0 (W0.alloc (.cells #[.string ⟨#[99, 117, 115, 116, 111, 100, 121]⟩, .string r, .string m] 9)).drew := below_drew0 ((below_refl W0).alloc (Nat.le_refl _) _)
    have hst := Lib.hid (strings_any _ [⟨#[99, 117, 115, 116, 111, 100, 121]⟩, r, m] (W0.alloc (.cells #[.string ⟨#[99, 117, 115, 116, 111, 100, 121]⟩, .string r, .string m] 9)).drew (he.below (HW.out _ hbd))
      ((strs_new W0 [⟨#[99, 117, 115, 116, 111, 100, 121]⟩, r, m] #[.string ⟨#[99, 117, 115, 116, 111, 100, 121]⟩, .string r, .string m] 9 3 rfl rfl (by simp [maxLen])).below (Below.drew (Below.refl _ _))) (by rw [totS_cons, totS_cons, totS_cons, totS_nil]; show 10 + 7 + _ ≤ _; omega))
    have HNa := Lib.hid (show ∀ W, Below W0.heap.size W0 W → Calls Tryz.prog 27 #[.int .i64 a] W (StrP (numL a) W) from fun W hW => number_any a W (he.below (HW.out _ hW)) ha.1 ha.2)
    have HNb := Lib.hid (show ∀ W, Below W0.heap.size W0 W → Calls Tryz.prog 27 #[.int .i64 b] W (StrP (numL b) W) from fun W hW => number_any b W (he.below (HW.out _ hW)) hb.1 hb.2)
    have HSU := Lib.hid (show ∀ (W : World) (t1 t2 t3 : ByteArray), t1.data.toList = strsL [⟨#[99, 117, 115, 116, 111, 100, 121]⟩, r, m] → t2.data.toList = numL a → t3.data.toList = numL b →
        Calls Tryz.prog 25 #[.slice (some ⟨W.heap.size, 0, none⟩) 3 3] (W.alloc (.cells #[.string t1, .string t2, .string t3] 9)) (StrP (cuD r.data.toList m.data.toList a b) (W.alloc (.cells #[.string t1, .string t2, .string t3] 9))) from fun W t1 t2 t3 g1 g2 g3 => by
      have l1 := strsL_le [⟨#[99, 117, 115, 116, 111, 100, 121]⟩, r, m] (by rw [totS_cons, totS_cons, totS_cons, totS_nil]; show 10 + 7 + _ ≤ _; omega)
      have l2 : totS [⟨#[99, 117, 115, 116, 111, 100, 121]⟩, r, m] ≤ 200 := by rw [totS_cons, totS_cons, totS_cons, totS_nil]; show 10 + 7 + _ ≤ _; omega
      have l3 : (numL a).length ≤ 30 := by rw [numL_length]; have := itoa_len ha.1 ha.2; omega
      have l4 : (numL b).length ≤ 30 := by rw [numL_length]; have := itoa_len hb.1 hb.2; omega
      have := sum_any _ [t1, t2, t3] _ (strs_new W [t1, t2, t3] #[.string t1, .string t2, .string t3] 9 3 rfl rfl (by simp [maxLen])) (by simp) (by
        simp only [List.map_cons, List.map_nil, List.flatten_cons, List.flatten_nil, List.append_nil, List.length_append, g1, g2, g3]; omega)
      rw [cuD_eq r m t1 t2 t3 a b g1 g2 g3] at this
      exact this)
    clear hsz h e1 hb0
    rcases hm with hm | hm
    · have x5 := empty_yes hm
      clear hm
      go_enter Tryz.func13, Tryz.ntmps13
      go_wp2_with fail
      go_region_held3 (fun W => W.cell? ⟨w.heap.size, 0, none⟩ = some (.string r) ∧ W.cell? ⟨w.heap.size, 1, none⟩ = some (.string m) ∧ W.cell? ⟨w.heap.size, 2, none⟩ = some (.int .i64 a) ∧ W.cell? ⟨w.heap.size, 3, none⟩ = some (.int .i64 b))
        ((refine HK.out _ ?_; first | exact below_drew0 (below_refl _) | exact hb3.alloc hb3.size _ | exact hb3 | exact hb2 | exact hb1 | exact hbd))
        (first | (go_at_call 26; refine hst.out.mono ?_; clear hst; rintro e w1 ⟨t1, rfl, ht1, hb1⟩; have hb1 := step2 hbd hb1) | (go_at_call 27; refine (HNa.out _ hb1).mono ?_; clear HNa; rintro e w2 ⟨t2, rfl, ht2, hb2⟩; have hb2 := step2 hb1 hb2) | (go_at_call 27; refine (HNb.out _ hb2).mono ?_; clear HNb; rintro e w3 ⟨t3, rfl, ht3, hb3⟩; have hb3 := step2 hb2 hb3) | (go_at_call 25; refine (HSU.out _ t1 t2 t3 ht1.out ht2.out ht3.out).mono ?_; clear HSU; rintro e w4 ⟨t4, rfl, ht4, hb4⟩; have hb3 := step2 (hb3.alloc hb3.size _) hb4))
      go_wp2_with fail
      go_ret2
      exact ⟨_, rfl, ht4, HW.out _ hb3⟩
    · obtain ⟨x3, x4⟩ := sz_eq hm
      have x5 := empty_no (s := m) (by omega)
      clear hm
      go_enter Tryz.func13, Tryz.ntmps13
      go_wp2_with fail
      go_region_held3 (fun W => W.cell? ⟨w.heap.size, 0, none⟩ = some (.string r) ∧ W.cell? ⟨w.heap.size, 1, none⟩ = some (.string m) ∧ W.cell? ⟨w.heap.size, 2, none⟩ = some (.int .i64 a) ∧ W.cell? ⟨w.heap.size, 3, none⟩ = some (.int .i64 b))
        ((refine HK.out _ ?_; first | exact below_drew0 (below_refl _) | exact hb3.alloc hb3.size _ | exact hb3 | exact hb2 | exact hb1 | exact hbd))
        (first | (go_at_call 26; refine hst.out.mono ?_; clear hst; rintro e w1 ⟨t1, rfl, ht1, hb1⟩; have hb1 := step2 hbd hb1) | (go_at_call 27; refine (HNa.out _ hb1).mono ?_; clear HNa; rintro e w2 ⟨t2, rfl, ht2, hb2⟩; have hb2 := step2 hb1 hb2) | (go_at_call 27; refine (HNb.out _ hb2).mono ?_; clear HNb; rintro e w3 ⟨t3, rfl, ht3, hb3⟩; have hb3 := step2 hb2 hb3) | (go_at_call 25; refine (HSU.out _ t1 t2 t3 ht1.out ht2.out ht3.out).mono ?_; clear HSU; rintro e w4 ⟨t4, rfl, ht4, hb4⟩; have hb3 := step2 (hb3.alloc hb3.size _) hb4))
      go_wp2_with fail
      go_ret2
      exact ⟨_, rfl, ht4, HW.out _ hb3⟩
end Go.Proofs.YtadhbnleahipaaaGreatDoor
