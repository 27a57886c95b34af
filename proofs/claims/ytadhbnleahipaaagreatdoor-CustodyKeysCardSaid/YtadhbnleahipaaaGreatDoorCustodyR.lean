/-
  Chapter 47: Digest of the reference.
-/
import Derived.Test.YtadhbnleahipaaaGreatDoorCustody
import Derived.Deep.CutBlock
import Derived.Deep.CutRange
import Derived.BigQuiet
import Derived.Deep.RegionHeld3
namespace Go.Proofs.YtadhbnleahipaaaGreatDoor
open Go.RowKit
theorem sz_eq0 {s : ByteArray} (h : s.size = 0) : ((s.size : Int) == 0) = true ∧ ((s.size : Int) != 0) = false := by
  rw [h]; decide
theorem sz_ne0 {s : ByteArray} (h : 0 < s.size) : ((s.size : Int) == 0) = false ∧ ((s.size : Int) != 0) = true ∧ (¬ s = ByteArray.empty) ∧ (¬ s.size = 0) := by
  have e : ((s.size : Int) == 0) = false := by
    have : ¬ (s.size : Int) = 0 := fun e => by omega
    simpa using this
  exact ⟨e, by rw [bne, e]; rfl, fun h0 => by rw [h0] at h; exact absurd h (by decide), by omega⟩
theorem cuD_eqR (r m t0 t1 t2 t3 t4 : ByteArray) (a b : Int) (h0 : t0.data.toList = strL lCustody) (h1 : t1.data.toList = strL r.data.toList) (h2 : t2.data.toList = strL m.data.toList) (h3 : t3.data.toList = numL a) (h4 : t4.data.toList = numL b) :
    sumB (([t0, t1, t2, t3, t4] : List ByteArray).map fun s => s.data.toList).flatten = cuD r.data.toList m.data.toList a b := by
  rw [cuD]
  congr 1
  simp only [List.map_cons, List.map_nil, List.flatten_cons, List.flatten_nil, List.append_nil, h0, h1, h2, h3, h4, List.append_assoc]
set_option maxRecDepth 100000 in
set_option maxHeartbeats 2000000 in
theorem cuDigestR_any (r m sg : ByteArray) (a b : Int) (w : World) (_hr : r.size ≤ 140737488355328) (hm : m.size ≤ 140737488355328) (ha : -9223372036854775808 ≤ a ∧ a ≤ 9223372036854775807) (hb : -9223372036854775808 ≤ b ∧ b ≤ 9223372036854775807) :
    Calls Tryz.prog 14 #[.agg #[.string r, .string m, .int .i64 a, .int .i64 b, .string sg]] w (RootP (cuL r.data.toList m.data.toList a b) (cuE r.data.toList m.data.toList a b) w) := by
  have hb0 : Below w.heap.size w (w.alloc (.cells #[.string r, .string m, .int .i64 a, .int .i64 b, .string sg] 29)) := (below_refl w).alloc (Nat.le_refl _) _
  have k0 : (w.alloc (.cells #[.string r, .string m, .int .i64 a, .int .i64 b, .string sg] 29)).cell? ⟨w.heap.size, 0, none⟩ = some (.string r) := by rw [alloc_new_cell]; rfl
  have k1 : (w.alloc (.cells #[.string r, .string m, .int .i64 a, .int .i64 b, .string sg] 29)).cell? ⟨w.heap.size, 1, none⟩ = some (.string m) := by rw [alloc_new_cell]; rfl
  have k2 : (w.alloc (.cells #[.string r, .string m, .int .i64 a, .int .i64 b, .string sg] 29)).cell? ⟨w.heap.size, 2, none⟩ = some (.int .i64 a) := by rw [alloc_new_cell]; rfl
  have k3 : (w.alloc (.cells #[.string r, .string m, .int .i64 a, .int .i64 b, .string sg] 29)).cell? ⟨w.heap.size, 3, none⟩ = some (.int .i64 b) := by rw [alloc_new_cell]; rfl
  cases cuWay r m a b with
  | root h =>
    have e1 := cuE_arg (m := m) (a := a) (b := b) (.inl h)
    rw [cuL_no e1 (by decide), e1]
    obtain ⟨x1, x2⟩ := sz_ne h
    have y1 : ¬ (r.size : Int) = 16 := by omega
    clear h e1
    go_enter Tryz.func14, Tryz.ntmps14
    go_wp2_with fail
    go_ret2
    exact ⟨_, rfl, rfl, hb0⟩
  | media h h1 h2 =>
    have e1 := cuE_arg (r := r) (a := a) (b := b) (.inr ⟨h1, h2⟩)
    rw [cuL_no e1 (by decide), e1]
    obtain ⟨x1, x2⟩ := sz_eq h
    have y1 : (r.size : Int) = 16 := by omega
    obtain ⟨x3, x4⟩ := sz_ne h2
    have y2 : ¬ (m.size : Int) = 32 := by omega
    obtain ⟨x5, x6, x7, x8⟩ := sz_ne0 h1
    clear h h1 h2 e1
    go_enter Tryz.func14, Tryz.ntmps14
    go_wp2_with fail
    go_ret2
    exact ⟨_, rfl, rfl, hb0⟩
  | a0 h hm h0 =>
    have e1 := cuE_range (b := b) h hm (.inl h0)
    rw [cuL_no e1 (by decide), e1]
    obtain ⟨x1, x2⟩ := sz_eq h
    have y1 : (r.size : Int) = 16 := by omega
    rcases hm with hm | hm
    · obtain rfl : m = ByteArray.empty := list_inj (cu_nil.2 hm)
      clear hm h e1
      go_enter Tryz.func14, Tryz.ntmps14
      go_wp2_with fail
      go_ret2
      exact ⟨_, rfl, rfl, hb0⟩
    · obtain ⟨x3, x4⟩ := sz_eq hm
      have y2 : (m.size : Int) = 32 := by omega
      obtain ⟨x5, x6, x7, x8⟩ := sz_ne0 (s := m) (by omega)
      clear hm h e1
      go_enter Tryz.func14, Tryz.ntmps14
      go_wp2_with fail
      go_ret2
      exact ⟨_, rfl, rfl, hb0⟩
  | a1 h hm h0 h1 =>
    have e1 := cuE_range (b := b) h hm (.inr (.inl h1))
    rw [cuL_no e1 (by decide), e1]
    obtain ⟨x1, x2⟩ := sz_eq h
    have y1 : (r.size : Int) = 16 := by omega
    rcases hm with hm | hm
    · obtain rfl : m = ByteArray.empty := list_inj (cu_nil.2 hm)
      clear hm h e1
      go_enter Tryz.func14, Tryz.ntmps14
      go_wp2_with fail
      go_ret2
      exact ⟨_, rfl, rfl, hb0⟩
    · obtain ⟨x3, x4⟩ := sz_eq hm
      have y2 : (m.size : Int) = 32 := by omega
      obtain ⟨x5, x6, x7, x8⟩ := sz_ne0 (s := m) (by omega)
      clear hm h e1
      go_enter Tryz.func14, Tryz.ntmps14
      go_wp2_with fail
      go_ret2
      exact ⟨_, rfl, rfl, hb0⟩
  | b0 h hm h0 h1 h2 =>
    have e1 := cuE_range (a := a) h hm (.inr (.inr (.inl h2)))
    rw [cuL_no e1 (by decide), e1]
    obtain ⟨x1, x2⟩ := sz_eq h
    have y1 : (r.size : Int) = 16 := by omega
    rcases hm with hm | hm
    · obtain rfl : m = ByteArray.empty := list_inj (cu_nil.2 hm)
      clear hm h e1
      go_enter Tryz.func14, Tryz.ntmps14
      go_wp2_with fail
      go_ret2
      exact ⟨_, rfl, rfl, hb0⟩
    · obtain ⟨x3, x4⟩ := sz_eq hm
      have y2 : (m.size : Int) = 32 := by omega
      obtain ⟨x5, x6, x7, x8⟩ := sz_ne0 (s := m) (by omega)
      clear hm h e1
      go_enter Tryz.func14, Tryz.ntmps14
      go_wp2_with fail
      go_ret2
      exact ⟨_, rfl, rfl, hb0⟩
  | b1 h hm h0 h1 h2 h3 =>
    have e1 := cuE_range (a := a) h hm (.inr (.inr (.inr h3)))
    rw [cuL_no e1 (by decide), e1]
    obtain ⟨x1, x2⟩ := sz_eq h
    have y1 : (r.size : Int) = 16 := by omega
    rcases hm with hm | hm
    · obtain rfl : m = ByteArray.empty := list_inj (cu_nil.2 hm)
      clear hm h e1
      go_enter Tryz.func14, Tryz.ntmps14
      go_wp2_with fail
      go_ret2
      exact ⟨_, rfl, rfl, hb0⟩
    · obtain ⟨x3, x4⟩ := sz_eq hm
      have y2 : (m.size : Int) = 32 := by omega
      obtain ⟨x5, x6, x7, x8⟩ := sz_ne0 (s := m) (by omega)
      clear hm h e1
      go_enter Tryz.func14, Tryz.ntmps14
      go_wp2_with fail
      go_ret2
      exact ⟨_, rfl, rfl, hb0⟩
  | order h hm h0 h1 h2 h3 h4 =>
    have e1 := cuE_order h hm (by omega) h4
    rw [cuL_no e1 (by decide), e1]
    obtain ⟨x1, x2⟩ := sz_eq h
    have y1 : (r.size : Int) = 16 := by omega
    rcases hm with hm | hm
    · obtain rfl : m = ByteArray.empty := list_inj (cu_nil.2 hm)
      clear hm h e1
      go_enter Tryz.func14, Tryz.ntmps14
      go_wp2_with fail
      go_ret2
      exact ⟨_, rfl, rfl, hb0⟩
    · obtain ⟨x3, x4⟩ := sz_eq hm
      have y2 : (m.size : Int) = 32 := by omega
      obtain ⟨x5, x6, x7, x8⟩ := sz_ne0 (s := m) (by omega)
      clear hm h e1
      go_enter Tryz.func14, Tryz.ntmps14
      go_wp2_with fail
      go_ret2
      exact ⟨_, rfl, rfl, hb0⟩
  | ok h hm h0 h1 h2 =>
    have e1 := cuE_ok (a := a) (b := b) h hm (by omega) (by omega)
    rw [cuL_ok e1, e1]
    obtain ⟨x1, x2⟩ := sz_eq h
    have y1 : (r.size : Int) = 16 := by omega
    have hmz : m.size ≤ 32 := by omega
    have hrz : r.size ≤ 16 := by omega
    obtain ⟨W0, hW0⟩ : ∃ W0, w.alloc (.cells #[.string r, .string m, .int .i64 a, .int .i64 b, .string sg] 29) = W0 := ⟨_, rfl⟩
    rw [hW0] at hb0 k0 k1 k2 k3
    have hsz : W0.heap.size = w.heap.size + 1 := by rw [← hW0]; simp
    have HW := Lib.hid (show ∀ W, Below W0.heap.size W0 W → Below w.heap.size w W from fun W hW => hb0.trans (hW.mono (by omega)))
    have HK := Lib.hid (show ∀ W, Below W0.heap.size W0 W → W.cell? ⟨w.heap.size, 0, none⟩ = some (.string r) ∧ W.cell? ⟨w.heap.size, 1, none⟩ = some (.string m) ∧ W.cell? ⟨w.heap.size, 2, none⟩ = some (.int .i64 a) ∧ W.cell? ⟨w.heap.size, 3, none⟩ = some (.int .i64 b) from
      fun W hW => ⟨(hW.cell (World.block_lt_of_cell? W0 _ k0)).trans k0, (hW.cell (World.block_lt_of_cell? W0 _ k1)).trans k1, (hW.cell (World.block_lt_of_cell? W0 _ k2)).trans k2, (hW.cell (World.block_lt_of_cell? W0 _ k3)).trans k3⟩)
    have HS0 := Lib.hid (show ∀ W, Calls Tryz.prog 29 #[.string ⟨#[99, 117, 115, 116, 111, 100, 121]⟩] W (StrS (strL lCustody) W) from fun W => refString_any ⟨#[99, 117, 115, 116, 111, 100, 121]⟩ W (by decide))
    have HS1 := Lib.hid (show ∀ W, Calls Tryz.prog 29 #[.string r] W (StrS (strL r.data.toList) W) from fun W => refString_any r W (by omega))
    have HS2 := Lib.hid (show ∀ W, Calls Tryz.prog 29 #[.string m] W (StrS (strL m.data.toList) W) from fun W => refString_any m W (by omega))
    have HNa := Lib.hid (show ∀ W, Calls Tryz.prog 30 #[.int .i64 a] W (StrS (numL a) W) from fun W => refNumber_any a W ha.1 ha.2)
    have HNb := Lib.hid (show ∀ W, Calls Tryz.prog 30 #[.int .i64 b] W (StrS (numL b) W) from fun W => refNumber_any b W hb.1 hb.2)
    have HSU := Lib.hid (show ∀ (t0 t1 t2 t3 t4 : ByteArray), t0.data.toList = strL lCustody → t1.data.toList = strL r.data.toList → t2.data.toList = strL m.data.toList → t3.data.toList = numL a → t4.data.toList = numL b →
        Calls Tryz.prog 28 #[.slice (some ⟨W0.heap.size, 0, none⟩) 5 5] (W0.alloc (.cells #[.string t0, .string t1, .string t2, .string t3, .string t4] 9)).drew (StrP (cuD r.data.toList m.data.toList a b) (W0.alloc (.cells #[.string t0, .string t1, .string t2, .string t3, .string t4] 9)).drew) from fun t0 t1 t2 t3 t4 g0 g1 g2 g3 g4 => by
      have l0 : (strL lCustody).length ≤ 51 := by
        have := strL_le ⟨#[99, 117, 115, 116, 111, 100, 121]⟩ (by decide)
        exact Nat.le_trans this (by decide)
      have l1 := strL_le r (by omega)
      have l2 := strL_le m (by omega)
      have l3 : (numL a).length ≤ 30 := by rw [numL_length]; have := itoa_len ha.1 ha.2; omega
      have l4 : (numL b).length ≤ 30 := by rw [numL_length]; have := itoa_len hb.1 hb.2; omega
      have := sumR_any _ [t0, t1, t2, t3, t4] _ ((strs_new W0 [t0, t1, t2, t3, t4] #[.string t0, .string t1, .string t2, .string t3, .string t4] 9 5 rfl rfl (by simp [maxLen])).below (Below.drew (Below.refl _ _))) (by
        simp only [List.map_cons, List.map_nil, List.flatten_cons, List.flatten_nil, List.append_nil, List.length_append, g0, g1, g2, g3, g4]; omega)
      rw [cuD_eqR r m t0 t1 t2 t3 t4 a b g0 g1 g2 g3 g4] at this
      exact this)
    clear hsz h e1 hb0
    rcases hm with hm | hm
    · obtain rfl : m = ByteArray.empty := list_inj (cu_nil.2 hm)
      clear hm
      go_enter Tryz.func14, Tryz.ntmps14
      go_wp2_with fail
      go_region_held3 (fun W => W.cell? ⟨w.heap.size, 0, none⟩ = some (.string r) ∧ W.cell? ⟨w.heap.size, 1, none⟩ = some (.string ByteArray.empty) ∧ W.cell? ⟨w.heap.size, 2, none⟩ = some (.int .i64 a) ∧ W.cell? ⟨w.heap.size, 3, none⟩ = some (.int .i64 b))
        ((refine HK.out _ ?_; first | exact below_drew0 (below_refl _) | exact below_drew0 ((below_refl W0).alloc (Nat.le_refl _) _) | exact step2 (below_drew0 ((below_refl W0).alloc (Nat.le_refl _) _)) hb4))
        (first | (go_at_call 29; refine (HS0.out _).mono ?_; clear HS0; rintro e w1 ⟨t0, rfl, ht0, rfl⟩) | (go_at_call 29; refine (HS1.out _).mono ?_; clear HS1; rintro e w1 ⟨t1, rfl, ht1, rfl⟩) | (go_at_call 29; refine (HS2.out _).mono ?_; clear HS2; rintro e w1 ⟨t2, rfl, ht2, rfl⟩) | (go_at_call 30; refine (HNa.out _).mono ?_; clear HNa; rintro e w1 ⟨t3, rfl, ht3, rfl⟩) | (go_at_call 30; refine (HNb.out _).mono ?_; clear HNb; rintro e w1 ⟨t4, rfl, ht4, rfl⟩) | (go_at_call 28; refine (HSU.out t0 t1 t2 t3 t4 ht0.out ht1.out ht2.out ht3.out ht4.out).mono ?_; clear HSU; rintro e w4 ⟨t5, rfl, ht5, hb4⟩))
      have hb5 := step2 (below_drew0 ((below_refl W0).alloc (Nat.le_refl _) _)) hb4
      go_wp2_with fail
      go_ret2
      exact ⟨_, rfl, ht5, HW.out _ hb5⟩
    · obtain ⟨x3, x4⟩ := sz_eq hm
      have y2 : (m.size : Int) = 32 := by omega
      obtain ⟨x5, x6, x7, x8⟩ := sz_ne0 (s := m) (by omega)
      clear hm
      go_enter Tryz.func14, Tryz.ntmps14
      go_wp2_with fail
      go_region_held3 (fun W => W.cell? ⟨w.heap.size, 0, none⟩ = some (.string r) ∧ W.cell? ⟨w.heap.size, 1, none⟩ = some (.string m) ∧ W.cell? ⟨w.heap.size, 2, none⟩ = some (.int .i64 a) ∧ W.cell? ⟨w.heap.size, 3, none⟩ = some (.int .i64 b))
        ((refine HK.out _ ?_; first | exact below_drew0 (below_refl _) | exact below_drew0 ((below_refl W0).alloc (Nat.le_refl _) _) | exact step2 (below_drew0 ((below_refl W0).alloc (Nat.le_refl _) _)) hb4))
        (first | (go_at_call 29; refine (HS0.out _).mono ?_; clear HS0; rintro e w1 ⟨t0, rfl, ht0, rfl⟩) | (go_at_call 29; refine (HS1.out _).mono ?_; clear HS1; rintro e w1 ⟨t1, rfl, ht1, rfl⟩) | (go_at_call 29; refine (HS2.out _).mono ?_; clear HS2; rintro e w1 ⟨t2, rfl, ht2, rfl⟩) | (go_at_call 30; refine (HNa.out _).mono ?_; clear HNa; rintro e w1 ⟨t3, rfl, ht3, rfl⟩) | (go_at_call 30; refine (HNb.out _).mono ?_; clear HNb; rintro e w1 ⟨t4, rfl, ht4, rfl⟩) | (go_at_call 28; refine (HSU.out t0 t1 t2 t3 t4 ht0.out ht1.out ht2.out ht3.out ht4.out).mono ?_; clear HSU; rintro e w4 ⟨t5, rfl, ht5, hb4⟩))
      have hb5 := step2 (below_drew0 ((below_refl W0).alloc (Nat.le_refl _) _)) hb4
      go_wp2_with fail
      go_ret2
      exact ⟨_, rfl, ht5, HW.out _ hb5⟩
end Go.Proofs.YtadhbnleahipaaaGreatDoor
