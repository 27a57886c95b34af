/-
  
-/
import Derived.Test.YtpkapcijgldhhaaGreatDoorCe13
import Derived.Deep.QuietTactic
import Derived.BigQuiet
import Derived.StillTailTactics
import Derived.Deep.RegionHeld3
import Derived.Deep.MidRow
namespace Go.Proofs.YtpkapcijgldhhaaGreatDoor
open Go.RowKit
theorem rotr16_any (z : UInt32) (w : World) :
    Calls Tryz.prog 169 #[.int .u32 (wd z), .int .u64 16] w fun e w' => e = .returned (.int .u32 (wd (rr16 z))) ∧ w = w' := by
  have h1 := u32_shl16 z
  have h2 := u32_shr16 z
  have h3 := u32_or (z >>> 16) (z <<< 16)
  go_enter Tryz.func169, Tryz.ntmps169
  go_wp2_with fail
  go_ret
  exact ⟨ret_int (by rw [rr16]), rfl⟩
theorem rotr12_any (z : UInt32) (w : World) :
    Calls Tryz.prog 169 #[.int .u32 (wd z), .int .u64 12] w fun e w' => e = .returned (.int .u32 (wd (rr12 z))) ∧ w = w' := by
  have h1 := u32_shl20 z
  have h2 := u32_shr12 z
  have h3 := u32_or (z >>> 12) (z <<< 20)
  go_enter Tryz.func169, Tryz.ntmps169
  go_wp2_with fail
  go_ret
  exact ⟨ret_int (by rw [rr12]), rfl⟩
theorem rotr8_any (z : UInt32) (w : World) :
    Calls Tryz.prog 169 #[.int .u32 (wd z), .int .u64 8] w fun e w' => e = .returned (.int .u32 (wd (rr8 z))) ∧ w = w' := by
  have h1 := u32_shl24 z
  have h2 := u32_shr8 z
  have h3 := u32_or (z >>> 8) (z <<< 24)
  go_enter Tryz.func169, Tryz.ntmps169
  go_wp2_with fail
  go_ret
  exact ⟨ret_int (by rw [rr8]), rfl⟩
theorem rotr7_any (z : UInt32) (w : World) :
    Calls Tryz.prog 169 #[.int .u32 (wd z), .int .u64 7] w fun e w' => e = .returned (.int .u32 (wd (rr7 z))) ∧ w = w' := by
  have h1 := u32_shl25 z
  have h2 := u32_shr7 z
  have h3 := u32_or (z >>> 7) (z <<< 25)
  go_enter Tryz.func169, Tryz.ntmps169
  go_wp2_with fail
  go_ret
  exact ⟨ret_int (by rw [rr7]), rfl⟩
/-- one store into the block, behind draws: the four cells anew -/
theorem one_store {W w' : World} {b : Nat} {i : Nat} {u x : Value} (h : W.cell? ⟨b, i, none⟩ = some x) (hw : (W.setCell ⟨b, i, none⟩ u).drew = w') :
    w'.cell? ⟨b, i, none⟩ = some u ∧ (∀ j v, j ≠ i → W.cell? ⟨b, j, none⟩ = some v → w'.cell? ⟨b, j, none⟩ = some v) ∧ (∀ j, w'.frozen? ⟨b, j, none⟩ = W.frozen? ⟨b, j, none⟩) ∧ Save b W w' := by
  subst hw
  exact ⟨css (u := x) h, fun j v hj hv => (cso (ne_off (Ne.symm hj))).trans hv, fun j => by simp, (Save.setCell W ⟨b, i, none⟩ u).trans (Save.drew b _)⟩
theorem range16 {w : World} {b : Nat} {g : Nat → UInt32} (h : ∀ i, i < 16 → w.cell? ⟨b, i, none⟩ = some (.int .u32 (wd (g i)))) : w.rangeAt b 0 [.int .u32 (wd (g 0)), .int .u32 (wd (g 1)), .int .u32 (wd (g 2)), .int .u32 (wd (g 3)), .int .u32 (wd (g 4)), .int .u32 (wd (g 5)), .int .u32 (wd (g 6)), .int .u32 (wd (g 7)), .int .u32 (wd (g 8)), .int .u32 (wd (g 9)), .int .u32 (wd (g 10)), .int .u32 (wd (g 11)), .int .u32 (wd (g 12)), .int .u32 (wd (g 13)), .int .u32 (wd (g 14)), .int .u32 (wd (g 15))] := fun j v hv => by
  have hj : j < 16 := (List.getElem?_eq_some_iff.1 hv).1
  rw [Nat.zero_add, h j hj]
  rcases j with _|_|_|_|_|_|_|_|_|_|_|_|_|_|_|_|j <;> first | exact hv | omega
set_option maxHeartbeats 4000000 in
set_option maxRecDepth 100000 in
theorem mixr_any (f : Nat → UInt32) (qa qb qc qd : Nat) (x y : UInt32) (w : World) (hq1 : qa < 4) (hq2 : 4 ≤ qb) (hq3 : qb < 8) (hq4 : 8 ≤ qc) (hq5 : qc < 12) (hq6 : 12 ≤ qd) (hq7 : qd < 16) :
    Calls Tryz.prog 135 #[.agg #[.int .u32 (wd (f 0)), .int .u32 (wd (f 1)), .int .u32 (wd (f 2)), .int .u32 (wd (f 3)), .int .u32 (wd (f 4)), .int .u32 (wd (f 5)), .int .u32 (wd (f 6)), .int .u32 (wd (f 7)), .int .u32 (wd (f 8)), .int .u32 (wd (f 9)), .int .u32 (wd (f 10)), .int .u32 (wd (f 11)), .int .u32 (wd (f 12)), .int .u32 (wd (f 13)), .int .u32 (wd (f 14)), .int .u32 (wd (f 15))], .int .i64 qa, .int .i64 qb, .int .i64 qc, .int .i64 qd, .int .u32 (wd x), .int .u32 (wd y)] w fun e w' => e = .returned (.agg #[.int .u32 (wd (mixed f qa qb qc qd x y 0)), .int .u32 (wd (mixed f qa qb qc qd x y 1)), .int .u32 (wd (mixed f qa qb qc qd x y 2)), .int .u32 (wd (mixed f qa qb qc qd x y 3)), .int .u32 (wd (mixed f qa qb qc qd x y 4)), .int .u32 (wd (mixed f qa qb qc qd x y 5)), .int .u32 (wd (mixed f qa qb qc qd x y 6)), .int .u32 (wd (mixed f qa qb qc qd x y 7)), .int .u32 (wd (mixed f qa qb qc qd x y 8)), .int .u32 (wd (mixed f qa qb qc qd x y 9)), .int .u32 (wd (mixed f qa qb qc qd x y 10)), .int .u32 (wd (mixed f qa qb qc qd x y 11)), .int .u32 (wd (mixed f qa qb qc qd x y 12)), .int .u32 (wd (mixed f qa qb qc qd x y 13)), .int .u32 (wd (mixed f qa qb qc qd x y 14)), .int .u32 (wd (mixed f qa qb qc qd x y 15))]) ∧ Below w.heap.size w w' := by
  obtain ⟨W, hW⟩ : ∃ W, (w.alloc (Obj.cells #[.int .u32 (wd (f 0)), .int .u32 (wd (f 1)), .int .u32 (wd (f 2)), .int .u32 (wd (f 3)), .int .u32 (wd (f 4)), .int .u32 (wd (f 5)), .int .u32 (wd (f 6)), .int .u32 (wd (f 7)), .int .u32 (wd (f 8)), .int .u32 (wd (f 9)), .int .u32 (wd (f 10)), .int .u32 (wd (f 11)), .int .u32 (wd (f 12)), .int .u32 (wd (f 13)), .int .u32 (wd (f 14)), .int .u32 (wd (f 15))] 193)).alloc (Obj.cells #[.int .u32 0, .int .u32 0, .int .u32 0, .int .u32 0, .int .u32 0, .int .u32 0, .int .u32 0, .int .u32 0, .int .u32 0, .int .u32 0, .int .u32 0, .int .u32 0, .int .u32 0, .int .u32 0, .int .u32 0, .int .u32 0] 193) = W := ⟨_, rfl⟩
  obtain ⟨B, hB⟩ : ∃ B, w.heap.size = B := ⟨_, rfl⟩
  have hc0 : ∀ i, i < 16 → W.cell? ⟨B, i, none⟩ = some (.int .u32 (wd (f i))) := fun i hi => by
    rw [← hW]
    refine alloc_old_cell _ ?_
    rw [← hB, alloc_new_cell]
    rcases i with _|_|_|_|_|_|_|_|_|_|_|_|_|_|_|_|i <;> first | rfl | omega
  have hf0 : ∀ i, W.frozen? ⟨B, i, none⟩ = false := fun i => by
    rw [← hW, ← hB]
    refine (alloc_old_frozen _ ?_).trans (alloc_new_frozen w _ _ i)
    show w.heap.size < (w.heap.push _).size
    simp
  have ht0 : W.there (B + 1) 0 16 := fun j hj => by
    rw [← hW, ← hB]
    have e : w.heap.size + 1 = (w.alloc (Obj.cells #[.int .u32 (wd (f 0)), .int .u32 (wd (f 1)), .int .u32 (wd (f 2)), .int .u32 (wd (f 3)), .int .u32 (wd (f 4)), .int .u32 (wd (f 5)), .int .u32 (wd (f 6)), .int .u32 (wd (f 7)), .int .u32 (wd (f 8)), .int .u32 (wd (f 9)), .int .u32 (wd (f 10)), .int .u32 (wd (f 11)), .int .u32 (wd (f 12)), .int .u32 (wd (f 13)), .int .u32 (wd (f 14)), .int .u32 (wd (f 15))] 193)).heap.size := by show _ = (w.heap.push _).size; simp
    rw [e]
    refine ⟨?_, alloc_new_frozen _ _ _ _⟩
    rw [alloc_new_cell]
    rcases j with _|_|_|_|_|_|_|_|_|_|_|_|_|_|_|_|j <;> first | rfl | omega
  have hsz : B + 1 < W.heap.size := by
    rw [← hW, ← hB]
    show w.heap.size + 1 < ((w.heap.push _).push _).size
    simp
  have n1 : qa ≠ qb := by omega
  have n2 : qa ≠ qc := by omega
  have n3 : qa ≠ qd := by omega
  have n4 : qb ≠ qc := by omega
  have n5 : qb ≠ qd := by omega
  have n6 : qc ≠ qd := by omega
  have a0 := hc0 qa (by omega)
  have b0 := hc0 qb (by omega)
  have c0 := hc0 qc (by omega)
  have d0 := hc0 qd (by omega)
  have z1 : (0 : Int) ≤ ↑qa := by omega
  have z2 : (0 : Int) ≤ ↑qb := by omega
  have z3 : (0 : Int) ≤ ↑qc := by omega
  have z4 : (0 : Int) ≤ ↑qd := by omega
  have y1 : (↑qa : Int) < 16 := by omega
  have y2 : (↑qb : Int) < 16 := by omega
  have y3 : (↑qc : Int) < 16 := by omega
  have y4 : (↑qd : Int) < 16 := by omega
  obtain ⟨g, hg⟩ : ∃ g : Nat → UInt32, mixed f qa qb qc qd x y = g := ⟨_, rfl⟩
  have hWb : Below B w W := by rw [← hW, ← hB]; exact ((Below.refl _ w).alloc (Nat.le_refl _) _).alloc (by show w.heap.size ≤ (w.heap.push _).size; simp) _
  have HW := Lib.hid hW
  have HB := Lib.hid hB
  clear hW hB
  have hA : ∀ a b : UInt32, (wd a + wd b) % (4294967296 : Int) = wd (a + b) := u32_add
  have hX : ∀ a b : UInt32, bits BinOp.xor IntKind.u32 (wd a) (wd b) = wd (a ^^^ b) := u32_xor
  go_enter Tryz.func135, Tryz.ntmps135
  go_wp2_with fail
  rw [HW.out, HB.out]
  go_still_tail 10, (by kernel_rfl)
  go_wp2_with fail
  simp only [hA]
  obtain ⟨A1, hA1⟩ : ∃ z : UInt32, (f qa) + (f qb) + x = z := ⟨_, rfl⟩
  rw [hA1]
  obtain ⟨W1, hW1⟩ : ∃ z : World, (W.setCell ⟨B, qa, none⟩ (.int .u32 (wd A1))).drew = z := ⟨_, rfl⟩
  rw [hW1]
  obtain ⟨a1, k1, f1, s1⟩ := one_store a0 hW1
  have b1 := k1 qb _ (Ne.symm n1) b0
  have c1 := k1 qc _ (Ne.symm n2) c0
  have d1 := k1 qd _ (Ne.symm n3) d0
  have hf1 : ∀ i, W1.frozen? ⟨B, i, none⟩ = false := fun i => (f1 i).trans (hf0 i)
  clear a0 b0 c0 d0 hf0 f1 hW1
  go_still_tail 9, (by kernel_rfl)
  still_call ((rotr16_any _ _).mono (by rintro e w1 ⟨rfl, rfl⟩; exact ⟨rfl, rfl⟩))
  try refine wpStill_nil ?_
  go_wp2_with fail
  obtain ⟨D1, hD1⟩ : ∃ z : UInt32, rr16 ((f qd) ^^^ A1) = z := ⟨_, rfl⟩
  rw [hD1]
  obtain ⟨W2, hW2⟩ : ∃ z : World, (W1.setCell ⟨B, qd, none⟩ (.int .u32 (wd D1))).drew = z := ⟨_, rfl⟩
  rw [hW2]
  obtain ⟨d2, k2, f2, s2⟩ := one_store d1 hW2
  have a2 := k2 qa _ n3 a1
  have b2 := k2 qb _ n5 b1
  have c2 := k2 qc _ n6 c1
  have hf2 : ∀ i, W2.frozen? ⟨B, i, none⟩ = false := fun i => (f2 i).trans (hf1 i)
  clear a1 b1 c1 d1 hf1 f2 hW2
  go_still_tail 8, (by kernel_rfl)
  go_wp2_with fail
  simp only [hA]
  obtain ⟨C1, hC1⟩ : ∃ z : UInt32, (f qc) + D1 = z := ⟨_, rfl⟩
  rw [hC1]
  obtain ⟨W3, hW3⟩ : ∃ z : World, (W2.setCell ⟨B, qc, none⟩ (.int .u32 (wd C1))).drew = z := ⟨_, rfl⟩
  rw [hW3]
  obtain ⟨c3, k3, f3, s3⟩ := one_store c2 hW3
  have a3 := k3 qa _ n2 a2
  have b3 := k3 qb _ n4 b2
  have d3 := k3 qd _ (Ne.symm n6) d2
  have hf3 : ∀ i, W3.frozen? ⟨B, i, none⟩ = false := fun i => (f3 i).trans (hf2 i)
  clear a2 b2 c2 d2 hf2 f3 hW3
  go_still_tail 9, (by kernel_rfl)
  still_call ((rotr12_any _ _).mono (by rintro e w1 ⟨rfl, rfl⟩; exact ⟨rfl, rfl⟩))
  try refine wpStill_nil ?_
  go_wp2_with fail
  obtain ⟨B1, hB1⟩ : ∃ z : UInt32, rr12 ((f qb) ^^^ C1) = z := ⟨_, rfl⟩
  rw [hB1]
  obtain ⟨W4, hW4⟩ : ∃ z : World, (W3.setCell ⟨B, qb, none⟩ (.int .u32 (wd B1))).drew = z := ⟨_, rfl⟩
  rw [hW4]
  obtain ⟨b4, k4, f4, s4⟩ := one_store b3 hW4
  have a4 := k4 qa _ n1 a3
  have c4 := k4 qc _ (Ne.symm n4) c3
  have d4 := k4 qd _ (Ne.symm n5) d3
  have hf4 : ∀ i, W4.frozen? ⟨B, i, none⟩ = false := fun i => (f4 i).trans (hf3 i)
  clear a3 b3 c3 d3 hf3 f4 hW4
  go_still_tail 10, (by kernel_rfl)
  go_wp2_with fail
  simp only [hA]
  obtain ⟨A2, hA2⟩ : ∃ z : UInt32, A1 + B1 + y = z := ⟨_, rfl⟩
  rw [hA2]
  obtain ⟨W5, hW5⟩ : ∃ z : World, (W4.setCell ⟨B, qa, none⟩ (.int .u32 (wd A2))).drew = z := ⟨_, rfl⟩
  rw [hW5]
  obtain ⟨a5, k5, f5, s5⟩ := one_store a4 hW5
  have b5 := k5 qb _ (Ne.symm n1) b4
  have c5 := k5 qc _ (Ne.symm n2) c4
  have d5 := k5 qd _ (Ne.symm n3) d4
  have hf5 : ∀ i, W5.frozen? ⟨B, i, none⟩ = false := fun i => (f5 i).trans (hf4 i)
  clear a4 b4 c4 d4 hf4 f5 hW5
  go_still_tail 9, (by kernel_rfl)
  still_call ((rotr8_any _ _).mono (by rintro e w1 ⟨rfl, rfl⟩; exact ⟨rfl, rfl⟩))
  try refine wpStill_nil ?_
  go_wp2_with fail
  obtain ⟨D2, hD2⟩ : ∃ z : UInt32, rr8 (D1 ^^^ A2) = z := ⟨_, rfl⟩
  rw [hD2]
  obtain ⟨W6, hW6⟩ : ∃ z : World, (W5.setCell ⟨B, qd, none⟩ (.int .u32 (wd D2))).drew = z := ⟨_, rfl⟩
  rw [hW6]
  obtain ⟨d6, k6, f6, s6⟩ := one_store d5 hW6
  have a6 := k6 qa _ n3 a5
  have b6 := k6 qb _ n5 b5
  have c6 := k6 qc _ n6 c5
  have hf6 : ∀ i, W6.frozen? ⟨B, i, none⟩ = false := fun i => (f6 i).trans (hf5 i)
  clear a5 b5 c5 d5 hf5 f6 hW6
  go_still_tail 8, (by kernel_rfl)
  go_wp2_with fail
  simp only [hA]
  obtain ⟨C2, hC2⟩ : ∃ z : UInt32, C1 + D2 = z := ⟨_, rfl⟩
  rw [hC2]
  obtain ⟨W7, hW7⟩ : ∃ z : World, (W6.setCell ⟨B, qc, none⟩ (.int .u32 (wd C2))).drew = z := ⟨_, rfl⟩
  rw [hW7]
  obtain ⟨c7, k7, f7, s7⟩ := one_store c6 hW7
  have a7 := k7 qa _ n2 a6
  have b7 := k7 qb _ n4 b6
  have d7 := k7 qd _ (Ne.symm n6) d6
  have hf7 : ∀ i, W7.frozen? ⟨B, i, none⟩ = false := fun i => (f7 i).trans (hf6 i)
  clear a6 b6 c6 d6 hf6 f7 hW7
  go_still_tail 9, (by kernel_rfl)
  still_call ((rotr7_any _ _).mono (by rintro e w1 ⟨rfl, rfl⟩; exact ⟨rfl, rfl⟩))
  try refine wpStill_nil ?_
  go_wp2_with (first | (refine wpList_load_mid rfl _ _ rfl B 0 rfl [.int .u32 (wd (g 0)), .int .u32 (wd (g 1)), .int .u32 (wd (g 2)), .int .u32 (wd (g 3)), .int .u32 (wd (g 4)), .int .u32 (wd (g 5)), .int .u32 (wd (g 6)), .int .u32 (wd (g 7)), .int .u32 (wd (g 8)), .int .u32 (wd (g 9)), .int .u32 (wd (g 10)), .int .u32 (wd (g 11)), .int .u32 (wd (g 12)), .int .u32 (wd (g 13)), .int .u32 (wd (g 14)), .int .u32 (wd (g 15))] _ ?c1 rfl rfl rfl ?_) | (refine wpList_store_mid rfl _ _ _ rfl (B + 1) 0 (#[.int .u32 (wd (g 0)), .int .u32 (wd (g 1)), .int .u32 (wd (g 2)), .int .u32 (wd (g 3)), .int .u32 (wd (g 4)), .int .u32 (wd (g 5)), .int .u32 (wd (g 6)), .int .u32 (wd (g 7)), .int .u32 (wd (g 8)), .int .u32 (wd (g 9)), .int .u32 (wd (g 10)), .int .u32 (wd (g 11)), .int .u32 (wd (g 12)), .int .u32 (wd (g 13)), .int .u32 (wd (g 14)), .int .u32 (wd (g 15))] : Array Value) rfl rfl ?c2 rfl ?c4 ?_) | (refine wpList_load_mid rfl _ _ rfl (B + 1) 0 rfl [.int .u32 (wd (g 0)), .int .u32 (wd (g 1)), .int .u32 (wd (g 2)), .int .u32 (wd (g 3)), .int .u32 (wd (g 4)), .int .u32 (wd (g 5)), .int .u32 (wd (g 6)), .int .u32 (wd (g 7)), .int .u32 (wd (g 8)), .int .u32 (wd (g 9)), .int .u32 (wd (g 10)), .int .u32 (wd (g 11)), .int .u32 (wd (g 12)), .int .u32 (wd (g 13)), .int .u32 (wd (g 14)), .int .u32 (wd (g 15))] _ ?c3 rfl rfl rfl ?_))
  all_goals obtain ⟨b8, k8, f8, s8⟩ := one_store (u := .int .u32 (wd (rr7 (B1 ^^^ C2)))) b7 rfl
  all_goals have s08 := s1.trans (s2.trans (s3.trans (s4.trans (s5.trans (s6.trans (s7.trans s8))))))
  case c2 => exact s08.there (by omega) ht0
  case c4 => exact all_oneCell_toArray (cs := [.int .u32 (wd (g 0)), .int .u32 (wd (g 1)), .int .u32 (wd (g 2)), .int .u32 (wd (g 3)), .int .u32 (wd (g 4)), .int .u32 (wd (g 5)), .int .u32 (wd (g 6)), .int .u32 (wd (g 7)), .int .u32 (wd (g 8)), .int .u32 (wd (g 9)), .int .u32 (wd (g 10)), .int .u32 (wd (g 11)), .int .u32 (wd (g 12)), .int .u32 (wd (g 13)), .int .u32 (wd (g 14)), .int .u32 (wd (g 15))]) (by simp [Value.oneCell'])
  case c1 => 
    refine range16 fun i hi => ?_
    rw [← hg]
    unfold mixed
    by_cases i1 : i = qa
    · subst i1; rw [if_pos rfl]; refine (k8 i _ n1 a7).trans ?_; subst hA2 hB1 hC1 hD1 hA1; rfl
    rw [if_neg i1]
    by_cases i2 : i = qb
    · subst i2; rw [if_pos rfl]; refine b8.trans ?_; subst hC2 hD2 hA2 hB1 hC1 hD1 hA1; rfl
    rw [if_neg i2]
    by_cases i3 : i = qc
    · subst i3; rw [if_pos rfl]; refine (k8 i _ i2 c7).trans ?_; subst hC2 hD2 hA2 hB1 hC1 hD1 hA1; rfl
    rw [if_neg i3]
    by_cases i4 : i = qd
    · subst i4; rw [if_pos rfl]; refine (k8 i _ i2 d7).trans ?_; subst hC2 hD2 hA2 hB1 hC1 hD1 hA1; rfl
    rw [if_neg i4]
    exact k8 i _ i2 (k7 i _ i3 (k6 i _ i4 (k5 i _ i1 (k4 i _ i2 (k3 i _ i3 (k2 i _ i4 (k1 i _ i1 (hc0 i hi))))))))
  have hr := World.rangeAt_setCells_same _ (B + 1) 0 [.int .u32 (wd (g 0)), .int .u32 (wd (g 1)), .int .u32 (wd (g 2)), .int .u32 (wd (g 3)), .int .u32 (wd (g 4)), .int .u32 (wd (g 5)), .int .u32 (wd (g 6)), .int .u32 (wd (g 7)), .int .u32 (wd (g 8)), .int .u32 (wd (g 9)), .int .u32 (wd (g 10)), .int .u32 (wd (g 11)), .int .u32 (wd (g 12)), .int .u32 (wd (g 13)), .int .u32 (wd (g 14)), .int .u32 (wd (g 15))] (s08.there (by omega) ht0)
  try simp only [Exit.inBlock, Exit.then]
  refine bodyPost_ret (results_cell_mid rfl _ _ (B + 1) 0 rfl _ _ hr rfl rfl rfl) rfl ⟨?_, ?_⟩
  · rw [← hg]
  · rw [HB.out]
    exact hWb.trans ((s08.below (Nat.le_refl _) (by omega)).trans ((Save.setCells (B + 1) _ 0 _).below (by omega) (Nat.le_trans (by omega) s08.size)))
end Go.Proofs.YtpkapcijgldhhaaGreatDoor
