import Derived.Test.YtpkapcijgldhhaaGreatDoorMix
import Derived.Deep.QuietTactic
import Derived.BigQuiet
import Derived.StillTailTactics
import Derived.Deep.RegionHeld3
namespace Go.Proofs.YtpkapcijgldhhaaGreatDoor
open Go.RowKit
/-- Everything but block b is as it was. -/
structure Save (b : Nat) (w w' : World) : Prop where
  os : w'.os = w.os
  tape : w'.tape = w.tape
  output : w'.output = w.output
  size : w.heap.size ≤ w'.heap.size
  block : ∀ k, k < w.heap.size → k ≠ b → w'.heap[k]? = w.heap[k]?
theorem Save.refl (b : Nat) (w : World) : Save b w w := ⟨rfl, rfl, rfl, Nat.le_refl _, fun _ _ _ => rfl⟩
theorem Save.trans {b : Nat} {u v w : World} (h : Save b u v) (k : Save b v w) : Save b u w :=
  ⟨k.os.trans h.os, k.tape.trans h.tape, k.output.trans h.output, Nat.le_trans h.size k.size, fun i hi hn => (k.block i (Nat.lt_of_lt_of_le hi h.size) hn).trans (h.block i hi hn)⟩
theorem Save.alloc (b : Nat) (w : World) (o : Obj) : Save b w (w.alloc o) :=
  ⟨rfl, rfl, rfl, by show w.heap.size ≤ (w.heap.push o).size; simp, fun k hk _ => Below.heap_alloc w o k hk⟩
theorem Save.drew (b : Nat) (w : World) : Save b w w.drew := ⟨rfl, rfl, rfl, Nat.le_refl _, fun _ _ _ => rfl⟩
theorem Save.setCell (w : World) (a : Addr) (u : Value) : Save a.block w (w.setCell a u) :=
  ⟨rfl, rfl, rfl, by simp [World.setCell], fun k _ hn => Below.heap_setCell w a u k hn⟩
theorem Save.cell {b : Nat} {w w' : World} (h : Save b w w') {a : Addr} (hlt : a.block < w.heap.size) (hn : a.block ≠ b) : w'.cell? a = w.cell? a := by
  unfold World.cell?; rw [h.block _ hlt hn]
theorem Save.frozen {b : Nat} {w w' : World} (h : Save b w w') {a : Addr} (hlt : a.block < w.heap.size) (hn : a.block ≠ b) : w'.frozen? a = w.frozen? a := by
  unfold World.frozen?; rw [h.block _ hlt hn]
theorem Save.drewN (b : Nat) (w : World) (n : Nat) : Save b w (w.drewN n) := ⟨rfl, rfl, rfl, Nat.le_refl _, fun _ _ _ => rfl⟩
theorem ne_off {b i j : Nat} (h : i ≠ j) : (⟨b, i, none⟩ : Addr) ≠ ⟨b, j, none⟩ := fun e => h (by injection e)
theorem cso {w : World} {a c : Addr} {v : Value} (h : a ≠ c) : (w.setCell a v).cell? c = w.cell? c := World.cell?_setCell_other _ _ _ _ h
theorem css {w : World} {a : Addr} {v u : Value} (h : w.cell? a = some u) : (w.setCell a v).cell? a = some v := World.cell?_setCell_same _ _ _ h
theorem four_stores {W : World} {b qa qb qc qd : Nat} {x1 x2 x3 x4 : Value} (n : Nat) (u1 u2 u3 u4 : Value) (n1 : qa ≠ qb) (n2 : qa ≠ qc) (n3 : qa ≠ qd) (n4 : qb ≠ qc) (n5 : qb ≠ qd) (n6 : qc ≠ qd)
    (h1 : W.cell? ⟨b, qa, none⟩ = some x1) (h2 : W.cell? ⟨b, qb, none⟩ = some x2) (h3 : W.cell? ⟨b, qc, none⟩ = some x3) (h4 : W.cell? ⟨b, qd, none⟩ = some x4) (w' : World)
    (hw : ((((W.drewN n).setCell ⟨b, qa, none⟩ u1).setCell ⟨b, qb, none⟩ u2).setCell ⟨b, qc, none⟩ u3).setCell ⟨b, qd, none⟩ u4 = w') :
    Save b W w' ∧ (∀ i, w'.frozen? ⟨b, i, none⟩ = W.frozen? ⟨b, i, none⟩) ∧ (∀ i v, i ≠ qa → i ≠ qb → i ≠ qc → i ≠ qd → W.cell? ⟨b, i, none⟩ = some v → w'.cell? ⟨b, i, none⟩ = some v) ∧
      w'.cell? ⟨b, qa, none⟩ = some u1 ∧ w'.cell? ⟨b, qb, none⟩ = some u2 ∧ w'.cell? ⟨b, qc, none⟩ = some u3 ∧ w'.cell? ⟨b, qd, none⟩ = some u4 := by
  subst hw
  refine ⟨((((Save.drewN b W n).trans (Save.setCell _ ⟨b, qa, none⟩ u1)).trans (Save.setCell _ ⟨b, qb, none⟩ u2)).trans (Save.setCell _ ⟨b, qc, none⟩ u3)).trans (Save.setCell _ ⟨b, qd, none⟩ u4), fun i => by simp, fun i v a1 a2 a3 a4 h => ?_, ?_, ?_, ?_, ?_⟩
  · rw [cso (ne_off (Ne.symm a4)), cso (ne_off (Ne.symm a3)), cso (ne_off (Ne.symm a2)), cso (ne_off (Ne.symm a1))]
    exact h
  · rw [cso (ne_off (Ne.symm n3)), cso (ne_off (Ne.symm n2)), cso (ne_off (Ne.symm n1))]
    exact css (u := x1) h1
  · rw [cso (ne_off (Ne.symm n5)), cso (ne_off (Ne.symm n4))]
    exact css (u := x2) (by rw [cso (ne_off n1)]; exact h2)
  · rw [cso (ne_off (Ne.symm n6))]
    exact css (u := x3) (by rw [cso (ne_off n4), cso (ne_off n2)]; exact h3)
  · exact css (u := x4) (by rw [cso (ne_off n6), cso (ne_off n5), cso (ne_off n3)]; exact h4)
set_option maxHeartbeats 1000000 in
set_option maxRecDepth 100000 in
theorem mix_any (b : Nat) (qa qb qc qd : Nat) (va vb vc vd x y : UInt32) (w : World) (hq1 : qa < 4) (hq2 : 4 ≤ qb) (hq3 : qb < 8) (hq4 : 8 ≤ qc) (hq5 : qc < 12) (hq6 : 12 ≤ qd) (hq7 : qd < 16)
    (ha : w.cell? ⟨b, qa, none⟩ = some (.int .u32 (wd va))) (hb : w.cell? ⟨b, qb, none⟩ = some (.int .u32 (wd vb))) (hc : w.cell? ⟨b, qc, none⟩ = some (.int .u32 (wd vc))) (hd : w.cell? ⟨b, qd, none⟩ = some (.int .u32 (wd vd))) (hf : ∀ i, w.frozen? ⟨b, i, none⟩ = false) :
    Calls Tryz.prog 153 #[.pointer (some ⟨b, 0, none⟩), .agg #[.int .i64 qa, .int .i64 qb, .int .i64 qc, .int .i64 qd], .int .u32 (wd x), .int .u32 (wd y)] w fun e w' => e = .returned (.tuple #[]) ∧ Save b w w' ∧ (∀ i, w'.frozen? ⟨b, i, none⟩ = false) ∧ (∀ i v, i ≠ qa → i ≠ qb → i ≠ qc → i ≠ qd → w.cell? ⟨b, i, none⟩ = some v → w'.cell? ⟨b, i, none⟩ = some v) ∧
      w'.cell? ⟨b, qa, none⟩ = some (.int .u32 (wd (mixA va vb vc vd x y))) ∧ w'.cell? ⟨b, qb, none⟩ = some (.int .u32 (wd (mixB va vb vc vd x y))) ∧ w'.cell? ⟨b, qc, none⟩ = some (.int .u32 (wd (mixC va vb vc vd x y))) ∧ w'.cell? ⟨b, qd, none⟩ = some (.int .u32 (wd (mixD va vb vc vd x y))) := by
  obtain ⟨W, hW⟩ : ∃ W, w.alloc (Obj.cells #[Value.int IntKind.i64 ↑qa, Value.int IntKind.i64 ↑qb, Value.int IntKind.i64 ↑qc, Value.int IntKind.i64 ↑qd] 194) = W := ⟨_, rfl⟩
  obtain ⟨B, hB⟩ : ∃ B, w.heap.size = B := ⟨_, rfl⟩
  have hlt : b < B := by rw [← hB]; exact World.block_lt_of_cell? w _ ha
  have q0 : W.cell? ⟨B, 0, none⟩ = some (.int .i64 qa) := by rw [← hW, ← hB, alloc_new_cell]; rfl
  have q1 : W.cell? ⟨B, 1, none⟩ = some (.int .i64 qb) := by rw [← hW, ← hB, alloc_new_cell]; rfl
  have q2 : W.cell? ⟨B, 2, none⟩ = some (.int .i64 qc) := by rw [← hW, ← hB, alloc_new_cell]; rfl
  have q3 : W.cell? ⟨B, 3, none⟩ = some (.int .i64 qd) := by rw [← hW, ← hB, alloc_new_cell]; rfl
  have ha' : W.cell? ⟨b, qa, none⟩ = some (.int .u32 (wd va)) := by rw [← hW]; exact alloc_old_cell _ ha
  have hb' : W.cell? ⟨b, qb, none⟩ = some (.int .u32 (wd vb)) := by rw [← hW]; exact alloc_old_cell _ hb
  have hc' : W.cell? ⟨b, qc, none⟩ = some (.int .u32 (wd vc)) := by rw [← hW]; exact alloc_old_cell _ hc
  have hd' : W.cell? ⟨b, qd, none⟩ = some (.int .u32 (wd vd)) := by rw [← hW]; exact alloc_old_cell _ hd
  have hf' : ∀ i, W.frozen? ⟨b, i, none⟩ = false := fun i => by rw [← hW]; exact (alloc_old_frozen (a := ⟨b, i, none⟩) _ (World.block_lt_of_cell? w ⟨b, qa, none⟩ ha)).trans (hf i)
  have hW0 : Save b w W := hW ▸ Save.alloc b w _
  have hC0 : ∀ i v, w.cell? ⟨b, i, none⟩ = some v → W.cell? ⟨b, i, none⟩ = some v := fun i v h => by rw [← hW]; exact alloc_old_cell _ h
  clear ha hb hc hd
  have HW := Lib.hid hW
  have HB := Lib.hid hB
  clear hW hB
  have hA : ∀ a b : UInt32, (wd a + wd b) % (4294967296 : Int) = wd (a + b) := u32_add
  have hX : ∀ a b : UInt32, bits BinOp.xor IntKind.u32 (wd a) (wd b) = wd (a ^^^ b) := u32_xor
  go_enter Tryz.func153, Tryz.ntmps153
  go_wp2_with fail
  rw [HW.out, HB.out]
  go_quiet (fail)
  go_wp2_with fail
  refine (rot16_any _ _).mono ?_
  rintro e w1 ⟨rfl, rfl⟩
  go_wp2_with fail
  refine (rot12_any _ _).mono ?_
  rintro e w1 ⟨rfl, rfl⟩
  go_wp2_with fail
  refine (rot8_any _ _).mono ?_
  rintro e w1 ⟨rfl, rfl⟩
  go_wp2_with fail
  refine (rot7_any _ _).mono ?_
  rintro e w1 ⟨rfl, rfl⟩
  go_wp2_with fail
  have n1 : qa ≠ qb := by omega
  have n2 : qa ≠ qc := by omega
  have n3 : qa ≠ qd := by omega
  have n4 : qb ≠ qc := by omega
  have n5 : qb ≠ qd := by omega
  have n6 : qc ≠ qd := by omega
  have nb : b ≠ B := by omega
  have z1 : (0 : Int) ≤ ↑qa := by omega
  have z2 : (0 : Int) ≤ ↑qb := by omega
  have z3 : (0 : Int) ≤ ↑qc := by omega
  have z4 : (0 : Int) ≤ ↑qd := by omega
  have y1 : (↑qa : Int) < 16 := by omega
  have y2 : (↑qb : Int) < 16 := by omega
  have y3 : (↑qc : Int) < 16 := by omega
  have y4 : (↑qd : Int) < 16 := by omega
  have nb' : B ≠ b := by omega
  go_region_held3 (fun w => w.cell? ⟨B, 0, none⟩ = some (.int .i64 qa) ∧ w.cell? ⟨B, 1, none⟩ = some (.int .i64 qb) ∧ w.cell? ⟨B, 2, none⟩ = some (.int .i64 qc) ∧ w.cell? ⟨B, 3, none⟩ = some (.int .i64 qd)) ((simp [World.cell?_setCell_far, *])) (fail)
  go_wp2_with fail
  go_end0
  obtain ⟨r1, r2, r3, r4, r5, r6, r7⟩ := four_stores _ _ _ _ _ n1 n2 n3 n4 n5 n6 ha' hb' hc' hd' _ rfl
  have e1 : va + (vb + x) = va + vb + x := (UInt32.add_assoc va vb x).symm
  have e2 : ∀ k : UInt32, va + vb + x + (k + y) = va + vb + x + k + y := fun k => (UInt32.add_assoc (va + vb + x) k y).symm
  refine ⟨rfl, (hW0.trans r1), fun i => (r2 i).trans (hf' i), fun i v a1 a2 a3 a4 h => r3 i v a1 a2 a3 a4 (hC0 i v h), r4.trans ?_, r5.trans ?_, r6.trans ?_, r7.trans ?_⟩
  all_goals simp only [e1, e2, mixA, mixB, mixC, mixD, mixA1, mixB1, mixC1, mixD1]
end Go.Proofs.YtpkapcijgldhhaaGreatDoor
