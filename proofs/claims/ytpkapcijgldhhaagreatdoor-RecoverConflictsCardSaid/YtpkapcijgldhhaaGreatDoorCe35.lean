/-
  The field of 256 elements in the program: the bits of the exponent.
  The field of 256 elements in the program: inverses, quotients.
  Erasure in the program: the weights of Lagrange's interpolation, and the block that they give.
-/
import Derived.Test.YtpkapcijgldhhaaGreatDoorCe34
import Derived.Test.YtpkapcijgldhhaaGreatDoorCe05
import Derived.Test.YtpkapcijgldhhaaGreatDoorCe10
import Derived.Deep.RegionHeld3
import Derived.Deep.RegionWith
import Derived.Deep.MidRow
namespace Go.Proofs.YtpkapcijgldhhaaGreatDoor
open Go.RowKit Go.Shelf
attribute [local go_sem] Oper.semAt_some
def bitE (j : Nat) : Bool := decide (254 / 2 ^ j % 2 = 1)
def encE (j : Nat) : Array Value := #[.bool (bitE j)]
theorem i64_nat (a : Nat) (ha : a < 4611686018427387904) : (BitVec.ofInt IntKind.i64.bits (a : Int)).toNat = a := by
  rw [BitVec.ofInt_natCast, BitVec.toNat_ofNat]
  exact Nat.mod_eq_of_lt (Nat.lt_trans ha (by decide))
theorem i64_andN (a b : Nat) (ha : a < 4611686018427387904) (hb : b < 4611686018427387904) : bits BinOp.and IntKind.i64 (a : Int) (b : Int) = ((a &&& b : Nat) : Int) := by
  have h := Nat.and_le_left (n := a) (m := b)
  simp only [bits]
  rw [BitVec.toNat_and, i64_nat a ha, i64_nat b hb, IntWalk.i64_in _ (by omega)]
theorem i64_xorN (a b : Nat) (ha : a < 4611686018427387904) (hb : b < 4611686018427387904) : bits BinOp.xor IntKind.i64 (a : Int) (b : Int) = ((a ^^^ b : Nat) : Int) := by
  have h : a ^^^ b < 4611686018427387904 := Nat.xor_lt_two_pow (n := 62) ha hb
  simp only [bits]
  rw [BitVec.toNat_xor, i64_nat a ha, i64_nat b hb, IntWalk.i64_in _ (by omega)]
theorem i64_and1 (m : Nat) (h : m < 4611686018427387904) : bits BinOp.and IntKind.i64 (m : Int) 1 = ((m % 2 : Nat) : Int) := by
  have := i64_andN m 1 h (by decide)
  rw [Nat.and_one_is_mod] at this
  exact this
theorem boxed_cell {W : World} {B : Nat} {T : TypeId} {v : Value} (h : Boxed W B T v) : W.cell? ⟨B, 0, none⟩ = some v ∧ W.frozen? ⟨B, 0, none⟩ = false := by
  unfold Boxed at h
  exact ⟨by simp [World.cell?, h], by simp [World.frozen?, h]⟩
set_option maxRecDepth 100000 in
set_option maxHeartbeats 4000000 in
theorem binary_gives (n : Nat) (hn : 1 ≤ n) (B0 : Nat) (w : World) (hB : Boxed w B0 3 (.int .i64 254)) :
    GivesBox Fence.wide n Tryz.prog 253 #[.pointer (some ⟨B0, 0, none⟩)] encE (List.range 8) B0 w := by
  intro l J W1 hW1 hJs hY h0
  have hB1 : Boxed W1 B0 3 (.int .i64 254) := hW1.trans hB
  clear hB hW1
  refine callsIn_of_wp Tryz.func253 rfl trivial ?_ rfl
  simp only [Tryz.ntmps253, List.size_toArray, List.length_cons, List.length_nil, Nat.reduceAdd, Nat.reduceSub, Array.replicate_succ, Array.replicate_zero, List.push_toArray, List.append_toArray, List.nil_append, List.cons_append]
  have HY := Lib.hid hY
  have HS := Lib.hid hJs
  clear hY hJs
  gi_wp2
  gi_loopw [] (fun wr => ∃ (k m : Nat), k ≤ 8 ∧ Hid (254 / 2 ^ k = m) ∧ Boxed wr B0 3 (.int .i64 m) ∧ J (List.range k) wr)
    (fun wr => (intOf ((wr.cell? ⟨B0, 0, none⟩).getD undef)).toNat)
  case atStart => exact ⟨0, 254, by omega, rfl, hB1, h0⟩
  case round =>
    clear hB1 h0
    obtain ⟨k, m, hk, hm, hb, hJ⟩ := hrel
    obtain ⟨c0, f0⟩ := boxed_cell hb
    have hm256 : m < 256 := by rw [← hm.out]; exact Nat.lt_of_le_of_lt (Nat.div_le_self _ _) (by decide)
    by_cases hlt : 0 < m
    · have hk8 : k < 8 := by
        apply Classical.byContradiction; intro hc
        have : k = 8 := by omega
        subst this
        have := hm.out
        simp at this; omega
      have ha := i64_and1 m (by omega)
      have hbit : Hid (bitE k = decide (m % 2 = 1)) := by rw [Hid, bitE, hm.out]
      have hnx : Hid (254 / 2 ^ (k + 1) = m / 2) := by rw [Hid, Nat.pow_succ, ← Nat.div_div_eq_div_mul, hm.out]
      obtain ⟨fn, tmps, assign, body, hy, hR⟩ := HY.out _ k wr hJ
      unfold encE at hy
      rw [hbit.out] at hy
      have hfin : ∀ W3 : World, J (List.range k ++ [k]) W3 → W3.heap[B0]? = wr.heap[B0]? → J (List.range (k + 1)) (W3.setCell ⟨B0, 0, none⟩ (.int .i64 ((m / 2 : Nat) : Int))) ∧ Boxed (W3.setCell ⟨B0, 0, none⟩ (.int .i64 ((m / 2 : Nat) : Int))) B0 3 (.int .i64 ((m / 2 : Nat) : Int)) := fun W3 h1 h2 =>
        ⟨HS.out _ _ _ (by rw [List.range_succ]; exact h1), Boxed.set _ (show Boxed W3 B0 3 (.int .i64 m) from h2.trans hb)⟩
      have HF := Lib.hid hfin
      have hcel : ∀ W3 : World, W3.heap[B0]? = wr.heap[B0]? → Boxed W3 B0 3 (.int .i64 m) := fun W3 h => h.trans hb
      have HC := Lib.hid hcel
      clear hfin hcel hJ hb hbit
      rcases Nat.mod_two_eq_zero_or_one m with h2 | h2
      · rw [h2] at ha hy
        rw [show decide ((0 : Nat) = 1) = false from rfl] at hy
        gi_wp2_with fail
        refine hR.mono ?_
        rintro e W3 ⟨rfl, hJ3, hb3⟩
        obtain ⟨c1, f1⟩ := boxed_cell (HC.out _ hb3)
        have hF3 := HF.out _ hJ3 hb3
        clear HC HF hJ3 hb3 hR hy
        gi_wp2_with fail
        go_roundw
        case rel => exact ⟨k + 1, m / 2, by omega, hnx, hF3.2, hF3.1⟩
        case measure =>
          rw [show (W3.setCell ⟨B0, 0, none⟩ (.int .i64 ((m : Int) / 2))).cell? ⟨B0, 0, none⟩ = some (.int .i64 ((m : Int) / 2)) from hF3.2.cell, c0]
          simp [intOf]; omega
      · rw [h2] at ha hy
        rw [show decide ((1 : Nat) = 1) = true from rfl] at hy
        gi_wp2_with fail
        refine hR.mono ?_
        rintro e W3 ⟨rfl, hJ3, hb3⟩
        obtain ⟨c1, f1⟩ := boxed_cell (HC.out _ hb3)
        have hF3 := HF.out _ hJ3 hb3
        clear HC HF hJ3 hb3 hR hy
        gi_wp2_with fail
        go_roundw
        case rel => exact ⟨k + 1, m / 2, by omega, hnx, hF3.2, hF3.1⟩
        case measure =>
          rw [show (W3.setCell ⟨B0, 0, none⟩ (.int .i64 ((m : Int) / 2))).cell? ⟨B0, 0, none⟩ = some (.int .i64 ((m : Int) / 2)) from hF3.2.cell, c0]
          simp [intOf]; omega
    · have hk8 : k = 8 := by
        apply Classical.byContradiction; intro hc
        have h3 : 254 / 2 ^ k = 0 := by rw [hm.out]; omega
        have : ∀ k, k < 8 → 254 / 2 ^ k ≠ 0 := by decide
        exact this k (by omega) h3
      subst hk8
      have hJ8 := Lib.hid hJ
      clear hJ hm hb HY HS
      gi_wp2_with fail
      go_end0
      exact ⟨⟨_, rfl⟩, hJ8.out⟩
theorem binary_any (n : Int) (w : World) : Calls Tryz.prog 242 #[.int .i64 n] w (fun e w' => e = .returned (.func (.func 253) #[] #[.pointer (some ⟨w.heap.size, 0, none⟩)]) ∧ Boxed w' w.heap.size 3 (.int .i64 n) ∧ Below w.heap.size w w') := by
  have hB := Boxed.new w 3 (.int .i64 n)
  have hb : Below w.heap.size w (w.alloc (.cells #[.int .i64 n] 3)) := (Below.refl _ _).alloc (Nat.le_refl _) _
  go_enter Tryz.func242, Tryz.ntmps242
  go_wp2_with fail
  go_ret
  exact ⟨rfl, hB, hb⟩
/-- the power and the square behind the rounds pre -/
def stepE (s : UInt8 × UInt8) (j : Nat) : UInt8 × UInt8 := (if bitE j then mulG s.1 s.2 else s.1, mulG s.2 s.2)
def stE (a : UInt8) (pre : List Nat) : UInt8 × UInt8 := pre.foldl stepE (1, a)
theorem stE_snoc (a : UInt8) (pre : List Nat) (x : Nat) : stE a (pre ++ [x]) = stepE (stE a pre) x := by simp [stE]
theorem stE_end (a : UInt8) : (stE a (List.range 8)).1 = powF 64 1 a 254 := all8 (p := fun a => (stE a (List.range 8)).1 = powF 64 1 a 254) (by decide +kernel) a
end Go.Proofs.YtpkapcijgldhhaaGreatDoor

namespace Go.Proofs.YtpkapcijgldhhaaGreatDoor
open Go.RowKit Go.Shelf
attribute [local go_sem] Oper.semAt_some
set_option maxRecDepth 100000 in
set_option maxHeartbeats 4000000 in
theorem power_any (a : UInt8) (w : World) : Calls Tryz.prog 221 #[.int .u8 (by8 a), .int .i64 254] w (fun e w' => e = .returned (.int .u8 (by8 (powF 64 1 a 254))) ∧ Below w.heap.size w w') := by
  refine (callsIn_wide (n := 9)).1 ?_
  refine callsIn_of_wp_marks Tryz.func221 rfl trivial ?_ rfl
  simp only [Tryz.ntmps221, List.size_toArray, List.length_cons, List.length_nil, Nat.reduceAdd, Nat.reduceSub, Array.replicate_succ, Array.replicate_zero, List.push_toArray, List.append_toArray, List.nil_append, List.cons_append]
  obtain ⟨W1, hW1⟩ : ∃ W1, (w.alloc (.cells #[.int .u8 (by8 a)] 5)).alloc (.cells #[.int .u8 1] 5) = W1 := ⟨_, rfl⟩
  have hA : Boxed W1 w.heap.size 5 (.int .u8 (by8 a)) := by rw [← hW1]; exact (Boxed.new w _ _).alloc _
  have hP : Boxed W1 (w.heap.size + 1) 5 (.int .u8 1) := by
    rw [← hW1]; have := Boxed.new (w.alloc (.cells #[.int .u8 (by8 a)] 5)) 5 (.int .u8 1); rwa [World.size_alloc] at this
  have hb1 : Below w.heap.size w W1 := by rw [← hW1]; exact (((Below.refl _ w).alloc (Nat.le_refl _) _).alloc (by simp) _)
  have hz1 : W1.heap.size = w.heap.size + 2 := by rw [← hW1]; simp
  gi_wp2_with fail

  clear hW1
  refine ⟨trivial, (callsIn_wide.2 (binary_any 254 W1)).mono ?_⟩
  rintro e W2 ⟨rfl, hB, hb2⟩
  have hb := step2 hb1 hb2
  have hA2 : Boxed W2 w.heap.size 5 (.int .u8 (by8 a)) := (hb2.block _ hA.lt).trans hA
  have hP2 : Boxed W2 (w.heap.size + 1) 5 (.int .u8 1) := (hb2.block _ hP.lt).trans hP
  rw [hz1] at hB
  clear hA hP hb1 hb2
  gi_wp2_with fail

  refine rangeFunc_box rfl (by decide) (gf := 253) (lb := #[.pointer (some ⟨w.heap.size + 2, 0, none⟩)]) rfl trivial (enters_of Tryz.func253 (by kernel_rfl) rfl)
    (encs := encE) (fun _ => rfl) (xs := List.range 8) (B0 := w.heap.size + 2) hB.lt (binary_gives _ (by decide) _ _ hB)
    (fun pre W => (Boxed W w.heap.size 5 (.int .u8 (by8 (stE a pre).2)) ∧ Boxed W (w.heap.size + 1) 5 (.int .u8 (by8 (stE a pre).1))) ∧ Below w.heap.size w W)
    (OwnFrom.and (OwnFrom.and ((boxed_own _ _ fun pre => .int .u8 (by8 (stE a pre).2)).from _) ((boxed_own _ _ fun pre => .int .u8 (by8 (stE a pre).1)).from _)) (ownFrom_below (Nat.le_refl _) hb.size))
    (fun pre W v h => ⟨⟨h.1.1.other (by omega) _, h.1.2.other (by omega) _⟩, h.2.setCell (p := ⟨w.heap.size + 2, 0, none⟩) (by show w.heap.size ≤ w.heap.size + 2; omega) _⟩)
    ⟨⟨hA2, hP2⟩, hb⟩
    (fun x => { tmps := #[.int .u8 (by8 a), .int .i64 254, .pointer (some ⟨w.heap.size, 0, none⟩), undef, .int .u8 0, .pointer (some ⟨w.heap.size + 1, 0, none⟩), .bool (bitE x), .int .i64 254, .func (.func 253) #[] #[.pointer (some ⟨w.heap.size + 2, 0, none⟩)], .bool (bitE x), undef, undef, undef, undef, undef, undef, undef, undef], defers := [] })
    ?assign ?body ?done
  case assign =>
    intro l x W K hK
    dsimp only [encE]
    gi_wp2
    exact hK
  case body =>
    rintro l pre x W ⟨⟨h1, h2⟩, h3⟩
    obtain ⟨p, q, hs⟩ : ∃ p q, stE a pre = (p, q) := ⟨_, _, rfl⟩
    have hn : Hid (stE a (pre ++ [x]) = (if bitE x then mulG p q else p, mulG q q)) := by rw [Hid, stE_snoc, hs]; rfl
    rw [hs] at h1 h2
    dsimp only at h1 h2
    have c1 := h1.cell
    have f1 := h1.frozen
    have c2 := h2.cell
    have f2 := h2.frozen
    have HM1 := Lib.hid (fun W => mulG_any p q W)
    have HM2 := Lib.hid (fun W => mulG_any q q W)
    have hBl := hB.lt
    clear hs hA2 hP2 hB
    rcases hx : bitE x with _ | _
    · rw [hx] at hn
      have hn : Hid (stE a (pre ++ [x]) = (p, mulG q q)) := hn
      clear hx
      gi_wp2_with fail
      refine ⟨trivial, (CallsIn.inRound l (callsIn_wide.2 (HM2.out W))).mono ?_⟩
      rintro e W3 ⟨rfl, rfl⟩
      gi_wp2_with fail
      refine ⟨(KeepsOthers.setCell _ _ _).from _, Below.heap_setCell _ _ _ _ (by show w.heap.size + 2 ≠ w.heap.size; omega), ⟨?_, ?_⟩, h3.setCell (p := ⟨w.heap.size, 0, none⟩) (Nat.le_refl _) _⟩
      · rw [hn.out]; exact Boxed.set _ h1
      · rw [hn.out]; exact h2.other (by omega) _
    · rw [hx] at hn
      have hn : Hid (stE a (pre ++ [x]) = (mulG p q, mulG q q)) := hn
      clear hx
      gi_wp2_with fail
      refine ⟨trivial, (CallsIn.inRound l (callsIn_wide.2 (HM1.out W))).mono ?_⟩
      rintro e W3 ⟨rfl, rfl⟩
      have h1' := h1.other (show w.heap.size ≠ w.heap.size + 1 by omega) (.int .u8 (by8 (mulG p q)))
      have h2' := Boxed.set (.int .u8 (by8 (mulG p q))) h2
      have c1' := h1'.cell
      have f1' := h1'.frozen
      gi_wp2_with fail
      refine ⟨trivial, (CallsIn.inRound l (callsIn_wide.2 (HM2.out _))).mono ?_⟩
      rintro e W4 ⟨rfl, rfl⟩
      gi_wp2_with fail
      refine ⟨((KeepsOthers.setCell _ _ _).from _).trans ((KeepsOthers.setCell _ _ _).from _), ?_, ⟨?_, ?_⟩, (h3.setCell (p := ⟨w.heap.size + 1, 0, none⟩) (Nat.le_succ _) _).setCell (p := ⟨w.heap.size, 0, none⟩) (Nat.le_refl _) _⟩
      · exact (Below.heap_setCell _ _ _ _ (by show w.heap.size + 2 ≠ w.heap.size; omega)).trans (Below.heap_setCell _ _ _ _ (by show w.heap.size + 2 ≠ w.heap.size + 1; omega))
      · rw [hn.out]; exact Boxed.set _ h1'
      · rw [hn.out]; exact h2'.other (by omega) _
  case done =>
    rintro D W hD ⟨⟨h1, h2⟩, h3⟩ hK
    rw [stE_end] at h2
    have c2 := h2.cell
    clear h1 hA2 hP2 hB
    gi_wp2_with fail
    refine ⟨by simp, .inl ⟨_, _, rfl, run_takeDeferred hK, ?_⟩⟩
    refine ⟨.int .u8 (by8 (powF 64 1 a 254)), ?_, rfl, h3.trans (belowK_b (w := w) (Nat.le_refl _) _ D _ _ (Nat.le_trans hb.size hD) hK rfl rfl)⟩
    simp [results, Tryz.f221, go_sem]
set_option maxRecDepth 100000 in
set_option maxHeartbeats 4000000 in
theorem inv_any (a : UInt8) (w : World) : Calls Tryz.prog 195 #[.int .u8 (by8 a)] w (fun e w' => ∃ ok, e = .returned (.tuple #[.int .u8 (by8 (invG a)), .bool ok]) ∧ Below w.heap.size w w') := by
  have HP := Lib.hid (power_any a w)
  have h := by8_lt a
  by_cases q : a = 0
  · have h0 : by8 a = 0 := by rw [q]; rfl
    have hi : Hid (invG a = 0) := by rw [Hid, q]; rfl
    clear q HP
    go_enter Tryz.func195, Tryz.ntmps195
    go_wp2_with fail
    go_ret2
    exact ⟨false, by rw [hi.out]; rfl, below_refl w⟩
  · have h0 : (by8 a == 0) = false := by rw [beq_eq_false_iff_ne]; exact fun e => q (by8_inj e)
    have hi : Hid (invG a = powF 64 1 a 254) := by rw [Hid, invG, if_neg q]
    clear q
    go_enter Tryz.func195, Tryz.ntmps195
    go_wp2_with fail
    refine HP.out.mono ?_
    rintro e w1 ⟨rfl, hb1⟩
    go_wp2_with fail
    go_ret2
    exact ⟨true, by rw [hi.out]; rfl, hb1⟩
set_option maxRecDepth 100000 in
set_option maxHeartbeats 4000000 in
theorem div_any (a b : UInt8) (w : World) : Calls Tryz.prog 161 #[.int .u8 (by8 a), .int .u8 (by8 b)] w (fun e w' => ∃ ok, e = .returned (.tuple #[.int .u8 (by8 (divG a b)), .bool ok]) ∧ Below w.heap.size w w') := by
  have HI := Lib.hid (inv_any b w)
  have HM := Lib.hid (fun W => mulG_any a (invG b) W)
  have hi : Hid (divG a b = mulG a (invG b)) := rfl
  generalize divG a b = d at *
  generalize invG b = i at *
  go_enter Tryz.func161, Tryz.ntmps161
  go_wp2_with fail
  refine HI.out.mono ?_
  rintro e w1 ⟨ok, rfl, hb1⟩
  go_wp2_with fail
  refine (HM.out w1).mono ?_
  rintro e w2 ⟨rfl, rfl⟩
  go_wp2_with fail
  go_ret2
  exact ⟨ok, by rw [hi.out]; rfl, hb1⟩
end Go.Proofs.YtpkapcijgldhhaaGreatDoor

namespace Go.Proofs.YtpkapcijgldhhaaGreatDoor
open Go.RowKit Go.Shelf
/-- a byte as a value -/
def b8 (x : UInt8) : Value := .int .u8 (by8 x)
theorem infoU8e : (Tryz.prog.info? 5).map (fun i => (i.zero, i.size, i.bytes)) = some (some (.int .u8 0), 1, 1) := by kernel_rfl
theorem make_u8 (n : Nat) (hn : n ≤ 1000000) (w : World) :
    (Instr.makeSlice 60 (.int .i64 (n : Int)) (.int .i64 (n : Int))).run Tryz.prog w = .ok (.slice (some ⟨w.heap.size, 0, none⟩) n n) (w.alloc (.cells ((List.replicate n (0 : UInt8)).map b8).toArray 5)) := by
  obtain ⟨i0, hi, hz0, hz1, hz2⟩ := info_parts infoU8e
  have h := run_make (P := Tryz.prog) w 60 5 i0 (.int .u8 0) Tryz.underlying60 hi hz0 .i64 .i64 n n (by omega) (Int.le_refl _) (by rw [hz2]; omega) (by omega)
  rw [h, hz1]
  simp only [Int.toNat_natCast, Nat.mul_one]
  have : madeCells (Value.int .u8 0).cells n = ((List.replicate n (0 : UInt8)).map b8).toArray := by
    apply Array.ext
    · simp [size_madeCells]
    · intro j h1 h2
      simp [madeCells, Value.cells, b8, by8, Nat.mod_one]
  rw [this]
/-- a row of bytes -/
def ByAt (w : World) (b o : Nat) (L : List UInt8) : Prop := ∀ k, k < L.length → w.cell? ⟨b, o + k, none⟩ = some (b8 (L.getD k 0))
theorem ByAt.below {w w' : World} {b o : Nat} {L : List UInt8} (h : ByAt w b o L) (hb : Below w.heap.size w w') : ByAt w' b o L := fun k hk => by
  rw [hb.cell (World.block_lt_of_cell? w _ (h k hk))]; exact h k hk
/-- the weights of the first k blocks -/
def wtsF (xs : List UInt8) (x : UInt8) (k : Nat) : List UInt8 := (List.range xs.length).map fun j => if j < k then divG (aboveG xs j x xs.length) (aboveG xs j (xs.getD j 0) xs.length) else 0
theorem wtsF_len (xs : List UInt8) (x : UInt8) (k : Nat) : (wtsF xs x k).length = xs.length := by unfold wtsF; simp
theorem wtsF_zero (xs : List UInt8) (x : UInt8) : wtsF xs x 0 = List.replicate xs.length 0 := by
  unfold wtsF
  simp only [Nat.not_lt_zero, if_false]
  apply List.ext_getElem <;> simp
theorem wtsF_set {xs : List UInt8} {x : UInt8} {k : Nat} : (wtsF xs x k).set k (divG (aboveG xs k x xs.length) (aboveG xs k (xs.getD k 0) xs.length)) = wtsF xs x (k + 1) := by
  apply List.ext_getElem
  · simp [wtsF]
  · intro i h1 h2
    rw [List.getElem_set]
    simp only [wtsF, List.getElem_map, List.getElem_range]
    by_cases e : k = i
    · subst e
      rw [if_pos rfl, if_pos (by omega)]
    · rw [if_neg e]
      by_cases hi : i < k
      · rw [if_pos hi, if_pos (by omega)]
      · rw [if_neg hi, if_neg (by omega)]
theorem boxr' (w : World) (c1 : List Value) (T1 : TypeId) : Below w.heap.size w (w.alloc (.cells c1.toArray T1)) ∧ Box (w.alloc (.cells c1.toArray T1)) w.heap.size c1 T1 :=
  ⟨(below_refl w).alloc (Nat.le_refl _) _, Box.new w c1 T1⟩
set_option maxRecDepth 100000 in
set_option maxHeartbeats 4000000 in
theorem interp_any (b o cap : Nat) (xs : List UInt8) (x : UInt8) (w : World) (hn : xs.length ≤ 255) (hx : ByAt w b o xs) :
    Calls Tryz.prog 121 #[.slice (some ⟨b, o, none⟩) xs.length cap, .int .u8 (by8 x)] w (fun e w' => ∃ G B, e = .returned (.func (.func 162) #[] #[.pointer (some ⟨B, 0, none⟩)]) ∧ Box w' B [.slice (some ⟨G, 0, none⟩) xs.length xs.length] 60 ∧ Box w' G ((wtsF xs x xs.length).map b8) 5 ∧ w.heap.size ≤ G ∧ w.heap.size ≤ B ∧ Below w.heap.size w w') := by
  have hmk := Lib.hid (make_u8 xs.length (by omega) w)
  have k0 : Below w.heap.size w (w.alloc (.cells ((List.replicate xs.length (0 : UInt8)).map b8).toArray 5)) := (Below.refl _ _).alloc (Nat.le_refl _) _
  have bG := Box.new w ((List.replicate xs.length (0 : UInt8)).map b8) 5
  generalize w.alloc (.cells ((List.replicate xs.length (0 : UInt8)).map b8).toArray 5) = W0 at *
  have hmk0 := hmk.out
  go_enter Tryz.func121, Tryz.ntmps121
  go_upto_region 2 with (fail)
  obtain ⟨kB, bB⟩ := boxr' W0 [.slice (some ⟨w.heap.size, 0, none⟩) xs.length xs.length] 60
  have bG1 := bG.below kB
  have k1 := step2 k0 kB
  have hB : w.heap.size + 1 ≤ W0.heap.size := by have := bG.lt; omega
  change Code.wp _ _ _ _ (W0.alloc (.cells [.slice (some ⟨w.heap.size, 0, none⟩) xs.length xs.length].toArray 60))
  generalize W0.alloc (.cells [.slice (some ⟨w.heap.size, 0, none⟩) xs.length xs.length].toArray 60) = W1 at *
  generalize W0.heap.size = B at *
  rw [← wtsF_zero xs x] at bG1
  clear hmk hmk0 k0 bG kB
  have hX := Lib.hid (fun W (hW : Below w.heap.size w W) => hx.below hW)
  clear hx
  go_wp2_with fail
  go_loopw [15] (fun v wr => ∃ k : Nat, k ≤ xs.length ∧ v = .int .i64 k ∧ Below w.heap.size w wr ∧ Box wr B [.slice (some ⟨w.heap.size, 0, none⟩) xs.length xs.length] 60 ∧ Box wr w.heap.size ((wtsF xs x k).map b8) 5) (fun v _ => xs.length - (intOf v).toNat)
  case atStart => exact ⟨0, by omega, rfl, k1, bB, bG1⟩
  case round =>
    clear k1 bB bG1
    obtain ⟨k, hk, rfl, kb, bB, bG⟩ := hrel
    by_cases hlt : k < xs.length
    · go_wp2_with fail
      go_loopw [7, 8, 20] (fun va vc vj wq => ∃ m : Nat, m ≤ xs.length ∧ vj = .int .i64 m ∧ va = .int .u8 (by8 (aboveG xs k x m)) ∧ vc = .int .u8 (by8 (aboveG xs k (xs.getD k 0) m)) ∧ Below w.heap.size w wq ∧ Box wq B [.slice (some ⟨w.heap.size, 0, none⟩) xs.length xs.length] 60 ∧ Box wq w.heap.size ((wtsF xs x k).map b8) 5) (fun _ _ vj _ => xs.length - (intOf vj).toNat)
      case atStart => exact ⟨0, by omega, rfl, rfl, rfl, kb, bB, bG⟩
      case round =>
        clear kb bB bG
        obtain ⟨m, hm, rfl, rfl, rfl, kb, bB, bG⟩ := hrel
        by_cases hmt : m < xs.length
        · have ck : wr.cell? ⟨b, o + k, none⟩ = some (.int .u8 (by8 (xs.getD k 0))) := hX.out _ kb k hlt
          have cm : wr.cell? ⟨b, o + m, none⟩ = some (.int .u8 (by8 (xs.getD m 0))) := hX.out _ kb m hmt
          by_cases hkm : m = k
          · have y : ((m : Int) != (k : Int)) = false := by rw [hkm]; simp
            have h1 : Hid (aboveG xs k x (m + 1) = aboveG xs k x m) := by rw [Hid, aboveG, if_pos hkm]
            have h2 : Hid (aboveG xs k (xs.getD k 0) (m + 1) = aboveG xs k (xs.getD k 0) m) := by rw [Hid, aboveG, if_pos hkm]
            clear ck cm hkm
            go_wp2_with fail
            go_roundw
            case rel => exact ⟨m + 1, by omega, by go_num, by rw [h1.out], by rw [h2.out], kb, bB, bG⟩
            case measure => simp [intOf]; omega
          · have y : ((m : Int) != (k : Int)) = true := by rw [bne_iff_ne]; omega
            have h1 : Hid (aboveG xs k x (m + 1) = mulG (aboveG xs k x m) (x ^^^ xs.getD m 0)) := by rw [Hid, aboveG, if_neg hkm]
            have h2 : Hid (aboveG xs k (xs.getD k 0) (m + 1) = mulG (aboveG xs k (xs.getD k 0) m) (xs.getD k 0 ^^^ xs.getD m 0)) := by rw [Hid, aboveG, if_neg hkm]
            generalize aboveG xs k x m = A1 at *
            generalize aboveG xs k (xs.getD k 0) m = A2 at *
            generalize xs.getD k 0 = xk at *
            generalize xs.getD m 0 = xm at *
            have HA1 := Lib.hid (fun W => add_any x xm W)
            have HM1 := Lib.hid (fun W => mulG_any A1 (x ^^^ xm) W)
            have HA2 := Lib.hid (fun W => add_any xk xm W)
            have HM2 := Lib.hid (fun W => mulG_any A2 (xk ^^^ xm) W)
            clear hkm
            go_upto_region 11 with (first
              | (go_at_call 160; refine (HA1.out _).mono ?_; rintro e w1 ⟨rfl, rfl⟩)
              | (go_at_call 159; refine (HM1.out _).mono ?_; rintro e w1 ⟨rfl, rfl⟩))
            go_region_with (first
              | (go_at_call 160; refine (HA2.out _).mono ?_; rintro e w2 ⟨rfl, rfl⟩)
              | (go_at_call 159; refine (HM2.out _).mono ?_; rintro e w2 ⟨rfl, rfl⟩))
            all_goals
              clear HA1 HA2 HM1 HM2 ck cm
              go_wp2_with fail
              go_roundw
              case rel => exact ⟨m + 1, by omega, by go_num, by rw [h1.out], by rw [h2.out], below_drewN kb _, bB, bG⟩
              case measure => simp [intOf]; omega
        · obtain rfl : m = xs.length := by omega
          have hset := Lib.hid (wtsF_set (xs := xs) (x := x) (k := k))
          have HD := Lib.hid (div_any (aboveG xs k x xs.length) (aboveG xs k (xs.getD k 0) xs.length))
          generalize aboveG xs k x xs.length = A1 at *
          generalize aboveG xs k (xs.getD k 0) xs.length = A2 at *
          have cB : wr.cell? ⟨B, 0, none⟩ = some (.slice (some ⟨w.heap.size, 0, none⟩) xs.length xs.length) := bB.cell 0
          have cBd : wr.drew.cell? ⟨B, 0, none⟩ = some (.slice (some ⟨w.heap.size, 0, none⟩) xs.length xs.length) := cB
          have bBd : Box wr.drew B [.slice (some ⟨w.heap.size, 0, none⟩) xs.length xs.length] 60 := bB
          have bGd : Box wr.drew w.heap.size ((wtsF xs x k).map b8) 5 := bG
          have hix : (0 : Int) ≤ (k : Int) ∧ (k : Int) < (xs.length : Int) := by omega
          have hlG : k < ((wtsF xs x k).map b8).length := by rw [List.length_map, wtsF_len]; exact hlt
          go_upto_region 13 with (fail)
          go_region_held3 (fun W => W.cell? ⟨B, 0, none⟩ = some (.slice (some ⟨w.heap.size, 0, none⟩) xs.length xs.length))
            (with_reducible assumption)
            ((go_at_call 161; refine (HD.out _).mono ?_; rintro e w2 ⟨ok, rfl, hb2⟩; have cB2 : w2.cell? ⟨B, 0, none⟩ = some (.slice (some ⟨w.heap.size, 0, none⟩) xs.length xs.length) := (bBd.below hb2).cell 0; have bB2 := bBd.below hb2; have cS : (w2.setCell ⟨w.heap.size, k, none⟩ (.int .u8 (by8 (divG A1 A2)))).cell? ⟨B, 0, none⟩ = some (.slice (some ⟨w.heap.size, 0, none⟩) xs.length xs.length) := (bB2.setOther (by omega) _).cell 0; have bG2 : Box w2 w.heap.size ((wtsF xs x k).map b8) 5 := bGd.below hb2; have fG2 := bG2.frozen k; have cG2 := bG2.cell k; rw [List.getElem?_eq_getElem hlG] at cG2))
          have k2 := step2 (below_drew0 kb) hb2
          have bB3 := bB2.setOther (E' := w.heap.size) (j := k) (by omega) (.int .u8 (by8 (divG A1 A2)))
          have bG3 := bG2.set (j := k) (.int .u8 (by8 (divG A1 A2)))
          rw [show (Value.int .u8 (by8 (divG A1 A2))) = b8 (divG A1 A2) from rfl, ← List.map_set, hset.out] at bG3
          have k3 := k2.setCell (p := ⟨w.heap.size, k, none⟩) (Nat.le_refl _) (.int .u8 (by8 (divG A1 A2)))
          clear cB cBd cB2 cS fG2 cG2 HD
          go_wp2_with fail
          go_roundw
          case rel => exact ⟨k + 1, by omega, by go_num, k3, bB3, bG3⟩
          case measure => simp [intOf]; omega
    · obtain rfl : k = xs.length := by omega
      go_wp2_with fail
      go_ret
      exact ⟨_, _, rfl, bB, bG, Nat.le_refl _, by omega, kb⟩
end Go.Proofs.YtpkapcijgldhhaaGreatDoor
