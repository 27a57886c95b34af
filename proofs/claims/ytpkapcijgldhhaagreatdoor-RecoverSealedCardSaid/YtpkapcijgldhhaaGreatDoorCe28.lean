/-
  The readable positions of an index: an iterator of the program.
-/
import Derived.RangeFuncNested
import Derived.RangeFuncBound
import Derived.RangeFuncCalls
import Derived.RangeFuncLeaves
import Derived.Shelf.Abstract
import Derived.Shelf.RegionOpen
import Derived.TacticsInMore
import Derived.LoopNIn
import Derived.LoopIn
import Derived.OwnWalkIn
import Derived.Sort.QuietIn
import Derived.Test.YtpkapcijgldhhaaGreatDoorCe22
namespace Go.Proofs.YtpkapcijgldhhaaGreatDoor
open Go.RowKit Go.Shelf
attribute [local go_sem] Oper.semAt_some
/-- the reels below k that have a part -/
noncomputable def ysR (F : List Fr) (s i : Int) (k : Nat) : List Nat := (List.range k).filter fun r => (ownR F s r i).isSome
theorem ys_skip {F : List Fr} {s i : Int} {k : Nat} (h : ownR F s k i = none) : ysR F s i (k + 1) = ysR F s i k := by
  unfold ysR; rw [List.range_succ, List.filter_append]; simp [h]
theorem ys_take {F : List Fr} {s i : Int} {k : Nat} {t : List UInt8} (h : ownR F s k i = some t) : ysR F s i (k + 1) = ysR F s i k ++ [k] := by
  unfold ysR; rw [List.range_succ, List.filter_append]; simp [h]
theorem ys_len {F : List Fr} {s i : Int} (k : Nat) : (ysR F s i k).length ≤ k := by
  have := List.length_filter_le (fun r : Nat => (ownR F s r i).isSome) (List.range k)
  rwa [List.length_range] at this
theorem ys_mem {F : List Fr} {s i : Int} {k r : Nat} (h : r < k) {t : List UInt8} (ho : ownR F s r i = some t) : r ∈ ysR F s i k := by
  unfold ysR; rw [List.mem_filter]; exact ⟨List.mem_range.2 h, by rw [ho]; rfl⟩
def SpR (F : List Fr) (s i : Int) (pre : List Nat) : Prop := ∃ k, k < 15 ∧ pre = ysR F s i k ++ [k] ∧ (ownR F s k i).isSome = true
noncomputable def rdEnc (F : List Fr) (s i : Int) (x : Nat) : Array Value := #[.int .i64 x, .string (bA' ((ownR F s x i).getD []))]
theorem rdEnc_size (F : List Fr) (s i : Int) (x : Nat) : (rdEnc F s i x).size = 2 := rfl
/-- what a round keeps: what lay below, and the five boxes of the iterator -/
def KpR (n B : Nat) (A C : World) : Prop := Below n A C ∧ ∀ j, B ≤ j → j < B + 5 → C.heap[j]? = A.heap[j]?
theorem KpR.trans {n B : Nat} {X Y Z : World} (h : KpR n B X Y) (k : KpR n B Y Z) : KpR n B X Z := ⟨h.1.trans k.1, fun j h1 h2 => (k.2 j h1 h2).trans (h.2 j h1 h2)⟩
theorem KpR.of_below {n B : Nat} {W W' : World} (h : Below W.heap.size W W') (hn : n ≤ W.heap.size) (hB : B + 5 ≤ W.heap.size) : KpR n B W W' := ⟨h.mono hn, fun j _ h2 => h.block j (by omega)⟩
structure RdBox (W : World) (B : Nat) (ar : Int) (v : Value) (s i : Int) : Prop where
  c : Box W B [.int .u32 ar, v] 25
  kd : Box W (B + 1) [.int .i64 68] 3
  se : Box W (B + 2) [.int .i64 s] 3
  ix : Box W (B + 3) [.int .i64 i] 3
  rl : Box W (B + 4) [.int .i64 15] 3
theorem RdBox.kp {W W' : World} {B n : Nat} {ar : Int} {v : Value} {s i : Int} (h : RdBox W B ar v s i) (k : KpR n B W W') : RdBox W' B ar v s i :=
  ⟨(k.2 B (by omega) (by omega)).trans h.c, (k.2 _ (by omega) (by omega)).trans h.kd, (k.2 _ (by omega) (by omega)).trans h.se, (k.2 _ (by omega) (by omega)).trans h.ix, (k.2 _ (by omega) (by omega)).trans h.rl⟩
theorem RdBox.lt {W : World} {B : Nat} {ar : Int} {v : Value} {s i : Int} (h : RdBox W B ar v s i) : B + 5 ≤ W.heap.size := h.rl.lt
theorem grown_of_below {W W' : World} (h : Below W.heap.size W W') : W.grownBy W' none := ⟨h.os, h.tape, h.output, h.size, fun k hk _ => h.block k hk⟩
set_option maxRecDepth 100000 in
set_option maxHeartbeats 4000000 in
theorem readable1_in (n : Nat) (hn : 1 ≤ n) (l B0 Bj : Nat) (ar : Int) (v : Value) (F : List Fr) (s i : Int) (w : World) (hr : FrRow w v F) (hF : SmallF F) (J Jx : List Nat → World → Prop) (hJa : AbidesFrom Bj J)
    (hY : ∀ pre x W, J pre W → pre.length < 15 → YieldAt Fence.wide (n - 1) Tryz.prog l (rdEnc F s i x) W fun e W' =>
      (e = .returned (.bool true) ∧ J (pre ++ [x]) W' ∧ KpR w.heap.size B0 W W') ∨ (e = .returned (.bool false) ∧ Jx (pre ++ [x]) W'))
    (W : World) (hW : Below w.heap.size w W) (hB : RdBox W B0 ar v s i) (h0 : J [] W) :
    CallsIn Fence.wide n Tryz.prog 69 #[.func (.yield l) #[] #[], .pointer (some ⟨B0 + 4, 0, none⟩), .pointer (some ⟨B0, 0, none⟩), .pointer (some ⟨B0 + 1, 0, none⟩), .pointer (some ⟨B0 + 2, 0, none⟩), .pointer (some ⟨B0 + 3, 0, none⟩)] W fun e W' => (∃ v, e = .returned v) ∧
      ((∃ ys, ys = ysR F s i 15 ∧ J ys W') ∨ (∃ pre, SpR F s i pre ∧ Jx pre W')) := by
  have HP := Lib.hid (show ∀ W', Below w.heap.size w W' → ∀ r, Calls Tryz.prog 70 #[.agg #[.int .u32 ar, v], .int .i64 68, .int .i64 s, .int .i64 r, .int .i64 i] W' (PayQ (payR 68 s r i none F) W') from fun W' hW r => payload_any ar v F 68 s r i W' (hr.below hW))
  have HF := Lib.hid hF
  clear hr hF
  refine callsIn_of_wp Tryz.func69 rfl trivial ?_ rfl
  simp only [Tryz.ntmps69, List.size_toArray, List.length_cons, List.length_nil, Nat.reduceAdd, Nat.reduceSub, Array.replicate_succ, Array.replicate_zero, List.push_toArray, List.append_toArray, List.nil_append, List.cons_append]
  have q4 : W.cell? ⟨B0 + 4, 0, none⟩ = some (.int .i64 15) := hB.rl.cell 0
  gi_wp2
  gi_loopw [12] (fun x wr => ∃ k : Nat, k ≤ 15 ∧ x = .int .i64 k ∧ Below w.heap.size w wr ∧ RdBox wr B0 ar v s i ∧ J (ysR F s i k) wr)
    (fun x _ => 15 - (intOf x).toNat)
  case atStart => exact ⟨0, by omega, rfl, hW, hB, h0⟩
  case round =>
    clear q4 hW hB h0
    obtain ⟨k, hk, rfl, hW, hB, hJk⟩ := hrel
    by_cases hlt : k < 15
    · obtain ⟨c0, c1⟩ := hB.c.cells2
      have c2 : wr.cell? ⟨B0 + 1, 0, none⟩ = some (.int .i64 68) := hB.kd.cell 0
      have c3 : wr.cell? ⟨B0 + 2, 0, none⟩ = some (.int .i64 s) := hB.se.cell 0
      have c4 : wr.cell? ⟨B0 + 3, 0, none⟩ = some (.int .i64 i) := hB.ix.cell 0
      have HQ := Lib.hid (HP.out _ hW k)
      gi_wp2_with fail
      refine ⟨trivial, (callsIn_wide.2 HQ.out).mono ?_⟩
      rintro e w1 ⟨he, hb1⟩
      have hWr := hW.size
      have hBl := hB.lt
      have kp1 : KpR w.heap.size B0 wr w1 := KpR.of_below hb1 hWr hBl
      have hW1 := hW.trans kp1.1
      have hB1 := hB.kp kp1
      have hJ1 := hJa _ _ _ none hJk (grown_of_below hb1) (fun r e => by cases e)
      have c2 : w1.cell? ⟨B0 + 1, 0, none⟩ = some (.int .i64 68) := hB1.kd.cell 0
      clear HQ c0 c1 c3 c4 hJk hB hW hb1 kp1 hWr hBl
      have hskip : ownR F s k i = none → ∃ k' : Nat, k' ≤ 15 ∧ IntKind.i64.wrap ((k : Int) + 1) = k' ∧ k' = k + 1 ∧ J (ysR F s i (k + 1)) w1 := fun ho => ⟨k + 1, by omega, by rw [IntWalk.i64_in _ (by omega)]; omega, rfl, by rw [ys_skip ho]; exact hJ1⟩
      rcases hp : payR 68 s k i none F with x | f
      · rw [hp] at he
        obtain rfl := he
        have hs : Hid (J (ysR F s i (k + 1)) w1) := by rw [Hid, ys_skip (own_err hp)]; exact hJ1
        obtain ⟨x1, x2⟩ := neq0 (show ¬ x = 0 by rcases pay_err _ _ hp with rfl | rfl <;> decide)
        clear hp hY hJ1 hskip
        gi_wp2_with fail
        go_roundw
        case rel => exact ⟨k + 1, by omega, by go_num, hW1, hB1, hs⟩
        case measure => simp [intOf]; omega
      · rw [hp] at he
        obtain rfl := he
        have hsz : (f.payload.size : Int) ≤ 1000 := by have := HF.out.2 f (pay_none hp).1; omega
        by_cases q0 : f.length < 0
        · have hs : Hid (J (ysR F s i (k + 1)) w1) := by rw [Hid, ys_skip (own_out hp (fun h => by omega))]; exact hJ1
          clear hp hY hJ1 hskip
          gi_wp2_with fail
          go_roundw
          case rel => exact ⟨k + 1, by omega, by go_num, hW1, hB1, hs⟩
          case measure => simp [intOf]; omega
        by_cases q1 : (f.payload.size : Int) < f.length
        · have hs : Hid (J (ysR F s i (k + 1)) w1) := by rw [Hid, ys_skip (own_out hp (fun h => by omega))]; exact hJ1
          clear hp hY hJ1 hskip
          gi_wp2_with fail
          go_roundw
          case rel => exact ⟨k + 1, by omega, by go_num, hW1, hB1, hs⟩
          case measure => simp [intOf]; omega
        have Ho := own_in hp (by omega)
        obtain ⟨n', hn'⟩ : ∃ n' : Nat, f.length = n' := ⟨f.length.toNat, by omega⟩
        rw [hn'] at Ho q0 q1
        rw [hn']
        rw [Int.toNat_natCast] at Ho
        have hn1 : n' ≤ f.payload.size := by omega
        have hn2 : (n' : Int) ≤ (f.payload.size : Int) := by omega
        have hn0 : (0 : Int) ≤ (n' : Int) := by omega
        have hx : bA' ((ownR F s k i).getD []) = f.payload.extract 0 n' := by rw [Ho, take_str]; rfl
        have hl15 : (ysR F s i k).length < 15 := Nat.lt_of_le_of_lt (ys_len k) hlt
        obtain ⟨fn, tmps, assign, body, hy, hR⟩ := hY _ k w1 hJ1 hl15
        have htk : Hid (ysR F s i (k + 1) = ysR F s i k ++ [k]) := ys_take Ho
        have hsm : Hid ((ownR F s k i).isSome = true) := by rw [Hid, Ho]; rfl
        unfold rdEnc at hy
        rw [hx] at hy
        clear hp hn' hY hJ1 hskip hx Ho
        generalize f.payload = pl at *
        gi_wp2_with fail
        refine hR.mono ?_
        rintro e W3 (⟨rfl, hJ3, hk3⟩ | ⟨rfl, hJx3⟩)
        · have hW3 := hW1.trans hk3.1
          have hB3 := hB1.kp hk3
          rw [← htk.out] at hJ3
          clear hR hy hk3
          gi_wp2_with fail
          go_roundw
          case rel => exact ⟨k + 1, by omega, by go_num, hW3, hB3, hJ3⟩
          case measure => simp [intOf]; omega
        · clear hR hy
          gi_wp2_with fail
          refine bodyPost_ret (results_none rfl _ _ _) rfl ?_
          exact ⟨⟨_, rfl⟩, .inr ⟨_, ⟨k, hlt, rfl, hsm⟩, hJx3⟩⟩
    · obtain rfl : k = 15 := by omega
      gi_wp2_with fail
      go_end0
      exact ⟨⟨_, rfl⟩, .inl ⟨_, rfl, hJk⟩⟩
theorem readable_any (ar : Int) (v : Value) (s i : Int) (w : World) :
    Calls Tryz.prog 37 #[.agg #[.int .u32 ar, v], .int .i64 68, .int .i64 s, .int .i64 i, .int .i64 15] w (fun e w' =>
      e = .returned (.func (.func 69) #[] #[.pointer (some ⟨w.heap.size + 4, 0, none⟩), .pointer (some ⟨w.heap.size, 0, none⟩), .pointer (some ⟨w.heap.size + 1, 0, none⟩), .pointer (some ⟨w.heap.size + 2, 0, none⟩), .pointer (some ⟨w.heap.size + 3, 0, none⟩)]) ∧
      RdBox w' w.heap.size ar v s i ∧ Below w.heap.size w w') := by
  obtain ⟨k0, b0⟩ := boxr w [.int .u32 ar, v] 25
  obtain ⟨k1, b1⟩ := boxr (w.alloc (.cells [.int .u32 ar, v].toArray 25)) [.int .i64 68] 3
  obtain ⟨k2, b2⟩ := boxr ((w.alloc (.cells [.int .u32 ar, v].toArray 25)).alloc (.cells [.int .i64 68].toArray 3)) [.int .i64 s] 3
  obtain ⟨k3, b3⟩ := boxr (((w.alloc (.cells [.int .u32 ar, v].toArray 25)).alloc (.cells [.int .i64 68].toArray 3)).alloc (.cells [.int .i64 s].toArray 3)) [.int .i64 i] 3
  obtain ⟨k4, b4⟩ := boxr ((((w.alloc (.cells [.int .u32 ar, v].toArray 25)).alloc (.cells [.int .i64 68].toArray 3)).alloc (.cells [.int .i64 s].toArray 3)).alloc (.cells [.int .i64 i].toArray 3)) [.int .i64 15] 3
  have B0 := (((b0.below k1).below k2).below k3).below k4
  have B1 := ((b1.below k2).below k3).below k4
  have B2 := (b2.below k3).below k4
  have B3 := b3.below k4
  have kb := step2 (step2 (step2 (step2 k0 k1) k2) k3) k4
  clear k0 k1 k2 k3 k4 b0 b1 b2 b3
  simp only [World.size_alloc] at B1 B2 B3 b4
  go_enter Tryz.func37, Tryz.ntmps37
  go_wp2_with fail
  go_ret
  exact ⟨rfl, ⟨B0, B1, B2, B3, b4⟩, kb⟩
end Go.Proofs.YtpkapcijgldhhaaGreatDoor
