/-
  The readable positions of an index: an iterator of the program.
  The part of a directory, from a reel or from the others, in the program: a range over the iterator.
  The text of a directory from a reel, in the reference.
  The text of a directory from a reel, in the program.
-/
import Derived.RangeFuncNested
import Derived.RangeFuncBound
import Derived.RangeFuncCalls
import Derived.RangeFuncLeaves
import Derived.Shelf.Abstract
import Derived.Shelf.RegionOpen
import Derived.TacticsInMore
import Derived.LoopNIn
import Derived.LoopIn
import Derived.OwnWalkIn
import Derived.Sort.QuietIn
import Derived.Test.YtpkapcijgldhhaaGreatDoorMh
import Derived.Test.YtpkapcijgldhhaaGreatDoorMe
namespace Go.Proofs.YtpkapcijgldhhaaGreatDoor
open Go.RowKit Go.Shelf
attribute [local go_sem] Oper.semAt_some
/-- the reels below k that have a part -/
noncomputable def ysR (F : List Fr) (s i : Int) (k : Nat) : List Nat := (List.range k).filter fun r => (ownR F s r i).isSome
theorem ys_skip {F : List Fr} {s i : Int} {k : Nat} (h : ownR F s k i = none) : ysR F s i (k + 1) = ysR F s i k := by
  unfold ysR; rw [List.range_succ, List.filter_append]; simp [h]
theorem ys_take {F : List Fr} {s i : Int} {k : Nat} {t : List UInt8} (h : ownR F s k i = some t) : ysR F s i (k + 1) = ysR F s i k ++ [k] := by
  unfold ysR; rw [List.range_succ, List.filter_append]; simp [h]
theorem ys_len {F : List Fr} {s i : Int} (k : Nat) : (ysR F s i k).length ≤ k := by
  have := List.length_filter_le (fun r : Nat => (ownR F s r i).isSome) (List.range k)
  rwa [List.length_range] at this
theorem ys_mem {F : List Fr} {s i : Int} {k r : Nat} (h : r < k) {t : List UInt8} (ho : ownR F s r i = some t) : r ∈ ysR F s i k := by
  unfold ysR; rw [List.mem_filter]; exact ⟨List.mem_range.2 h, by rw [ho]; rfl⟩
def SpR (F : List Fr) (s i : Int) (pre : List Nat) : Prop := ∃ k, k < 15 ∧ pre = ysR F s i k ++ [k] ∧ (ownR F s k i).isSome = true
noncomputable def rdEnc (F : List Fr) (s i : Int) (x : Nat) : Array Value := #[.int .i64 x, .string (bA' ((ownR F s x i).getD []))]
theorem rdEnc_size (F : List Fr) (s i : Int) (x : Nat) : (rdEnc F s i x).size = 2 := rfl
/-- what a round keeps: what lay below, and the five boxes of the iterator -/
def KpR (n B : Nat) (A C : World) : Prop := Below n A C ∧ ∀ j, B ≤ j → j < B + 5 → C.heap[j]? = A.heap[j]?
theorem KpR.trans {n B : Nat} {X Y Z : World} (h : KpR n B X Y) (k : KpR n B Y Z) : KpR n B X Z := ⟨h.1.trans k.1, fun j h1 h2 => (k.2 j h1 h2).trans (h.2 j h1 h2)⟩
theorem KpR.of_below {n B : Nat} {W W' : World} (h : Below W.heap.size W W') (hn : n ≤ W.heap.size) (hB : B + 5 ≤ W.heap.size) : KpR n B W W' := ⟨h.mono hn, fun j _ h2 => h.block j (by omega)⟩
structure RdBox (W : World) (B : Nat) (ar : Int) (v : Value) (s i : Int) : Prop where
  c : Box W B [.int .u32 ar, v] 25
  kd : Box W (B + 1) [.int .i64 68] 3
  se : Box W (B + 2) [.int .i64 s] 3
  ix : Box W (B + 3) [.int .i64 i] 3
  rl : Box W (B + 4) [.int .i64 15] 3
theorem RdBox.kp {W W' : World} {B n : Nat} {ar : Int} {v : Value} {s i : Int} (h : RdBox W B ar v s i) (k : KpR n B W W') : RdBox W' B ar v s i :=
  ⟨(k.2 B (by omega) (by omega)).trans h.c, (k.2 _ (by omega) (by omega)).trans h.kd, (k.2 _ (by omega) (by omega)).trans h.se, (k.2 _ (by omega) (by omega)).trans h.ix, (k.2 _ (by omega) (by omega)).trans h.rl⟩
theorem RdBox.lt {W : World} {B : Nat} {ar : Int} {v : Value} {s i : Int} (h : RdBox W B ar v s i) : B + 5 ≤ W.heap.size := h.rl.lt
theorem grown_of_below {W W' : World} (h : Below W.heap.size W W') : W.grownBy W' none := ⟨h.os, h.tape, h.output, h.size, fun k hk _ => h.block k hk⟩
set_option maxRecDepth 100000 in
set_option maxHeartbeats 4000000 in
theorem readable1_in (n : Nat) (hn : 1 ≤ n) (l B0 Bj : Nat) (ar : Int) (v : Value) (F : List Fr) (s i : Int) (w : World) (hr : FrRow w v F) (hF : SmallF F) (J Jx : List Nat → World → Prop) (hJa : AbidesFrom Bj J)
    (hY : ∀ pre x W, J pre W → pre.length < 15 → YieldAt Fence.wide (n - 1) Tryz.prog l (rdEnc F s i x) W fun e W' =>
      (e = .returned (.bool true) ∧ J (pre ++ [x]) W' ∧ KpR w.heap.size B0 W W') ∨ (e = .returned (.bool false) ∧ Jx (pre ++ [x]) W'))
    (W : World) (hW : Below w.heap.size w W) (hB : RdBox W B0 ar v s i) (h0 : J [] W) :
    CallsIn Fence.wide n Tryz.prog 69 #[.func (.yield l) #[] #[], .pointer (some ⟨B0 + 4, 0, none⟩), .pointer (some ⟨B0, 0, none⟩), .pointer (some ⟨B0 + 1, 0, none⟩), .pointer (some ⟨B0 + 2, 0, none⟩), .pointer (some ⟨B0 + 3, 0, none⟩)] W fun e W' => (∃ v, e = .returned v) ∧
      ((∃ ys, ys = ysR F s i 15 ∧ J ys W') ∨ (∃ pre, SpR F s i pre ∧ Jx pre W')) := by
  have HP := Lib.hid (show ∀ W', Below w.heap.size w W' → ∀ r, Calls Tryz.prog 70 #[.agg #[.int .u32 ar, v], .int .i64 68, .int .i64 s, .int .i64 r, .int .i64 i] W' (PayQ (payR 68 s r i none F) W') from fun W' hW r => payload_any ar v F 68 s r i W' (hr.below hW))
  have HF := Lib.hid hF
  clear hr hF
  refine callsIn_of_wp Tryz.func69 rfl trivial ?_ rfl
  simp only [Tryz.ntmps69, List.size_toArray, List.length_cons, List.length_nil, Nat.reduceAdd, Nat.reduceSub, Array.replicate_succ, Array.replicate_zero, List.push_toArray, List.append_toArray, List.nil_append, List.cons_append]
  have q4 : W.cell? ⟨B0 + 4, 0, none⟩ = some (.int .i64 15) := hB.rl.cell 0
  gi_wp2
  gi_loopw [12] (fun x wr => ∃ k : Nat, k ≤ 15 ∧ x = .int .i64 k ∧ Below w.heap.size w wr ∧ RdBox wr B0 ar v s i ∧ J (ysR F s i k) wr)
    (fun x _ => 15 - (intOf x).toNat)
  case atStart => exact ⟨0, by omega, rfl, hW, hB, h0⟩
  case round =>
    clear q4 hW hB h0
    obtain ⟨k, hk, rfl, hW, hB, hJk⟩ := hrel
    by_cases hlt : k < 15
    · obtain ⟨c0, c1⟩ := hB.c.cells2
      have c2 : wr.cell? ⟨B0 + 1, 0, none⟩ = some (.int .i64 68) := hB.kd.cell 0
      have c3 : wr.cell? ⟨B0 + 2, 0, none⟩ = some (.int .i64 s) := hB.se.cell 0
      have c4 : wr.cell? ⟨B0 + 3, 0, none⟩ = some (.int .i64 i) := hB.ix.cell 0
      have HQ := Lib.hid (HP.out _ hW k)
      gi_wp2_with fail
      refine ⟨trivial, (callsIn_wide.2 HQ.out).mono ?_⟩
      rintro e w1 ⟨he, hb1⟩
      have hWr := hW.size
      have hBl := hB.lt
      have kp1 : KpR w.heap.size B0 wr w1 := KpR.of_below hb1 hWr hBl
      have hW1 := hW.trans kp1.1
      have hB1 := hB.kp kp1
      have hJ1 := hJa _ _ _ none hJk (grown_of_below hb1) (fun r e => by cases e)
      have c2 : w1.cell? ⟨B0 + 1, 0, none⟩ = some (.int .i64 68) := hB1.kd.cell 0
      clear HQ c0 c1 c3 c4 hJk hB hW hb1 kp1 hWr hBl
      have hskip : ownR F s k i = none → ∃ k' : Nat, k' ≤ 15 ∧ IntKind.i64.wrap ((k : Int) + 1) = k' ∧ k' = k + 1 ∧ J (ysR F s i (k + 1)) w1 := fun ho => ⟨k + 1, by omega, by rw [IntWalk.i64_in _ (by omega)]; omega, rfl, by rw [ys_skip ho]; exact hJ1⟩
      rcases hp : payR 68 s k i none F with x | f
      · rw [hp] at he
        obtain rfl := he
        have hs : Hid (J (ysR F s i (k + 1)) w1) := by rw [Hid, ys_skip (own_err hp)]; exact hJ1
        obtain ⟨x1, x2⟩ := neq0 (show ¬ x = 0 by rcases pay_err _ _ hp with rfl | rfl <;> decide)
        clear hp hY hJ1 hskip
        gi_wp2_with fail
        go_roundw
        case rel => exact ⟨k + 1, by omega, by go_num, hW1, hB1, hs⟩
        case measure => simp [intOf]; omega
      · rw [hp] at he
        obtain rfl := he
        have hsz : (f.payload.size : Int) ≤ 1000 := by have := HF.out.2 f (pay_none hp).1; omega
        by_cases q0 : f.length < 0
        · have hs : Hid (J (ysR F s i (k + 1)) w1) := by rw [Hid, ys_skip (own_out hp (fun h => by omega))]; exact hJ1
          clear hp hY hJ1 hskip
          gi_wp2_with fail
          go_roundw
          case rel => exact ⟨k + 1, by omega, by go_num, hW1, hB1, hs⟩
          case measure => simp [intOf]; omega
        by_cases q1 : (f.payload.size : Int) < f.length
        · have hs : Hid (J (ysR F s i (k + 1)) w1) := by rw [Hid, ys_skip (own_out hp (fun h => by omega))]; exact hJ1
          clear hp hY hJ1 hskip
          gi_wp2_with fail
          go_roundw
          case rel => exact ⟨k + 1, by omega, by go_num, hW1, hB1, hs⟩
          case measure => simp [intOf]; omega
        have Ho := own_in hp (by omega)
        obtain ⟨n', hn'⟩ : ∃ n' : Nat, f.length = n' := ⟨f.length.toNat, by omega⟩
        rw [hn'] at Ho q0 q1
        rw [hn']
        rw [Int.toNat_natCast] at Ho
        have hn1 : n' ≤ f.payload.size := by omega
        have hn2 : (n' : Int) ≤ (f.payload.size : Int) := by omega
        have hn0 : (0 : Int) ≤ (n' : Int) := by omega
        have hx : bA' ((ownR F s k i).getD []) = f.payload.extract 0 n' := by rw [Ho, take_str]; rfl
        have hl15 : (ysR F s i k).length < 15 := Nat.lt_of_le_of_lt (ys_len k) hlt
        obtain ⟨fn, tmps, assign, body, hy, hR⟩ := hY _ k w1 hJ1 hl15
        have htk : Hid (ysR F s i (k + 1) = ysR F s i k ++ [k]) := ys_take Ho
        have hsm : Hid ((ownR F s k i).isSome = true) := by rw [Hid, Ho]; rfl
        unfold rdEnc at hy
        rw [hx] at hy
        clear hp hn' hY hJ1 hskip hx Ho
        generalize f.payload = pl at *
        gi_wp2_with fail
        refine hR.mono ?_
        rintro e W3 (⟨rfl, hJ3, hk3⟩ | ⟨rfl, hJx3⟩)
        · have hW3 := hW1.trans hk3.1
          have hB3 := hB1.kp hk3
          rw [← htk.out] at hJ3
          clear hR hy hk3
          gi_wp2_with fail
          go_roundw
          case rel => exact ⟨k + 1, by omega, by go_num, hW3, hB3, hJ3⟩
          case measure => simp [intOf]; omega
        · clear hR hy
          gi_wp2_with fail
          refine bodyPost_ret (results_none rfl _ _ _) rfl ?_
          exact ⟨⟨_, rfl⟩, .inr ⟨_, ⟨k, hlt, rfl, hsm⟩, hJx3⟩⟩
    · obtain rfl : k = 15 := by omega
      gi_wp2_with fail
      go_end0
      exact ⟨⟨_, rfl⟩, .inl ⟨_, rfl, hJk⟩⟩
theorem readable_any (ar : Int) (v : Value) (s i : Int) (w : World) :
    Calls Tryz.prog 37 #[.agg #[.int .u32 ar, v], .int .i64 68, .int .i64 s, .int .i64 i, .int .i64 15] w (fun e w' =>
      e = .returned (.func (.func 69) #[] #[.pointer (some ⟨w.heap.size + 4, 0, none⟩), .pointer (some ⟨w.heap.size, 0, none⟩), .pointer (some ⟨w.heap.size + 1, 0, none⟩), .pointer (some ⟨w.heap.size + 2, 0, none⟩), .pointer (some ⟨w.heap.size + 3, 0, none⟩)]) ∧
      RdBox w' w.heap.size ar v s i ∧ Below w.heap.size w w') := by
  obtain ⟨k0, b0⟩ := boxr w [.int .u32 ar, v] 25
  obtain ⟨k1, b1⟩ := boxr (w.alloc (.cells [.int .u32 ar, v].toArray 25)) [.int .i64 68] 3
  obtain ⟨k2, b2⟩ := boxr ((w.alloc (.cells [.int .u32 ar, v].toArray 25)).alloc (.cells [.int .i64 68].toArray 3)) [.int .i64 s] 3
  obtain ⟨k3, b3⟩ := boxr (((w.alloc (.cells [.int .u32 ar, v].toArray 25)).alloc (.cells [.int .i64 68].toArray 3)).alloc (.cells [.int .i64 s].toArray 3)) [.int .i64 i] 3
  obtain ⟨k4, b4⟩ := boxr ((((w.alloc (.cells [.int .u32 ar, v].toArray 25)).alloc (.cells [.int .i64 68].toArray 3)).alloc (.cells [.int .i64 s].toArray 3)).alloc (.cells [.int .i64 i].toArray 3)) [.int .i64 15] 3
  have B0 := (((b0.below k1).below k2).below k3).below k4
  have B1 := ((b1.below k2).below k3).below k4
  have B2 := (b2.below k3).below k4
  have B3 := b3.below k4
  have kb := step2 (step2 (step2 (step2 k0 k1) k2) k3) k4
  clear k0 k1 k2 k3 k4 b0 b1 b2 b3
  simp only [World.size_alloc] at B1 B2 B3 b4
  go_enter Tryz.func37, Tryz.ntmps37
  go_wp2_with fail
  go_ret
  exact ⟨rfl, ⟨B0, B1, B2, B3, b4⟩, kb⟩
end Go.Proofs.YtpkapcijgldhhaaGreatDoor

namespace Go.Proofs.YtpkapcijgldhhaaGreatDoor
open Go.RowKit Go.Shelf
attribute [local go_sem] Oper.semAt_some
/-- the text that is found among the reels pre: the last text, whether there is one, whether all are alike -/
structure GS where
  t : List UInt8
  found : Bool
  same : Bool
def gStep (T : Nat → List UInt8) (g : GS) (x : Nat) : GS := ⟨T x, true, g.same && (!g.found || decide (T x = g.t))⟩
def gS (T : Nat → List UInt8) (pre : List Nat) : GS := pre.foldl (gStep T) ⟨[], false, true⟩
theorem gS_snoc (T : Nat → List UInt8) (pre : List Nat) (x : Nat) : gS T (pre ++ [x]) = gStep T (gS T pre) x := by simp [gS]
noncomputable def tOf (F : List Fr) (s i : Int) (x : Nat) : List UInt8 := (ownR F s x i).getD []
theorem gS_fold (F : List Fr) (s i : Int) : ∀ k, match foldS F s i k with
    | none => (gS (tOf F s i) (ysR F s i k)).found = true ∧ (gS (tOf F s i) (ysR F s i k)).same = false
    | some none => gS (tOf F s i) (ysR F s i k) = ⟨[], false, true⟩
    | some (some c) => gS (tOf F s i) (ysR F s i k) = ⟨c, true, true⟩
  | 0 => rfl
  | k + 1 => by
    have ih := gS_fold F s i k
    rcases ho : ownR F s k i with _ | t
    · rw [ys_skip ho, foldS, ho]
      rcases hf : foldS F s i k with _ | _ | c <;> (rw [hf] at ih; exact ih)
    · have ht : tOf F s i k = t := by rw [tOf, ho]; rfl
      rw [ys_take ho, gS_snoc, foldS, ho]
      rcases hf : foldS F s i k with _ | _ | c
      · rw [hf] at ih
        exact ⟨rfl, by show (_ && _) = false; rw [ih.2]; rfl⟩
      · rw [hf] at ih
        have ih : gS (tOf F s i) (ysR F s i k) = ⟨[], false, true⟩ := ih
        show gStep _ _ _ = _
        rw [ih, gStep, ht]; rfl
      · rw [hf] at ih
        have ih : gS (tOf F s i) (ysR F s i k) = ⟨c, true, true⟩ := ih
        show match (if isB (t = c) then some (some t) else none) with | none => _ | some none => _ | some (some c) => _
        by_cases hq : t = c
        · rw [isB_yes hq, if_pos rfl]
          show gStep _ _ _ = _
          rw [ih, gStep, ht, decide_eq_true hq]; rfl
        · rw [isB_no hq, if_neg (by decide)]
          refine ⟨rfl, ?_⟩
          show (_ && _) = false
          rw [ih, ht, decide_eq_false hq]; rfl
def PartP (o : Option (List UInt8)) (w : World) (e : Ending) (w' : World) : Prop :=
  (match o with
    | some t => e = .returned (.tuple #[.string (bA' t), .bool true])
    | none => ∃ x, e = .returned (.tuple #[.string x, .bool false])) ∧ Below w.heap.size w w'
theorem gS_end {F : List Fr} {s i : Int} {fm : Nat} (ho : ownR F s fm i = none) : match partR F s fm i with
    | none => ((gS (tOf F s i) (ysR F s i 15)).found && (gS (tOf F s i) (ysR F s i 15)).same) = false
    | some c => gS (tOf F s i) (ysR F s i 15) = ⟨c, true, true⟩ := by
  rw [part_fold ho]
  have h := gS_fold F s i 15
  rcases hf : foldS F s i 15 with _ | _ | c
  · rw [hf] at h
    show (_ && _) = false
    rw [h.1, h.2]; rfl
  · rw [hf] at h
    have h : gS (tOf F s i) (ysR F s i 15) = ⟨[], false, true⟩ := h
    show (_ && _) = false
    rw [h]; rfl
  · rw [hf] at h
    exact h
theorem box_own {β : Type} (B : Nat) (T : TypeId) (f : β → List Value) : Own (fun s W => Box W B (f s) T) := fun s X Y row hs hg hrow =>
  (hg.block B hs.lt (fun e' => by obtain ⟨o, ho, hc⟩ := hrow B e'.symm; rw [show X.heap[B]? = _ from hs] at ho; cases ho; cases hc)).trans hs
/-- the boxes of part's variables -/
structure PtBox (W : World) (A fm : Nat) (g : GS) : Prop where
  fr : Box W (A + 1) [.int .i64 (fm : Int)] 3
  rt : Box W (A + 1 + 1) [.string ⟨#[]⟩] 9
  ro : Box W (A + 1 + 1 + 1) [.bool false] 4
  co : Box W (A + 1 + 1 + 1 + 1) [.string (bA' g.t)] 9
  fo : Box W (A + 1 + 1 + 1 + 1 + 1) [.bool g.found] 4
  sa : Box W (A + 1 + 1 + 1 + 1 + 1 + 1) [.bool g.same] 4
structure RtBox (W : World) (A : Nat) (t : List UInt8) (b : Bool) : Prop where
  rt : Box W (A + 1 + 1) [.string (bA' t)] 9
  ro : Box W (A + 1 + 1 + 1) [.bool b] 4
theorem Box.kept {W W' : World} {B : Nat} {cs : List Value} {T : TypeId} {row : Option Nat} (h : Box W B cs T) (hg : W.grownBy W' row) (hr : ∀ r, row = some r → ∃ o : Obj, W.heap[r]? = some o ∧ o.isCells = false) : Box W' B cs T :=
  (hg.block B h.lt (fun e' => by obtain ⟨o, ho, hc⟩ := hr B e'.symm; rw [show W.heap[B]? = _ from h] at ho; cases ho; cases hc)).trans h
theorem pt_own {β : Type} (n A fm : Nat) (f : β → GS) : OwnFrom n (fun s W => PtBox W A fm (f s)) := fun _ _ _ _ h hg hr =>
  have q := fun r e => (hr r e).2
  ⟨h.fr.kept hg q, h.rt.kept hg q, h.ro.kept hg q, h.co.kept hg q, h.fo.kept hg q, h.sa.kept hg q⟩
theorem rt_own {β : Type} (n A : Nat) (t : List UInt8) (b : Bool) : OwnFrom n (fun (_ : β) W => RtBox W A t b) := fun _ _ _ _ h hg hr =>
  have q := fun r e => (hr r e).2
  ⟨h.rt.kept hg q, h.ro.kept hg q⟩
theorem PtBox.lt {W : World} {A fm : Nat} {g : GS} (h : PtBox W A fm g) : A + 7 ≤ W.heap.size := h.sa.lt
theorem PtBox.step {W : World} {A fm : Nat} {g : GS} (h : PtBox W A fm g) (t : List UInt8) (b : Bool) :
    PtBox (((W.setCell ⟨A + 1 + 1 + 1 + 1 + 1 + 1, 0, none⟩ (.bool b)).setCell ⟨A + 1 + 1 + 1 + 1, 0, none⟩ (.string (bA' t))).setCell ⟨A + 1 + 1 + 1 + 1 + 1, 0, none⟩ (.bool true)) A fm ⟨t, true, b⟩ :=
  ⟨((h.fr.setOther (j := 0) (by omega) _).setOther (j := 0) (by omega) _).setOther (j := 0) (by omega) _,
   ((h.rt.setOther (j := 0) (by omega) _).setOther (j := 0) (by omega) _).setOther (j := 0) (by omega) _,
   ((h.ro.setOther (j := 0) (by omega) _).setOther (j := 0) (by omega) _).setOther (j := 0) (by omega) _,
   ((h.co.setOther (j := 0) (by omega) _).set (j := 0) _).setOther (j := 0) (by omega) _,
   ((h.fo.setOther (j := 0) (by omega) _).setOther (j := 0) (by omega) _).set (j := 0) _,
   ((h.sa.set (j := 0) _).setOther (j := 0) (by omega) _).setOther (j := 0) (by omega) _⟩
theorem KpR.set {n B k : Nat} {W W' : World} (h : KpR n B W W') (hn : n ≤ k) (hk : k < B) (u : Value) : KpR n B W (W'.setCell ⟨k, 0, none⟩ u) :=
  ⟨h.1.setCell (p := ⟨k, 0, none⟩) hn u, fun j h1 h2 =>
    (Below.heap_setCell _ _ _ j (show j ≠ k by omega)).trans (h.2 j h1 h2)⟩
theorem readable_stops (n B0 : Nat) (hn : 1 ≤ n) (ar : Int) (v : Value) (F : List Fr) (s i : Int) (w W2 : World) (hr : FrRow w v F) (hF : SmallF F) (kb2 : Below w.heap.size w W2) (hB : RdBox W2 B0 ar v s i) :
    SeqStopsK Fence.wide n Tryz.prog 69 #[.pointer (some ⟨B0 + 4, 0, none⟩), .pointer (some ⟨B0, 0, none⟩), .pointer (some ⟨B0 + 1, 0, none⟩), .pointer (some ⟨B0 + 2, 0, none⟩), .pointer (some ⟨B0 + 3, 0, none⟩)]
      (rdEnc F s i) (KpR w.heap.size B0) (fun ys => ys = ysR F s i 15) (SpR F s i) 15 W2 := by
  intro l J Jx W hW hJ _ hY h0
  exact readable1_in n hn l B0 W.heap.size ar v F s i w hr hF J Jx hJ hY W (kb2.trans (hW.mono kb2.size)) (hB.kp (KpR.of_below hW kb2.size hB.lt)) h0
def EndG (R : Option (List UInt8)) (g : GS) : Prop := match R with | none => (g.found && g.same) = false | some c => g = ⟨c, true, true⟩
theorem part_no {R : Option (List UInt8)} {g : GS} (h : EndG R g) (hf : (g.found && g.same) = false) {x : ByteArray} {w w' : World} (hb : Below w.heap.size w w') : PartP R w (.returned (.tuple #[.string x, .bool false])) w' := by
  cases R with
  | none => exact ⟨⟨x, rfl⟩, hb⟩
  | some c =>
    have h : g = ⟨c, true, true⟩ := h
    rw [h] at hf; cases hf
theorem part_yes {R : Option (List UInt8)} {gt : List UInt8} (h : EndG R ⟨gt, true, true⟩) {w w' : World} (hb : Below w.heap.size w w') : PartP R w (.returned (.tuple #[.string (bA' gt), .bool true])) w' := by
  cases R with
  | none => cases h
  | some c =>
    have h : GS.mk gt true true = ⟨c, true, true⟩ := h
    injection h with h; subst h; exact ⟨rfl, hb⟩
set_option maxRecDepth 100000 in
set_option maxHeartbeats 1000000 in
theorem part_any (ar : Int) (v : Value) (F : List Fr) (s i : Int) (fm : Nat) (hfm : fm < 15) (w : World) (hr : FrRow w v F) (hF : SmallF F) :
    Calls Tryz.prog 58 #[.agg #[.int .u32 ar, v], .int .i64 s, .int .i64 fm, .int .i64 i] w (PartP (partR F s fm i) w) := by
  refine (callsIn_wide (n := 9)).1 ?_
  refine callsIn_of_wp_marks Tryz.func58 rfl trivial ?_ rfl
  simp only [Tryz.ntmps58, List.size_toArray, List.length_cons, List.length_nil, Nat.reduceAdd, Nat.reduceSub, Array.replicate_succ, Array.replicate_zero, List.push_toArray, List.append_toArray, List.nil_append, List.cons_append]
  gi_wp2_with fail
  refine ⟨trivial, ?_⟩
  obtain ⟨k0, b0⟩ := boxr w [.int .u32 ar, v] 25
  obtain ⟨k1, b1⟩ := boxr (w.alloc (.cells [.int .u32 ar, v].toArray 25)) [.int .i64 (fm : Int)] 3
  obtain ⟨k2, b2⟩ := boxr ((w.alloc (.cells [.int .u32 ar, v].toArray 25)).alloc (.cells [.int .i64 (fm : Int)].toArray 3)) [.string ⟨#[]⟩] 9
  obtain ⟨k3, b3⟩ := boxr (((w.alloc (.cells [.int .u32 ar, v].toArray 25)).alloc (.cells [.int .i64 (fm : Int)].toArray 3)).alloc (.cells [.string ⟨#[]⟩].toArray 9)) [.bool false] 4
  obtain ⟨k4, b4⟩ := boxr ((((w.alloc (.cells [.int .u32 ar, v].toArray 25)).alloc (.cells [.int .i64 (fm : Int)].toArray 3)).alloc (.cells [.string ⟨#[]⟩].toArray 9)).alloc (.cells [.bool false].toArray 4)) [.string ⟨#[]⟩] 9
  obtain ⟨k5, b5⟩ := boxr (((((w.alloc (.cells [.int .u32 ar, v].toArray 25)).alloc (.cells [.int .i64 (fm : Int)].toArray 3)).alloc (.cells [.string ⟨#[]⟩].toArray 9)).alloc (.cells [.bool false].toArray 4)).alloc (.cells [.string ⟨#[]⟩].toArray 9)) [.bool false] 4
  obtain ⟨k6, b6⟩ := boxr ((((((w.alloc (.cells [.int .u32 ar, v].toArray 25)).alloc (.cells [.int .i64 (fm : Int)].toArray 3)).alloc (.cells [.string ⟨#[]⟩].toArray 9)).alloc (.cells [.bool false].toArray 4)).alloc (.cells [.string ⟨#[]⟩].toArray 9)).alloc (.cells [.bool false].toArray 4)) [.bool true] 4
  have kb := step2 (step2 (step2 (step2 (step2 (step2 k0 k1) k2) k3) k4) k5) k6
  have B1 := ((((b1.below k2).below k3).below k4).below k5).below k6
  have B2 := (((b2.below k3).below k4).below k5).below k6
  have B3 := ((b3.below k4).below k5).below k6
  have B4 := (b4.below k5).below k6
  have B5 := b5.below k6
  have B6 := b6
  simp only [World.size_alloc] at B1 B2 B3 B4 B5 B6
  have hP0 : PtBox (((((((w.alloc (.cells [.int .u32 ar, v].toArray 25)).alloc (.cells [.int .i64 (fm : Int)].toArray 3)).alloc (.cells [.string ⟨#[]⟩].toArray 9)).alloc (.cells [.bool false].toArray 4)).alloc (.cells [.string ⟨#[]⟩].toArray 9)).alloc (.cells [.bool false].toArray 4)).alloc (.cells [.bool true].toArray 4)) w.heap.size fm ⟨[], false, true⟩ := ⟨B1, B2, B3, B4, B5, B6⟩
  have hz : (((((((w.alloc (.cells [.int .u32 ar, v].toArray 25)).alloc (.cells [.int .i64 (fm : Int)].toArray 3)).alloc (.cells [.string ⟨#[]⟩].toArray 9)).alloc (.cells [.bool false].toArray 4)).alloc (.cells [.string ⟨#[]⟩].toArray 9)).alloc (.cells [.bool false].toArray 4)).alloc (.cells [.bool true].toArray 4)).heap.size = w.heap.size + 7 := by simp
  clear k0 k1 k2 k3 k4 k5 k6 b0 b1 b2 b3 b4 b5 b6 B1 B2 B3 B4 B5 B6
  obtain ⟨W1, hW1⟩ : ∃ W1, (((((((w.alloc (.cells [.int .u32 ar, v].toArray 25)).alloc (.cells [.int .i64 (fm : Int)].toArray 3)).alloc (.cells [.string ⟨#[]⟩].toArray 9)).alloc (.cells [.bool false].toArray 4)).alloc (.cells [.string ⟨#[]⟩].toArray 9)).alloc (.cells [.bool false].toArray 4)).alloc (.cells [.bool true].toArray 4)) = W1 := ⟨_, rfl⟩
  rw [hW1] at kb hP0 hz ⊢
  clear hW1
  replace hz := Lib.hid hz
  refine (callsIn_wide.2 (readable_any ar v s i W1)).mono ?_
  rintro e W2 ⟨rfl, hB, hb2⟩
  have kb2 := step2 kb hb2
  have hP2 : PtBox W2 w.heap.size fm ⟨[], false, true⟩ := pt_own (β := Unit) 0 w.heap.size fm (fun _ => ⟨[], false, true⟩) () _ _ none hP0 (grown_of_below hb2) (fun r e => by cases e)
  clear hP0 kb hb2
  have hB5 := hB.lt
  gi_wp2_with fail
  refine wpIn_rangeFunc_ownH rfl (by omega) (gf := 69) (lb := #[.pointer (some ⟨W1.heap.size + 4, 0, none⟩), .pointer (some ⟨W1.heap.size, 0, none⟩), .pointer (some ⟨W1.heap.size + 1, 0, none⟩), .pointer (some ⟨W1.heap.size + 2, 0, none⟩), .pointer (some ⟨W1.heap.size + 3, 0, none⟩)]) rfl trivial (enters_of Tryz.func69 (by kernel_rfl) rfl)
    (readable_stops _ W1.heap.size (by omega) ar v F s i w W2 hr hF kb2 hB)
    (fun h k => KpR.trans h k) (fun W l o o' hl hh h1 h2 => ⟨belowK_b (w := W2) kb2.size W l o o' hl hh h1 h2, fun j _ h4 => World.putObj_heap_other (by omega)⟩) (Below.refl _ _) (rdEnc_size F s i)
    (fun pre W => ((∀ x ∈ pre, x ≠ fm) ∧ PtBox W w.heap.size fm (gS (tOf F s i) pre)) ∧ Below w.heap.size w W)
    (fun c pre W => ((c = .ret ∧ pre.getLast? = some fm) ∧ RtBox W w.heap.size (tOf F s i fm) true) ∧ Below w.heap.size w W)
    (OwnFrom.and (OwnFrom.and (ownFrom_pure _ _) (pt_own _ _ _ _)) (ownFrom_below (Nat.le_refl _) kb2.size))
    (fun c => OwnFrom.and (OwnFrom.and (ownFrom_pure _ _) (rt_own _ _ _ _)) (ownFrom_below (Nat.le_refl _) kb2.size))
    ⟨⟨(fun x hx => by cases hx), hP2⟩, kb2⟩
    (fun x a' W => a' = { tmps := #[.agg #[.int .u32 ar, v], .int .i64 s, .int .i64 (fm : Int), .int .i64 i, .pointer (some ⟨w.heap.size, 0, none⟩), undef, .pointer (some ⟨w.heap.size + 1, 0, none⟩), undef, .pointer (some ⟨w.heap.size + 1 + 1, 0, none⟩), .pointer (some ⟨w.heap.size + 1 + 1 + 1, 0, none⟩), .pointer (some ⟨w.heap.size + 1 + 1 + 1 + 1, 0, none⟩), .pointer (some ⟨w.heap.size + 1 + 1 + 1 + 1 + 1, 0, none⟩), .pointer (some ⟨w.heap.size + 1 + 1 + 1 + 1 + 1 + 1, 0, none⟩), .int .i64 (x : Int), (.string (bA' (tOf F s i x))), .agg #[.int .u32 ar, v], .int .i64 s, .int .i64 i, (.func (.func 69) #[] #[.pointer (some ⟨W1.heap.size + 4, 0, none⟩), .pointer (some ⟨W1.heap.size, 0, none⟩), .pointer (some ⟨W1.heap.size + 1, 0, none⟩), .pointer (some ⟨W1.heap.size + 2, 0, none⟩), .pointer (some ⟨W1.heap.size + 3, 0, none⟩)]), .int .i64 (x : Int), (.string (bA' (tOf F s i x))), undef, undef, undef, undef, undef, undef, undef, undef, undef, undef, undef, undef, undef, undef, undef, undef, undef, undef, undef, undef], defers := [] })
    (fun x a' _ X Y row hs hg hr => hs)
    ?assign ?body ?done ?stop
  case assign =>
    rintro l pre x W K ⟨⟨hp, hB1⟩, hb1⟩ hK
    dsimp only [rdEnc]
    gi_wp2
    exact hK _ _ (KeepsFrom.refl _ _) ⟨Below.refl _ _, fun j _ _ => rfl⟩ ⟨⟨hp, hB1⟩, hb1⟩ rfl
  case body =>
    rintro l pre x a' W hl _ ⟨⟨hp, hPb⟩, hb1⟩ rfl hlt
    have hB5l := hB.lt
    have HP := Lib.hid hPb
    have f_c : W.cell? ⟨w.heap.size + 1, 0, none⟩ = some (.int .i64 (fm : Int)) := hPb.fr.cell 0
    by_cases hx : x = fm
    · have y : ((x : Int) == (fm : Int)) = true := by rw [hx]; simp
      have r0 : W.cell? ⟨w.heap.size + 1 + 1, 0, none⟩ = some (.string ⟨#[]⟩) := hPb.rt.cell 0
      have r1 : W.cell? ⟨w.heap.size + 1 + 1 + 1, 0, none⟩ = some (.bool false) := hPb.ro.cell 0
      have g0 : W.frozen? ⟨w.heap.size + 1 + 1, 0, none⟩ = false := hPb.rt.frozen 0
      have g1 : W.frozen? ⟨w.heap.size + 1 + 1 + 1, 0, none⟩ = false := hPb.ro.frozen 0
      clear hPb hB hB5l
      gi_wp2
      refine ⟨((KeepsOthers.setCell _ _ _).from _).trans ((KeepsOthers.setCell _ _ _).from _), ⟨⟨rfl, by rw [List.getLast?_append, hx]; rfl⟩, ?_⟩, ?_⟩
      · subst hx
        exact ⟨(HP.out.rt.set (j := 0) _).setOther (j := 0) (by omega) _, (HP.out.ro.setOther (j := 0) (by omega) _).set (j := 0) _⟩
      · exact (hb1.setCell (p := ⟨w.heap.size + 1 + 1, 0, none⟩) (by show w.heap.size ≤ w.heap.size + 1 + 1; omega) _).setCell (p := ⟨w.heap.size + 1 + 1 + 1, 0, none⟩) (by show w.heap.size ≤ w.heap.size + 1 + 1 + 1; omega) _
    have y : ((x : Int) == (fm : Int)) = false := by rw [beq_eq_false_iff_ne]; omega
    obtain ⟨g, hg⟩ : ∃ g, gS (tOf F s i) pre = g := ⟨_, rfl⟩
    rw [hg] at hPb HP
    have Hg := Lib.hid hg
    clear hg
    have c4 : W.cell? ⟨w.heap.size + 1 + 1 + 1 + 1, 0, none⟩ = some (.string (bA' g.t)) := hPb.co.cell 0
    have c5 : W.cell? ⟨w.heap.size + 1 + 1 + 1 + 1 + 1, 0, none⟩ = some (.bool g.found) := hPb.fo.cell 0
    have c6 : W.cell? ⟨w.heap.size + 1 + 1 + 1 + 1 + 1 + 1, 0, none⟩ = some (.bool g.same) := hPb.sa.cell 0
    have z4 : W.frozen? ⟨w.heap.size + 1 + 1 + 1 + 1, 0, none⟩ = false := hPb.co.frozen 0
    have z5 : W.frozen? ⟨w.heap.size + 1 + 1 + 1 + 1 + 1, 0, none⟩ = false := hPb.fo.frozen 0
    have z6 : W.frozen? ⟨w.heap.size + 1 + 1 + 1 + 1 + 1 + 1, 0, none⟩ = false := hPb.sa.frozen 0
    have hst : Hid (gS (tOf F s i) (pre ++ [x]) = ⟨tOf F s i x, true, g.same && (!g.found || decide (tOf F s i x = g.t))⟩) := by rw [Hid, gS_snoc, Hg.out]; rfl
    have yt : ((bA' (tOf F s i x)).toList == (bA' g.t).toList) = decide (tOf F s i x = g.t) := by rw [str_eq]; rfl
    have hpx : Hid (∀ z ∈ pre ++ [x], z ≠ fm) := fun z hz => by
      rw [List.mem_append, List.mem_singleton] at hz
      rcases hz with hz | rfl
      · exact hp z hz
      · exact hx
    have fin : ∀ b, (g.same && (!g.found || decide (tOf F s i x = g.t))) = b → ownPostG W2.heap.size (KpR w.heap.size W1.heap.size) (fun pre W => ((∀ x ∈ pre, x ≠ fm) ∧ PtBox W w.heap.size fm (gS (tOf F s i) pre)) ∧ Below w.heap.size w W)
        (fun c pre W => ((c = .ret ∧ pre.getLast? = some fm) ∧ RtBox W w.heap.size (tOf F s i fm) true) ∧ Below w.heap.size w W) (pre ++ [x]) W .normal { tmps := #[], defers := [] }
        (((W.setCell ⟨w.heap.size + 1 + 1 + 1 + 1 + 1 + 1, 0, none⟩ (.bool b)).setCell ⟨w.heap.size + 1 + 1 + 1 + 1, 0, none⟩ (.string (bA' (tOf F s i x)))).setCell ⟨w.heap.size + 1 + 1 + 1 + 1 + 1, 0, none⟩ (.bool true)) := by
      intro b hb
      have hz' := hz.out
      have kp : KpR w.heap.size W1.heap.size W (((W.setCell ⟨w.heap.size + 1 + 1 + 1 + 1 + 1 + 1, 0, none⟩ (.bool b)).setCell ⟨w.heap.size + 1 + 1 + 1 + 1, 0, none⟩ (.string (bA' (tOf F s i x)))).setCell ⟨w.heap.size + 1 + 1 + 1 + 1 + 1, 0, none⟩ (.bool true)) :=
        ((KpR.set ⟨Below.refl _ _, fun j _ _ => rfl⟩ (by omega) (by omega) _).set (by omega) (by omega) _).set (by omega) (by omega) _
      refine ⟨(((KeepsOthers.setCell _ _ _).from _).trans ((KeepsOthers.setCell _ _ _).from _)).trans ((KeepsOthers.setCell _ _ _).from _), kp, ⟨hpx.out, ?_⟩, hb1.trans kp.1⟩
      rw [hst.out, hb]
      exact HP.out.step _ _
    have FIN := Lib.hid fin
    clear fin hst hpx HP hPb hB hB5l hp Hg
    generalize tOf F s i x = tx at *
    rcases g with ⟨gt, gf, gs⟩
    cases gs with
    | false =>
      cases gf with
      | false => gi_wp2; exact FIN.out false rfl
      | true => gi_wp2; exact FIN.out false rfl
    | true =>
      cases gf with
      | false => gi_wp2; exact FIN.out true rfl
      | true =>
        by_cases hq : tx = gt
        · subst hq
          rw [decide_eq_true rfl] at yt
          gi_wp2
          exact FIN.out true (by simp)
        · rw [decide_eq_false hq] at yt
          gi_wp2
          exact FIN.out false (by simp [hq])
  case done =>
    rintro D zs W hD rfl ⟨⟨hp, hPb⟩, hb1⟩ hK
    have ho : ownR F s fm i = none := by
      rcases ho : ownR F s fm i with _ | t
      · rfl
      · exact absurd rfl (hp fm (ys_mem hfm ho))
    have HE : Hid (EndG (partR F s fm i) (gS (tOf F s i) (ysR F s i 15))) := gS_end ho
    obtain ⟨g, hg⟩ : ∃ g, gS (tOf F s i) (ysR F s i 15) = g := ⟨_, rfl⟩
    rw [hg] at HE hPb
    clear hg ho hp hB
    have HP := Lib.hid hPb
    have c4 : W.cell? ⟨w.heap.size + 1 + 1 + 1 + 1, 0, none⟩ = some (.string (bA' g.t)) := hPb.co.cell 0
    have c5 : W.cell? ⟨w.heap.size + 1 + 1 + 1 + 1 + 1, 0, none⟩ = some (.bool g.found) := hPb.fo.cell 0
    have c6 : W.cell? ⟨w.heap.size + 1 + 1 + 1 + 1 + 1 + 1, 0, none⟩ = some (.bool g.same) := hPb.sa.cell 0
    have r0 : W.cell? ⟨w.heap.size + 1 + 1, 0, none⟩ = some (.string ⟨#[]⟩) := hPb.rt.cell 0
    have r1 : W.cell? ⟨w.heap.size + 1 + 1 + 1, 0, none⟩ = some (.bool false) := hPb.ro.cell 0
    have g0 : W.frozen? ⟨w.heap.size + 1 + 1, 0, none⟩ = false := hPb.rt.frozen 0
    have g1 : W.frozen? ⟨w.heap.size + 1 + 1 + 1, 0, none⟩ = false := hPb.ro.frozen 0
    clear hPb
    gi_wp2
    refine wpIn_wide.2 ?_
    have gk : ∀ b : Bool, (g.found && g.same) = b → ∀ W3 : World, W3 = ((W.setCell ⟨w.heap.size + 1 + 1, 0, none⟩ (.string (bA' g.t))).setCell ⟨w.heap.size + 1 + 1 + 1, 0, none⟩ (.bool b)).drew →
        RtBox W3 w.heap.size g.t b ∧ Below w.heap.size w W3 ∧ W3.heap[D]? = some (.deferred (some [])) := by
      rintro b - W3 rfl
      refine ⟨⟨(HP.out.rt.set (j := 0) _).setOther (j := 0) (by omega) _, (HP.out.ro.setOther (j := 0) (by omega) _).set (j := 0) _⟩, ?_, ?_⟩
      · exact below_drew0 ((hb1.setCell (p := ⟨w.heap.size + 1 + 1, 0, none⟩) (by show w.heap.size ≤ w.heap.size + 1 + 1; omega) _).setCell (p := ⟨w.heap.size + 1 + 1 + 1, 0, none⟩) (by show w.heap.size ≤ w.heap.size + 1 + 1 + 1; omega) _)
      · exact (((KeepsOthers.setCell W ⟨w.heap.size + 1 + 1, 0, none⟩ (.string (bA' g.t))).from 0).trans ((KeepsOthers.setCell _ ⟨w.heap.size + 1 + 1 + 1, 0, none⟩ (.bool b)).from 0)).same D _ (Nat.zero_le _) hK rfl
    have GK := Lib.hid gk
    clear gk HP
    have HK := Lib.hid hK; clear hK
    rcases g with ⟨gt, gf, gs⟩
    dsimp only at c4 c5 c6 GK HE
    cases gf with
    | false =>
      go_region
      all_goals
        obtain ⟨W3, hW3⟩ : ∃ W3, ((W.setCell ⟨w.heap.size + 1 + 1, 0, none⟩ (.string (bA' gt))).setCell ⟨w.heap.size + 1 + 1 + 1, 0, none⟩ (.bool false)).drew = W3 := ⟨_, rfl⟩
        obtain ⟨hR3, hb3, hK3⟩ := GK.out false rfl W3 hW3.symm
        rw [hW3]
        clear hW3 GK c4 c5 c6 r0 r1 g0 g1 HK
        gi_wp2
        refine ⟨by simp, .inl ⟨_, _, rfl, run_takeDeferred hK3, ?_⟩⟩
        have hc8 := cell_kept ((hR3).rt.cell 0) (grownBy_putObj' _ D (.deferred none)) (fun r e => by cases e; exact ⟨_, hK3, rfl⟩)
        have hc9 := cell_kept ((hR3).ro.cell 0) (grownBy_putObj' _ D (.deferred none)) (fun r e => by cases e; exact ⟨_, hK3, rfl⟩)
        refine ⟨.tuple #[.string (bA' gt), .bool false], ?_, part_no HE.out rfl (hb3.trans (belowK_b (w := w) (Nat.le_refl _) _ D _ _ (Nat.le_trans kb2.size hD) hK3 rfl rfl))⟩
        simp [results, Tryz.f58, go_sem, hc8, hc9]
    | true =>
      cases gs with
      | false =>
        go_region
        all_goals
          obtain ⟨W3, hW3⟩ : ∃ W3, ((W.setCell ⟨w.heap.size + 1 + 1, 0, none⟩ (.string (bA' gt))).setCell ⟨w.heap.size + 1 + 1 + 1, 0, none⟩ (.bool false)).drew = W3 := ⟨_, rfl⟩
          obtain ⟨hR3, hb3, hK3⟩ := GK.out false rfl W3 hW3.symm
          rw [hW3]
          clear hW3 GK c4 c5 c6 r0 r1 g0 g1 HK
          gi_wp2
          refine ⟨by simp, .inl ⟨_, _, rfl, run_takeDeferred hK3, ?_⟩⟩
          have hc8 := cell_kept ((hR3).rt.cell 0) (grownBy_putObj' _ D (.deferred none)) (fun r e => by cases e; exact ⟨_, hK3, rfl⟩)
          have hc9 := cell_kept ((hR3).ro.cell 0) (grownBy_putObj' _ D (.deferred none)) (fun r e => by cases e; exact ⟨_, hK3, rfl⟩)
          refine ⟨.tuple #[.string (bA' gt), .bool false], ?_, part_no HE.out rfl (hb3.trans (belowK_b (w := w) (Nat.le_refl _) _ D _ _ (Nat.le_trans kb2.size hD) hK3 rfl rfl))⟩
          simp [results, Tryz.f58, go_sem, hc8, hc9]
      | true =>
        go_region
        all_goals
          obtain ⟨W3, hW3⟩ : ∃ W3, ((W.setCell ⟨w.heap.size + 1 + 1, 0, none⟩ (.string (bA' gt))).setCell ⟨w.heap.size + 1 + 1 + 1, 0, none⟩ (.bool true)).drew = W3 := ⟨_, rfl⟩
          obtain ⟨hR3, hb3, hK3⟩ := GK.out true rfl W3 hW3.symm
          rw [hW3]
          clear hW3 GK c4 c5 c6 r0 r1 g0 g1 HK
          gi_wp2
          refine ⟨by simp, .inl ⟨_, _, rfl, run_takeDeferred hK3, ?_⟩⟩
          have hc8 := cell_kept ((hR3).rt.cell 0) (grownBy_putObj' _ D (.deferred none)) (fun r e => by cases e; exact ⟨_, hK3, rfl⟩)
          have hc9 := cell_kept ((hR3).ro.cell 0) (grownBy_putObj' _ D (.deferred none)) (fun r e => by cases e; exact ⟨_, hK3, rfl⟩)
          refine ⟨.tuple #[.string (bA' gt), .bool true], ?_, part_yes HE.out (hb3.trans (belowK_b (w := w) (Nat.le_refl _) _ D _ _ (Nat.le_trans kb2.size hD) hK3 rfl rfl))⟩
          simp [results, Tryz.f58, go_sem, hc8, hc9]
  case stop =>
    rintro D c pre W hD hpre ⟨⟨⟨rfl, hx⟩, hRt⟩, hb1⟩ hK
    have ho : ownR F s fm i = some (tOf F s i fm) := by
      obtain ⟨k, _, rfl, hk⟩ := hpre
      rw [List.getLast?_append] at hx
      simp at hx
      subst hx
      rw [tOf]
      obtain ⟨t, ht⟩ := Option.isSome_iff_exists.1 hk
      rw [ht]; rfl
    have hpo := part_own ho
    clear hx ho hpre hB hP2
    gi_wp2
    refine ⟨by simp, .inl ⟨_, _, rfl, run_takeDeferred hK, ?_⟩⟩
    have hc8 := cell_kept ((hRt).rt.cell 0) (grownBy_putObj' _ D (.deferred none)) (fun r e => by cases e; exact ⟨_, hK, rfl⟩)
    have hc9 := cell_kept ((hRt).ro.cell 0) (grownBy_putObj' _ D (.deferred none)) (fun r e => by cases e; exact ⟨_, hK, rfl⟩)
    refine ⟨.tuple #[.string (bA' (tOf F s i fm)), .bool true], ?_, by rw [hpo], hb1.trans (belowK_b (w := w) (Nat.le_refl _) _ D _ _ (Nat.le_trans kb2.size hD) hK rfl rfl)⟩
    simp [results, Tryz.f58, go_sem, hc8, hc9]
end Go.Proofs.YtpkapcijgldhhaaGreatDoor

namespace Go.Proofs.YtpkapcijgldhhaaGreatDoor
open Go.RowKit Go.Shelf
theorem len_bd {l : List UInt8} {n : Int} (h : lenR l = .ok n) : 8 ≤ n ∧ n ≤ 100000008 := by
  obtain ⟨h1, h2, h3⟩ := lenR_ok.1 h
  have := val_bd _ h2
  have h4 : (l.take 8).length = 8 := by rw [List.length_take]; omega
  rw [h4] at this
  omega
theorem len_err {l : List UInt8} {x : Int} (h : lenR l = .error x) : x ≠ 0 := by
  unfold lenR at h
  split at h
  · injection h with h; omega
  · split at h
    · cases h
    · injection h with h; omega
theorem part_bd {F : List Fr} {s fm i : Int} (hF : SmallF F) {t : List UInt8} (h : partR F s fm i = some t) : t.length ≤ 100 := by
  obtain ⟨f, h1, _, h2⟩ := part_mem h
  have := hF.2 f h1
  omega
theorem cat_str (a t : List UInt8) : bA' a ++ bA' t = bA' (a ++ t) := by
  apply str_inj
  rw [bA'_list]; simp [bA'_list]
set_option maxRecDepth 100000 in
set_option maxHeartbeats 4000000 in
theorem textR_any (ar : Int) (v : Value) (F : List Fr) (s fm : Int) (w : World) (hr : FrRow w v F) (hF : SmallF F) :
    Calls Tryz.prog 33 #[.agg #[.int .u32 ar, v], .int .i64 s, .int .i64 fm] w (PartQ (textR F s fm) w) := by
  have HO := Lib.hid (show ∀ W, Below w.heap.size w W → ∀ i, Calls Tryz.prog 65 #[.agg #[.int .u32 ar, v], .int .i64 s, .int .i64 fm, .int .i64 i] W (PartQ (partR F s fm i) W) from fun W hW i => partR_any ar v F s fm i W (hr.below hW) hF)
  have HF := Lib.hid hF
  clear hr hF
  obtain ⟨kb0, bC0⟩ := boxr w [.int .u32 ar, v] 25
  obtain ⟨kb1, bX0⟩ := boxr (w.alloc (.cells [.int .u32 ar, v].toArray 25)) (partV none) 75
  replace bC0 := bC0.below kb1
  replace kb0 := step2 kb0 kb1
  clear kb1
  rw [World.size_alloc] at bX0
  go_enter Tryz.func33, Tryz.ntmps33
  go_upto_region 1 with (fail)
  obtain ⟨W0, hW0⟩ : ∃ W0, (w.alloc (.cells [.int .u32 ar, v].toArray 25)).alloc (.cells (partV none).toArray 75) = W0 := ⟨_, rfl⟩
  change Code.wp _ _ _ _ ((w.alloc (.cells [.int .u32 ar, v].toArray 25)).alloc (.cells (partV none).toArray 75))
  rw [hW0] at kb0 bC0 bX0 ⊢
  clear hW0
  obtain ⟨c0, c1⟩ := bC0.cells2
  have HP := Lib.hid (HO.out _ kb0 0)
  go_wp2_with fail
  refine HP.out.mono ?_
  rintro e w1 ⟨he, hb1⟩
  have k1 := step2 kb0 hb1
  have bX1 := bX0.below hb1
  have bC1 := bC0.below hb1
  clear HP c0 c1
  rcases hp : partR F s fm 0 with _ | f
  · rw [hp] at he
    obtain rfl := he
    have Ho := Lib.hid (text_none hp)
    obtain ⟨kP, bP⟩ := boxr w1 (partV none) 75
    have k2 := step2 k1 kP
    have bX2 := bX1.below kP
    obtain ⟨W2, hW2⟩ : ∃ W2, w1.alloc (.cells (partV none).toArray 75) = W2 := ⟨_, rfl⟩
    rw [hW2] at kP bP k2 bX2
    clear hp
    dsimp only [partV]
    go_upto_region 2 with (fail)
    change Code.wp _ _ _ _ (w1.alloc (.cells (partV none).toArray 75))
    rw [hW2]
    clear hW2
    obtain ⟨p0, p1⟩ := bP.cells2
    obtain ⟨d0, d1⟩ := bX2.cells2
    obtain ⟨f0, f1⟩ := bX2.froz2
    go_wp2_with fail
    refine bodyPost_ret (results_part rfl _ _ (w.heap.size + 1) rfl (o := none) (bX2.set2 _ _)) rfl ⟨by rw [Ho.out], below_set2 k2 (Nat.le_succ _) _ _⟩
  rw [hp] at he
  obtain rfl := he
  have hfb := part_bd HF.out hp
  have HP := Lib.hid hp
  obtain ⟨kP, bP⟩ := boxr w1 (partV (some f)) 75
  have k2 := step2 k1 kP
  have bX2 := bX1.below kP
  have bC2 := bC1.below kP
  obtain ⟨W2, hW2⟩ : ∃ W2, w1.alloc (.cells (partV (some f)).toArray 75) = W2 := ⟨_, rfl⟩
  rw [hW2] at kP bP k2 bX2 bC2
  clear hp
  dsimp only [partV]
  go_upto_region 2 with (fail)
  change Code.wp _ _ _ _ (w1.alloc (.cells (partV (some f)).toArray 75))
  rw [hW2]
  clear hW2
  obtain ⟨p0, p1⟩ := bP.cells2
  have HL := Lib.hid (refLength_any (bA' f) W2 (by show f.length ≤ _; omega))
  rw [bA'_list] at HL
  go_wp2_with fail
  refine HL.out.mono ?_
  rintro e w3 ⟨he, rfl⟩
  clear HL
  obtain ⟨d0, d1⟩ := bX2.cells2
  obtain ⟨f0, f1⟩ := bX2.froz2
  rcases hl : lenR f with x | n
  · rw [hl] at he
    obtain rfl := he
    have Ho := Lib.hid (text_len HP.out hl)
    obtain ⟨x1, x2⟩ := neq0 (len_err hl)
    clear hl
    dsimp only [stInt, errOf]
    go_wp2_with fail
    refine bodyPost_ret (results_part rfl _ _ (w.heap.size + 1) rfl (o := none) (bX2.set2 _ _)) rfl ⟨by rw [Ho.out], below_set2 k2 (Nat.le_succ _) _ _⟩
  rw [hl] at he
  obtain rfl := he
  have hnb := len_bd hl
  have HN := Lib.hid hl
  clear hl
  dsimp only [stInt, errOf]
  clear d0 d1 f0 f1 p0 p1 bP bC1 bX1 bC0 bX0 kb0 hb1 kP k1
  go_wp2_with fail
  go_loopw [10, 11, 12] (fun x i _ wr => ∃ (k : Nat) (a : List UInt8), x = .string (bA' a) ∧ i = .int .i64 k ∧ Below w.heap.size w wr ∧ Box wr w.heap.size [.int .u32 ar, v] 25 ∧ Box wr (w.heap.size + 1) (partV none) 75 ∧
    Hid (partsR F s fm k = some a) ∧ 28 * (k : Int) < n + 28) (fun _ i _ _ => (n - 28 * intOf i).toNat)
  case atStart => exact ⟨0, [], rfl, rfl, k2, bC2, bX2, rfl, by omega⟩
  case round =>
    clear k2 bC2 bX2
    obtain ⟨k, a, rfl, rfl, kb, bC, bX, ha, hkn⟩ := hrel
    obtain ⟨hk1, hab⟩ := parts_bd HF.out ha.out
    have hw28 : IntKind.i64.wrap (28 * (k : Int)) = 28 * (k : Int) := IntWalk.i64_in _ (by omega)
    by_cases hlt : 28 * (k : Int) < n
    · obtain ⟨c0, c1⟩ := bC.cells2
      have HR := Lib.hid (HO.out _ kb k)
      go_wp2_with fail
      refine HR.out.mono ?_
      rintro e w4 ⟨he, hb4⟩
      have k4 := step2 kb hb4
      have bX4 := bX.below hb4
      have bC4 := bC.below hb4
      clear HR c0 c1 kb bX bC
      rcases hp : partR F s fm k with _ | t
      · rw [hp] at he
        obtain rfl := he
        have Ho := Lib.hid (text_miss HP.out HN.out hlt hp)
        obtain ⟨kP, bP⟩ := boxr w4 (partV none) 75
        have k5 := step2 k4 kP
        have bX5 := bX4.below kP
        obtain ⟨W5, hW5⟩ : ∃ W5, w4.alloc (.cells (partV none).toArray 75) = W5 := ⟨_, rfl⟩
        rw [hW5] at kP bP k5 bX5
        clear hp
        dsimp only [partV]
        go_upto_region 12 with (fail)
        change Code.wp _ _ _ _ (w4.alloc (.cells (partV none).toArray 75))
        rw [hW5]
        clear hW5 bX4 bC4 k4 hb4
        obtain ⟨p0, p1⟩ := bP.cells2
        obtain ⟨d0, d1⟩ := bX5.cells2
        obtain ⟨f0, f1⟩ := bX5.froz2
        go_wp2_with fail
        refine bodyPost_ret (results_part rfl _ _ (w.heap.size + 1) rfl (o := none) (bX5.set2 _ _)) rfl ⟨by rw [Ho.out], below_set2 k5 (Nat.le_succ _) _ _⟩
      · rw [hp] at he
        obtain rfl := he
        have hs := Lib.hid (parts_next ha.out hp)
        have htb := part_bd HF.out hp
        obtain ⟨kP, bP⟩ := boxr w4 (partV (some t)) 75
        have k5 := step2 k4 kP
        have bX5 := bX4.below kP
        have bC5 := bC4.below kP
        obtain ⟨W5, hW5⟩ : ∃ W5, w4.alloc (.cells (partV (some t)).toArray 75) = W5 := ⟨_, rfl⟩
        rw [hW5] at kP bP k5 bX5 bC5
        clear hp
        dsimp only [partV]
        go_upto_region 12 with (fail)
        change Code.wp _ _ _ _ (w4.alloc (.cells (partV (some t)).toArray 75))
        rw [hW5]
        clear hW5 bX4 bC4 k4 hb4
        obtain ⟨p0, p1⟩ := bP.cells2
        have za : (bA' a).size ≤ 100000 := hab
        have zt : (bA' t).size ≤ 100 := htb
        go_wp2_with fail
        go_roundw
        case rel => exact ⟨k + 1, a ++ t, by rw [← cat_str], by go_num, k5, bC5, bX5, hs, by omega⟩
        case measure => simp [intOf]; omega
    · have hz := Lib.hid (text_end HP.out HN.out hlt hkn (by omega) ha.out)
      obtain ⟨d0, d1⟩ := bX.cells2
      obtain ⟨g0, g1⟩ := bX.froz2
      have hsa : (bA' a).size = a.length := rfl
      by_cases hq : (a.length : Int) = n
      · rw [if_pos hq] at hz
        have y : (((bA' a).size : Int) != n) = false := by rw [hsa, hq]; simp
        clear hsa
        go_wp2_with fail
        refine bodyPost_ret (results_part rfl _ _ (w.heap.size + 1) rfl (o := some a) (bX.set2 _ _)) rfl ⟨by rw [hz.out], below_set2 kb (Nat.le_succ _) _ _⟩
      · rw [if_neg hq] at hz
        have y : (((bA' a).size : Int) != n) = true := by rw [hsa]; exact bne_iff_ne.2 hq
        clear hsa
        go_wp2_with fail
        refine bodyPost_ret (results_part rfl _ _ (w.heap.size + 1) rfl (o := none) (bX.set2 _ _)) rfl ⟨by rw [hz.out], below_set2 kb (Nat.le_succ _) _ _⟩
end Go.Proofs.YtpkapcijgldhhaaGreatDoor

namespace Go.Proofs.YtpkapcijgldhhaaGreatDoor
open Go.RowKit Go.Shelf
theorem buildLen_any (B : Nat) (l : List UInt8) (w : World) (h : Lib.IsBuilderF 93 5 B B (Lib.byteCells l) w) :
    Calls Tryz.prog 60 #[.pointer (some ⟨B, 0, none⟩)] w fun e w' => e = .returned (.int .i64 l.length) ∧ w' = w := by
  obtain ⟨p, hB, v, hbk, hown, hne⟩ : ∃ p, Lib.BuilderAtF 93 5 B B p (Lib.byteCells l) w := by
    rcases h with h | h
    · exact ⟨_, h⟩
    · exact ⟨_, h⟩
  obtain ⟨ao, cap, rfl⟩ : ∃ ao cap, v = .slice ao l.length cap := by
    rcases hown.2 with ⟨hv, h0⟩ | ⟨g, cap, cur, fz, hv, _⟩
    · exact ⟨none, 0, by rw [hv, ← Lib.byteCells_length, h0]⟩
    · exact ⟨_, _, by rw [hv, Lib.byteCells_length]⟩
  have c1 : w.cell? ⟨B, 1, none⟩ = some (.slice ao l.length cap) := by rw [Lib.cell_of_heap hbk]; rfl
  clear hown hbk hne h
  go_enter Tryz.func60, Tryz.ntmps60
  go_wp2_with fail
  go_ret
  exact ⟨rfl, rfl⟩
theorem PartP.no {w w' : World} {R : Option (List UInt8)} (h : R = none) {x : ByteArray} (hb : Below w.heap.size w w') : PartP R w (.returned (.tuple #[.string x, .bool false])) w' := by subst h; exact ⟨⟨x, rfl⟩, hb⟩
theorem PartP.yes {w w' : World} {R : Option (List UInt8)} {t : List UInt8} (h : R = some t) {x : ByteArray} (hx : x = bA' t) (hb : Below w.heap.size w w') : PartP R w (.returned (.tuple #[.string x, .bool true])) w' := by subst h hx; exact ⟨rfl, hb⟩
set_option maxRecDepth 100000 in
set_option maxHeartbeats 4000000 in
theorem text_any (ar : Int) (v : Value) (F : List Fr) (s : Int) (fm : Nat) (hfm : fm < 15) (w : World) (hr : FrRow w v F) (hF : SmallF F) :
    Calls Tryz.prog 31 #[.agg #[.int .u32 ar, v], .int .i64 s, .int .i64 fm] w (PartP (textR F s fm) w) := by
  have HO := Lib.hid (show ∀ W, Below w.heap.size w W → ∀ i, Calls Tryz.prog 58 #[.agg #[.int .u32 ar, v], .int .i64 s, .int .i64 fm, .int .i64 i] W (PartP (partR F s fm i) W) from fun W hW i => part_any ar v F s i fm hfm W (hr.below hW) hF)
  have HF := Lib.hid hF
  clear hr hF hfm
  obtain ⟨kb0, bC0⟩ := boxr w [.int .u32 ar, v] 25
  go_enter Tryz.func31, Tryz.ntmps31
  go_upto_region 1 with (fail)
  obtain ⟨W0, hW0⟩ : ∃ W0, w.alloc (.cells [.int .u32 ar, v].toArray 25) = W0 := ⟨_, rfl⟩
  change Code.wp _ _ _ _ (w.alloc (.cells [.int .u32 ar, v].toArray 25))
  rw [hW0] at kb0 bC0 ⊢
  clear hW0
  obtain ⟨c0, c1⟩ := bC0.cells2
  have HP := Lib.hid (HO.out _ kb0 0)
  go_wp2_with fail
  refine HP.out.mono ?_
  rintro e w1 ⟨he, hb1⟩
  have k1 := step2 kb0 hb1
  have bC1 := bC0.below hb1
  clear HP c0 c1 kb0 bC0 hb1
  rcases hp : partR F s fm 0 with _ | f
  · rw [hp] at he
    obtain ⟨x, rfl⟩ := he
    have Ho := Lib.hid (text_none hp)
    clear hp
    go_wp2_with fail
    go_ret2
    exact .no Ho.out k1
  rw [hp] at he
  obtain rfl := he
  have hfb := part_bd HF.out hp
  have HP := Lib.hid hp
  clear hp
  have HL := Lib.hid (length_any (bA' f) w1 (by show f.length ≤ _; omega))
  rw [bA'_list] at HL
  go_wp2_with fail
  refine HL.out.mono ?_
  rintro e w3 ⟨he, rfl⟩
  clear HL
  rcases hl : lenR f with x | n
  · rw [hl] at he
    obtain rfl := he
    have Ho := Lib.hid (text_len HP.out hl)
    obtain ⟨x1, x2⟩ := neq0 (len_err hl)
    clear hl
    dsimp only [stInt, errOf]
    go_wp2_with fail
    go_ret2
    exact .no Ho.out k1
  rw [hl] at he
  obtain rfl := he
  have hnb := len_bd hl
  have HN := Lib.hid hl
  clear hl
  dsimp only [stInt, errOf]
  have h0 : Hid (Lib.IsBuilder 93 5 w1.heap.size w1.heap.size (Lib.byteCells []) (w1.alloc (.cells #[.pointer none, .slice none 0 0] 93))) := Lib.fresh_isBuilder 93 5 w1
  have kB : Below w1.heap.size w1 (w1.alloc (.cells #[.pointer none, .slice none 0 0] 93)) := (Below.refl _ w1).alloc (Nat.le_refl _) _
  have k2 := step2 k1 kB
  have bC2 := bC1.below kB
  have hzB := kB.size
  have hBw := bC1.lt
  go_upto_region 8 with (fail)
  generalize w1.alloc (.cells #[.pointer none, .slice none 0 0] 93) = W2 at *
  generalize w1.heap.size = B at *
  clear kB bC1 k1
  go_wp2_with fail
  go_loopw [13, 14, 15] (fun i _ _ wr => ∃ (k : Nat) (a : List UInt8), i = .int .i64 k ∧ Below w.heap.size w wr ∧ B ≤ wr.heap.size ∧ Box wr w.heap.size [.int .u32 ar, v] 25 ∧
    Hid (Lib.IsBuilder 93 5 B B (Lib.byteCells a) wr) ∧ Hid (partsR F s fm k = some a) ∧ 28 * (k : Int) < n + 28) (fun i _ _ _ => (n - 28 * intOf i).toNat)
  case atStart => exact ⟨0, [], rfl, k2, hzB, bC2, h0, rfl, by omega⟩
  case round =>
    clear k2 bC2 h0 hzB
    obtain ⟨k, a, rfl, kb, hzb, bC, hb, ha, hkn⟩ := hrel
    obtain ⟨hk1, hab⟩ := parts_bd HF.out ha.out
    have hw28 : IntKind.i64.wrap ((k : Int) * 28) = 28 * (k : Int) := by rw [IntWalk.i64_in _ (by omega)]; omega
    by_cases hlt : 28 * (k : Int) < n
    · obtain ⟨c0, c1⟩ := bC.cells2
      have HR := Lib.hid (HO.out _ kb k)
      go_wp2_with fail
      refine HR.out.mono ?_
      rintro e w4 ⟨he, hb4⟩
      have k4 := step2 kb hb4
      have bC4 := bC.below hb4
      have hB4 : Hid (Lib.IsBuilder 93 5 B B (Lib.byteCells a) w4) := isBuilder_below hb.out hb4
      have hz4 := Nat.le_trans hzb hb4.size
      clear HR c0 c1 kb bC hb hb4 hzb
      rcases hp : partR F s fm k with _ | t
      · rw [hp] at he
        obtain ⟨x, rfl⟩ := he
        have Ho := Lib.hid (text_miss HP.out HN.out hlt hp)
        clear hp
        go_wp2_with fail
        go_ret2
        exact .no Ho.out k4
      · rw [hp] at he
        obtain rfl := he
        have hs := Lib.hid (parts_next ha.out hp)
        have htb := part_bd HF.out hp
        clear hp
        have HWS := Lib.hid (writeString_at B a (bA' t) w4 hB4 (by show a.length + t.length ≤ _; omega) hz4)
        rw [bA'_list] at HWS
        go_wp2_with fail
        refine HWS.out.mono ?_
        rintro e w5 ⟨rfl, hB5, hb5⟩
        have k5 := k4.trans (hb5.mono (Nat.le_of_lt hBw))
        have bC5 := bC4.below' hb5 hBw
        have hz5 := Nat.le_trans hz4 hb5.size
        clear HWS
        go_wp2_with fail
        go_roundw
        case rel => exact ⟨k + 1, a ++ t, by go_num, k5, hz5, bC5, hB5, hs, by omega⟩
        case measure => simp [intOf]; omega
    · have hz := Lib.hid (text_end HP.out HN.out hlt hkn (by omega) ha.out)
      have HS := Lib.hid (Any.Builder_String_any_k Tryz.lays169 Tryz.Builder_Extra_169 B B a _ (Lib.IsBuilderF.of hb.out) hzb)
      go_wp2_with fail
      refine HS.out.mono ?_
      rintro e w5 ⟨rfl, hb5, hbe, _⟩
      have k5 := kb.trans (hbe.mono (Nat.le_of_lt hBw))
      have HL := Lib.hid (buildLen_any B a w5 hb5)
      clear HS hb5
      go_wp2_with fail
      refine HL.out.mono ?_
      rintro e w6 ⟨rfl, rfl⟩
      clear HL
      by_cases hq : (a.length : Int) = n
      · rw [if_pos hq] at hz
        have y : ((a.length : Int) == n) = true := by rw [hq]; simp
        clear hq
        go_wp2_with fail
        go_ret2
        exact .yes hz.out rfl k5
      · rw [if_neg hq] at hz
        have y : ((a.length : Int) == n) = false := by rw [beq_eq_false_iff_ne]; exact hq
        clear hq
        go_wp2_with fail
        go_ret2
        exact .no hz.out k5
end Go.Proofs.YtpkapcijgldhhaaGreatDoor
