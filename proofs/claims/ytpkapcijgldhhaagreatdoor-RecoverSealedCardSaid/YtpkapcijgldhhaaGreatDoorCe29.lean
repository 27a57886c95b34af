/-
  The part of a directory, from a reel or from the others, in the program: a range over the iterator.
  The text of a directory from a reel, in the reference.
-/
import Derived.Test.YtpkapcijgldhhaaGreatDoorCe28
import Derived.Test.YtpkapcijgldhhaaGreatDoorCe22
import Derived.Test.YtpkapcijgldhhaaGreatDoorCe24
namespace Go.Proofs.YtpkapcijgldhhaaGreatDoor
open Go.RowKit Go.Shelf
attribute [local go_sem] Oper.semAt_some
/-- the text that is found among the reels pre: the last text, whether there is one, whether all are alike -/
structure GS where
  t : List UInt8
  found : Bool
  same : Bool
def gStep (T : Nat → List UInt8) (g : GS) (x : Nat) : GS := ⟨T x, true, g.same && (!g.found || decide (T x = g.t))⟩
def gS (T : Nat → List UInt8) (pre : List Nat) : GS := pre.foldl (gStep T) ⟨[], false, true⟩
theorem gS_snoc (T : Nat → List UInt8) (pre : List Nat) (x : Nat) : gS T (pre ++ [x]) = gStep T (gS T pre) x := by simp [gS]
noncomputable def tOf (F : List Fr) (s i : Int) (x : Nat) : List UInt8 := (ownR F s x i).getD []
theorem gS_fold (F : List Fr) (s i : Int) : ∀ k, match foldS F s i k with
    | none => (gS (tOf F s i) (ysR F s i k)).found = true ∧ (gS (tOf F s i) (ysR F s i k)).same = false
    | some none => gS (tOf F s i) (ysR F s i k) = ⟨[], false, true⟩
    | some (some c) => gS (tOf F s i) (ysR F s i k) = ⟨c, true, true⟩
  | 0 => rfl
  | k + 1 => by
    have ih := gS_fold F s i k
    rcases ho : ownR F s k i with _ | t
    · rw [ys_skip ho, foldS, ho]
      rcases hf : foldS F s i k with _ | _ | c <;> (rw [hf] at ih; exact ih)
    · have ht : tOf F s i k = t := by rw [tOf, ho]; rfl
      rw [ys_take ho, gS_snoc, foldS, ho]
      rcases hf : foldS F s i k with _ | _ | c
      · rw [hf] at ih
        exact ⟨rfl, by show (_ && _) = false; rw [ih.2]; rfl⟩
      · rw [hf] at ih
        have ih : gS (tOf F s i) (ysR F s i k) = ⟨[], false, true⟩ := ih
        show gStep _ _ _ = _
        rw [ih, gStep, ht]; rfl
      · rw [hf] at ih
        have ih : gS (tOf F s i) (ysR F s i k) = ⟨c, true, true⟩ := ih
        show match (if isB (t = c) then some (some t) else none) with | none => _ | some none => _ | some (some c) => _
        by_cases hq : t = c
        · rw [isB_yes hq, if_pos rfl]
          show gStep _ _ _ = _
          rw [ih, gStep, ht, decide_eq_true hq]; rfl
        · rw [isB_no hq, if_neg (by decide)]
          refine ⟨rfl, ?_⟩
          show (_ && _) = false
          rw [ih, ht, decide_eq_false hq]; rfl
def PartP (o : Option (List UInt8)) (w : World) (e : Ending) (w' : World) : Prop :=
  (match o with
    | some t => e = .returned (.tuple #[.string (bA' t), .bool true])
    | none => ∃ x, e = .returned (.tuple #[.string x, .bool false])) ∧ Below w.heap.size w w'
theorem gS_end {F : List Fr} {s i : Int} {fm : Nat} (ho : ownR F s fm i = none) : match partR F s fm i with
    | none => ((gS (tOf F s i) (ysR F s i 15)).found && (gS (tOf F s i) (ysR F s i 15)).same) = false
    | some c => gS (tOf F s i) (ysR F s i 15) = ⟨c, true, true⟩ := by
  rw [part_fold ho]
  have h := gS_fold F s i 15
  rcases hf : foldS F s i 15 with _ | _ | c
  · rw [hf] at h
    show (_ && _) = false
    rw [h.1, h.2]; rfl
  · rw [hf] at h
    have h : gS (tOf F s i) (ysR F s i 15) = ⟨[], false, true⟩ := h
    show (_ && _) = false
    rw [h]; rfl
  · rw [hf] at h
    exact h
/-- the boxes of part's variables -/
structure PtBox (W : World) (A fm : Nat) (g : GS) : Prop where
  fr : Box W (A + 1) [.int .i64 (fm : Int)] 3
  rt : Box W (A + 1 + 1) [.string ⟨#[]⟩] 9
  ro : Box W (A + 1 + 1 + 1) [.bool false] 4
  co : Box W (A + 1 + 1 + 1 + 1) [.string (bA' g.t)] 9
  fo : Box W (A + 1 + 1 + 1 + 1 + 1) [.bool g.found] 4
  sa : Box W (A + 1 + 1 + 1 + 1 + 1 + 1) [.bool g.same] 4
structure RtBox (W : World) (A : Nat) (t : List UInt8) (b : Bool) : Prop where
  rt : Box W (A + 1 + 1) [.string (bA' t)] 9
  ro : Box W (A + 1 + 1 + 1) [.bool b] 4
theorem Box.kept {W W' : World} {B : Nat} {cs : List Value} {T : TypeId} {row : Option Nat} (h : Box W B cs T) (hg : W.grownBy W' row) (hr : ∀ r, row = some r → ∃ o : Obj, W.heap[r]? = some o ∧ o.isCells = false) : Box W' B cs T :=
  (hg.block B h.lt (fun e' => by obtain ⟨o, ho, hc⟩ := hr B e'.symm; rw [show W.heap[B]? = _ from h] at ho; cases ho; cases hc)).trans h
theorem pt_own {β : Type} (n A fm : Nat) (f : β → GS) : OwnFrom n (fun s W => PtBox W A fm (f s)) := fun _ _ _ _ h hg hr =>
  have q := fun r e => (hr r e).2
  ⟨h.fr.kept hg q, h.rt.kept hg q, h.ro.kept hg q, h.co.kept hg q, h.fo.kept hg q, h.sa.kept hg q⟩
theorem rt_own {β : Type} (n A : Nat) (t : List UInt8) (b : Bool) : OwnFrom n (fun (_ : β) W => RtBox W A t b) := fun _ _ _ _ h hg hr =>
  have q := fun r e => (hr r e).2
  ⟨h.rt.kept hg q, h.ro.kept hg q⟩
theorem PtBox.lt {W : World} {A fm : Nat} {g : GS} (h : PtBox W A fm g) : A + 7 ≤ W.heap.size := h.sa.lt
theorem PtBox.step {W : World} {A fm : Nat} {g : GS} (h : PtBox W A fm g) (t : List UInt8) (b : Bool) :
    PtBox (((W.setCell ⟨A + 1 + 1 + 1 + 1 + 1 + 1, 0, none⟩ (.bool b)).setCell ⟨A + 1 + 1 + 1 + 1, 0, none⟩ (.string (bA' t))).setCell ⟨A + 1 + 1 + 1 + 1 + 1, 0, none⟩ (.bool true)) A fm ⟨t, true, b⟩ :=
  ⟨((h.fr.setOther (j := 0) (by omega) _).setOther (j := 0) (by omega) _).setOther (j := 0) (by omega) _,
   ((h.rt.setOther (j := 0) (by omega) _).setOther (j := 0) (by omega) _).setOther (j := 0) (by omega) _,
   ((h.ro.setOther (j := 0) (by omega) _).setOther (j := 0) (by omega) _).setOther (j := 0) (by omega) _,
   ((h.co.setOther (j := 0) (by omega) _).set (j := 0) _).setOther (j := 0) (by omega) _,
   ((h.fo.setOther (j := 0) (by omega) _).setOther (j := 0) (by omega) _).set (j := 0) _,
   ((h.sa.set (j := 0) _).setOther (j := 0) (by omega) _).setOther (j := 0) (by omega) _⟩
theorem KpR.set {n B k : Nat} {W W' : World} (h : KpR n B W W') (hn : n ≤ k) (hk : k < B) (u : Value) : KpR n B W (W'.setCell ⟨k, 0, none⟩ u) :=
  ⟨h.1.setCell (p := ⟨k, 0, none⟩) hn u, fun j h1 h2 =>
    (Below.heap_setCell _ _ _ j (show j ≠ k by omega)).trans (h.2 j h1 h2)⟩
theorem readable_stops (n B0 : Nat) (hn : 1 ≤ n) (ar : Int) (v : Value) (F : List Fr) (s i : Int) (w W2 : World) (hr : FrRow w v F) (hF : SmallF F) (kb2 : Below w.heap.size w W2) (hB : RdBox W2 B0 ar v s i) :
    SeqStopsK Fence.wide n Tryz.prog 69 #[.pointer (some ⟨B0 + 4, 0, none⟩), .pointer (some ⟨B0, 0, none⟩), .pointer (some ⟨B0 + 1, 0, none⟩), .pointer (some ⟨B0 + 2, 0, none⟩), .pointer (some ⟨B0 + 3, 0, none⟩)]
      (rdEnc F s i) (KpR w.heap.size B0) (fun ys => ys = ysR F s i 15) (SpR F s i) 15 W2 := by
  intro l J Jx W hW hJ _ hY h0
  exact readable1_in n hn l B0 W.heap.size ar v F s i w hr hF J Jx hJ hY W (kb2.trans (hW.mono kb2.size)) (hB.kp (KpR.of_below hW kb2.size hB.lt)) h0
def EndG (R : Option (List UInt8)) (g : GS) : Prop := match R with | none => (g.found && g.same) = false | some c => g = ⟨c, true, true⟩
theorem part_no {R : Option (List UInt8)} {g : GS} (h : EndG R g) (hf : (g.found && g.same) = false) {x : ByteArray} {w w' : World} (hb : Below w.heap.size w w') : PartP R w (.returned (.tuple #[.string x, .bool false])) w' := by
  cases R with
  | none => exact ⟨⟨x, rfl⟩, hb⟩
  | some c =>
    have h : g = ⟨c, true, true⟩ := h
    rw [h] at hf; cases hf
theorem part_yes {R : Option (List UInt8)} {gt : List UInt8} (h : EndG R ⟨gt, true, true⟩) {w w' : World} (hb : Below w.heap.size w w') : PartP R w (.returned (.tuple #[.string (bA' gt), .bool true])) w' := by
  cases R with
  | none => cases h
  | some c =>
    have h : GS.mk gt true true = ⟨c, true, true⟩ := h
    injection h with h; subst h; exact ⟨rfl, hb⟩
set_option maxRecDepth 100000 in
set_option maxHeartbeats 1000000 in
theorem part_any (ar : Int) (v : Value) (F : List Fr) (s i : Int) (fm : Nat) (hfm : fm < 15) (w : World) (hr : FrRow w v F) (hF : SmallF F) :
    Calls Tryz.prog 58 #[.agg #[.int .u32 ar, v], .int .i64 s, .int .i64 fm, .int .i64 i] w (PartP (partR F s fm i) w) := by
  refine (callsIn_wide (n := 9)).1 ?_
  refine callsIn_of_wp_marks Tryz.func58 rfl trivial ?_ rfl
  simp only [Tryz.ntmps58, List.size_toArray, List.length_cons, List.length_nil, Nat.reduceAdd, Nat.reduceSub, Array.replicate_succ, Array.replicate_zero, List.push_toArray, List.append_toArray, List.nil_append, List.cons_append]
  gi_wp2_with fail
  refine ⟨trivial, ?_⟩
  obtain ⟨k0, b0⟩ := boxr w [.int .u32 ar, v] 25
  obtain ⟨k1, b1⟩ := boxr (w.alloc (.cells [.int .u32 ar, v].toArray 25)) [.int .i64 (fm : Int)] 3
  obtain ⟨k2, b2⟩ := boxr ((w.alloc (.cells [.int .u32 ar, v].toArray 25)).alloc (.cells [.int .i64 (fm : Int)].toArray 3)) [.string ⟨#[]⟩] 9
  obtain ⟨k3, b3⟩ := boxr (((w.alloc (.cells [.int .u32 ar, v].toArray 25)).alloc (.cells [.int .i64 (fm : Int)].toArray 3)).alloc (.cells [.string ⟨#[]⟩].toArray 9)) [.bool false] 4
  obtain ⟨k4, b4⟩ := boxr ((((w.alloc (.cells [.int .u32 ar, v].toArray 25)).alloc (.cells [.int .i64 (fm : Int)].toArray 3)).alloc (.cells [.string ⟨#[]⟩].toArray 9)).alloc (.cells [.bool false].toArray 4)) [.string ⟨#[]⟩] 9
  obtain ⟨k5, b5⟩ := boxr (((((w.alloc (.cells [.int .u32 ar, v].toArray 25)).alloc (.cells [.int .i64 (fm : Int)].toArray 3)).alloc (.cells [.string ⟨#[]⟩].toArray 9)).alloc (.cells [.bool false].toArray 4)).alloc (.cells [.string ⟨#[]⟩].toArray 9)) [.bool false] 4
  obtain ⟨k6, b6⟩ := boxr ((((((w.alloc (.cells [.int .u32 ar, v].toArray 25)).alloc (.cells [.int .i64 (fm : Int)].toArray 3)).alloc (.cells [.string ⟨#[]⟩].toArray 9)).alloc (.cells [.bool false].toArray 4)).alloc (.cells [.string ⟨#[]⟩].toArray 9)).alloc (.cells [.bool false].toArray 4)) [.bool true] 4
  have kb := step2 (step2 (step2 (step2 (step2 (step2 k0 k1) k2) k3) k4) k5) k6
  have B1 := ((((b1.below k2).below k3).below k4).below k5).below k6
  have B2 := (((b2.below k3).below k4).below k5).below k6
  have B3 := ((b3.below k4).below k5).below k6
  have B4 := (b4.below k5).below k6
  have B5 := b5.below k6
  have B6 := b6
  simp only [World.size_alloc] at B1 B2 B3 B4 B5 B6
  have hP0 : PtBox (((((((w.alloc (.cells [.int .u32 ar, v].toArray 25)).alloc (.cells [.int .i64 (fm : Int)].toArray 3)).alloc (.cells [.string ⟨#[]⟩].toArray 9)).alloc (.cells [.bool false].toArray 4)).alloc (.cells [.string ⟨#[]⟩].toArray 9)).alloc (.cells [.bool false].toArray 4)).alloc (.cells [.bool true].toArray 4)) w.heap.size fm ⟨[], false, true⟩ := ⟨B1, B2, B3, B4, B5, B6⟩
  have hz : (((((((w.alloc (.cells [.int .u32 ar, v].toArray 25)).alloc (.cells [.int .i64 (fm : Int)].toArray 3)).alloc (.cells [.string ⟨#[]⟩].toArray 9)).alloc (.cells [.bool false].toArray 4)).alloc (.cells [.string ⟨#[]⟩].toArray 9)).alloc (.cells [.bool false].toArray 4)).alloc (.cells [.bool true].toArray 4)).heap.size = w.heap.size + 7 := by simp
  clear k0 k1 k2 k3 k4 k5 k6 b0 b1 b2 b3 b4 b5 b6 B1 B2 B3 B4 B5 B6
  obtain ⟨W1, hW1⟩ : ∃ W1, (((((((w.alloc (.cells [.int .u32 ar, v].toArray 25)).alloc (.cells [.int .i64 (fm : Int)].toArray 3)).alloc (.cells [.string ⟨#[]⟩].toArray 9)).alloc (.cells [.bool false].toArray 4)).alloc (.cells [.string ⟨#[]⟩].toArray 9)).alloc (.cells [.bool false].toArray 4)).alloc (.cells [.bool true].toArray 4)) = W1 := ⟨_, rfl⟩
  rw [hW1] at kb hP0 hz ⊢
  clear hW1
  replace hz := Lib.hid hz
  refine (callsIn_wide.2 (readable_any ar v s i W1)).mono ?_
  rintro e W2 ⟨rfl, hB, hb2⟩
  have kb2 := step2 kb hb2
  have hP2 : PtBox W2 w.heap.size fm ⟨[], false, true⟩ := pt_own (β := Unit) 0 w.heap.size fm (fun _ => ⟨[], false, true⟩) () _ _ none hP0 (grown_of_below hb2) (fun r e => by cases e)
  clear hP0 kb hb2
  have hB5 := hB.lt
  gi_wp2_with fail
  refine wpIn_rangeFunc_ownH rfl (by omega) (gf := 69) (lb := #[.pointer (some ⟨W1.heap.size + 4, 0, none⟩), .pointer (some ⟨W1.heap.size, 0, none⟩), .pointer (some ⟨W1.heap.size + 1, 0, none⟩), .pointer (some ⟨W1.heap.size + 2, 0, none⟩), .pointer (some ⟨W1.heap.size + 3, 0, none⟩)]) rfl trivial (enters_of Tryz.func69 (by kernel_rfl) rfl)
    (readable_stops _ W1.heap.size (by omega) ar v F s i w W2 hr hF kb2 hB)
    (fun h k => KpR.trans h k) (fun W l o o' hl hh h1 h2 => ⟨belowK_b (w := W2) kb2.size W l o o' hl hh h1 h2, fun j _ h4 => World.putObj_heap_other (by omega)⟩) (Below.refl _ _) (rdEnc_size F s i)
    (fun pre W => ((∀ x ∈ pre, x ≠ fm) ∧ PtBox W w.heap.size fm (gS (tOf F s i) pre)) ∧ Below w.heap.size w W)
    (fun c pre W => ((c = .ret ∧ pre.getLast? = some fm) ∧ RtBox W w.heap.size (tOf F s i fm) true) ∧ Below w.heap.size w W)
    (OwnFrom.and (OwnFrom.and (ownFrom_pure _ _) (pt_own _ _ _ _)) (ownFrom_below (Nat.le_refl _) kb2.size))
    (fun c => OwnFrom.and (OwnFrom.and (ownFrom_pure _ _) (rt_own _ _ _ _)) (ownFrom_below (Nat.le_refl _) kb2.size))
    ⟨⟨(fun x hx => by cases hx), hP2⟩, kb2⟩
    (fun x a' W => a' = { tmps := #[.agg #[.int .u32 ar, v], .int .i64 s, .int .i64 (fm : Int), .int .i64 i, .pointer (some ⟨w.heap.size, 0, none⟩), undef, .pointer (some ⟨w.heap.size + 1, 0, none⟩), undef, .pointer (some ⟨w.heap.size + 1 + 1, 0, none⟩), .pointer (some ⟨w.heap.size + 1 + 1 + 1, 0, none⟩), .pointer (some ⟨w.heap.size + 1 + 1 + 1 + 1, 0, none⟩), .pointer (some ⟨w.heap.size + 1 + 1 + 1 + 1 + 1, 0, none⟩), .pointer (some ⟨w.heap.size + 1 + 1 + 1 + 1 + 1 + 1, 0, none⟩), .int .i64 (x : Int), (.string (bA' (tOf F s i x))), .agg #[.int .u32 ar, v], .int .i64 s, .int .i64 i, (.func (.func 69) #[] #[.pointer (some ⟨W1.heap.size + 4, 0, none⟩), .pointer (some ⟨W1.heap.size, 0, none⟩), .pointer (some ⟨W1.heap.size + 1, 0, none⟩), .pointer (some ⟨W1.heap.size + 2, 0, none⟩), .pointer (some ⟨W1.heap.size + 3, 0, none⟩)]), .int .i64 (x : Int), (.string (bA' (tOf F s i x))), undef, undef, undef, undef, undef, undef, undef, undef, undef, undef, undef, undef, undef, undef, undef, undef, undef, undef, undef, undef], defers := [] })
    (fun x a' _ X Y row hs hg hr => hs)
    ?assign ?body ?done ?stop
  case assign =>
    rintro l pre x W K ⟨⟨hp, hB1⟩, hb1⟩ hK
    dsimp only [rdEnc]
    gi_wp2
    exact hK _ _ (KeepsFrom.refl _ _) ⟨Below.refl _ _, fun j _ _ => rfl⟩ ⟨⟨hp, hB1⟩, hb1⟩ rfl
  case body =>
    rintro l pre x a' W hl _ ⟨⟨hp, hPb⟩, hb1⟩ rfl hlt
    have hB5l := hB.lt
    have HP := Lib.hid hPb
    have f_c : W.cell? ⟨w.heap.size + 1, 0, none⟩ = some (.int .i64 (fm : Int)) := hPb.fr.cell 0
    by_cases hx : x = fm
    · have y : ((x : Int) == (fm : Int)) = true := by rw [hx]; simp
      have r0 : W.cell? ⟨w.heap.size + 1 + 1, 0, none⟩ = some (.string ⟨#[]⟩) := hPb.rt.cell 0
      have r1 : W.cell? ⟨w.heap.size + 1 + 1 + 1, 0, none⟩ = some (.bool false) := hPb.ro.cell 0
      have g0 : W.frozen? ⟨w.heap.size + 1 + 1, 0, none⟩ = false := hPb.rt.frozen 0
      have g1 : W.frozen? ⟨w.heap.size + 1 + 1 + 1, 0, none⟩ = false := hPb.ro.frozen 0
      clear hPb hB hB5l
      gi_wp2
      refine ⟨((KeepsOthers.setCell _ _ _).from _).trans ((KeepsOthers.setCell _ _ _).from _), ⟨⟨rfl, by rw [List.getLast?_append, hx]; rfl⟩, ?_⟩, ?_⟩
      · subst hx
        exact ⟨(HP.out.rt.set (j := 0) _).setOther (j := 0) (by omega) _, (HP.out.ro.setOther (j := 0) (by omega) _).set (j := 0) _⟩
      · exact (hb1.setCell (p := ⟨w.heap.size + 1 + 1, 0, none⟩) (by show w.heap.size ≤ w.heap.size + 1 + 1; omega) _).setCell (p := ⟨w.heap.size + 1 + 1 + 1, 0, none⟩) (by show w.heap.size ≤ w.heap.size + 1 + 1 + 1; omega) _
    have y : ((x : Int) == (fm : Int)) = false := by rw [beq_eq_false_iff_ne]; omega
    obtain ⟨g, hg⟩ : ∃ g, gS (tOf F s i) pre = g := ⟨_, rfl⟩
    rw [hg] at hPb HP
    have Hg := Lib.hid hg
    clear hg
    have c4 : W.cell? ⟨w.heap.size + 1 + 1 + 1 + 1, 0, none⟩ = some (.string (bA' g.t)) := hPb.co.cell 0
    have c5 : W.cell? ⟨w.heap.size + 1 + 1 + 1 + 1 + 1, 0, none⟩ = some (.bool g.found) := hPb.fo.cell 0
    have c6 : W.cell? ⟨w.heap.size + 1 + 1 + 1 + 1 + 1 + 1, 0, none⟩ = some (.bool g.same) := hPb.sa.cell 0
    have z4 : W.frozen? ⟨w.heap.size + 1 + 1 + 1 + 1, 0, none⟩ = false := hPb.co.frozen 0
    have z5 : W.frozen? ⟨w.heap.size + 1 + 1 + 1 + 1 + 1, 0, none⟩ = false := hPb.fo.frozen 0
    have z6 : W.frozen? ⟨w.heap.size + 1 + 1 + 1 + 1 + 1 + 1, 0, none⟩ = false := hPb.sa.frozen 0
    have hst : Hid (gS (tOf F s i) (pre ++ [x]) = ⟨tOf F s i x, true, g.same && (!g.found || decide (tOf F s i x = g.t))⟩) := by rw [Hid, gS_snoc, Hg.out]; rfl
    have yt : ((bA' (tOf F s i x)).toList == (bA' g.t).toList) = decide (tOf F s i x = g.t) := by rw [str_eq]; rfl
    have hpx : Hid (∀ z ∈ pre ++ [x], z ≠ fm) := fun z hz => by
      rw [List.mem_append, List.mem_singleton] at hz
      rcases hz with hz | rfl
      · exact hp z hz
      · exact hx
    have fin : ∀ b, (g.same && (!g.found || decide (tOf F s i x = g.t))) = b → ownPostG W2.heap.size (KpR w.heap.size W1.heap.size) (fun pre W => ((∀ x ∈ pre, x ≠ fm) ∧ PtBox W w.heap.size fm (gS (tOf F s i) pre)) ∧ Below w.heap.size w W)
        (fun c pre W => ((c = .ret ∧ pre.getLast? = some fm) ∧ RtBox W w.heap.size (tOf F s i fm) true) ∧ Below w.heap.size w W) (pre ++ [x]) W .normal { tmps := #[], defers := [] }
        (((W.setCell ⟨w.heap.size + 1 + 1 + 1 + 1 + 1 + 1, 0, none⟩ (.bool b)).setCell ⟨w.heap.size + 1 + 1 + 1 + 1, 0, none⟩ (.string (bA' (tOf F s i x)))).setCell ⟨w.heap.size + 1 + 1 + 1 + 1 + 1, 0, none⟩ (.bool true)) := by
      intro b hb
      have hz' := hz.out
      have kp : KpR w.heap.size W1.heap.size W (((W.setCell ⟨w.heap.size + 1 + 1 + 1 + 1 + 1 + 1, 0, none⟩ (.bool b)).setCell ⟨w.heap.size + 1 + 1 + 1 + 1, 0, none⟩ (.string (bA' (tOf F s i x)))).setCell ⟨w.heap.size + 1 + 1 + 1 + 1 + 1, 0, none⟩ (.bool true)) :=
        ((KpR.set ⟨Below.refl _ _, fun j _ _ => rfl⟩ (by omega) (by omega) _).set (by omega) (by omega) _).set (by omega) (by omega) _
      refine ⟨(((KeepsOthers.setCell _ _ _).from _).trans ((KeepsOthers.setCell _ _ _).from _)).trans ((KeepsOthers.setCell _ _ _).from _), kp, ⟨hpx.out, ?_⟩, hb1.trans kp.1⟩
      rw [hst.out, hb]
      exact HP.out.step _ _
    have FIN := Lib.hid fin
    clear fin hst hpx HP hPb hB hB5l hp Hg
    generalize tOf F s i x = tx at *
    rcases g with ⟨gt, gf, gs⟩
    cases gs with
    | false =>
      cases gf with
      | false => gi_wp2; exact FIN.out false rfl
      | true => gi_wp2; exact FIN.out false rfl
    | true =>
      cases gf with
      | false => gi_wp2; exact FIN.out true rfl
      | true =>
        by_cases hq : tx = gt
        · subst hq
          rw [decide_eq_true rfl] at yt
          gi_wp2
          exact FIN.out true (by simp)
        · rw [decide_eq_false hq] at yt
          gi_wp2
          exact FIN.out false (by simp [hq])
  case done =>
    rintro D zs W hD rfl ⟨⟨hp, hPb⟩, hb1⟩ hK
    have ho : ownR F s fm i = none := by
      rcases ho : ownR F s fm i with _ | t
      · rfl
      · exact absurd rfl (hp fm (ys_mem hfm ho))
    have HE : Hid (EndG (partR F s fm i) (gS (tOf F s i) (ysR F s i 15))) := gS_end ho
    obtain ⟨g, hg⟩ : ∃ g, gS (tOf F s i) (ysR F s i 15) = g := ⟨_, rfl⟩
    rw [hg] at HE hPb
    clear hg ho hp hB
    have HP := Lib.hid hPb
    have c4 : W.cell? ⟨w.heap.size + 1 + 1 + 1 + 1, 0, none⟩ = some (.string (bA' g.t)) := hPb.co.cell 0
    have c5 : W.cell? ⟨w.heap.size + 1 + 1 + 1 + 1 + 1, 0, none⟩ = some (.bool g.found) := hPb.fo.cell 0
    have c6 : W.cell? ⟨w.heap.size + 1 + 1 + 1 + 1 + 1 + 1, 0, none⟩ = some (.bool g.same) := hPb.sa.cell 0
    have r0 : W.cell? ⟨w.heap.size + 1 + 1, 0, none⟩ = some (.string ⟨#[]⟩) := hPb.rt.cell 0
    have r1 : W.cell? ⟨w.heap.size + 1 + 1 + 1, 0, none⟩ = some (.bool false) := hPb.ro.cell 0
    have g0 : W.frozen? ⟨w.heap.size + 1 + 1, 0, none⟩ = false := hPb.rt.frozen 0
    have g1 : W.frozen? ⟨w.heap.size + 1 + 1 + 1, 0, none⟩ = false := hPb.ro.frozen 0
    clear hPb
    gi_wp2
    refine wpIn_wide.2 ?_
    have gk : ∀ b : Bool, (g.found && g.same) = b → ∀ W3 : World, W3 = ((W.setCell ⟨w.heap.size + 1 + 1, 0, none⟩ (.string (bA' g.t))).setCell ⟨w.heap.size + 1 + 1 + 1, 0, none⟩ (.bool b)).drew →
        RtBox W3 w.heap.size g.t b ∧ Below w.heap.size w W3 ∧ W3.heap[D]? = some (.deferred (some [])) := by
      rintro b - W3 rfl
      refine ⟨⟨(HP.out.rt.set (j := 0) _).setOther (j := 0) (by omega) _, (HP.out.ro.setOther (j := 0) (by omega) _).set (j := 0) _⟩, ?_, ?_⟩
      · exact below_drew0 ((hb1.setCell (p := ⟨w.heap.size + 1 + 1, 0, none⟩) (by show w.heap.size ≤ w.heap.size + 1 + 1; omega) _).setCell (p := ⟨w.heap.size + 1 + 1 + 1, 0, none⟩) (by show w.heap.size ≤ w.heap.size + 1 + 1 + 1; omega) _)
      · exact (((KeepsOthers.setCell W ⟨w.heap.size + 1 + 1, 0, none⟩ (.string (bA' g.t))).from 0).trans ((KeepsOthers.setCell _ ⟨w.heap.size + 1 + 1 + 1, 0, none⟩ (.bool b)).from 0)).same D _ (Nat.zero_le _) hK rfl
    have GK := Lib.hid gk
    clear gk HP
    have HK := Lib.hid hK; clear hK
    rcases g with ⟨gt, gf, gs⟩
    dsimp only at c4 c5 c6 GK HE
    cases gf with
    | false =>
      go_region
      all_goals
        obtain ⟨W3, hW3⟩ : ∃ W3, ((W.setCell ⟨w.heap.size + 1 + 1, 0, none⟩ (.string (bA' gt))).setCell ⟨w.heap.size + 1 + 1 + 1, 0, none⟩ (.bool false)).drew = W3 := ⟨_, rfl⟩
        obtain ⟨hR3, hb3, hK3⟩ := GK.out false rfl W3 hW3.symm
        rw [hW3]
        clear hW3 GK c4 c5 c6 r0 r1 g0 g1 HK
        gi_wp2
        refine ⟨by simp, .inl ⟨_, _, rfl, run_takeDeferred hK3, ?_⟩⟩
        have hc8 := cell_kept ((hR3).rt.cell 0) (grownBy_putObj' _ D (.deferred none)) (fun r e => by cases e; exact ⟨_, hK3, rfl⟩)
        have hc9 := cell_kept ((hR3).ro.cell 0) (grownBy_putObj' _ D (.deferred none)) (fun r e => by cases e; exact ⟨_, hK3, rfl⟩)
        refine ⟨.tuple #[.string (bA' gt), .bool false], ?_, part_no HE.out rfl (hb3.trans (belowK_b (w := w) (Nat.le_refl _) _ D _ _ (Nat.le_trans kb2.size hD) hK3 rfl rfl))⟩
        simp [results, Tryz.f58, go_sem, hc8, hc9]
    | true =>
      cases gs with
      | false =>
        go_region
        all_goals
          obtain ⟨W3, hW3⟩ : ∃ W3, ((W.setCell ⟨w.heap.size + 1 + 1, 0, none⟩ (.string (bA' gt))).setCell ⟨w.heap.size + 1 + 1 + 1, 0, none⟩ (.bool false)).drew = W3 := ⟨_, rfl⟩
          obtain ⟨hR3, hb3, hK3⟩ := GK.out false rfl W3 hW3.symm
          rw [hW3]
          clear hW3 GK c4 c5 c6 r0 r1 g0 g1 HK
          gi_wp2
          refine ⟨by simp, .inl ⟨_, _, rfl, run_takeDeferred hK3, ?_⟩⟩
          have hc8 := cell_kept ((hR3).rt.cell 0) (grownBy_putObj' _ D (.deferred none)) (fun r e => by cases e; exact ⟨_, hK3, rfl⟩)
          have hc9 := cell_kept ((hR3).ro.cell 0) (grownBy_putObj' _ D (.deferred none)) (fun r e => by cases e; exact ⟨_, hK3, rfl⟩)
          refine ⟨.tuple #[.string (bA' gt), .bool false], ?_, part_no HE.out rfl (hb3.trans (belowK_b (w := w) (Nat.le_refl _) _ D _ _ (Nat.le_trans kb2.size hD) hK3 rfl rfl))⟩
          simp [results, Tryz.f58, go_sem, hc8, hc9]
      | true =>
        go_region
        all_goals
          obtain ⟨W3, hW3⟩ : ∃ W3, ((W.setCell ⟨w.heap.size + 1 + 1, 0, none⟩ (.string (bA' gt))).setCell ⟨w.heap.size + 1 + 1 + 1, 0, none⟩ (.bool true)).drew = W3 := ⟨_, rfl⟩
          obtain ⟨hR3, hb3, hK3⟩ := GK.out true rfl W3 hW3.symm
          rw [hW3]
          clear hW3 GK c4 c5 c6 r0 r1 g0 g1 HK
          gi_wp2
          refine ⟨by simp, .inl ⟨_, _, rfl, run_takeDeferred hK3, ?_⟩⟩
          have hc8 := cell_kept ((hR3).rt.cell 0) (grownBy_putObj' _ D (.deferred none)) (fun r e => by cases e; exact ⟨_, hK3, rfl⟩)
          have hc9 := cell_kept ((hR3).ro.cell 0) (grownBy_putObj' _ D (.deferred none)) (fun r e => by cases e; exact ⟨_, hK3, rfl⟩)
          refine ⟨.tuple #[.string (bA' gt), .bool true], ?_, part_yes HE.out (hb3.trans (belowK_b (w := w) (Nat.le_refl _) _ D _ _ (Nat.le_trans kb2.size hD) hK3 rfl rfl))⟩
          simp [results, Tryz.f58, go_sem, hc8, hc9]
  case stop =>
    rintro D c pre W hD hpre ⟨⟨⟨rfl, hx⟩, hRt⟩, hb1⟩ hK
    have ho : ownR F s fm i = some (tOf F s i fm) := by
      obtain ⟨k, _, rfl, hk⟩ := hpre
      rw [List.getLast?_append] at hx
      simp at hx
      subst hx
      rw [tOf]
      obtain ⟨t, ht⟩ := Option.isSome_iff_exists.1 hk
      rw [ht]; rfl
    have hpo := part_own ho
    clear hx ho hpre hB hP2
    gi_wp2
    refine ⟨by simp, .inl ⟨_, _, rfl, run_takeDeferred hK, ?_⟩⟩
    have hc8 := cell_kept ((hRt).rt.cell 0) (grownBy_putObj' _ D (.deferred none)) (fun r e => by cases e; exact ⟨_, hK, rfl⟩)
    have hc9 := cell_kept ((hRt).ro.cell 0) (grownBy_putObj' _ D (.deferred none)) (fun r e => by cases e; exact ⟨_, hK, rfl⟩)
    refine ⟨.tuple #[.string (bA' (tOf F s i fm)), .bool true], ?_, by rw [hpo], hb1.trans (belowK_b (w := w) (Nat.le_refl _) _ D _ _ (Nat.le_trans kb2.size hD) hK rfl rfl)⟩
    simp [results, Tryz.f58, go_sem, hc8, hc9]
end Go.Proofs.YtpkapcijgldhhaaGreatDoor

namespace Go.Proofs.YtpkapcijgldhhaaGreatDoor
open Go.RowKit Go.Shelf
theorem len_bd {l : List UInt8} {n : Int} (h : lenR l = .ok n) : 8 ≤ n ∧ n ≤ 100000008 := by
  obtain ⟨h1, h2, h3⟩ := lenR_ok.1 h
  have := val_bd _ h2
  have h4 : (l.take 8).length = 8 := by rw [List.length_take]; omega
  rw [h4] at this
  omega
theorem len_err {l : List UInt8} {x : Int} (h : lenR l = .error x) : x ≠ 0 := by
  unfold lenR at h
  split at h
  · injection h with h; omega
  · split at h
    · cases h
    · injection h with h; omega
theorem part_bd {F : List Fr} {s fm i : Int} (hF : SmallF F) {t : List UInt8} (h : partR F s fm i = some t) : t.length ≤ 100 := by
  obtain ⟨f, h1, _, h2⟩ := part_mem h
  have := hF.2 f h1
  omega
end Go.Proofs.YtpkapcijgldhhaaGreatDoor
