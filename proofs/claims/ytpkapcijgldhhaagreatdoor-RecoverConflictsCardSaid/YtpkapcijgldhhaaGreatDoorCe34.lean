/-
  Chapter 45: a collection with the bounds of its layouts, a pair of ints, an extent among the arguments.
  The layout that the frames of a session state, in the reference.
  The field of 256 elements in the program: sums, products, quotients.
  A range over an iterator that counts in a box of its own and is never stopped: the law of such a loop.
-/
import Derived.Test.YtpkapcijgldhhaaGreatDoorCe20
import Derived.Test.YtpkapcijgldhhaaGreatDoorCe33
import Derived.OpenShut
import Derived.Test.YtpkapcijgldhhaaGreatDoorCe22
import Derived.Test.YtpkapcijgldhhaaGreatDoorCe02
import Derived.Deep.Cut
import Derived.Deep.CutRange
import Derived.Deep.CutBlock
import Derived.Deep.QuietTactic
import Derived.BigQuiet
import Derived.RangeFuncNested
import Derived.RangeFuncBound
import Derived.RangeFuncCalls
import Derived.RangeFuncLeaves
import Derived.Shelf.Abstract
import Derived.Shelf.RegionOpen
import Derived.TacticsInMore
import Derived.LoopNIn
import Derived.LoopIn
import Derived.OwnWalkIn
import Derived.Sort.QuietIn
namespace Go.Proofs.YtpkapcijgldhhaaGreatDoor
open Go.ChangeShapes Go.WideShapes Go.ChangeAt Go.RowKit Go.Deep
theorem pair_cells : Tryz.prog.cellsOf 32 = 2 := by kernel_rfl
theorem ext_cells : Tryz.prog.cellsOf 34 = 3 := by kernel_rfl
section
variable {H : Type} {enc : TypeId × Value → H} {w : World} {base : Nat}
set_option maxRecDepth 100000 in
theorem open_collectionW {r : Reach} {b0 : Nat} {v : Value} {d : DataW H} {p : List MemPlace} (hv : Value.okWide Tryz.prog w r b0 25 v) (h : DataW.Trod enc Tryz.prog w base (fun _ => true) true 25 v d p) :
    ∃ (ar : Int) (va : Value) (F : List Fr), v = .agg #[.int .u32 ar, va] ∧ FrRow w va F ∧ (∀ i, i < F.length → (frAt F i).payload.size ≤ 9223372036854775807) ∧ LayWf F := by
  obtain ⟨cs, rfl, hsz⟩ := okWide_struct Tryz.underlying25 hv
  obtain ⟨fuel, hf0⟩ := h
  have hC : Tryz.prog.cellsOf 25 = 2 := by kernel_rfl
  rw [hC] at hsz
  obtain ⟨xs, k, _, hy, _, hxl, hf⟩ := DataW.trod_struct Tryz.underlying25 hf0
  have hl : cs.toList.length = 2 := by simpa using hsz
  obtain ⟨cs⟩ := cs
  match xs, hxl, cs, hl with
  | [y0, y1], _, [v0, v1], _ =>
    have g0 := hf 0 _ rfl
    have g1 := hf 1 _ rfl
    simp [Value.cells, fr_u32_cells, fr_frs_cells] at g0 g1
    obtain ⟨k0, e0, q0, z0⟩ := DataW.trod_int Tryz.underlying22 g0
    simp only [List.cons.injEq, and_true] at e0
    subst e0
    obtain ⟨a, l, c, rfl⟩ : ∃ a l c, v1 = .slice a l c := by
      rcases open_slice Tryz.underlying23 g1 with ⟨hcs, _⟩ | ⟨a, len', cap', m, n', D, Pl, hcs, _⟩
      · exact ⟨none, 0, 0, by simpa using hcs⟩
      · exact ⟨some a, len', cap', by simpa using hcs⟩
    obtain ⟨F, hF, pF⟩ := grow_of (f := Fr.vals) (d := fr0) (P := FrWf) Tryz.underlying23 (by kernel_rfl) (by decide) (fun _ => rfl) fr0_wf (fun h1 h2 => fr_elem h1 h2) g1
    exact ⟨k0, _, F, rfl, hF, fun i _ => (pF i).pl, fun i _ => ⟨(pF i).da, (pF i).sp⟩⟩
def I64 (n : Int) : Prop := -9223372036854775808 ≤ n ∧ n ≤ 9223372036854775807
set_option maxRecDepth 100000 in
theorem open_pair {r : Reach} {b0 : Nat} {v : Value} {d : DataW H} {p : List MemPlace} {spare : Nat → Bool} {held : Bool} (hv : Value.okWide Tryz.prog w r b0 32 v) (h : DataW.Trod enc Tryz.prog w base spare held 32 v d p) :
    ∃ (x0 x1 : Int), v = .agg #[.int .i64 x0, .int .i64 x1] ∧ I64 x0 ∧ I64 x1 := by
  simp only [Value.okWide, Tryz.underlying32] at hv
  obtain ⟨cs, rfl, hsz, _⟩ := hv
  obtain ⟨fuel, hf0⟩ := h
  rw [pair_cells] at hsz
  obtain ⟨xs, k, _, _, _, hxl, hf⟩ := DataW.trod_array Tryz.underlying32 hf0
  have hl : cs.toList.length = 2 := by simpa using hsz
  obtain ⟨cs⟩ := cs
  match xs, hxl, cs, hl with
  | [y0, y1], _, [v0, v1], _ =>
    have g0 := hf 0 (by decide)
    have g1 := hf 1 (by decide)
    simp [Value.cells, en_int_cells] at g0 g1
    obtain ⟨k0, e0, q0, z0⟩ := DataW.trod_int Tryz.underlying3 g0
    obtain ⟨k1, e1, q1, z1⟩ := DataW.trod_int Tryz.underlying3 g1
    simp only [List.cons.injEq, and_true] at e0 e1
    subst e0 e1
    exact ⟨k0, k1, rfl, wf_boundsi64 z0, wf_boundsi64 z1⟩
set_option maxRecDepth 100000 in
theorem open_extent {r : Reach} {b0 : Nat} {v : Value} {d : DataW H} {p : List MemPlace} {spare : Nat → Bool} {held : Bool} (hv : Value.okWide Tryz.prog w r b0 34 v) (h : DataW.Trod enc Tryz.prog w base spare held 34 v d p) :
    ∃ (x0 x1 x2 : Int), v = .agg #[.int .i64 x0, .int .i64 x1, .int .i64 x2] ∧ I64 x0 ∧ I64 x1 ∧ I64 x2 := by
  obtain ⟨cs, rfl, hsz⟩ := okWide_struct Tryz.underlying34 hv
  obtain ⟨fuel, hf0⟩ := h
  rw [ext_cells] at hsz
  obtain ⟨xs, k, _, _, _, hxl, hf⟩ := DataW.trod_struct Tryz.underlying34 hf0
  have hl : cs.toList.length = 3 := by simpa using hsz
  obtain ⟨cs⟩ := cs
  match xs, hxl, cs, hl with
  | [y0, y1, y2], _, [v0, v1, v2], _ =>
    have g0 := hf 0 _ rfl
    have g1 := hf 1 _ rfl
    have g2 := hf 2 _ rfl
    simp [Value.cells, en_int_cells] at g0 g1 g2
    obtain ⟨k0, e0, q0, z0⟩ := DataW.trod_int Tryz.underlying3 g0
    obtain ⟨k1, e1, q1, z1⟩ := DataW.trod_int Tryz.underlying3 g1
    obtain ⟨k2, e2, q2, z2⟩ := DataW.trod_int Tryz.underlying3 g2
    simp only [List.cons.injEq, and_true] at e0 e1 e2
    subst e0 e1 e2
    exact ⟨k0, k1, k2, rfl, wf_boundsi64 z0, wf_boundsi64 z1, wf_boundsi64 z2⟩
end
end Go.Proofs.YtpkapcijgldhhaaGreatDoor

namespace Go.Proofs.YtpkapcijgldhhaaGreatDoor
open Go.RowKit Go.Shelf
theorem drop_fr {F : List Fr} {k : Nat} (h : k < F.length) : F.drop k = frAt F k :: F.drop (k + 1) := by
  rw [frAt_get h]; exact List.drop_eq_getElem_cons h
theorem layF_skip {F : List Fr} {s : Int} {k : Nat} {st : Option (Int × Int)} (h : k < F.length) (hs : (frAt F k).session ≠ s) : layR s st (F.drop k) = layR s st (F.drop (k + 1)) := by
  rw [drop_fr h]
  cases st <;> rw [layR, if_neg hs]
theorem layF_first {F : List Fr} {s : Int} {k : Nat} (h : k < F.length) (hs : (frAt F k).session = s) : layR s none (F.drop k) = layR s (some ((frAt F k).data, (frAt F k).spare)) (F.drop (k + 1)) := by
  rw [drop_fr h, layR, if_pos hs]
theorem layF_again {F : List Fr} {s : Int} {k : Nat} {x : Int × Int} (h : k < F.length) (hs : (frAt F k).session = s) (hx : x = ((frAt F k).data, (frAt F k).spare)) : layR s (some x) (F.drop k) = layR s (some x) (F.drop (k + 1)) := by
  rw [drop_fr h, layR, if_pos hs, if_pos hx]
theorem layF_clash {F : List Fr} {s : Int} {k : Nat} {x : Int × Int} (h : k < F.length) (hs : (frAt F k).session = s) (hx : x ≠ ((frAt F k).data, (frAt F k).spare)) : layR s (some x) (F.drop k) = .error 20 := by
  rw [drop_fr h, layR, if_pos hs, if_neg hx]
theorem layF_end {F : List Fr} {s : Int} {st : Option (Int × Int)} : layR s st (F.drop F.length) = (match st with | none => .error 19 | some x => .ok x) := by
  rw [List.drop_length]; cases st <;> rfl
/-- what stands between two rounds -/
def LyP (F : List Fr) (s : Int) (R : Except Int (Int × Int)) (k : Nat) (p : Value) (x : Int × Int) : Prop :=
  (p = .bool false ∧ layR s none (F.drop k) = R) ∨ (p = .bool true ∧ layR s (some x) (F.drop k) = R)
theorem LyP.skip {F : List Fr} {s : Int} {R : Except Int (Int × Int)} {k : Nat} {p : Value} {x : Int × Int} (hp : LyP F s R k p x) (hlt : k < F.length) (hs : (frAt F k).session ≠ s) : LyP F s R (k + 1) p x :=
  hp.imp (fun h => ⟨h.1, by rw [← layF_skip hlt hs]; exact h.2⟩) (fun h => ⟨h.1, by rw [← layF_skip hlt hs]; exact h.2⟩)
set_option maxRecDepth 100000 in
set_option maxHeartbeats 4000000 in
theorem layoutR1 (ar : Int) (b o cap : Nat) (F : List Fr) (s : Int) (w : World) (hl : F.length ≤ 100000) (hb : b < w.heap.size) (hF : FrAt w b o F) :
    Calls Tryz.prog 39 #[.agg #[.int .u32 ar, .slice (some ⟨b, o, none⟩) F.length cap], .int .i64 s] w (LayQ (layR s none F) w) := by
  have HF := Lib.hid (show ∀ W : World, Below w.heap.size w W → ∀ k, k < F.length → _ from fun W hW k hk => frCells (hF.below hW hb) (i := k) hk)
  clear hF
  obtain ⟨k0, bC⟩ := boxr w [.int .u32 ar, .slice (some ⟨b, o, none⟩) F.length cap] 25
  obtain ⟨k1, bR⟩ := boxr (w.alloc (.cells [.int .u32 ar, .slice (some ⟨b, o, none⟩) F.length cap].toArray 25)) [.int .i64 0, .int .i64 0] 39
  replace bC := bC.below k1
  replace k0 := step2 k0 k1
  clear k1
  rw [World.size_alloc] at bR
  have hz0 : ((w.alloc (.cells [.int .u32 ar, .slice (some ⟨b, o, none⟩) F.length cap].toArray 25)).alloc (.cells [.int .i64 0, .int .i64 0].toArray 39)).heap.size = w.heap.size + 2 := by simp
  obtain ⟨R, hR⟩ : ∃ R, layR s none F = R := ⟨_, rfl⟩
  rw [hR]
  have HR0 : Hid (LyP F s R 0 (.bool false) (0, 0)) := .inl ⟨rfl, hR⟩
  clear hR
  go_enter Tryz.func39, Tryz.ntmps39
  go_upto_region 1 with (fail)
  change Code.wp _ _ _ _ ((w.alloc (.cells [.int .u32 ar, .slice (some ⟨b, o, none⟩) F.length cap].toArray 25)).alloc (.cells [.int .i64 0, .int .i64 0].toArray 39))
  generalize (w.alloc (.cells [.int .u32 ar, .slice (some ⟨b, o, none⟩) F.length cap].toArray 25)).alloc (.cells [.int .i64 0, .int .i64 0].toArray 39) = W0 at *
  obtain ⟨kL, bL⟩ := boxr W0 [.int .i64 0, .int .i64 0] 39
  rw [hz0] at bL
  replace k0 := step2 k0 kL
  replace bC := bC.below kL
  replace bR := bR.below kL
  go_upto_region 3 with (fail)
  change Code.wp _ _ _ _ (W0.alloc (.cells [.int .i64 0, .int .i64 0].toArray 39))
  generalize W0.alloc (.cells [.int .i64 0, .int .i64 0].toArray 39) = W1 at *
  clear kL hz0
  go_wp2_with fail
  go_loopw [6, 8, 9] (fun p i _ wr => ∃ (k : Nat) (x : Int × Int), k ≤ F.length ∧ i = .int .i64 k ∧ Below w.heap.size w wr ∧ Box wr w.heap.size [.int .u32 ar, .slice (some ⟨b, o, none⟩) F.length cap] 25 ∧ Box wr (w.heap.size + 1) [.int .i64 0, .int .i64 0] 39 ∧ Box wr (w.heap.size + 2) [.int .i64 x.1, .int .i64 x.2] 39 ∧ Hid (LyP F s R k p x)) (fun _ i _ _ => F.length - (intOf i).toNat)
  case atStart => exact ⟨0, (0, 0), by omega, rfl, k0, bC, bR, bL, HR0⟩
  case round =>
    clear HR0 k0 bC bR bL
    obtain ⟨k, x, hk, rfl, kb, bC, bR, bL, hp⟩ := hrel
    have c1 : wr.cell? ⟨w.heap.size, 1, none⟩ = some (.slice (some ⟨b, o, none⟩) F.length cap) := bC.cell 1
    by_cases hlt : k < F.length
    · obtain ⟨q0, q1, q2, q3, q4, q5, q6, q7, q8⟩ := HF.out _ kb k hlt
      have hix : (0 : Int) ≤ (k : Int) ∧ (k : Int) < (F.length : Int) := by omega
      obtain ⟨kF, bF⟩ := boxr wr (frAt F k).vals 46
      have k1 := step2 kb kF
      have bC1 := bC.below kF
      have bR1 := bR.below kF
      have bL1 := bL.below kF
      go_upto_region 6 with (fail)
      go_upto_region 7 with (fail)
      change Code.wp _ _ _ _ (wr.alloc (.cells (frAt F k).vals.toArray 46))
      generalize wr.alloc (.cells (frAt F k).vals.toArray 46) = W3 at *
      generalize wr.heap.size = FB at *
      clear kF bR bL bC kb q0 q1 q2 q3 q4 q5 q6 q7 q8 c1
      obtain ⟨z0, z1, z2, z3, z4, z5, z6, z7, z8⟩ := bF.cells9
      by_cases hs : (frAt F k).session = s
      case neg =>
        have y : ((frAt F k).session != s) = true := bne_iff_ne.2 hs
        have hn := Lib.hid (LyP.skip hp.out hlt hs)
        clear hs hp bF
        go_wp2_with fail
        go_roundw
        case rel => exact ⟨k + 1, x, by omega, by go_num, k1, bC1, bR1, bL1, hn⟩
        case measure => simp [intOf]; omega
      have y : ((frAt F k).session != s) = false := by rw [hs]; simp
      have H1 := Lib.hid (layF_first (F := F) hlt hs)
      have H2 := Lib.hid (layF_again (F := F) (x := x) hlt hs)
      have H3 := Lib.hid (layF_clash (F := F) (x := x) hlt hs)
      clear hs bF
      generalize (frAt F k).data = d at *
      generalize (frAt F k).spare = sp at *
      obtain ⟨l0, l1⟩ := bL1.cells2
      obtain ⟨r0, r1⟩ := bR1.cells2
      have g0 := bL1.frozen 0
      have g1 := bL1.frozen 1
      have bL2 := (bL1.set (j := 0) (.int .i64 d)).set (j := 1) (.int .i64 sp)
      have bR2 := (bR1.setOther (E' := w.heap.size + 2) (j := 0) (by omega) (.int .i64 d)).setOther (E' := w.heap.size + 2) (j := 1) (by omega) (.int .i64 sp)
      have bC2 := (bC1.setOther (E' := w.heap.size + 2) (j := 0) (by omega) (.int .i64 d)).setOther (E' := w.heap.size + 2) (j := 1) (by omega) (.int .i64 sp)
      have k2 := (k1.setCell (p := ⟨w.heap.size + 2, 0, none⟩) (by show w.heap.size ≤ w.heap.size + 2; omega) (.int .i64 d)).setCell (p := ⟨w.heap.size + 2, 1, none⟩) (by show w.heap.size ≤ w.heap.size + 2; omega) (.int .i64 sp)
      rcases hp.out with ⟨rfl, h2⟩ | ⟨rfl, h3⟩
      · have hn : Hid (LyP F s R (k + 1) (.bool true) (d, sp)) := .inr ⟨rfl, by rw [← H1.out]; exact h2⟩
        clear h2 hp H1 H2 H3
        go_wp2_with fail
        go_roundw
        case rel => exact ⟨k + 1, (d, sp), by omega, by go_num, k2, bC2, bR2, bL2, hn⟩
        case measure => simp [intOf]; omega
      · by_cases hx : x = (d, sp)
        · have hn : Hid (LyP F s R (k + 1) (.bool true) (d, sp)) := .inr ⟨rfl, by rw [← hx, ← H2.out hx]; exact h3⟩
          subst hx
          clear h3 hp H1 H2 H3
          dsimp only at l0 l1
          go_upto_region 10 with (fail)
          go_wp2_with fail
          go_roundw
          case rel => exact ⟨k + 1, (d, sp), by omega, by go_num, k2, bC2, bR2, bL2, hn⟩
          case measure => simp [intOf]; omega
        · have hn : Hid (R = .error 20) := by rw [Hid, ← h3]; exact H3.out hx
          clear h3 hp H1 H2 H3
          have hne : x.1 ≠ d ∨ x.2 ≠ sp := by
            by_cases h1 : x.1 = d
            · exact .inr fun h2 => hx (Prod.ext h1 h2)
            · exact .inl h1
          have bR3 := (bR1.set (j := 0) (.int .i64 0)).set (j := 1) (.int .i64 0)
          have k3 := (k1.setCell (p := ⟨w.heap.size + 1, 0, none⟩) (Nat.le_succ _) (.int .i64 0)).setCell (p := ⟨w.heap.size + 1, 1, none⟩) (Nat.le_succ _) (.int .i64 0)
          have f0 := bR1.frozen 0
          have f1 := bR1.frozen 1
          clear hx bL2 bR2 bC2 k2 bC1 bL1 g0 g1
          rcases hne with hne | hne
          · have y1 : (x.1 == d) = false := by rw [beq_eq_false_iff_ne]; exact hne
            go_wp2_with fail
            refine bodyPost_ret (results_cell_tmp_mid rfl _ _ (w.heap.size + 1) 0 rfl [.int .i64 0, .int .i64 0] _ (fun j v hv => by rw [Nat.zero_add]; exact (bR3.cell j).trans hv) Tryz.underlying39 rfl infoLay) rfl ⟨by rw [hn.out]; rfl, k3⟩
          · have y1 : (x.2 == sp) = false := by rw [beq_eq_false_iff_ne]; exact hne
            go_wp2_with fail
            refine bodyPost_ret (results_cell_tmp_mid rfl _ _ (w.heap.size + 1) 0 rfl [.int .i64 0, .int .i64 0] _ (fun j v hv => by rw [Nat.zero_add]; exact (bR3.cell j).trans hv) Tryz.underlying39 rfl infoLay) rfl ⟨by rw [hn.out]; rfl, k3⟩
    · obtain rfl : k = F.length := by omega
      obtain ⟨l0, l1⟩ := bL.cells2
      obtain ⟨r0, r1⟩ := bR.cells2
      have g0 := bR.frozen 0
      have g1 := bR.frozen 1
      rcases hp.out with ⟨rfl, h2⟩ | ⟨rfl, h3⟩
      · have hn : Hid (R = .error 19) := by rw [Hid, ← h2, layF_end]
        clear h2 hp
        have bR3 := (bR.set (j := 0) (.int .i64 0)).set (j := 1) (.int .i64 0)
        have k3 := (kb.setCell (p := ⟨w.heap.size + 1, 0, none⟩) (Nat.le_succ _) (.int .i64 0)).setCell (p := ⟨w.heap.size + 1, 1, none⟩) (Nat.le_succ _) (.int .i64 0)
        go_wp2_with fail
        refine bodyPost_ret (results_cell_tmp_mid rfl _ _ (w.heap.size + 1) 0 rfl [.int .i64 0, .int .i64 0] _ (fun j v hv => by rw [Nat.zero_add]; exact (bR3.cell j).trans hv) Tryz.underlying39 rfl infoLay) rfl ⟨by rw [hn.out]; rfl, k3⟩
      · have hn : Hid (R = .ok x) := by rw [Hid, ← h3, layF_end]
        clear h3 hp
        have bR3 := (bR.set (j := 0) (.int .i64 x.1)).set (j := 1) (.int .i64 x.2)
        have k3 := (kb.setCell (p := ⟨w.heap.size + 1, 0, none⟩) (Nat.le_succ _) (.int .i64 x.1)).setCell (p := ⟨w.heap.size + 1, 1, none⟩) (Nat.le_succ _) (.int .i64 x.2)
        go_wp2_with fail
        refine bodyPost_ret (results_cell_tmp_mid rfl _ _ (w.heap.size + 1) 0 rfl [.int .i64 x.1, .int .i64 x.2] _ (fun j v hv => by rw [Nat.zero_add]; exact (bR3.cell j).trans hv) Tryz.underlying39 rfl infoLay) rfl ⟨by rw [hn.out]; rfl, k3⟩
set_option maxRecDepth 100000 in
set_option maxHeartbeats 4000000 in
theorem layoutR0 (ar : Int) (a : Option Addr) (cap : Nat) (s : Int) (w : World) :
    Calls Tryz.prog 39 #[.agg #[.int .u32 ar, .slice a 0 cap], .int .i64 s] w (LayQ (.error 19) w) := by
  obtain ⟨k1, bC⟩ := boxr w [.int .u32 ar, .slice a 0 cap] 25
  obtain ⟨k2, b2⟩ := boxr (w.alloc (.cells [.int .u32 ar, .slice a 0 cap].toArray 25)) [.int .i64 0, .int .i64 0] 39
  obtain ⟨k3, b3⟩ := boxr ((w.alloc (.cells [.int .u32 ar, .slice a 0 cap].toArray 25)).alloc (.cells [.int .i64 0, .int .i64 0].toArray 39)) [.int .i64 0, .int .i64 0] 39
  have hR := b2.below k3
  have hC := (bC.below k2).below k3
  have kb := step2 (step2 k1 k2) k3
  rw [World.size_alloc] at hR
  clear k1 k2 k3 b2 b3 bC
  go_enter Tryz.func39, Tryz.ntmps39
  go_upto_region 3 with (fail)
  change Code.wp _ _ _ _ (((w.alloc (.cells [.int .u32 ar, .slice a 0 cap].toArray 25)).alloc (.cells [.int .i64 0, .int .i64 0].toArray 39)).alloc (.cells [.int .i64 0, .int .i64 0].toArray 39))
  generalize ((w.alloc (.cells [.int .u32 ar, .slice a 0 cap].toArray 25)).alloc (.cells [.int .i64 0, .int .i64 0].toArray 39)).alloc (.cells [.int .i64 0, .int .i64 0].toArray 39) = W at *
  obtain ⟨c0, c1⟩ := hC.cells2
  obtain ⟨r0, r1⟩ := hR.cells2
  have g0 := hR.frozen 0
  have g1 := hR.frozen 1
  have bF := (hR.set (j := 0) (.int .i64 0)).set (j := 1) (.int .i64 0)
  have kF := (kb.setCell (p := ⟨w.heap.size + 1, 0, none⟩) (Nat.le_succ _) (.int .i64 0)).setCell (p := ⟨w.heap.size + 1, 1, none⟩) (Nat.le_succ _) (.int .i64 0)
  go_wp2_with fail
  refine wp_loop_rounds 1 ?_; rw [rounds_succ]
  go_wp2_with fail
  refine bodyPost_ret (results_cell_tmp_mid rfl _ _ (w.heap.size + 1) 0 rfl [.int .i64 0, .int .i64 0] _ (fun j v hv => by rw [Nat.zero_add]; exact (bF.cell j).trans hv) Tryz.underlying39 rfl infoLay) rfl ⟨rfl, kF⟩
theorem layoutR_any (ar : Int) (v : Value) (F : List Fr) (s : Int) (w : World) (hr : FrRow w v F) (hl : F.length ≤ 100000) :
    Calls Tryz.prog 39 #[.agg #[.int .u32 ar, v], .int .i64 s] w (LayQ (layR s none F) w) := by
  rcases hr.2 with ⟨rfl, a, cap, rfl, _⟩ | ⟨h0, b, o, cap, rfl, _, _, hb, hF⟩
  · exact layoutR0 ar a cap s w
  · exact layoutR1 ar b o cap F s w hl hb hF
end Go.Proofs.YtpkapcijgldhhaaGreatDoor

namespace Go.Proofs.YtpkapcijgldhhaaGreatDoor
open Go.RowKit Go.Shelf
/-- a byte as the walk holds it -/
def by8 (a : UInt8) : Int := a.toNat
theorem by8_lt (a : UInt8) : 0 ≤ by8 a ∧ by8 a < 256 := by have := a.toNat_lt; unfold by8; omega
theorem wrap_u8 (n : Nat) (h : n < 256) : IntKind.u8.wrap (n : Int) = n := by
  simp [IntKind.wrap, IntKind.signed, IntKind.bits]; omega
theorem u8_mod (a : UInt8) : a.toNat % 2 ^ IntKind.u8.bits = a.toNat := Nat.mod_eq_of_lt a.toNat_lt
theorem u8_xor (a b : UInt8) : bits BinOp.xor IntKind.u8 (by8 a) (by8 b) = by8 (a ^^^ b) := by
  have h := (a ^^^ b).toNat_lt
  unfold by8
  rw [UInt8.toNat_xor] at h ⊢
  simp [bits, u8_mod, wrap_u8 _ h]
theorem u8_and (a b : UInt8) : bits BinOp.and IntKind.u8 (by8 a) (by8 b) = by8 (a &&& b) := by
  have h := (a &&& b).toNat_lt
  unfold by8
  rw [UInt8.toNat_and] at h ⊢
  simp [bits, u8_mod, wrap_u8 _ h]
theorem u8_shl1 (z : UInt8) : by8 z * (2 : Int) % (256 : Int) = by8 (z <<< 1) := by
  unfold by8; rw [UInt8.toNat_shiftLeft, show ((1 : UInt8).toNat % 8) = 1 from rfl, Nat.shiftLeft_eq]; omega
theorem u8_shr1 (z : UInt8) : by8 z / (2 : Int) = by8 (z >>> 1) := by
  unfold by8; rw [UInt8.toNat_shiftRight, show ((1 : UInt8).toNat % 8) = 1 from rfl, Nat.shiftRight_eq_div_pow]; omega
theorem by8_inj {a b : UInt8} (h : by8 a = by8 b) : a = b := UInt8.toNat_inj.1 (by unfold by8 at h; omega)
set_option maxRecDepth 100000 in
set_option maxHeartbeats 4000000 in
theorem dbl_any (a : UInt8) (w : World) : Calls Tryz.prog 194 #[.int .u8 (by8 a)] w (fun e w' => e = .returned (.int .u8 (by8 (dbl a))) ∧ w' = w) := by
  have h := by8_lt a
  have h1 := u8_shl1 a
  by_cases q : 128 ≤ by8 a
  · have hd : Hid (by8 (dbl a) = bits BinOp.xor IntKind.u8 (by8 a * 2 % 256) 29) := by
      rw [Hid, h1, show (29 : Int) = by8 29 from rfl, u8_xor, dbl, if_pos (show 128 ≤ a from UInt8.le_iff_toNat_le.2 (by unfold by8 at q; show 128 ≤ a.toNat; omega))]
    clear h1
    go_enter Tryz.func194, Tryz.ntmps194
    go_wp2_with fail
    go_ret
    exact ⟨by rw [hd.out]; rfl, rfl⟩
  · have hd : Hid (by8 (dbl a) = by8 a * 2) := by
      rw [Hid, dbl, if_neg (show ¬ 128 ≤ a from fun hc => by have hc := UInt8.le_iff_toNat_le.1 hc; have hc : 128 ≤ a.toNat := hc; unfold by8 at q; omega), ← h1]
      omega
    clear h1
    go_enter Tryz.func194, Tryz.ntmps194
    go_wp2_with fail
    go_ret
    exact ⟨by rw [hd.out]; rfl, rfl⟩
set_option maxRecDepth 100000 in
set_option maxHeartbeats 4000000 in
theorem add_any (a b : UInt8) (w : World) : Calls Tryz.prog 160 #[.int .u8 (by8 a), .int .u8 (by8 b)] w (fun e w' => e = .returned (.int .u8 (by8 (a ^^^ b))) ∧ w' = w) := by
  have hx := Lib.hid (u8_xor a b)
  go_enter Tryz.func160, Tryz.ntmps160
  go_wp2_with fail
  go_ret
  exact ⟨by rw [← hx.out]; rfl, rfl⟩
theorem mulF_zero (k : Nat) (a : UInt8) : mulF k a 0 = 0 := by
  induction k generalizing a with
  | zero => rfl
  | succ k ih => rw [mulF, show (0 : UInt8) >>> 1 = 0 from rfl, ih, x_zero, if_neg (by decide)]
theorem half_lt {y : UInt8} {j : Nat} (h : y.toNat < 2 ^ (j + 1)) : (y >>> 1).toNat < 2 ^ j := by
  rw [UInt8.toNat_shiftRight, show ((1 : UInt8).toNat % 8) = 1 from rfl, Nat.shiftRight_eq_div_pow]
  rw [Nat.pow_succ] at h; omega
set_option maxRecDepth 100000 in
set_option maxHeartbeats 4000000 in
theorem mulG_any (a b : UInt8) (w : World) : Calls Tryz.prog 159 #[.int .u8 (by8 a), .int .u8 (by8 b)] w (fun e w' => e = .returned (.int .u8 (by8 (mulG a b))) ∧ w' = w) := by
  obtain ⟨R, hR⟩ : ∃ R, mulG a b = R := ⟨_, rfl⟩
  rw [hR]
  have HR : Hid (0 ^^^ mulF 8 a b = R) := by rw [Hid, zero_x]; exact hR
  have h0 : b.toNat < 2 ^ 8 := b.toNat_lt
  clear hR
  go_enter Tryz.func159, Tryz.ntmps159
  go_wp2_with fail
  go_loopw [0, 1, 5] (fun va vb vs wr => ∃ (k : Nat) (x y z : UInt8), va = .int .u8 (by8 x) ∧ vb = .int .u8 (by8 y) ∧ vs = .int .u8 (by8 z) ∧ Hid (y.toNat < 2 ^ k) ∧ Hid (z ^^^ mulF k x y = R) ∧ wr = w) (fun _ vb _ _ => (intOf vb).toNat)
  case atStart => exact ⟨8, a, b, 0, rfl, rfl, rfl, h0, HR, rfl⟩
  case round =>
    clear HR h0
    obtain ⟨k, x, y, z, rfl, rfl, rfl, hk, hz, rfl⟩ := hrel
    have hy := by8_lt y
    by_cases hp : 0 < by8 y
    · obtain ⟨j, rfl⟩ : ∃ j, k = j + 1 := by
        cases k with
        | zero => exfalso; have := hk.out; unfold by8 at hp; simp at this; omega
        | succ j => exact ⟨j, rfl⟩
      have hk2 := Lib.hid (half_lt hk.out)
      have hs := Lib.hid (u8_shr1 y)
      have hxz := Lib.hid (u8_xor z x)
      have hD := Lib.hid (dbl_any x wr)
      rcases and_one y with h1 | h1
      · have hb : bits BinOp.and IntKind.u8 (by8 y) 1 = 0 := by rw [show (1 : Int) = by8 1 from rfl, u8_and, h1]; rfl
        have hn : Hid (z ^^^ mulF j (dbl x) (y >>> 1) = R) := by rw [Hid, ← hz.out, mulF, h1, if_neg (by decide), zero_x]
        clear h1 hk hz
        go_wp2_with fail
        refine hD.out.mono ?_
        rintro e w1 ⟨rfl, rfl⟩
        go_wp2_with fail
        go_roundw
        case rel => exact ⟨j, dbl x, y >>> 1, z, rfl, by rw [hs.out], rfl, hk2, hn, trivial⟩
        case measure => simp [intOf]; omega
      · have hb : bits BinOp.and IntKind.u8 (by8 y) 1 = 1 := by rw [show (1 : Int) = by8 1 from rfl, u8_and, h1]
        have hn : Hid ((z ^^^ x) ^^^ mulF j (dbl x) (y >>> 1) = R) := by rw [Hid, ← hz.out, mulF, h1, if_pos rfl, x_assoc]
        clear h1 hk hz
        go_wp2_with fail
        refine hD.out.mono ?_
        rintro e w1 ⟨rfl, rfl⟩
        go_wp2_with fail
        go_roundw
        case rel => exact ⟨j, dbl x, y >>> 1, z ^^^ x, rfl, by rw [hs.out], by rw [hxz.out], hk2, hn, trivial⟩
        case measure => simp [intOf]; omega
    · have hy0 : y = 0 := by8_inj (by show by8 y = 0; omega)
      have hn : Hid (z = R) := by rw [Hid, ← hz.out, hy0, mulF_zero, x_zero]
      clear hz hk hy0
      go_wp2_with fail
      go_ret
      exact ⟨by rw [← hn.out]; rfl, rfl⟩
end Go.Proofs.YtpkapcijgldhhaaGreatDoor

namespace Go.Proofs.YtpkapcijgldhhaaGreatDoor
open Go.RowKit Go.Shelf
variable {F : Fence} {n : Nat} {P : Program}
/-- what the iterator promises: all of xs come, one behind another; between two rounds it stores into its own box alone -/
def GivesBox (F : Fence) (n : Nat) (P : Program) {α : Type} (gf : Nat) (lb : Array Value) (encs : α → Array Value) (xs : List α) (B0 : Nat) (w : World) : Prop :=
  ∀ (l : Nat) (J : List α → World → Prop) (W1 : World), W1.heap[B0]? = w.heap[B0]? → (∀ pre W v, J pre W → J pre (W.setCell ⟨B0, 0, none⟩ v)) →
    (∀ pre x W, J pre W → YieldAt F (n - 1) P l (encs x) W fun e W' => e = .returned (.bool true) ∧ J (pre ++ [x]) W' ∧ W'.heap[B0]? = W.heap[B0]?) →
    J [] W1 → CallsIn F n P gf (#[.func (.yield l) #[] #[]] ++ lb) W1 fun e W' => (∃ v, e = .returned v) ∧ J xs W'
theorem keeps_box {B B0 : Nat} {W : World} {v : Value} {k : Nat} {o : Obj} (hk : B0 < B) (hB : B ≤ k) (h : W.heap[k]? = some o) : (W.setCell ⟨B0, 0, none⟩ v).heap[k]? = some o :=
  (Below.heap_setCell _ _ _ k (fun e => by have e : k = B0 := e; omega)).trans h
theorem rangeFunc_box {α : Type} {g : Operand} {ps : Array Tmp} {assign body : Code} {Q : Exit → Act → World → Prop} {a : Act} {w : World}
    (hro : F.round = none) (h1 : 1 ≤ n) {gf : Nat} {lb : Array Value} (hg : a.eval g = .func (.func gf) #[] lb) (hFg : F.fn gf) (eg : ∀ args w, (callFunc gf args).run P w = .ok (.enter gf args) w)
    {encs : α → Array Value} (hps : ∀ x, (encs x).size = ps.size) {xs : List α} {B0 : Nat} (hB0 : B0 < w.heap.size) (hseq : GivesBox F (n - 1) P gf lb encs xs B0 w)
    (I : List α → World → Prop) (hI : OwnFrom w.heap.size I) (hIB : ∀ pre W v, I pre W → I pre (W.setCell ⟨B0, 0, none⟩ v)) (h0 : I [] w) (a₁ : α → Act)
    (hassign : ∀ (l : Nat) (x : α) (W : World) (K : Act → World → Prop), K (a₁ x) W → assign.wpIn (F.inRound l) (n - 1 - 1) P (Exit.then K (fun _ _ _ => False)) { tmps := (ps.zip (encs x)).foldl (fun t (p, v) => t.setIfInBounds p v) a.tmps, defers := [] } W)
    (hbody : ∀ (l : Nat) (pre : List α) (x : α) (W : World), I pre W → body.wpIn (F.inRound l) (n - 1 - 1) P (fun e _ W' => e = .normal ∧ KeepsFrom w.heap.size W W' ∧ W'.heap[B0]? = W.heap[B0]? ∧ I (pre ++ [x]) W') (a₁ x) W)
    (hdone : ∀ (D : Nat) (W : World), w.heap.size ≤ D → I xs W → W.heap[D]? = some (.deferred (some [])) → Q .normal { a with defers := { target := .collected D, args := #[] } :: a.defers } W) :
    (Code.rangeFunc g ps assign body).wpIn F n P Q a w := by
  refine wpIn_rangeFunc ?_
  intro fn hfn
  rw [hro]
  let rec0 : Loop := { state := .ready, pending := none, fn, tmps := a.tmps, params := ps, assign, body, defers := w.heap.size }
  let rec1 : Loop := { state := .busy, pending := none, fn, tmps := a.tmps, params := ps, assign, body, defers := w.heap.size }
  let L := w.heap.size + 1
  let D := w.heap.size
  obtain ⟨W1, hW1⟩ : ∃ W1, (w.alloc (.deferred (some []))).alloc (.loop rec0) = W1 := ⟨_, rfl⟩
  have hb1 : Below w.heap.size w W1 := by
    rw [← hW1]; exact (((Below.refl _ w).alloc (Nat.le_refl _) _).alloc (by simp) _)
  have hL1 : W1.heap[L]? = some (.loop rec0) := by
    rw [← hW1]; have := World.alloc_heap_new (w.alloc (.deferred (some []))) (.loop rec0); rwa [World.size_alloc] at this
  have hD1 : W1.heap[D]? = some (.deferred (some [])) := by
    rw [← hW1]; exact (Below.heap_alloc _ _ _ (by simp [D])).trans (World.alloc_heap_new w _)
  have hI1 : I [] W1 := by rw [← hW1]; exact hI.alloc _ (hI.alloc _ h0)
  refine ⟨L, [{ target := .collected D, args := #[] }], W1, { target := .fn (.func gf) lb, args := #[.func (.yield L) #[] #[]] }, W1, gf, #[.func (.yield L) #[] #[]] ++ lb, W1, ?_, ?_, ?_, ?_, fun _ => h1, ?_⟩
  · rw [← hW1]; exact run_enterLoop_outer _ _ _ _ _
  · simp only [resolve, hg]
    simp [go_sem]
  · intro f' hf'; simp [Target.leads] at hf'; subst hf'; exact hFg
  · simp [invoke, go_sem, eg]
  · refine (hseq L (fun pre W => I pre W ∧ W.heap[L]? = some (.loop rec0) ∧ W.heap[D]? = some (.deferred (some []))) W1 (hb1.block B0 hB0)
      (fun pre W v ⟨h1, h2, h3⟩ => ⟨hIB pre W v h1, keeps_box hB0 (Nat.le_succ _) h2, keeps_box hB0 (Nat.le_refl _) h3⟩) ?_ ⟨hI1, hL1, hD1⟩).mono ?_
    · rintro pre x W ⟨hi, hl, hd⟩
      have hlt : L < W.heap.size := (Array.getElem?_eq_some_iff.1 hl).1
      refine ⟨fn, _, assign, body, run_yield (P := P) (args := encs x) hl (hps x), roundIn_of_wpIn hfn (hassign _ x W _ ?_)⟩
      refine ⟨_, run_beginRound hl rfl, ?_⟩
      have hl2 : (W.putObj L (.loop rec1)).heap[L]? = some (.loop rec1) := World.putObj_heap_same hlt
      have hd2 : (W.putObj L (.loop rec1)).heap[D]? = some (.deferred (some [])) := (World.putObj_heap_other (by show D ≠ D + 1; omega)).trans hd
      have hb2 : (W.putObj L (.loop rec1)).heap[B0]? = W.heap[B0]? := World.putObj_heap_other (by show B0 ≠ w.heap.size + 1; omega)
      refine wpIn_mono (hbody _ pre x _ (hI.putObj _ hi (Nat.le_succ _) hl rfl)) ?_
      rintro e a3 W3 ⟨rfl, hk3, hb3, hi3⟩
      have hl3 := hk3.same L _ (Nat.le_succ _) hl2 rfl
      have hd3 := hk3.same D _ (Nat.le_refl _) hd2 rfl
      refine ⟨_, _, run_endRound (P := P) none hl3, rfl, ⟨hI.putObj _ hi3 (Nat.le_succ _) hl3 rfl, World.putObj_heap_same (Array.getElem?_eq_some_iff.1 hl3).1, (World.putObj_heap_other (by show D ≠ D + 1; omega)).trans hd3⟩, ?_⟩
      exact (World.putObj_heap_other (by show B0 ≠ w.heap.size + 1; omega)).trans (hb3.trans hb2)
    · rintro e W2 ⟨⟨v, rfl⟩, hi, hl, hd⟩
      exact ⟨none, _, run_endLoop (P := P) hl (by simp [rec0]), hdone _ _ (Nat.le_refl _) (hI.putObj _ hi (Nat.le_succ _) hl rfl) ((World.putObj_heap_other (by show D ≠ D + 1; omega)).trans hd)⟩
end Go.Proofs.YtpkapcijgldhhaaGreatDoor
