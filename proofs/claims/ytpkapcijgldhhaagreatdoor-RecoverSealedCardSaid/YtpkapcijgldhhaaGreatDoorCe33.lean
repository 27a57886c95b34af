/-
  The examples of the chapter; the bound on collections.
  Chapter 45: the law of copies, walked out of the contracts. Under way.
  The layout that the frames of a session state, in the program.
-/
import Derived.Test.YtpkapcijgldhhaaGreatDoorCe32
import Derived.Maps.OwnIn
import Derived.Maps.Views
import Derived.Test.YtpkapcijgldhhaaGreatDoorCe27
import Derived.Test.YtpkapcijgldhhaaGreatDoorCe21
import Derived.Test.YtpkapcijgldhhaaGreatDoorCe22
namespace Go.Proofs.YtpkapcijgldhhaaGreatDoor
open Go.RowKit Go.Shelf
attribute [local go_sem] Oper.semAt_some
theorem fold_nil (s i : Int) : ∀ k, foldS [] s i k = some none
  | 0 => rfl
  | k + 1 => by rw [foldS, fold_nil s i k]; rfl
theorem part_nil (s fm i : Int) : partR [] s fm i = none := by rw [part_fold (by rfl), fold_nil]
theorem text_nil (s fm : Int) : textR [] s fm = none := text_none (part_nil s fm 0)
theorem goD_nil (s : Int) (root : List UInt8) : ∀ k, goD [] s root k = none
  | 0 => rfl
  | k + 1 => by rw [goD, text_nil]; exact goD_nil s root k
theorem smallF_nil : SmallF [] := ⟨Nat.zero_le _, fun f hf => by cases hf⟩
theorem frRow_nil (w : World) : FrRow w (.slice none 0 0) [] := ⟨Nat.zero_le _, .inl ⟨rfl, none, 0, rfl, fun _ => rfl⟩⟩
theorem infoLay : (Tryz.prog.info? 39).map (·.size) = some 2 := by kernel_rfl
set_option maxRecDepth 100000 in
set_option maxHeartbeats 4000000 in
theorem layout0_any (s : Int) (w : World) : Calls Tryz.prog 35 #[.agg #[.int .u32 0, .slice none 0 0], .int .i64 s] w (fun e w' => e = .returned (.tuple #[.agg #[.int .i64 0, .int .i64 0], .int .i64 19]) ∧ Below w.heap.size w w') := by
  have hmm := @run_makeMap Tryz.prog
  have hm0 := (World.ownsMap_made ((w.alloc (.cells #[.int .u32 0, .slice none 0 0] 25)).alloc (.cells #[.int .i64 0, .int .i64 0] 39)) Tryz.prog 39 (plainElem (H := Unit) Tryz.prog 4)).alloc (.cells #[.int .i64 0, .int .i64 0] 39)
  have hln := hm0.len Tryz.underlying123 3
  simp only [World.size_alloc] at hln
  clear hm0
  go_enter Tryz.func35, Tryz.ntmps35
  go_wp2_with fail
  refine wp_loop_rounds 1 ?_; rw [rounds_succ]
  go_wp2_with fail
  obtain ⟨k1, _⟩ := boxr w [.int .u32 0, .slice none 0 0] 25
  obtain ⟨k2, b2⟩ := boxr (w.alloc (.cells [.int .u32 0, .slice none 0 0].toArray 25)) [.int .i64 0, .int .i64 0] 39
  have k3 : Below ((w.alloc (.cells [.int .u32 0, .slice none 0 0].toArray 25)).alloc (.cells [.int .i64 0, .int .i64 0].toArray 39)).heap.size ((w.alloc (.cells [.int .u32 0, .slice none 0 0].toArray 25)).alloc (.cells [.int .i64 0, .int .i64 0].toArray 39)) (((w.alloc (.cells [.int .u32 0, .slice none 0 0].toArray 25)).alloc (.cells [.int .i64 0, .int .i64 0].toArray 39)).alloc (.map #[] 0)) := (Below.refl _ _).alloc (Nat.le_refl _) _
  obtain ⟨k4, _⟩ := boxr (((w.alloc (.cells [.int .u32 0, .slice none 0 0].toArray 25)).alloc (.cells [.int .i64 0, .int .i64 0].toArray 39)).alloc (.map #[] 0)) [.int .i64 0, .int .i64 0] 39
  have hb := (b2.below k3).below k4
  have kb := step2 (step2 (step2 k1 k2) k3) k4
  rw [World.size_alloc] at hb
  clear hln hmm k1 k2 k3 k4 b2
  refine bodyPost_ret (results_cell_tmp_mid rfl _ _ (w.heap.size + 1) 0 rfl [.int .i64 0, .int .i64 0] _ (fun j v hv => by rw [Nat.zero_add]; exact (hb.cell j).trans hv) Tryz.underlying39 rfl infoLay) rfl ⟨rfl, kb⟩
theorem outside_any (n m : Int) (w : World) (h : 0 ≤ n ∧ n ≤ m) : Calls Tryz.prog 42 #[.int .i64 n, .int .i64 m] w (fun e w' => e = .returned (.bool false) ∧ w' = w) := by
  go_enter Tryz.func42, Tryz.ntmps42
  go_wp2_with fail
  go_ret
  refine ⟨?_, rfl⟩
  rw [show (decide (n < 0) || decide (m < n)) = false from by rw [decide_eq_false (by omega), decide_eq_false (by omega)]; rfl]
  rfl
set_option maxRecDepth 100000 in
set_option maxHeartbeats 4000000 in
theorem block0_any (s : Int) (w : World) : Calls Tryz.prog 15 #[.agg #[.int .u32 0, .slice none 0 0], .int .i64 s, .int .i64 0] w (fun e w' => e = .returned (.tuple #[.string ⟨#[]⟩, .int .i64 19]) ∧ Below w.heap.size w w') := by
  refine (callsIn_wide (n := 9)).1 ?_
  refine callsIn_of_wp_marks Tryz.func15 rfl trivial ?_ rfl
  simp only [Tryz.ntmps15, List.size_toArray, List.length_cons, List.length_nil, Nat.reduceAdd, Nat.reduceSub, Array.replicate_succ, Array.replicate_zero, List.push_toArray, List.append_toArray, List.nil_append, List.cons_append]
  obtain ⟨k1, b1⟩ := boxr w [.int .u32 0, .slice none 0 0] 25
  obtain ⟨k2, b2⟩ := boxr (w.alloc (.cells [.int .u32 0, .slice none 0 0].toArray 25)) [.string ⟨#[]⟩] 9
  obtain ⟨k3, b3⟩ := boxr ((w.alloc (.cells [.int .u32 0, .slice none 0 0].toArray 25)).alloc (.cells [.string ⟨#[]⟩].toArray 9)) [.int .i64 0] 28
  have kb := step2 (step2 k1 k2) k3
  replace b2 := b2.below k3
  replace b1 := (b1.below k2).below k3
  simp only [World.size_alloc] at b2 b3
  obtain ⟨W1, hW1⟩ : ∃ W1, ((w.alloc (.cells [.int .u32 0, .slice none 0 0].toArray 25)).alloc (.cells [.string ⟨#[]⟩].toArray 9)).alloc (.cells [.int .i64 0].toArray 28) = W1 := ⟨_, rfl⟩
  rw [hW1] at b1 b2 b3 kb
  clear k1 k2 k3
  obtain ⟨c0, c1⟩ := b1.cells2
  gi_wp2_with fail
  refine ⟨trivial, (callsIn_wide.2 (layout0_any s W1)).mono ?_⟩
  rintro e w2 ⟨rfl, hb2⟩
  have k2 := step2 kb hb2
  replace b2 := b2.below hb2
  replace b3 := b3.below hb2
  clear hW1 c0 c1 b1 kb hb2
  have r0 : w2.cell? ⟨w.heap.size + 1, 0, none⟩ = some (.string ⟨#[]⟩) := b2.cell 0
  have r1 : w2.cell? ⟨w.heap.size + 1 + 1, 0, none⟩ = some (.int .i64 0) := b3.cell 0
  have g0 : w2.frozen? ⟨w.heap.size + 1, 0, none⟩ = false := b2.frozen 0
  have g1 : w2.frozen? ⟨w.heap.size + 1 + 1, 0, none⟩ = false := b3.frozen 0
  have h1 : w.heap.size + 1 < w2.heap.size := b2.lt
  have h2 : w.heap.size + 1 + 1 < w2.heap.size := b3.lt
  gi_wp2_with fail
  have B2 : Box ((w2.setCell ⟨w.heap.size + 1, 0, none⟩ (.string ⟨#[]⟩)).setCell ⟨w.heap.size + 1 + 1, 0, none⟩ (.int .i64 19)) (w.heap.size + 1) [.string ⟨#[]⟩] 9 := (b2.set (j := 0) _).setOther (j := 0) (by omega) _
  have B3 : Box ((w2.setCell ⟨w.heap.size + 1, 0, none⟩ (.string ⟨#[]⟩)).setCell ⟨w.heap.size + 1 + 1, 0, none⟩ (.int .i64 19)) (w.heap.size + 1 + 1) [.int .i64 19] 28 := (b3.setOther (j := 0) (by omega) _).set (j := 0) _
  have kS : Below w.heap.size w ((w2.setCell ⟨w.heap.size + 1, 0, none⟩ (.string ⟨#[]⟩)).setCell ⟨w.heap.size + 1 + 1, 0, none⟩ (.int .i64 19)) := (k2.setCell (p := ⟨w.heap.size + 1, 0, none⟩) (Nat.le_succ _) _).setCell (p := ⟨w.heap.size + 1 + 1, 0, none⟩) (by show w.heap.size ≤ w.heap.size + 1 + 1; omega) _
  generalize (w2.setCell ⟨w.heap.size + 1, 0, none⟩ (.string ⟨#[]⟩)).setCell ⟨w.heap.size + 1 + 1, 0, none⟩ (.int .i64 19) = WS at *
  obtain ⟨kP, _⟩ := boxr WS [.int .i64 0, .int .i64 0] 39
  have q0 : (WS.alloc (.cells #[.int .i64 0, .int .i64 0] 39)).cell? ⟨w.heap.size + 1, 0, none⟩ = some (.string ⟨#[]⟩) := (B2.below kP).cell 0
  have q1 : (WS.alloc (.cells #[.int .i64 0, .int .i64 0] 39)).cell? ⟨w.heap.size + 1 + 1, 0, none⟩ = some (.int .i64 19) := (B3.below kP).cell 0
  refine ⟨.tuple #[.string ⟨#[]⟩, .int .i64 19], ?_, rfl, step2 kS kP⟩
  simp [results, Tryz.f15, go_sem, q0, q1]
theorem bytes0_any (w : World) : Calls Tryz.prog 17 #[.agg #[.int .u32 0, .slice none 0 0], .agg #[.int .i64 0, .int .i64 0, .int .i64 3]] w (fun e w' => e = .returned (.tuple #[.string ⟨#[0, 0, 0]⟩, .int .i64 0]) ∧ Below w.heap.size w w') := by
  have H1 := Lib.hid (fun W => outside_any 0 255 W (by decide))
  have H2 := Lib.hid (fun W => outside_any 0 2147483647 W (by decide))
  have H3 := Lib.hid (fun W => outside_any 3 65536 W (by decide))
  have HR := Lib.hid (fun W => Tryz.strings_Repeat ⟨#[0]⟩ 3 W (by decide) (by decide))
  obtain ⟨k1, b1⟩ := boxr w [.int .u32 0, .slice none 0 0] 25
  obtain ⟨k2, b2⟩ := boxr (w.alloc (.cells [.int .u32 0, .slice none 0 0].toArray 25)) [.int .i64 0, .int .i64 0, .int .i64 3] 34
  have kb := step2 k1 k2
  rw [World.size_alloc] at b2
  go_enter Tryz.func17, Tryz.ntmps17
  go_upto_region 2 with (fail)
  obtain ⟨W0, hW0⟩ : ∃ W0, (w.alloc (.cells [.int .u32 0, .slice none 0 0].toArray 25)).alloc (.cells [.int .i64 0, .int .i64 0, .int .i64 3].toArray 34) = W0 := ⟨_, rfl⟩
  change Code.wp _ _ _ _ ((w.alloc (.cells [.int .u32 0, .slice none 0 0].toArray 25)).alloc (.cells [.int .i64 0, .int .i64 0, .int .i64 3].toArray 34))
  rw [hW0] at b2 kb ⊢
  clear hW0 k1 k2 b1
  have c0 : W0.cell? ⟨w.heap.size + 1, 0, none⟩ = some (.int .i64 0) := b2.cell 0
  have c1 : W0.cell? ⟨w.heap.size + 1, 1, none⟩ = some (.int .i64 0) := b2.cell 1
  have c2 : W0.cell? ⟨w.heap.size + 1, 2, none⟩ = some (.int .i64 3) := b2.cell 2
  go_wp2_with fail
  refine (H1.out _).mono ?_
  rintro e w1 ⟨rfl, rfl⟩
  go_wp2_with fail
  refine (H2.out _).mono ?_
  rintro e w1 ⟨rfl, rfl⟩
  go_wp2_with fail
  refine (H3.out _).mono ?_
  rintro e w1 ⟨rfl, rfl⟩
  go_wp2_with fail
  refine (HR.out _).mono ?_
  rintro e w1 ⟨rfl, hb1⟩
  go_wp2_with fail
  go_ret2
  exact ⟨rfl, step2 kb hb1⟩
theorem alive45_any (w : World) (he : Env w) (hm : HasMax w) : Calls Tryz.prog 11 #[] w (BoolP true w) := by
  have HD := Lib.hid (directory_any 0 (.slice none 0 0) [] 1 ⟨#[]⟩ w he hm (frRow_nil w) smallF_nil)
  rw [goD_nil] at HD
  go_enter Tryz.func11, Tryz.ntmps11
  go_wp2_with fail
  refine HD.out.mono ?_
  rintro e w1 ⟨rfl, hb1⟩
  dsimp only [dirS, dirE]
  clear HD
  go_wp2_with fail
  refine (block0_any 1 w1).mono ?_
  rintro e w2 ⟨rfl, hb2⟩
  go_wp2_with fail
  refine (bytes0_any w2).mono ?_
  rintro e w3 ⟨rfl, hb3⟩
  go_wp2_with fail
  go_ret
  exact ⟨rfl, step2 (step2 hb1 hb2) hb3⟩
def GrP45 (F : List Fr) (w : World) (e : Ending) (w' : World) : Prop := ∃ g : Int, e = .returned (.int .i64 g) ∧ Hid (g = 1 ∨ (g = 0 ∧ SmallF F)) ∧ Below w.heap.size w w'
set_option maxRecDepth 100000 in
set_option maxHeartbeats 4000000 in
theorem great45_any (ar : Int) (v : Value) (F : List Fr) (w : World) (hr : FrRow w v F) (hz : ∀ i, i < F.length → (frAt F i).payload.size ≤ 9223372036854775807) :
    Calls Tryz.prog 12 #[.agg #[.int .u32 ar, v]] w (GrP45 F w) := by
  have hmax := hr.1
  unfold maxLen at hmax
  have hv : ∃ a c, v = .slice a F.length c ∧ (0 < F.length → ∃ b o, a = some ⟨b, o, none⟩ ∧ b < w.heap.size ∧ FrAt w b o F) := by
    rcases hr.2 with ⟨rfl, a, cap, rfl, _⟩ | ⟨h0, b, o, cap, rfl, _, _, hb, hF⟩
    · exact ⟨a, cap, rfl, fun h => absurd h (Nat.lt_irrefl _)⟩
    · exact ⟨_, cap, rfl, fun _ => ⟨b, o, rfl, hb, hF⟩⟩
  obtain ⟨a, c, rfl, hnz⟩ := hv
  clear hr
  obtain ⟨kb0, bC0⟩ := boxr w [.int .u32 ar, .slice a F.length c] 25
  go_enter Tryz.func12, Tryz.ntmps12
  go_upto_region 1 with (fail)
  obtain ⟨W0, hW0⟩ : ∃ W0, w.alloc (.cells [.int .u32 ar, .slice a F.length c].toArray 25) = W0 := ⟨_, rfl⟩
  change Code.wp _ _ _ _ (w.alloc (.cells [.int .u32 ar, .slice a F.length c].toArray 25))
  rw [hW0] at kb0 bC0 ⊢
  clear hW0
  have c1 : W0.cell? ⟨w.heap.size, 1, none⟩ = some (.slice a F.length c) := bC0.cell 1
  by_cases h4 : 150 < F.length
  · clear hnz hz bC0
    go_wp2_with fail
    go_ret
    exact ⟨1, rfl, .inl rfl, kb0⟩
  have h4i : ¬ (150 : Int) < (F.length : Int) := by omega
  go_wp2_with fail
  go_loopw [4, 12] (fun _ i wr => ∃ k : Nat, k ≤ F.length ∧ i = .int .i64 k ∧ Below w.heap.size w wr ∧ Hid (∀ j, j < k → (frAt F j).payload.size ≤ 100)) (fun _ i _ => F.length - (intOf i).toNat)
  case atStart => exact ⟨0, by omega, rfl, kb0, fun j hj => absurd hj (Nat.not_lt_zero _)⟩
  case round =>
    clear kb0 bC0 c1
    obtain ⟨k, hk, rfl, kb, hs⟩ := hrel
    by_cases hlt : k < F.length
    · obtain ⟨b, o, rfl, hb, hF⟩ := hnz (by omega)
      obtain ⟨q0, q1, q2, q3, q4, q5, q6, q7, q8⟩ := frCells (hF.below kb hb) (i := k) hlt
      have hix : (0 : Int) ≤ (k : Int) ∧ (k : Int) < (F.length : Int) := by omega
      have hzk := hz k hlt
      obtain ⟨kF, bF⟩ := boxr wr (frAt F k).vals 46
      have k1 := step2 kb kF
      obtain ⟨W1, hW1⟩ : ∃ W1, wr.alloc (.cells (frAt F k).vals.toArray 46) = W1 := ⟨_, rfl⟩
      rw [hW1] at kF bF k1
      clear hF hnz hz
      go_upto_region 5 with (fail)
      go_upto_region 6 with (fail)
      change Code.wp _ _ _ _ (wr.alloc (.cells (frAt F k).vals.toArray 46))
      rw [hW1]
      clear hW1 q0 q1 q2 q3 q4 q5 q6 q7 q8
      have z8 : W1.cell? ⟨wr.heap.size, 8, none⟩ = some (.string (frAt F k).payload) := bF.cell 8
      clear bF kF
      by_cases hp : 100 < (frAt F k).payload.size
      · clear hs
        go_wp2_with fail
        go_ret
        exact ⟨1, rfl, .inl rfl, k1⟩
      · have hs2 : Hid (∀ j, j < k + 1 → (frAt F j).payload.size ≤ 100) := fun j hj => by
          by_cases e : j = k
          · subst e; omega
          · exact hs.out j (by omega)
        clear hs
        go_wp2_with fail
        go_roundw
        case rel => exact ⟨k + 1, by omega, by go_num, k1, hs2⟩
        case measure => simp [intOf]; omega
    · obtain rfl : k = F.length := by omega
      have hsm : SmallF F := ⟨by omega, fun f hf => by
        obtain ⟨i, hi, rfl⟩ := List.getElem_of_mem hf
        rw [← frAt_get hi]; exact hs.out i hi⟩
      clear hs hnz hz
      go_wp2_with fail
      go_ret
      exact ⟨0, rfl, .inr ⟨rfl, hsm⟩, kb⟩
end Go.Proofs.YtpkapcijgldhhaaGreatDoor

namespace Go.Proofs.YtpkapcijgldhhaaGreatDoor
open Go.RowKit Go.Shelf
/-- a row of frames of the call's own -/
theorem ownFr_form {base : Nat} {w : World} {v : Value} {F : List Fr} (h : OwnG base 46 9 Fr.vals w v F) : ∃ a c, v = .slice a F.length c ∧ (0 < F.length → ∃ g, a = some ⟨g, 0, none⟩ ∧ base ≤ g ∧ g < w.heap.size ∧ FrAt w g 0 F) := by
  have hr := OwnG.row (n := 9) (f := Fr.vals) (d := fr0) (fun _ => rfl) h
  rcases h.2 with ⟨rfl, h0⟩ | ⟨g, cap, cur, rfl, hb, hg, _⟩
  · exact ⟨none, 0, by rw [h0], fun hp => absurd hp (by omega)⟩
  · refine ⟨_, cap, rfl, fun hp => ⟨g, rfl, hb, (Array.getElem?_eq_some_iff.1 hg).1, ?_⟩⟩
    rcases hr.2 with ⟨he, _⟩ | ⟨_, b, o, c, hv, _, _, _, hF⟩
    · rw [he] at hp; cases hp
    · cases hv; exact hF
theorem frAt_same {w w' : World} {b o : Nat} {F : List Fr} (h : FrAt w b o F) (he : w'.heap[b]? = w.heap[b]?) : FrAt w' b o F := fun i hi j v hv => (World.cell?_of_block (a := ⟨b, o + i * 9 + j, none⟩) he).trans (h i hi j v hv)
theorem ownsMap_at {W W' : World} {b n : Nat} {D : DataW Unit} {P : Program} {k : TypeId} {R : Value → Option (DataW Unit × List MemPlace)} (h : W.ownsMap P k R b n D) (hb : W'.heap[b]? = W.heap[b]?) : W'.ownsMap P k R b n D := by
  obtain ⟨es, clock, hh, r⟩ := h
  exact ⟨es, clock, hb.trans hh, r⟩
theorem grown_set (W : World) (a : Addr) (v : Value) : W.grownBy (W.setCell a v) (some a.block) := ⟨rfl, rfl, rfl, (KeepsOthers.setCell W a v).size, fun k _ hk => Below.heap_setCell _ _ _ k (fun e => hk (by rw [e]))⟩
end Go.Proofs.YtpkapcijgldhhaaGreatDoor

namespace Go.Proofs.YtpkapcijgldhhaaGreatDoor
open Go.RowKit Go.Shelf
def LayQ (r : Except Int (Int × Int)) (w : World) (e : Ending) (w' : World) : Prop :=
  (match r with
    | .ok x => e = .returned (.tuple #[.agg #[.int .i64 x.1, .int .i64 x.2], .int .i64 0])
    | .error x => e = .returned (.tuple #[.agg #[.int .i64 0, .int .i64 0], .int .i64 x])) ∧ Below w.heap.size w w'
/-- layouts within the range -/
def LayWf (F : List Fr) : Prop := ∀ k, k < F.length → wf64 (frAt F k).data ∧ wf64 (frAt F k).spare
theorem layK_wf {F : List Fr} (h : LayWf F) (s : Int) : ∀ k, k ≤ F.length → ∀ y ∈ layK F s k, wf64 y.1 ∧ wf64 y.2
  | 0, _, y, hy => by cases hy
  | k + 1, hk, y, hy => by
    rw [layK] at hy
    split at hy
    · rcases List.mem_append.1 hy with hy | hy
      · exact layK_wf h s k (by omega) y hy
      · obtain rfl := List.mem_singleton.1 hy
        exact h k (by omega)
    · exact layK_wf h s k (by omega) y hy
def lastL (K : List (Int × Int)) : Int × Int := K.getLast?.getD (0, 0)
theorem lastL_snoc (K : List (Int × Int)) (x : Int × Int) : lastL (K ++ [x]) = x := by unfold lastL; rw [List.getLast?_concat]; rfl
set_option maxRecDepth 100000 in
set_option maxHeartbeats 4000000 in
theorem layout1 (ar : Int) (b o cap : Nat) (F : List Fr) (s : Int) (w : World) (hl : F.length ≤ 100000) (hb : b < w.heap.size) (hF : FrAt w b o F) (hwf : LayWf F) :
    Calls Tryz.prog 35 #[.agg #[.int .u32 ar, .slice (some ⟨b, o, none⟩) F.length cap], .int .i64 s] w (LayQ (layR s none F) w) := by
  have HF := Lib.hid (show ∀ W : World, Below w.heap.size w W → ∀ k, k < F.length → _ from fun W hW k hk => frCells (hF.below hW hb) (i := k) hk)
  have HW := Lib.hid hwf
  have HSz := Lib.hid (setP_size (layK_wf hwf s _ (Nat.le_refl _)))
  rw [← lay_full] at HSz
  clear hF hwf
  obtain ⟨k0, bC⟩ := boxr w [.int .u32 ar, .slice (some ⟨b, o, none⟩) F.length cap] 25
  obtain ⟨k1, bR⟩ := boxr (w.alloc (.cells [.int .u32 ar, .slice (some ⟨b, o, none⟩) F.length cap].toArray 25)) [.int .i64 0, .int .i64 0] 39
  replace bC := bC.below k1
  replace k0 := step2 k0 k1
  clear k1
  rw [World.size_alloc] at bR
  have hz0 : ((w.alloc (.cells [.int .u32 ar, .slice (some ⟨b, o, none⟩) F.length cap].toArray 25)).alloc (.cells [.int .i64 0, .int .i64 0].toArray 39)).heap.size = w.heap.size + 2 := by simp
  go_enter Tryz.func35, Tryz.ntmps35
  go_upto_region 1 with (fail)
  change Code.wp _ _ _ _ ((w.alloc (.cells [.int .u32 ar, .slice (some ⟨b, o, none⟩) F.length cap].toArray 25)).alloc (.cells [.int .i64 0, .int .i64 0].toArray 39))
  generalize (w.alloc (.cells [.int .u32 ar, .slice (some ⟨b, o, none⟩) F.length cap].toArray 25)).alloc (.cells [.int .i64 0, .int .i64 0].toArray 39) = W0 at *
  have hmm := @run_makeMap Tryz.prog
  have hm0 := World.ownsMap_made W0 Tryz.prog 39 (plainElem (H := Unit) Tryz.prog 4)
  have kM : Below W0.heap.size W0 (W0.alloc (.map #[] 0)) := (Below.refl _ _).alloc (Nat.le_refl _) _
  have hzM : (W0.alloc (.map #[] 0)).heap.size = w.heap.size + 3 := by rw [World.size_alloc, hz0]
  go_upto_region 2 with (fail)
  rw [hz0] at hm0
  generalize W0.alloc (.map #[] 0) = W1 at *
  have kb1 := step2 k0 kM
  replace bC := bC.below kM
  replace bR := bR.below kM
  clear k0 kM hmm hz0
  obtain ⟨kL, bL⟩ := boxr W1 [.int .i64 0, .int .i64 0] 39
  have hzL : (W1.alloc (.cells [.int .i64 0, .int .i64 0].toArray 39)).heap.size = w.heap.size + 4 := by rw [World.size_alloc, hzM]
  go_upto_region 3 with (fail)
  rw [hzM] at bL
  have hm1 := hm0.kept (grown_of_below kL) (fun e => by cases e)
  have kb2 := step2 kb1 kL
  replace bC := bC.below kL
  replace bR := bR.below kL
  change Code.wp _ _ _ _ (W1.alloc (.cells [.int .i64 0, .int .i64 0].toArray 39))
  generalize W1.alloc (.cells [.int .i64 0, .int .i64 0].toArray 39) = W2 at *
  clear hm0 kL kb1 hzM
  obtain ⟨c0, c1⟩ := bC.cells2
  go_wp2_with fail
  go_loopw [14] (fun v wr => ∃ (k m : Nat), k ≤ F.length ∧ v = .int .i64 k ∧ Below w.heap.size w wr ∧ Box wr (w.heap.size + 1) [.int .i64 0, .int .i64 0] 39 ∧ Box wr (w.heap.size + 3) [.int .i64 (lastL (layK F s k)).1, .int .i64 (lastL (layK F s k)).2] 39 ∧
    wr.ownsMap Tryz.prog 39 (plainElem (H := Unit) Tryz.prog 4) (w.heap.size + 2) m (setP (layK F s k)) ∧ m ≤ k) (fun v _ => F.length - (intOf v).toNat)
  case atStart => exact ⟨0, 0, by omega, rfl, kb2, bR, bL, hm1, Nat.le_refl _⟩
  case round =>
    clear kb2 bR bL hm1 c0 c1 bC hzL
    obtain ⟨k, m, hk, rfl, kb, bR, bL, hm, hmk⟩ := hrel
    have hmlt := hm.lt
    by_cases hlt : k < F.length
    · obtain ⟨q0, q1, q2, q3, q4, q5, q6, q7, q8⟩ := HF.out _ kb k hlt
      have hix : (0 : Int) ≤ (k : Int) ∧ (k : Int) < (F.length : Int) := by omega
      obtain ⟨kF, bF⟩ := boxr wr (frAt F k).vals 46
      have k1 := step2 kb kF
      have bR1 := bR.below kF
      have bL1 := bL.below kF
      have hm1 := hm.kept (grown_of_below kF) (fun e => by cases e)
      have hFB : w.heap.size + 4 ≤ wr.heap.size := bL.lt
      go_upto_region 5 with (fail)
      go_upto_region 6 with (fail)
      change Code.wp _ _ _ _ (wr.alloc (.cells (frAt F k).vals.toArray 46))
      generalize wr.alloc (.cells (frAt F k).vals.toArray 46) = W3 at *
      generalize wr.heap.size = FB at *
      clear kF bR bL hm kb q0 q1 q2 q3 q4 q5 q6 q7 q8
      obtain ⟨z0, z1, z2, z3, z4, z5, z6, z7, z8⟩ := bF.cells9
      by_cases hs : (frAt F k).session = s
      · have y : ((frAt F k).session == s) = true := by rw [hs]; simp
        have hn : Hid (layK F s (k + 1) = layK F s k ++ [((frAt F k).data, (frAt F k).spare)]) := by rw [Hid, layK, if_pos hs]
        obtain ⟨hd, hsp⟩ := HW.out k hlt
        have hkey := lay_key (x := ((frAt F k).data, (frAt F k).spare)) hd hsp
        clear hs hd hsp
        generalize (frAt F k).data = d at *
        generalize (frAt F k).spare = sp at *
        dsimp only at hkey
        obtain ⟨l0, l1⟩ := bL1.cells2
        have g0 := bL1.frozen 0
        have g1 := bL1.frozen 1
        go_upto_region 8 with (fail)
        have bL2 : Box ((W3.setCell ⟨w.heap.size + 3, 0, none⟩ (.int .i64 d)).setCell ⟨w.heap.size + 3, 1, none⟩ (.int .i64 sp)) (w.heap.size + 3) [.int .i64 d, .int .i64 sp] 39 := (bL1.set (j := 0) _).set (j := 1) _
        have bR2 := (bR1.setOther (E' := w.heap.size + 3) (j := 0) (by omega) (.int .i64 d)).setOther (E' := w.heap.size + 3) (j := 1) (by omega) (.int .i64 sp)
        have k2 := (k1.setCell (p := ⟨w.heap.size + 3, 0, none⟩) (by show w.heap.size ≤ w.heap.size + 3; omega) (.int .i64 d)).setCell (p := ⟨w.heap.size + 3, 1, none⟩) (by show w.heap.size ≤ w.heap.size + 3; omega) (.int .i64 sp)
        have hm2 := (hm1.kept (grown_set W3 ⟨w.heap.size + 3, 0, none⟩ (.int .i64 d)) (fun e => by injection e with e; have e : w.heap.size + 2 = w.heap.size + 3 := e; omega)).kept (grown_set _ ⟨w.heap.size + 3, 1, none⟩ (.int .i64 sp)) (fun e => by injection e with e; have e : w.heap.size + 2 = w.heap.size + 3 := e; omega)
        generalize (W3.setCell ⟨w.heap.size + 3, 0, none⟩ (.int .i64 d)).setCell ⟨w.heap.size + 3, 1, none⟩ (.int .i64 sp) = W4 at *
        clear l0 l1 g0 g1 bL1 bR1 hm1 k1 bF z0 z1 z2 z3 z4 z5 z6 z7 z8
        obtain ⟨l0, l1⟩ := bL2.cells2
        go_wp2_with ((at_mapUpdate; refine wpList_mapUpdate_own _ rfl _ _ _ 123 rfl 39 4 layKeyed Tryz.underlying123 _ (w.heap.size + 2) m _ rfl hm2 (by unfold maxLen; omega) _ _ _ rfl rfl hkey _ [] (plainElem_bool Tryz.underlying4 true) ?_; intro w9 hown9 hgrow9))
        have bL9 : Box w9 (w.heap.size + 3) [.int .i64 d, .int .i64 sp] 39 := (hgrow9.block _ bL2.lt (fun e => by injection e with e; omega)).trans bL2
        have bR9 : Box w9 (w.heap.size + 1) [.int .i64 0, .int .i64 0] 39 := (hgrow9.block _ bR2.lt (fun e => by injection e with e; omega)).trans bR2
        have k9 : Below w.heap.size w w9 := k2.grown hgrow9 k2.size (fun q e => by injection e with e; omega)
        have hm9 : w9.ownsMap Tryz.prog 39 (plainElem (H := Unit) Tryz.prog 4) (w.heap.size + 2) (m + 1) (setP (layK F s (k + 1))) := by rw [hn.out, setP_snoc]; exact hown9
        have hlast : Hid (lastL (layK F s (k + 1)) = (d, sp)) := by rw [Hid, hn.out, lastL_snoc]
        clear hown9 hgrow9 hm2 bL2 bR2 k2 hkey l0 l1
        go_wp2_with fail
        go_roundw
        case rel => exact ⟨k + 1, m + 1, by omega, by go_num, k9, bR9, by rw [hlast.out]; exact bL9, hm9, by omega⟩
        case measure => simp [intOf]; omega
      · have y : ((frAt F k).session == s) = false := by rw [beq_eq_false_iff_ne]; exact hs
        have hn : Hid (layK F s (k + 1) = layK F s k) := by rw [Hid, layK, if_neg hs]
        clear hs
        go_wp2_with fail
        go_roundw
        case rel => exact ⟨k + 1, m, by omega, by go_num, k1, bR1, by rw [hn.out]; exact bL1, by rw [hn.out]; exact hm1, by omega⟩
        case measure => simp [intOf]; omega
    · obtain rfl : k = F.length := by omega
      have hln := hm.len Tryz.underlying123 3
      obtain ⟨l0, l1⟩ := bL.cells2
      obtain ⟨r0, r1⟩ := bR.cells2
      have g0 := bR.frozen 0
      have g1 := bR.frozen 1
      have fin : ∀ x y : Int, Box ((wr.setCell ⟨w.heap.size + 1, 0, none⟩ (.int .i64 x)).setCell ⟨w.heap.size + 1, 1, none⟩ (.int .i64 y)) (w.heap.size + 1) [.int .i64 x, .int .i64 y] 39 ∧ Below w.heap.size w ((wr.setCell ⟨w.heap.size + 1, 0, none⟩ (.int .i64 x)).setCell ⟨w.heap.size + 1, 1, none⟩ (.int .i64 y)) := fun x y =>
        ⟨(bR.set (j := 0) _).set (j := 1) _, (kb.setCell (p := ⟨w.heap.size + 1, 0, none⟩) (Nat.le_succ _) _).setCell (p := ⟨w.heap.size + 1, 1, none⟩) (Nat.le_succ _) _⟩
      have FIN := Lib.hid fin
      have hz := HSz.out
      clear fin HF HW HSz hm hmlt bR kb
      rcases hr : layR s none F with e | ⟨x, y⟩
      · rw [hr] at hz
        rcases hz with ⟨rfl, h2⟩ | ⟨rfl, h2⟩
        · rw [h2] at hln
          have Hr := Lib.hid hr
          clear h2 hr
          obtain ⟨bF, kF⟩ := FIN.out 0 0
          go_wp2_with fail
          refine bodyPost_ret (results_cell_tmp_mid rfl _ _ (w.heap.size + 1) 0 rfl [.int .i64 0, .int .i64 0] _ (fun j v hv => by rw [Nat.zero_add]; exact (bF.cell j).trans hv) Tryz.underlying39 rfl infoLay) rfl ⟨by rw [Hr.out]; rfl, kF⟩
        · obtain ⟨q, hq⟩ : ∃ q, Maps.size (setP (layK F s F.length)) = q := ⟨_, rfl⟩
          rw [hq] at hln h2
          have y0 : ((q : Int) == 0) = false := by rw [beq_eq_false_iff_ne]; omega
          have y1 : ((q : Int) == 1) = false := by rw [beq_eq_false_iff_ne]; omega
          have Hr := Lib.hid hr
          clear h2 hr hq
          obtain ⟨bF, kF⟩ := FIN.out 0 0
          go_wp2_with fail
          refine bodyPost_ret (results_cell_tmp_mid rfl _ _ (w.heap.size + 1) 0 rfl [.int .i64 0, .int .i64 0] _ (fun j v hv => by rw [Nat.zero_add]; exact (bF.cell j).trans hv) Tryz.underlying39 rfl infoLay) rfl ⟨by rw [Hr.out]; rfl, kF⟩
      · rw [hr] at hz
        obtain ⟨h1, h2⟩ := hz
        have hl : lastL (layK F s F.length) = (x, y) := by unfold lastL; rw [h2]; rfl
        rw [hl] at l0 l1
        rw [h1] at hln
        dsimp only at l0 l1
        obtain ⟨bF, kF⟩ := FIN.out x y
        have Hr := Lib.hid hr
        clear h1 h2 hl bL hr
        go_wp2_with fail
        refine bodyPost_ret (results_cell_tmp_mid rfl _ _ (w.heap.size + 1) 0 rfl [.int .i64 x, .int .i64 y] _ (fun j v hv => by rw [Nat.zero_add]; exact (bF.cell j).trans hv) Tryz.underlying39 rfl infoLay) rfl ⟨by rw [Hr.out]; rfl, kF⟩
set_option maxRecDepth 100000 in
set_option maxHeartbeats 4000000 in
theorem layout00 (ar : Int) (a : Option Addr) (cap : Nat) (s : Int) (w : World) :
    Calls Tryz.prog 35 #[.agg #[.int .u32 ar, .slice a 0 cap], .int .i64 s] w (LayQ (.error 19) w) := by
  have hmm := @run_makeMap Tryz.prog
  have hm0 := (World.ownsMap_made ((w.alloc (.cells #[.int .u32 ar, .slice a 0 cap] 25)).alloc (.cells #[.int .i64 0, .int .i64 0] 39)) Tryz.prog 39 (plainElem (H := Unit) Tryz.prog 4)).alloc (.cells #[.int .i64 0, .int .i64 0] 39)
  have hln := hm0.len Tryz.underlying123 3
  simp only [World.size_alloc] at hln
  clear hm0
  go_enter Tryz.func35, Tryz.ntmps35
  go_wp2_with fail
  refine wp_loop_rounds 1 ?_; rw [rounds_succ]
  go_wp2_with fail
  obtain ⟨k1, _⟩ := boxr w [.int .u32 ar, .slice a 0 cap] 25
  obtain ⟨k2, b2⟩ := boxr (w.alloc (.cells [.int .u32 ar, .slice a 0 cap].toArray 25)) [.int .i64 0, .int .i64 0] 39
  have k3 : Below ((w.alloc (.cells [.int .u32 ar, .slice a 0 cap].toArray 25)).alloc (.cells [.int .i64 0, .int .i64 0].toArray 39)).heap.size ((w.alloc (.cells [.int .u32 ar, .slice a 0 cap].toArray 25)).alloc (.cells [.int .i64 0, .int .i64 0].toArray 39)) (((w.alloc (.cells [.int .u32 ar, .slice a 0 cap].toArray 25)).alloc (.cells [.int .i64 0, .int .i64 0].toArray 39)).alloc (.map #[] 0)) := (Below.refl _ _).alloc (Nat.le_refl _) _
  obtain ⟨k4, _⟩ := boxr (((w.alloc (.cells [.int .u32 ar, .slice a 0 cap].toArray 25)).alloc (.cells [.int .i64 0, .int .i64 0].toArray 39)).alloc (.map #[] 0)) [.int .i64 0, .int .i64 0] 39
  have hb := (b2.below k3).below k4
  have kb := step2 (step2 (step2 k1 k2) k3) k4
  rw [World.size_alloc] at hb
  clear hln hmm k1 k2 k3 k4 b2
  refine bodyPost_ret (results_cell_tmp_mid rfl _ _ (w.heap.size + 1) 0 rfl [.int .i64 0, .int .i64 0] _ (fun j v hv => by rw [Nat.zero_add]; exact (hb.cell j).trans hv) Tryz.underlying39 rfl infoLay) rfl ⟨rfl, kb⟩
theorem layout_any (ar : Int) (v : Value) (F : List Fr) (s : Int) (w : World) (hr : FrRow w v F) (hl : F.length ≤ 100000) (hwf : LayWf F) :
    Calls Tryz.prog 35 #[.agg #[.int .u32 ar, v], .int .i64 s] w (LayQ (layR s none F) w) := by
  rcases hr.2 with ⟨rfl, a, cap, rfl, _⟩ | ⟨h0, b, o, cap, rfl, _, _, hb, hF⟩
  · exact layout00 ar a cap s w
  · exact layout1 ar b o cap F s w hl hb hF hwf
/-- a layout is valid, or not -/
def CkP (d sp x : Int) : Prop := (x = 0 ∧ 1 ≤ d ∧ d ≤ 8 ∧ 0 ≤ sp ∧ sp ≤ 7) ∨ (x = 2 ∧ ¬ (1 ≤ d ∧ d ≤ 8 ∧ 0 ≤ sp ∧ sp ≤ 7))
set_option maxRecDepth 100000 in
set_option maxHeartbeats 4000000 in
theorem layCheck_any (d sp : Int) (w : World) : Calls Tryz.prog 36 #[.agg #[.int .i64 d, .int .i64 sp]] w (fun e w' => ∃ x : Int, e = .returned (.int .i64 x) ∧ Hid (CkP d sp x) ∧ Below w.heap.size w w') := by
  obtain ⟨kb0, bC0⟩ := boxr w [.int .i64 d, .int .i64 sp] 39
  go_enter Tryz.func36, Tryz.ntmps36
  go_upto_region 1 with (fail)
  change Code.wp _ _ _ _ (w.alloc (.cells [.int .i64 d, .int .i64 sp].toArray 39))
  generalize w.alloc (.cells [.int .i64 d, .int .i64 sp].toArray 39) = W0 at *
  obtain ⟨c0, c1⟩ := bC0.cells2
  by_cases q0 : d < 1
  · have hk : Hid (CkP d sp 2) := .inr ⟨rfl, by omega⟩
    go_wp2_with fail
    go_ret
    exact ⟨2, rfl, hk, kb0⟩
  by_cases q1 : 8 < d
  · have hk : Hid (CkP d sp 2) := .inr ⟨rfl, by omega⟩
    go_wp2_with fail
    go_ret
    exact ⟨2, rfl, hk, kb0⟩
  by_cases q2 : sp < 0
  · have hk : Hid (CkP d sp 2) := .inr ⟨rfl, by omega⟩
    go_wp2_with fail
    go_ret
    exact ⟨2, rfl, hk, kb0⟩
  by_cases q3 : 7 < sp
  · have hk : Hid (CkP d sp 2) := .inr ⟨rfl, by omega⟩
    go_wp2_with fail
    go_ret
    exact ⟨2, rfl, hk, kb0⟩
  have hk : Hid (CkP d sp 0) := .inl (by omega)
  go_wp2_with fail
  go_ret
  exact ⟨0, rfl, hk, kb0⟩
end Go.Proofs.YtpkapcijgldhhaaGreatDoor
