/-
  The directory of a session out of frames, in the program.
  The examples of the chapter; the bound on collections.
-/
import Derived.Test.YtpkapcijgldhhaaGreatDoorCa44
import Derived.Test.YtpkapcijgldhhaaGreatDoorCa46
import Derived.Maps.OwnIn
import Derived.Maps.Views
namespace Go.Proofs.YtpkapcijgldhhaaGreatDoor
open Go.RowKit Go.Shelf
set_option maxRecDepth 100000 in
set_option maxHeartbeats 4000000 in
theorem directory_any (ar : Int) (v : Value) (F : List Fr) (s : Int) (root : ByteArray) (w : World) (he : Env w) (hm : HasMax w) (hr : FrRow w v F) (hF : SmallF F) :
    Calls Tryz.prog 13 #[.agg #[.int .u32 ar, v], .int .i64 s, .string root] w (DirP (goD F s root.data.toList 15) w) := by
  have HO := Lib.hid (show ∀ W, Below w.heap.size w W → ∀ k : Nat, k < 15 → Calls Tryz.prog 31 #[.agg #[.int .u32 ar, v], .int .i64 s, .int .i64 k] W (PartP (textR F s k) W) from fun W hW k hk => text_any ar v F s k hk W (hr.below hW) hF)
  have HT := Lib.hid (fun k t (h : textR F s k = some t) => text_bd hF h)
  have HA := Lib.hid (show ∀ W (t : List UInt8), Below w.heap.size w W → t.length ≤ 100000 → Calls Tryz.prog 32 #[.string (bA' t), .int .i64 s, .string root] W (BoolP (isB (AccR t s root.data.toList)) W) from fun W t hW ht => by
    have := accepted_any (bA' t) root s W (he.below hW) (hm.below hW) (by show t.length ≤ _; omega)
    rw [bA'_list] at this; exact this)
  clear hr hF he hm
  obtain ⟨R, hR⟩ : ∃ R, goD F s root.data.toList 15 = R := ⟨_, rfl⟩
  rw [hR]
  have HR := Lib.hid (show goD F s root.data.toList (15 - 0) = R from hR)
  clear hR
  obtain ⟨kb0, bC0⟩ := boxr w [.int .u32 ar, v] 25
  go_enter Tryz.func13, Tryz.ntmps13
  go_upto_region 1 with (fail)
  obtain ⟨W0, hW0⟩ : ∃ W0, w.alloc (.cells [.int .u32 ar, v].toArray 25) = W0 := ⟨_, rfl⟩
  change Code.wp _ _ _ _ (w.alloc (.cells [.int .u32 ar, v].toArray 25))
  rw [hW0] at kb0 bC0 ⊢
  clear hW0
  go_wp2_with fail
  go_loopw [8, 9, 10, 11] (fun _ _ _ i wr => ∃ k : Nat, k ≤ 15 ∧ i = .int .i64 k ∧ Below w.heap.size w wr ∧ Box wr w.heap.size [.int .u32 ar, v] 25 ∧ Hid (goD F s root.data.toList (15 - k) = R)) (fun _ _ _ i _ => 15 - (intOf i).toNat)
  case atStart => exact ⟨0, by omega, rfl, kb0, bC0, HR⟩
  case round =>
    clear HR kb0 bC0
    obtain ⟨k, hk, rfl, kb, bC, hg⟩ := hrel
    by_cases hlt : k < 15
    · obtain ⟨c0, c1⟩ := bC.cells2
      have HP := Lib.hid (HO.out _ kb k hlt)
      go_wp2_with fail
      refine HP.out.mono ?_
      rintro e w4 ⟨he, hb4⟩
      have k4 := step2 kb hb4
      have bC4 := bC.below hb4
      clear HP c0 c1 kb bC hb4
      rcases hp : textR F s k with _ | t
      · rw [hp] at he
        obtain ⟨x, rfl⟩ := he
        have hs : Hid (goD F s root.data.toList (15 - (k + 1)) = R) := (goD_no hlt hp).symm.trans hg.out
        clear hp hg
        go_wp2_with fail
        go_roundw
        case rel => exact ⟨k + 1, by omega, by go_num, k4, bC4, hs⟩
        case measure => simp [intOf]; omega
      · rw [hp] at he
        obtain rfl := he
        have htb := HT.out _ _ hp
        have HQ := Lib.hid (HA.out w4 t k4 htb)
        go_wp2_with fail
        refine HQ.out.mono ?_
        rintro e w6 ⟨he, hb6⟩
        have k6 := step2 k4 hb6
        have bC6 := bC4.below hb6
        clear HQ k4 bC4 hb6
        cases ha : isB (AccR t s root.data.toList) with
        | true =>
          rw [ha] at he
          obtain rfl := he
          have hs : Hid (R = some t) := hg.out.symm.trans (goD_yes hlt hp ha)
          clear hg hp ha
          go_wp2_with fail
          go_ret2
          exact .some hs.out k6
        | false =>
          rw [ha] at he
          obtain rfl := he
          have hs : Hid (goD F s root.data.toList (15 - (k + 1)) = R) := (goD_not hlt hp ha).symm.trans hg.out
          clear hg hp ha
          go_wp2_with fail
          go_roundw
          case rel => exact ⟨k + 1, by omega, by go_num, k6, bC6, hs⟩
          case measure => simp [intOf]; omega
    · obtain rfl : k = 15 := by omega
      have hs : Hid (R = none) := hg.out.symm
      clear hg
      go_wp2_with fail
      go_ret2
      exact .none hs.out kb
end Go.Proofs.YtpkapcijgldhhaaGreatDoor

namespace Go.Proofs.YtpkapcijgldhhaaGreatDoor
open Go.RowKit Go.Shelf
attribute [local go_sem] Oper.semAt_some
theorem fold_nil (s i : Int) : ∀ k, foldS [] s i k = some none
  | 0 => rfl
  | k + 1 => by rw [foldS, fold_nil s i k]; rfl
theorem part_nil (s fm i : Int) : partR [] s fm i = none := by rw [part_fold (by rfl), fold_nil]
theorem text_nil (s fm : Int) : textR [] s fm = none := text_none (part_nil s fm 0)
theorem goD_nil (s : Int) (root : List UInt8) : ∀ k, goD [] s root k = none
  | 0 => rfl
  | k + 1 => by rw [goD, text_nil]; exact goD_nil s root k
theorem smallF_nil : SmallF [] := ⟨Nat.zero_le _, fun f hf => by cases hf⟩
theorem frRow_nil (w : World) : FrRow w (.slice none 0 0) [] := ⟨Nat.zero_le _, .inl ⟨rfl, none, 0, rfl, fun _ => rfl⟩⟩
theorem infoLay : (Tryz.prog.info? 39).map (·.size) = some 2 := by kernel_rfl
set_option maxRecDepth 100000 in
set_option maxHeartbeats 4000000 in
theorem layout0_any (s : Int) (w : World) : Calls Tryz.prog 35 #[.agg #[.int .u32 0, .slice none 0 0], .int .i64 s] w (fun e w' => e = .returned (.tuple #[.agg #[.int .i64 0, .int .i64 0], .int .i64 19]) ∧ Below w.heap.size w w') := by
  have hmm := @run_makeMap Tryz.prog
  have hm0 := (World.ownsMap_made ((w.alloc (.cells #[.int .u32 0, .slice none 0 0] 25)).alloc (.cells #[.int .i64 0, .int .i64 0] 39)) Tryz.prog 39 (plainElem (H := Unit) Tryz.prog 4)).alloc (.cells #[.int .i64 0, .int .i64 0] 39)
  have hln := hm0.len Tryz.underlying123 3
  simp only [World.size_alloc] at hln
  clear hm0
  go_enter Tryz.func35, Tryz.ntmps35
  go_wp2_with fail
  refine wp_loop_rounds 1 ?_; rw [rounds_succ]
  go_wp2_with fail
  obtain ⟨k1, _⟩ := boxr w [.int .u32 0, .slice none 0 0] 25
  obtain ⟨k2, b2⟩ := boxr (w.alloc (.cells [.int .u32 0, .slice none 0 0].toArray 25)) [.int .i64 0, .int .i64 0] 39
  have k3 : Below ((w.alloc (.cells [.int .u32 0, .slice none 0 0].toArray 25)).alloc (.cells [.int .i64 0, .int .i64 0].toArray 39)).heap.size ((w.alloc (.cells [.int .u32 0, .slice none 0 0].toArray 25)).alloc (.cells [.int .i64 0, .int .i64 0].toArray 39)) (((w.alloc (.cells [.int .u32 0, .slice none 0 0].toArray 25)).alloc (.cells [.int .i64 0, .int .i64 0].toArray 39)).alloc (.map #[] 0)) := (Below.refl _ _).alloc (Nat.le_refl _) _
  obtain ⟨k4, _⟩ := boxr (((w.alloc (.cells [.int .u32 0, .slice none 0 0].toArray 25)).alloc (.cells [.int .i64 0, .int .i64 0].toArray 39)).alloc (.map #[] 0)) [.int .i64 0, .int .i64 0] 39
  have hb := (b2.below k3).below k4
  have kb := step2 (step2 (step2 k1 k2) k3) k4
  rw [World.size_alloc] at hb
  clear hln hmm k1 k2 k3 k4 b2
  refine bodyPost_ret (results_cell_tmp_mid rfl _ _ (w.heap.size + 1) 0 rfl [.int .i64 0, .int .i64 0] _ (fun j v hv => by rw [Nat.zero_add]; exact (hb.cell j).trans hv) Tryz.underlying39 rfl infoLay) rfl ⟨rfl, kb⟩
theorem outside_any (n m : Int) (w : World) (h : 0 ≤ n ∧ n ≤ m) : Calls Tryz.prog 42 #[.int .i64 n, .int .i64 m] w (fun e w' => e = .returned (.bool false) ∧ w' = w) := by
  go_enter Tryz.func42, Tryz.ntmps42
  go_wp2_with fail
  go_ret
  refine ⟨?_, rfl⟩
  rw [show (decide (n < 0) || decide (m < n)) = false from by rw [decide_eq_false (by omega), decide_eq_false (by omega)]; rfl]
  rfl
set_option maxRecDepth 100000 in
set_option maxHeartbeats 4000000 in
theorem block0_any (s : Int) (w : World) : Calls Tryz.prog 15 #[.agg #[.int .u32 0, .slice none 0 0], .int .i64 s, .int .i64 0] w (fun e w' => e = .returned (.tuple #[.string ⟨#[]⟩, .int .i64 19]) ∧ Below w.heap.size w w') := by
  refine (callsIn_wide (n := 9)).1 ?_
  refine callsIn_of_wp_marks Tryz.func15 rfl trivial ?_ rfl
  simp only [Tryz.ntmps15, List.size_toArray, List.length_cons, List.length_nil, Nat.reduceAdd, Nat.reduceSub, Array.replicate_succ, Array.replicate_zero, List.push_toArray, List.append_toArray, List.nil_append, List.cons_append]
  obtain ⟨k1, b1⟩ := boxr w [.int .u32 0, .slice none 0 0] 25
  obtain ⟨k2, b2⟩ := boxr (w.alloc (.cells [.int .u32 0, .slice none 0 0].toArray 25)) [.string ⟨#[]⟩] 9
  obtain ⟨k3, b3⟩ := boxr ((w.alloc (.cells [.int .u32 0, .slice none 0 0].toArray 25)).alloc (.cells [.string ⟨#[]⟩].toArray 9)) [.int .i64 0] 28
  have kb := step2 (step2 k1 k2) k3
  replace b2 := b2.below k3
  replace b1 := (b1.below k2).below k3
  simp only [World.size_alloc] at b2 b3
  obtain ⟨W1, hW1⟩ : ∃ W1, ((w.alloc (.cells [.int .u32 0, .slice none 0 0].toArray 25)).alloc (.cells [.string ⟨#[]⟩].toArray 9)).alloc (.cells [.int .i64 0].toArray 28) = W1 := ⟨_, rfl⟩
  rw [hW1] at b1 b2 b3 kb
  clear k1 k2 k3
  obtain ⟨c0, c1⟩ := b1.cells2
  gi_wp2_with fail
  refine ⟨trivial, (callsIn_wide.2 (layout0_any s W1)).mono ?_⟩
  rintro e w2 ⟨rfl, hb2⟩
  have k2 := step2 kb hb2
  replace b2 := b2.below hb2
  replace b3 := b3.below hb2
  clear hW1 c0 c1 b1 kb hb2
  have r0 : w2.cell? ⟨w.heap.size + 1, 0, none⟩ = some (.string ⟨#[]⟩) := b2.cell 0
  have r1 : w2.cell? ⟨w.heap.size + 1 + 1, 0, none⟩ = some (.int .i64 0) := b3.cell 0
  have g0 : w2.frozen? ⟨w.heap.size + 1, 0, none⟩ = false := b2.frozen 0
  have g1 : w2.frozen? ⟨w.heap.size + 1 + 1, 0, none⟩ = false := b3.frozen 0
  have h1 : w.heap.size + 1 < w2.heap.size := b2.lt
  have h2 : w.heap.size + 1 + 1 < w2.heap.size := b3.lt
  gi_wp2_with fail
  have B2 : Box ((w2.setCell ⟨w.heap.size + 1, 0, none⟩ (.string ⟨#[]⟩)).setCell ⟨w.heap.size + 1 + 1, 0, none⟩ (.int .i64 19)) (w.heap.size + 1) [.string ⟨#[]⟩] 9 := (b2.set (j := 0) _).setOther (j := 0) (by omega) _
  have B3 : Box ((w2.setCell ⟨w.heap.size + 1, 0, none⟩ (.string ⟨#[]⟩)).setCell ⟨w.heap.size + 1 + 1, 0, none⟩ (.int .i64 19)) (w.heap.size + 1 + 1) [.int .i64 19] 28 := (b3.setOther (j := 0) (by omega) _).set (j := 0) _
  have kS : Below w.heap.size w ((w2.setCell ⟨w.heap.size + 1, 0, none⟩ (.string ⟨#[]⟩)).setCell ⟨w.heap.size + 1 + 1, 0, none⟩ (.int .i64 19)) := (k2.setCell (p := ⟨w.heap.size + 1, 0, none⟩) (Nat.le_succ _) _).setCell (p := ⟨w.heap.size + 1 + 1, 0, none⟩) (by show w.heap.size ≤ w.heap.size + 1 + 1; omega) _
  generalize (w2.setCell ⟨w.heap.size + 1, 0, none⟩ (.string ⟨#[]⟩)).setCell ⟨w.heap.size + 1 + 1, 0, none⟩ (.int .i64 19) = WS at *
  obtain ⟨kP, _⟩ := boxr WS [.int .i64 0, .int .i64 0] 39
  have q0 : (WS.alloc (.cells #[.int .i64 0, .int .i64 0] 39)).cell? ⟨w.heap.size + 1, 0, none⟩ = some (.string ⟨#[]⟩) := (B2.below kP).cell 0
  have q1 : (WS.alloc (.cells #[.int .i64 0, .int .i64 0] 39)).cell? ⟨w.heap.size + 1 + 1, 0, none⟩ = some (.int .i64 19) := (B3.below kP).cell 0
  refine ⟨.tuple #[.string ⟨#[]⟩, .int .i64 19], ?_, rfl, step2 kS kP⟩
  simp [results, Tryz.f15, go_sem, q0, q1]
theorem bytes0_any (w : World) : Calls Tryz.prog 17 #[.agg #[.int .u32 0, .slice none 0 0], .agg #[.int .i64 0, .int .i64 0, .int .i64 3]] w (fun e w' => e = .returned (.tuple #[.string ⟨#[0, 0, 0]⟩, .int .i64 0]) ∧ Below w.heap.size w w') := by
  have H1 := Lib.hid (fun W => outside_any 0 255 W (by decide))
  have H2 := Lib.hid (fun W => outside_any 0 2147483647 W (by decide))
  have H3 := Lib.hid (fun W => outside_any 3 65536 W (by decide))
  have HR := Lib.hid (fun W => Tryz.strings_Repeat ⟨#[0]⟩ 3 W (by decide) (by decide))
  obtain ⟨k1, b1⟩ := boxr w [.int .u32 0, .slice none 0 0] 25
  obtain ⟨k2, b2⟩ := boxr (w.alloc (.cells [.int .u32 0, .slice none 0 0].toArray 25)) [.int .i64 0, .int .i64 0, .int .i64 3] 34
  have kb := step2 k1 k2
  rw [World.size_alloc] at b2
  go_enter Tryz.func17, Tryz.ntmps17
  go_upto_region 2 with (fail)
  obtain ⟨W0, hW0⟩ : ∃ W0, (w.alloc (.cells [.int .u32 0, .slice none 0 0].toArray 25)).alloc (.cells [.int .i64 0, .int .i64 0, .int .i64 3].toArray 34) = W0 := ⟨_, rfl⟩
  change Code.wp _ _ _ _ ((w.alloc (.cells [.int .u32 0, .slice none 0 0].toArray 25)).alloc (.cells [.int .i64 0, .int .i64 0, .int .i64 3].toArray 34))
  rw [hW0] at b2 kb ⊢
  clear hW0 k1 k2 b1
  have c0 : W0.cell? ⟨w.heap.size + 1, 0, none⟩ = some (.int .i64 0) := b2.cell 0
  have c1 : W0.cell? ⟨w.heap.size + 1, 1, none⟩ = some (.int .i64 0) := b2.cell 1
  have c2 : W0.cell? ⟨w.heap.size + 1, 2, none⟩ = some (.int .i64 3) := b2.cell 2
  go_wp2_with fail
  refine (H1.out _).mono ?_
  rintro e w1 ⟨rfl, rfl⟩
  go_wp2_with fail
  refine (H2.out _).mono ?_
  rintro e w1 ⟨rfl, rfl⟩
  go_wp2_with fail
  refine (H3.out _).mono ?_
  rintro e w1 ⟨rfl, rfl⟩
  go_wp2_with fail
  refine (HR.out _).mono ?_
  rintro e w1 ⟨rfl, hb1⟩
  go_wp2_with fail
  go_ret2
  exact ⟨rfl, step2 kb hb1⟩
theorem alive45_any (w : World) (he : Env w) (hm : HasMax w) : Calls Tryz.prog 11 #[] w (BoolP true w) := by
  have HD := Lib.hid (directory_any 0 (.slice none 0 0) [] 1 ⟨#[]⟩ w he hm (frRow_nil w) smallF_nil)
  rw [goD_nil] at HD
  go_enter Tryz.func11, Tryz.ntmps11
  go_wp2_with fail
  refine HD.out.mono ?_
  rintro e w1 ⟨rfl, hb1⟩
  dsimp only [dirS, dirE]
  clear HD
  go_wp2_with fail
  refine (block0_any 1 w1).mono ?_
  rintro e w2 ⟨rfl, hb2⟩
  go_wp2_with fail
  refine (bytes0_any w2).mono ?_
  rintro e w3 ⟨rfl, hb3⟩
  go_wp2_with fail
  go_ret
  exact ⟨rfl, step2 (step2 hb1 hb2) hb3⟩
end Go.Proofs.YtpkapcijgldhhaaGreatDoor
