/-
  Chapter 40: the law Injective, walked out of the contracts.
-/
import Derived.Test.YtjlfjchcmkkebaaGreatDoorLawRT40
import Derived.Deep.QuietTactic
import Derived.BigQuiet
namespace Go.Proofs.YtjlfjchcmkkebaaGreatDoor
open Go.RowKit Go.Shelf

theorem sum_of (st : ByteArray) (W : World) (h : st.size ≤ 1000) : Calls Tryz.prog 15 #[.slice (some ⟨W.heap.size, 0, none⟩) 1 1] (W.alloc (.cells #[.string st] 9)) (StrP (sumB st.data.toList) (W.alloc (.cells #[.string st] 9))) := one_sum st W (by omega)
set_option maxRecDepth 100000 in
set_option maxHeartbeats 4000000 in
theorem lawInjective40 (x y : Se) (a b : Option Addr) (c d : Nat) (w : World) (he : Env w) (hm : HasMax w) (hr : EnRow w (.slice a x.entries.length c) x.entries) (wf : SeWf x) (hr2 : EnRow w (.slice b y.entries.length d) y.entries) (wf2 : SeWf y) :
    Calls Tryz.prog 6 #[.agg #[.int .i64 x.number, .int .i64 x.date, .string x.prev, .slice a x.entries.length c, .string x.stream, .string x.sl], .agg #[.int .i64 y.number, .int .i64 y.date, .string y.prev, .slice b y.entries.length d, .string y.stream, .string y.sl]] w fun e w' => e = .returned (.bool true) ∧ Below w.heap.size w w' := by
  have HE := Lib.hid (show ∀ W, Below w.heap.size w W → Env W from fun W hW => he.below hW)
  have HM := Lib.hid (show ∀ W, Below w.heap.size w W → HasMax W from fun W hW => hm.below hW)
  have HX := Lib.hid (seCs he hm hr wf)
  have HY := Lib.hid (seCs he hm hr2 wf2)
  have WF := Lib.hid wf
  have WG := Lib.hid wf2
  clear he hm hr wf hr2 wf2
  obtain ⟨kb0, bX, bY⟩ := boxes2' w [.int .i64 x.number, .int .i64 x.date, .string x.prev, .slice a x.entries.length c, .string x.stream, .string x.sl] [.int .i64 y.number, .int .i64 y.date, .string y.prev, .slice b y.entries.length d, .string y.stream, .string y.sl] 25 25
  change Below _ _ ((w.alloc (.cells #[.int .i64 x.number, .int .i64 x.date, .string x.prev, .slice a x.entries.length c, .string x.stream, .string x.sl] 25)).alloc (.cells #[.int .i64 y.number, .int .i64 y.date, .string y.prev, .slice b y.entries.length d, .string y.stream, .string y.sl] 25)) at kb0
  change Box ((w.alloc (.cells #[.int .i64 x.number, .int .i64 x.date, .string x.prev, .slice a x.entries.length c, .string x.stream, .string x.sl] 25)).alloc (.cells #[.int .i64 y.number, .int .i64 y.date, .string y.prev, .slice b y.entries.length d, .string y.stream, .string y.sl] 25)) _ _ _ at bX bY
  go_enter Tryz.func6, Tryz.ntmps6
  go_upto_region 1 with (fail)
  obtain ⟨W0, hW0⟩ : ∃ W0, ((w.alloc (.cells #[.int .i64 x.number, .int .i64 x.date, .string x.prev, .slice a x.entries.length c, .string x.stream, .string x.sl] 25)).alloc (.cells #[.int .i64 y.number, .int .i64 y.date, .string y.prev, .slice b y.entries.length d, .string y.stream, .string y.sl] 25)) = W0 := ⟨_, rfl⟩
  change Code.wp _ _ _ _ ((w.alloc (.cells #[.int .i64 x.number, .int .i64 x.date, .string x.prev, .slice a x.entries.length c, .string x.stream, .string x.sl] 25)).alloc (.cells #[.int .i64 y.number, .int .i64 y.date, .string y.prev, .slice b y.entries.length d, .string y.stream, .string y.sl] 25))
  rw [hW0] at kb0 bX bY ⊢
  clear hW0
  obtain ⟨c0, c1, c2, c3, c4, c5⟩ := bX.cells6
  obtain ⟨d0, d1, d2, d3, d4, d5⟩ := bY.cells6
  go_wp2_with fail
  refine (alive40_any W0 (HE.out _ kb0) (HM.out _ kb0)).mono ?_
  rintro e W1 ⟨rfl, hb⟩
  have kb1 := step2 kb0 hb
  have bX1 := bX.below hb
  have bY1 := bY.below hb
  clear kb0 hb bX bY c0 c1 c2 c3 c4 c5 d0 d1 d2 d3 d4 d5
  obtain ⟨c0, c1, c2, c3, c4, c5⟩ := bX1.cells6
  obtain ⟨d0, d1, d2, d3, d4, d5⟩ := bY1.cells6
  go_wp2_with fail
  refine (HX.out.great W1 kb1).mono ?_
  rintro e W2 ⟨g, rfl, hgx, hsx, hb⟩
  have kb2 := step2 kb1 hb
  have bX2 := bX1.below hb
  have bY2 := bY1.below hb
  clear kb1 hb bX1 bY1 c0 c1 c2 c3 c4 c5 d0 d1 d2 d3 d4 d5
  rcases hgx.out with rfl | rfl
  case inr =>
    go_wp2_with fail
    go_ret
    exact ⟨rfl, kb2⟩
  have SX := Lib.hid (hsx.out rfl)
  have OX := Lib.hid (seOk_small WF.out SX.out)
  clear hgx hsx
  obtain ⟨c0, c1, c2, c3, c4, c5⟩ := bX2.cells6
  obtain ⟨d0, d1, d2, d3, d4, d5⟩ := bY2.cells6
  go_wp2_with fail
  refine (HY.out.great W2 kb2).mono ?_
  rintro e W3 ⟨g, rfl, hgx, hsx, hb⟩
  have kb3 := step2 kb2 hb
  have bX3 := bX2.below hb
  have bY3 := bY2.below hb
  clear kb2 hb bX2 bY2 c0 c1 c2 c3 c4 c5 d0 d1 d2 d3 d4 d5
  rcases hgx.out with rfl | rfl
  case inr =>
    go_wp2_with fail
    go_ret
    exact ⟨rfl, kb3⟩
  have SY := Lib.hid (hsx.out rfl)
  have OY := Lib.hid (seOk_small WG.out SY.out)
  clear hgx hsx
  have HPx := Lib.hid (HX.out.enc OX.out)
  have HPy := Lib.hid (HY.out.enc OY.out)
  have HIff := Lib.hid (fun (h1 : sgnE x = 0) (h2 : sgnE y = 0) => text_iff h1 h2)
  have TX := Lib.hid (show sgnE x = 0 → (if sgnE x = 0 then textL x else []) = textL x from fun h => if_pos h)
  have TY := Lib.hid (show sgnE y = 0 → (if sgnE y = 0 then textL y else []) = textL y from fun h => if_pos h)
  generalize (if sgnE x = 0 then textL x else []) = lx at *
  generalize (if sgnE y = 0 then textL y else []) = ly at *
  generalize sgnE x = ce at *
  generalize sgnE y = de at *
  obtain ⟨c0, c1, c2, c3, c4, c5⟩ := bX3.cells6
  obtain ⟨d0, d1, d2, d3, d4, d5⟩ := bY3.cells6
  go_wp2_with fail
  refine (HPx.out W3 kb3).mono ?_
  rintro e W4 ⟨s, rfl, hs, hb⟩
  have kb4 := step2 kb3 hb
  have bX4 := bX3.below hb
  have bY4 := bY3.below hb
  clear kb3 hb bX3 bY3 c0 c1 c2 c3 c4 c5 d0 d1 d2 d3 d4 d5
  obtain ⟨c0, c1, c2, c3, c4, c5⟩ := bX4.cells6
  obtain ⟨d0, d1, d2, d3, d4, d5⟩ := bY4.cells6
  go_wp2_with fail
  refine (HPy.out W4 kb4).mono ?_
  rintro e W5 ⟨t, rfl, ht, hb⟩
  have kb5 := step2 kb4 hb
  have bX5 := bX4.below hb
  have bY5 := bY4.below hb
  clear kb4 hb bX4 bY4 c0 c1 c2 c3 c4 c5 d0 d1 d2 d3 d4 d5
  clear HPx HPy
  by_cases hc : ce = 0
  case neg =>
    have q1 : (ce != 0) = true := by rw [bne_iff_ne]; exact hc
    have q2 : (ce == 0) = false := by rw [beq_eq_false_iff_ne]; exact hc
    have Hc := Lib.hid hc; clear hc
    go_wp2_with fail
    go_ret
    exact ⟨rfl, kb5⟩
  by_cases hd : de = 0
  case neg =>
    have q1 : (ce != 0) = false := by rw [bne_eq_false_iff_eq]; exact hc
    have q3 : (de != 0) = true := by rw [bne_iff_ne]; exact hd
    have q4 : (de == 0) = false := by rw [beq_eq_false_iff_ne]; exact hd
    have Hc := Lib.hid hc; clear hc
    have Hd := Lib.hid hd; clear hd
    go_wp2_with fail
    go_ret
    exact ⟨rfl, kb5⟩
  have HI := Lib.hid (HIff.out hc hd)
  rw [TX.out hc] at hs
  rw [TY.out hd] at ht
  clear HIff TX TY
  subst hc hd
  have hx1 : x.stream.size ≤ 1000 := SX.out.2.1
  have hy1 : y.stream.size ≤ 1000 := SY.out.2.1
  obtain ⟨eb, heb⟩ : ∃ eb, (s.toList == t.toList) = eb := ⟨_, rfl⟩
  have HEB : Hid (eb = isB (textL x = textL y)) := by
    rw [Hid, ← heb, str_eq, hs.out, ht.out]; unfold isB; congr
  have Heb := Lib.hid heb
  obtain ⟨c0, c1, c2, c3, c4, c5⟩ := bX5.cells6
  obtain ⟨d0, d1, d2, d3, d4, d5⟩ := bY5.cells6
  clear hs ht SX SY OX OY WF WG
  go_upto_region 9 with (fail)
  go_cut [9] from 36 to 53 (fun v wc => v = .bool (isB (x.stream.size = y.stream.size ∧ sumB x.stream.data.toList = sumB y.stream.data.toList)) ∧ Below w.heap.size w wc ∧ Box wc w.heap.size [.int .i64 x.number, .int .i64 x.date, .string x.prev, .slice a x.entries.length c, .string x.stream, .string x.sl] 25 ∧ Box wc (w.heap.size + 1) [.int .i64 y.number, .int .i64 y.date, .string y.prev, .slice b y.entries.length d, .string y.stream, .string y.sl] 25)
  case first =>
    by_cases hz : x.stream.size = y.stream.size
    case neg =>
      have q1 : ((x.stream.size : Int) == (y.stream.size : Int)) = false := by rw [beq_eq_false_iff_ne]; omega
      have hr : isB (x.stream.size = y.stream.size ∧ sumB x.stream.data.toList = sumB y.stream.data.toList) = false := isB_no fun h => hz h.1
      have Hr := Lib.hid hr
      have Hz := Lib.hid hz; clear hz hr
      go_quiet (fail)
      go_wp2_with fail
      go_meet
      case rel => exact ⟨congrArg Value.bool Hr.out.symm, below_drewN kb5 _, bX5.drewN' _, bY5.drewN' _⟩
    have q1 : ((x.stream.size : Int) == (y.stream.size : Int)) = true := by rw [beq_iff_eq]; omega
    have HSS := Lib.hid (show ∀ W : World, Below W5.heap.size W5 W → W.cell? ⟨w.heap.size, 4, none⟩ = some (.string x.stream) ∧ W.cell? ⟨w.heap.size + 1, 4, none⟩ = some (.string y.stream) from fun W hW => ⟨(bX5.below hW).cell 4, (bY5.below hW).cell 4⟩)
    have hR := Lib.hid (show isB (x.stream.size = y.stream.size ∧ sumB x.stream.data.toList = sumB y.stream.data.toList) = decide (sumB x.stream.data.toList = sumB y.stream.data.toList) from by
      by_cases h : sumB x.stream.data.toList = sumB y.stream.data.toList
      · rw [isB_yes ⟨hz, h⟩, decide_eq_true h]
      · rw [isB_no (fun k => h k.2), decide_eq_false h])
    have Hz := Lib.hid hz; clear hz
    have b00 := below_refl W5
    have bd0 : Below W5.heap.size W5 W5.drew := below_drew0 b00
    have bA0 : Below W5.heap.size W5 (W5.alloc (.cells #[.string x.stream] 9)) := b00.alloc (Nat.le_refl _) _
    have bB0 : Below W5.heap.size W5 (W5.alloc (.cells #[.string y.stream] 9)) := b00.alloc (Nat.le_refl _) _
    have bAB0 : Below W5.heap.size W5 ((W5.alloc (.cells #[.string x.stream] 9)).alloc (.cells #[.string y.stream] 9)) := bA0.alloc bA0.size _
    have bBA0 : Below W5.heap.size W5 ((W5.alloc (.cells #[.string y.stream] 9)).alloc (.cells #[.string x.stream] 9)) := bB0.alloc bB0.size _
    have kA : Below (W5.alloc (.cells #[.string x.stream] 9)).heap.size (W5.alloc (.cells #[.string x.stream] 9)) (W5.alloc (.cells #[.string x.stream] 9)).drew := below_drew0 (below_refl _)
    have kAB : Below (W5.alloc (.cells #[.string x.stream] 9)).heap.size (W5.alloc (.cells #[.string x.stream] 9)) ((W5.alloc (.cells #[.string x.stream] 9)).alloc (.cells #[.string y.stream] 9)).drew := below_drew0 ((below_refl _).alloc (Nat.le_refl _) _)
    have kBA : Below ((W5.alloc (.cells #[.string y.stream] 9)).alloc (.cells #[.string x.stream] 9)).heap.size ((W5.alloc (.cells #[.string y.stream] 9)).alloc (.cells #[.string x.stream] 9)) ((W5.alloc (.cells #[.string y.stream] 9)).alloc (.cells #[.string x.stream] 9)).drew := below_drew0 (below_refl _)
    have kB2 : Below (W5.alloc (.cells #[.string y.stream] 9)).heap.size (W5.alloc (.cells #[.string y.stream] 9)) ((W5.alloc (.cells #[.string y.stream] 9)).alloc (.cells #[.string x.stream] 9)).drew := below_drew0 ((below_refl _).alloc (Nat.le_refl _) _)
    have kAB2 : Below ((W5.alloc (.cells #[.string x.stream] 9)).alloc (.cells #[.string y.stream] 9)).heap.size ((W5.alloc (.cells #[.string x.stream] 9)).alloc (.cells #[.string y.stream] 9)) ((W5.alloc (.cells #[.string x.stream] 9)).alloc (.cells #[.string y.stream] 9)).drew := below_drew0 (below_refl _)
    have s00 := HSS.out _ b00
    have s0 := HSS.out _ bd0
    have sA0 := HSS.out _ bA0
    have sB0 := HSS.out _ bB0
    have sAB0 := HSS.out _ bAB0
    have sBA0 := HSS.out _ bBA0
    have sA := HSS.out _ (below_drew0 bA0)
    have sB := HSS.out _ (below_drew0 bB0)
    have sAB := HSS.out _ (below_drew0 bAB0)
    have sBA := HSS.out _ (below_drew0 bBA0)
    have zx : x.stream.size ≤ 1000000000 := by omega
    have zy : y.stream.size ≤ 1000000000 := by omega
    have eA : (W5.alloc (.cells #[.string x.stream] 9)).heap.size = W5.heap.size + 1 := size_one _ _
    have eB : (W5.alloc (.cells #[.string y.stream] 9)).heap.size = W5.heap.size + 1 := size_one _ _
    have C1 := Lib.hid (one_sumB x.stream W5 (W5.alloc (.cells #[.string x.stream] 9)).drew zx kA)
    have C1b := Lib.hid (one_sumB x.stream W5 ((W5.alloc (.cells #[.string x.stream] 9)).alloc (.cells #[.string y.stream] 9)).drew zx kAB)
    have C1c := one_sumB x.stream (W5.alloc (.cells #[.string y.stream] 9)) ((W5.alloc (.cells #[.string y.stream] 9)).alloc (.cells #[.string x.stream] 9)).drew zx kBA
    rw [eB] at C1c
    replace C1c := Lib.hid C1c
    have C2 := Lib.hid (fun W => one_sum y.stream W zy)
    have C2b := Lib.hid (fun W hb => one_sumB y.stream W5 W zy hb)
    have C2c := fun W hb => one_sumB y.stream (W5.alloc (.cells #[.string x.stream] 9)) W zy hb
    rw [eA] at C2c
    replace C2c := Lib.hid C2c
    clear eA eB
    clear HE HM HX HY HI HEB c0 c1 c2 c3 c5 d0 d1 d2 d3 d5
    go_region_held3 (fun W => W.cell? ⟨w.heap.size, 4, none⟩ = some (.string x.stream) ∧ W.cell? ⟨w.heap.size + 1, 4, none⟩ = some (.string y.stream))
      (with_reducible assumption)
      (first
        | (go_at_call 15; (with_reducible refine C1.out.mono ?_); rintro e V1 ⟨t1, rfl, ht1, hb⟩; have m1 := step2 (below_drew0 bA0) hb; have s1 := HSS.out _ m1; have s1b := HSS.out _ (m1.alloc m1.size (.cells #[.string y.stream] 9)); have way1 : True := trivial)
        | (go_at_call 15; (with_reducible refine C1b.out.mono ?_); rintro e V1 ⟨t1, rfl, ht1, hb⟩; have m1 := step2 (below_drew0 bAB0) hb; have s1 := HSS.out _ m1; have m2 := step2 kAB2 hb)
        | (go_at_call 15; (with_reducible refine C1c.out.mono ?_); rintro e V1 ⟨t1, rfl, ht1, hb⟩; have m1 := step2 (below_drew0 bBA0) hb; have s1 := HSS.out _ m1; have m3 := step2 kB2 hb)
        | (go_at_call 15; (with_reducible refine (C2.out _).mono ?_); rintro e V2 ⟨t2, rfl, ht2, hb2⟩; have mF := step2 (m1.alloc m1.size _) hb2; have s2 := HSS.out _ mF)
        | (go_at_call 15; (with_reducible refine (C2b.out _ m3).mono ?_); rintro e V2 ⟨t2, rfl, ht2, hb2⟩; have mF := step2 m1 hb2; have s2 := HSS.out _ mF)
        | (go_at_call 15; (with_reducible refine (C2c.out _ m2).mono ?_); rintro e V2 ⟨t2, rfl, ht2, hb2⟩; have mF := step2 m1 hb2; have s2 := HSS.out _ mF))
    all_goals
      have hq : (t1.toList == t2.toList) = decide (sumB x.stream.data.toList = sumB y.stream.data.toList) := by rw [str_eq, ht1.out, ht2.out]
      have bXF := bX5.below mF
      have bYF := bY5.below mF
      have kF := step2 kb5 mF
      clear ht1 ht2 mF
      go_wp2_with fail
      go_meet
      case rel => exact ⟨congrArg Value.bool (by rw [hR.out]; first | rfl | exact hq), kF, bXF, bYF⟩
  obtain ⟨rfl, kb6, bX6, bY6⟩ := hcut
  clear kb5 bX5 bY5 c0 c1 c2 c3 c4 c5 d0 d1 d2 d3 d4 d5
  obtain ⟨W6, rfl⟩ : ∃ W6, W6 = wc := ⟨_, rfl⟩
  have hD1 : w.heap.size + 1 < W6.heap.size := bY6.lt
  obtain ⟨c0, c1, c2, c3, c4, c5⟩ := bX6.cells6
  obtain ⟨d0, d1, d2, d3, d4, d5⟩ := bY6.cells6
  have fx := bX6.frozen 4
  have fy := bY6.frozen 4
  have bX7 := (bX6.set (j := 4) (.string ⟨#[]⟩)).setOther (E' := w.heap.size + 1) (j := 4) (by omega) (.string ⟨#[]⟩)
  have bY7 := (bY6.setOther (E' := w.heap.size) (j := 4) (by omega) (.string ⟨#[]⟩)).set (j := 4) (.string ⟨#[]⟩)
  simp only [List.set_cons_zero, List.set_cons_succ] at bX7 bY7
  have kb7 := (kb6.setCell (p := ⟨w.heap.size, 4, none⟩) (Nat.le_refl _) (.string ⟨#[]⟩)).setCell (p := ⟨w.heap.size + 1, 4, none⟩) (Nat.le_succ _) (.string ⟨#[]⟩)
  go_upto_region 11 with (fail)
  obtain ⟨W7, hW7⟩ : ∃ W7, (W6.setCell ⟨w.heap.size, 4, none⟩ (.string ⟨#[]⟩)).setCell ⟨w.heap.size + 1, 4, none⟩ (.string ⟨#[]⟩) = W7 := ⟨_, rfl⟩
  change Code.wp _ _ _ _ ((W6.setCell ⟨w.heap.size, 4, none⟩ (.string ⟨#[]⟩)).setCell ⟨w.heap.size + 1, 4, none⟩ (.string ⟨#[]⟩))
  rw [hW7] at bX7 bY7 kb7 ⊢
  clear hW7 c0 c1 c2 c3 c4 c5 d0 d1 d2 d3 d4 d5 fx fy bX6 bY6 kb6
  have HSm := Lib.hid (show Calls Tryz.prog 14 #[.agg #[.int .i64 x.number, .int .i64 x.date, .string x.prev, .slice a x.entries.length c, .string ⟨#[]⟩, .string x.sl], .agg #[.int .i64 y.number, .int .i64 y.date, .string y.prev, .slice b y.entries.length d, .string ⟨#[]⟩, .string y.sl]] W7 (BoolP (isB (({ x with stream := ⟨#[]⟩ } : Se) = { y with stream := ⟨#[]⟩ })) W7) from
    ssame_any { x with stream := ⟨#[]⟩ } { y with stream := ⟨#[]⟩ } a b c d W7 (HX.out.row _ kb7) (HY.out.row _ kb7))
  have HR := Lib.hid (show isB (textL x = textL y) = (isB (x.stream.size = y.stream.size ∧ sumB x.stream.data.toList = sumB y.stream.data.toList) && isB (({ x with stream := ⟨#[]⟩ } : Se) = { y with stream := ⟨#[]⟩ })) from by
    rw [isB_iff HI.out]; unfold isB
    rw [Bool.eq_iff_iff]; simp)
  have HEB2 := Lib.hid (HEB.out.trans HR.out)
  generalize isB (x.stream.size = y.stream.size ∧ sumB x.stream.data.toList = sumB y.stream.data.toList) = b1 at *
  generalize isB (({ x with stream := ⟨#[]⟩ } : Se) = { y with stream := ⟨#[]⟩ }) = b2 at *
  clear HEB HR HI HE HM HX HY
  have Hq := heb
  obtain ⟨c0, c1, c2, c3, c4, c5⟩ := bX7.cells6
  obtain ⟨d0, d1, d2, d3, d4, d5⟩ := bY7.cells6
  cases b1
  · have he : eb = false := HEB2.out
    subst he
    go_wp2_with fail
    go_ret
    exact ⟨rfl, kb7⟩
  · have he : eb = b2 := by rw [HEB2.out]; rfl
    subst he
    go_wp2_with fail
    refine HSm.out.mono ?_
    rintro e W8 ⟨rfl, hb8⟩
    have qq : (eb == eb) = true := by rw [beq_iff_eq]
    go_wp2_with fail
    go_ret
    exact ⟨rfl, step2 kb7 hb8⟩
theorem lawInjective40' (x : Se) (a : Option Addr) (c : Nat) (y : Se) (b : Option Addr) (d : Nat) (w : World) (he : Env w) (hm : HasMax w) (hr : EnRow w (.slice a x.entries.length c) x.entries) (wf : SeWf x) (hr2 : EnRow w (.slice b y.entries.length d) y.entries) (wf2 : SeWf y) :
    Calls Tryz.prog 6 #[.agg #[.int .i64 x.number, .int .i64 x.date, .string x.prev, .slice a x.entries.length c, .string x.stream, .string x.sl], .agg #[.int .i64 y.number, .int .i64 y.date, .string y.prev, .slice b y.entries.length d, .string y.stream, .string y.sl]] w fun e w' => e = .returned (.bool true) ∧ Below w.heap.size w w' :=
  lawInjective40 x y a b c d w he hm hr wf hr2 wf2
end Go.Proofs.YtjlfjchcmkkebaaGreatDoor
