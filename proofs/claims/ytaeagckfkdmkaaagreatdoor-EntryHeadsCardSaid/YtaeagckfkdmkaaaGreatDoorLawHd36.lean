/-
  Chapter 36: the law Heads, walked out of the contracts.
-/
import Derived.Test.YtaeagckfkdmkaaaGreatDoorLawB36
import Derived.Test.YtaeagckfkdmkaaaGreatDoorEntMore
import Derived.BigRegion
namespace Go.Proofs.YtaeagckfkdmkaaaGreatDoor
open Go.RowKit Go.Shelf
set_option maxRecDepth 100000 in
set_option maxHeartbeats 4000000 in
theorem lawHeads_any (x : En) (va vx : Value) (y : En) (ua ux : Value) (w : World) (he : Env w) (hm : HasMax w) (ha : AtRow w va x.attrs) (hx : ExRow w vx x.exts) (wf : EnWf x) (ha2 : AtRow w ua y.attrs) (hx2 : ExRow w ux y.exts) (wf2 : EnWf y) :
    Calls Tryz.prog 9 #[.agg #[.int .i64 x.kind, .string x.path, va, .string x.target, .int .i64 x.size, .string x.digest, vx], .agg #[.int .i64 y.kind, .string y.path, ua, .string y.target, .int .i64 y.size, .string y.digest, ux]] w fun e w' => e = .returned (.bool true) ∧ Below w.heap.size w w' := by
  have HE := Lib.hid (show ∀ W, Below w.heap.size w W → Env W from fun W hW => he.below hW)
  have HM := Lib.hid (show ∀ W, Below w.heap.size w W → HasMax W from fun W hW => hm.below hW)
  have HX := Lib.hid (enCs he hm ha hx wf)
  have HY := Lib.hid (enCs he hm ha2 hx2 wf2)
  have HQ := Lib.hid (show ∀ W, Below w.heap.size w W → Calls Tryz.prog 21 #[.agg #[.int .i64 x.kind, .string x.path, va, .string x.target, .int .i64 x.size, .string x.digest, vx], .agg #[.int .i64 y.kind, .string y.path, ua, .string y.target, .int .i64 x.size, .string x.digest, vx]] W (BoolP (isB (x = x.like y)) W) from
    fun W hW => equal_any x (x.like y) va vx ua vx W (ha.below hW) (hx.below hW) (ha2.below hW) (hx.below hW))
  obtain ⟨a1, m1, rfl⟩ := ha.form
  obtain ⟨a2, m2, rfl⟩ := hx.form
  obtain ⟨a3, m3, rfl⟩ := ha2.form
  obtain ⟨a4, m4, rfl⟩ := hx2.form
  clear he hm ha hx ha2 hx2
  obtain ⟨kb0, bX, bY⟩ := boxes2 w [.int .i64 x.kind, .string x.path, .slice a1 x.attrs.length m1, .string x.target, .int .i64 x.size, .string x.digest, .slice a2 x.exts.length m2] [.int .i64 y.kind, .string y.path, .slice a3 y.attrs.length m3, .string y.target, .int .i64 y.size, .string y.digest, .slice a4 y.exts.length m4] 25 25
  change Below _ _ ((w.alloc (.cells #[.int .i64 x.kind, .string x.path, .slice a1 x.attrs.length m1, .string x.target, .int .i64 x.size, .string x.digest, .slice a2 x.exts.length m2] 25)).alloc (.cells #[.int .i64 y.kind, .string y.path, .slice a3 y.attrs.length m3, .string y.target, .int .i64 y.size, .string y.digest, .slice a4 y.exts.length m4] 25)) at kb0
  change Box ((w.alloc (.cells #[.int .i64 x.kind, .string x.path, .slice a1 x.attrs.length m1, .string x.target, .int .i64 x.size, .string x.digest, .slice a2 x.exts.length m2] 25)).alloc (.cells #[.int .i64 y.kind, .string y.path, .slice a3 y.attrs.length m3, .string y.target, .int .i64 y.size, .string y.digest, .slice a4 y.exts.length m4] 25)) _ _ _ at bX bY
  go_enter Tryz.func9, Tryz.ntmps9
  go_upto_region 1 with (fail)
  obtain ⟨W0, hW0⟩ : ∃ W0, (w.alloc (.cells #[.int .i64 x.kind, .string x.path, .slice a1 x.attrs.length m1, .string x.target, .int .i64 x.size, .string x.digest, .slice a2 x.exts.length m2] 25)).alloc (.cells #[.int .i64 y.kind, .string y.path, .slice a3 y.attrs.length m3, .string y.target, .int .i64 y.size, .string y.digest, .slice a4 y.exts.length m4] 25) = W0 := ⟨_, rfl⟩
  change Code.wp _ _ _ _ ((w.alloc (.cells #[.int .i64 x.kind, .string x.path, .slice a1 x.attrs.length m1, .string x.target, .int .i64 x.size, .string x.digest, .slice a2 x.exts.length m2] 25)).alloc (.cells #[.int .i64 y.kind, .string y.path, .slice a3 y.attrs.length m3, .string y.target, .int .i64 y.size, .string y.digest, .slice a4 y.exts.length m4] 25))
  rw [hW0] at kb0 bX bY ⊢
  clear hW0
  go_wp2_with fail
  refine (alive_any W0 (HE.out _ kb0) (HM.out _ kb0)).mono ?_
  rintro e W1 ⟨rfl, hb1⟩
  have kb1 := step2 kb0 hb1
  have bX1 := bX.below hb1
  have bY1 := bY.below hb1
  clear bX bY kb0 hb1
  obtain ⟨c0, c1, c2, c3, c4, c5, c6⟩ := bX1.cells7
  go_wp2_with fail
  refine (HX.out.great W1 kb1).mono ?_
  rintro e W2 ⟨g, rfl, hgx, hsx, hb⟩
  have kb2 := step2 kb1 hb
  have bX2 := bX1.below hb
  have bY2 := bY1.below hb
  clear bX1 bY1 kb1 hb c0 c1 c2 c3 c4 c5 c6
  rcases hgx.out with rfl | rfl
  case inr =>
    go_wp2_with fail
    go_ret
    exact ⟨rfl, kb2⟩
  have okx := enOk_small wf (hsx.out rfl)
  have SMx := Lib.hid (hsx.out rfl)
  clear hgx hsx
  obtain ⟨d0, d1, d2, d3, d4, d5, d6⟩ := bY2.cells7
  go_wp2_with fail
  refine (HY.out.great W2 kb2).mono ?_
  rintro e W3 ⟨g, rfl, hgy, hsy, hb⟩
  have kb3 := step2 kb2 hb
  have bX3 := bX2.below hb
  have bY3 := bY2.below hb
  clear bX2 bY2 kb2 hb d0 d1 d2 d3 d4 d5 d6
  rcases hgy.out with rfl | rfl
  case inr =>
    go_wp2_with fail
    go_ret
    exact ⟨rfl, kb3⟩
  have oky := enOk_small wf2 (hsy.out rfl)
  have SMy := Lib.hid (hsy.out rfl)
  clear hgy hsy
  clear wf wf2
  obtain ⟨c0, c1, c2, c3, c4, c5, c6⟩ := bX3.cells7
  have HCx := Lib.hid (HX.out.check okx)
  obtain ⟨kx, hkx⟩ : ∃ kx, chkE x = kx := ⟨_, rfl⟩
  rw [hkx] at HCx
  have HKx := Lib.hid hkx; clear hkx
  go_wp2_with fail
  refine (HCx.out W3 kb3).mono ?_
  rintro e W4 ⟨rfl, hb⟩
  have kb4 := step2 kb3 hb
  have bX4 := bX3.below hb
  have bY4 := bY3.below hb
  clear bX3 bY3 kb3 hb c0 c1 c2 c3 c4 c5 c6 HCx
  obtain ⟨d0, d1, d2, d3, d4, d5, d6⟩ := bY4.cells7
  by_cases hcx : kx = 0
  case neg =>
    have q1 : (kx != 0) = true := by rw [bne_iff_ne]; exact hcx
    have Hc := Lib.hid hcx; clear hcx
    go_wp2_with fail
    go_ret
    exact ⟨rfl, kb4⟩
  subst hcx
  have HCy := Lib.hid (HY.out.check oky)
  obtain ⟨ky, hky⟩ : ∃ ky, chkE y = ky := ⟨_, rfl⟩
  rw [hky] at HCy
  have HKy := Lib.hid hky; clear hky
  go_wp2_with fail
  refine (HCy.out W4 kb4).mono ?_
  rintro e W5 ⟨rfl, hb⟩
  have kb5 := step2 kb4 hb
  have bX5 := bX4.below hb
  have bY5 := bY4.below hb
  clear bX4 bY4 kb4 hb d0 d1 d2 d3 d4 d5 d6 HCy
  obtain ⟨d0, d1, d2, d3, d4, d5, d6⟩ := bY5.cells7
  by_cases hcy : ky = 0
  case neg =>
    have q1 : (ky != 0) = true := by rw [bne_iff_ne]; exact hcy
    have Hc := Lib.hid hcy; clear hcy
    go_wp2_with fail
    go_ret
    exact ⟨rfl, kb5⟩
  subst hcy
  clear d0 d1 d2 d3 d4 d5 d6
  obtain ⟨c0, c1, c2, c3, c4, c5, c6⟩ := bX5.cells7
  have hcx := HKx.out
  have hcy := HKy.out
  have HHx := Lib.hid (HX.out.head okx)
  have HHy := Lib.hid (HY.out.head oky)
  have HEx := Lib.hid (HX.out.enc okx)
  rw [if_pos hcx, hcx] at HHx HEx
  rw [if_pos hcy, hcy] at HHy
  go_wp2_with fail
  refine (HHx.out W5 kb5).mono ?_
  rintro e W6 ⟨ta, rfl, hta, hb⟩
  have kb6 := step2 kb5 hb
  have bX6 := bX5.below hb
  have bY6 := bY5.below hb
  clear bX5 bY5 kb5 hb c0 c1 c2 c3 c4 c5 c6 HHx
  obtain ⟨d0, d1, d2, d3, d4, d5, d6⟩ := bY6.cells7
  go_wp2_with fail
  refine (HHy.out W6 kb6).mono ?_
  rintro e W7 ⟨tb, rfl, htb, hb⟩
  have kb7 := step2 kb6 hb
  have bX7 := bX6.below hb
  have bY7 := bY6.below hb
  clear bX6 bY6 kb6 hb d0 d1 d2 d3 d4 d5 d6 HHy
  obtain ⟨c0, c1, c2, c3, c4, c5, c6⟩ := bX7.cells7
  go_wp2_with fail
  refine (HEx.out W7 kb7).mono ?_
  rintro e W8 ⟨t, rfl, ht, hb⟩
  have kb8 := step2 kb7 hb
  have bX8 := bX7.below hb
  have bY8 := bY7.below hb
  clear bX7 bY7 kb7 hb c0 c1 c2 c3 c4 c5 c6 HEx
  obtain ⟨c0, c1, c2, c3, c4, c5, c6⟩ := bX8.cells7
  obtain ⟨d0, d1, d2, d3, d4, d5, d6⟩ := bY8.cells7
  have y4 := bY8.frozen 4
  have y5 := bY8.frozen 5
  have y6 := bY8.frozen 6
  have hta2 : ta.size ≤ 12000 := by
    have h3 := small_head SMx.out
    rw [← hta.out] at h3; exact h3
  have htl : t.size ≤ 20000 := by
    have h3 := small_body SMx.out okx
    rw [← ht.out] at h3; exact h3
  have hq : (ta.toList == tb.toList) = isB (x = x.like y) := by
    rw [str_eq, hta.out, htb.out]
    by_cases e : x = x.like y
    · rw [isB_yes e]; exact decide_eq_true ((headL_inj hcx hcy).2 (like_eq.1 e))
    · rw [isB_no e]; exact decide_eq_false (fun h => e (like_eq.2 ((headL_inj hcx hcy).1 h)))
  have hbody : Hid (∃ r, t.data.toList = strL ta.data.toList ++ r ∧ 0 < r.length) := by
    refine Lib.hid ⟨numL x.size ++ strL x.digest.data.toList ++ numL x.exts.length ++ x.exts.flatMap exL, ?_, ?_⟩
    · rw [ht.out, hta.out]; unfold bodyL; simp only [List.append_assoc]
    · simp only [List.length_append, strL_length]; omega
  clear okx oky SMx SMy hcx hcy HKx HKy HX HY ht hta htb
  generalize isB (x = x.like y) = r at *
  go_upto_region 10 with (fail)
  go_region
  have kb9 := below_drew0 (((kb8.setCell (p := ⟨w.heap.size + 1, 4, none⟩) (show w.heap.size ≤ w.heap.size + 1 by omega) (.int .i64 x.size)).setCell (p := ⟨w.heap.size + 1, 5, none⟩) (show w.heap.size ≤ w.heap.size + 1 by omega) (.string x.digest)).setCell (p := ⟨w.heap.size + 1, 6, none⟩) (show w.heap.size ≤ w.heap.size + 1 by omega) (.slice a2 x.exts.length m2))
  have bX9 := (((bX8.setOther (E' := w.heap.size + 1) (j := 4) (by omega) (.int .i64 x.size)).setOther (E' := w.heap.size + 1) (j := 5) (by omega) (.string x.digest)).setOther (E' := w.heap.size + 1) (j := 6) (by omega) (.slice a2 x.exts.length m2)).drew
  have bY9 := (((bY8.set (j := 4) (.int .i64 x.size)).set (j := 5) (.string x.digest)).set (j := 6) (.slice a2 x.exts.length m2)).drew
  simp only [List.set_cons_zero, List.set_cons_succ] at bY9
  clear kb8 bX8 bY8 c0 c1 c2 c3 c4 c5 c6 d0 d1 d2 d3 d4 d5 d6 y4 y5 y6
  obtain ⟨W9, hW9⟩ : ∃ W9, (((W8.setCell ⟨w.heap.size + 1, 4, none⟩ (.int .i64 x.size)).setCell ⟨w.heap.size + 1, 5, none⟩ (.string x.digest)).setCell ⟨w.heap.size + 1, 6, none⟩ (.slice a2 x.exts.length m2)).drew = W9 := ⟨_, rfl⟩
  rw [hW9] at kb9 bX9 bY9 ⊢
  clear hW9
  have HS := Lib.hid (string_any ta W9 (HE.out _ kb9) (by omega))
  go_wp2_with fail
  refine HS.out.mono ?_
  rintro e W10 ⟨hd, rfl, hhd, hb⟩
  have kb10 := step2 kb9 hb
  have bX10 := bX9.below hb
  have bY10 := bY9.below hb
  obtain ⟨r2, hr2, hr3⟩ := hbody.out
  have hsz : t.size = hd.size + r2.length := by
    have h5 := congrArg List.length hr2
    rw [List.length_append, ← hhd.out] at h5; exact h5
  have hex : (t.extract 0 hd.size).data.toList = hd.data.toList := by
    rw [extract_list, hr2, List.drop_zero, Nat.sub_zero, ← hhd.out, List.take_left']
    rfl
  have q2 : ((t.extract 0 hd.size).toList == hd.toList) = true := by rw [str_eq]; exact decide_eq_true hex
  have hlt : hd.size < t.size := by omega
  clear kb9 bX9 bY9 hb HS hr2 hr3 hsz hex hhd hbody
  obtain ⟨c0, c1, c2, c3, c4, c5, c6⟩ := bX10.cells7
  obtain ⟨d0, d1, d2, d3, d4, d5, d6⟩ := bY10.cells7
  go_upto_region 12 with (fail)
  cases r
  all_goals
    go_wp2_with fail
    refine (HQ.out W10 kb10).mono ?_
    rintro e W11 ⟨rfl, hb⟩
    go_wp2_with fail
    go_ret
    exact ⟨rfl, step2 kb10 hb⟩
end Go.Proofs.YtaeagckfkdmkaaaGreatDoor
