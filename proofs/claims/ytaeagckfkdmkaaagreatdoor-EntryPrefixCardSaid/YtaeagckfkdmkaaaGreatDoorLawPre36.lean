/-
  Chapter 36: the law Prefix, walked out of the contracts.
-/
import Derived.Test.YtaeagckfkdmkaaaGreatDoorLawB36
import Derived.Test.YtaeagckfkdmkaaaGreatDoorEntMore
namespace Go.Proofs.YtaeagckfkdmkaaaGreatDoor
open Go.RowKit Go.Shelf
set_option maxRecDepth 100000 in
set_option maxHeartbeats 4000000 in
theorem lawPrefix_any (x : En) (va vx : Value) (y : En) (ua ux : Value) (cut : Int) (w : World) (he : Env w) (hm : HasMax w) (ha : AtRow w va x.attrs) (hx : ExRow w vx x.exts) (wf : EnWf x) (ha2 : AtRow w ua y.attrs) (hx2 : ExRow w ux y.exts) (wf2 : EnWf y) (hcut : 0 ≤ cut ∧ cut ≤ 65535) :
    Calls Tryz.prog 7 #[.agg #[.int .i64 x.kind, .string x.path, va, .string x.target, .int .i64 x.size, .string x.digest, vx], .agg #[.int .i64 y.kind, .string y.path, ua, .string y.target, .int .i64 y.size, .string y.digest, ux], .int .u16 cut] w fun e w' => e = .returned (.bool true) ∧ Below w.heap.size w w' := by
  have HE := Lib.hid (show ∀ W, Below w.heap.size w W → Env W from fun W hW => he.below hW)
  have HM := Lib.hid (show ∀ W, Below w.heap.size w W → HasMax W from fun W hW => hm.below hW)
  have HX := Lib.hid (enCs he hm ha hx wf)
  have HY := Lib.hid (enCs he hm ha2 hx2 wf2)
  have HQ := Lib.hid (show ∀ W, Below w.heap.size w W → Calls Tryz.prog 21 #[.agg #[.int .i64 x.kind, .string x.path, va, .string x.target, .int .i64 x.size, .string x.digest, vx], .agg #[.int .i64 y.kind, .string y.path, ua, .string y.target, .int .i64 y.size, .string y.digest, ux]] W (BoolP (isB (x = y)) W) from
    fun W hW => equal_any x y va vx ua ux W (ha.below hW) (hx.below hW) (ha2.below hW) (hx2.below hW))
  obtain ⟨a1, m1, rfl⟩ := ha.form
  obtain ⟨a2, m2, rfl⟩ := hx.form
  obtain ⟨a3, m3, rfl⟩ := ha2.form
  obtain ⟨a4, m4, rfl⟩ := hx2.form
  clear he hm ha hx ha2 hx2
  obtain ⟨hcut0, hcut1⟩ := hcut
  obtain ⟨kb0, bX, bY⟩ := boxes2 w [.int .i64 x.kind, .string x.path, .slice a1 x.attrs.length m1, .string x.target, .int .i64 x.size, .string x.digest, .slice a2 x.exts.length m2] [.int .i64 y.kind, .string y.path, .slice a3 y.attrs.length m3, .string y.target, .int .i64 y.size, .string y.digest, .slice a4 y.exts.length m4] 25 25
  change Below _ _ ((w.alloc (.cells #[.int .i64 x.kind, .string x.path, .slice a1 x.attrs.length m1, .string x.target, .int .i64 x.size, .string x.digest, .slice a2 x.exts.length m2] 25)).alloc (.cells #[.int .i64 y.kind, .string y.path, .slice a3 y.attrs.length m3, .string y.target, .int .i64 y.size, .string y.digest, .slice a4 y.exts.length m4] 25)) at kb0
  change Box ((w.alloc (.cells #[.int .i64 x.kind, .string x.path, .slice a1 x.attrs.length m1, .string x.target, .int .i64 x.size, .string x.digest, .slice a2 x.exts.length m2] 25)).alloc (.cells #[.int .i64 y.kind, .string y.path, .slice a3 y.attrs.length m3, .string y.target, .int .i64 y.size, .string y.digest, .slice a4 y.exts.length m4] 25)) _ _ _ at bX bY
  go_enter Tryz.func7, Tryz.ntmps7
  go_upto_region 1 with (fail)
  obtain ⟨W0, hW0⟩ : ∃ W0, (w.alloc (.cells #[.int .i64 x.kind, .string x.path, .slice a1 x.attrs.length m1, .string x.target, .int .i64 x.size, .string x.digest, .slice a2 x.exts.length m2] 25)).alloc (.cells #[.int .i64 y.kind, .string y.path, .slice a3 y.attrs.length m3, .string y.target, .int .i64 y.size, .string y.digest, .slice a4 y.exts.length m4] 25) = W0 := ⟨_, rfl⟩
  change Code.wp _ _ _ _ ((w.alloc (.cells #[.int .i64 x.kind, .string x.path, .slice a1 x.attrs.length m1, .string x.target, .int .i64 x.size, .string x.digest, .slice a2 x.exts.length m2] 25)).alloc (.cells #[.int .i64 y.kind, .string y.path, .slice a3 y.attrs.length m3, .string y.target, .int .i64 y.size, .string y.digest, .slice a4 y.exts.length m4] 25))
  rw [hW0] at kb0 bX bY ⊢
  clear hW0
  go_wp2_with fail
  refine (alive_any W0 (HE.out _ kb0) (HM.out _ kb0)).mono ?_
  rintro e W1 ⟨rfl, hb1⟩
  have kb1 := step2 kb0 hb1
  have bX1 := bX.below hb1
  have bY1 := bY.below hb1
  clear bX bY kb0 hb1
  obtain ⟨c0, c1, c2, c3, c4, c5, c6⟩ := bX1.cells7
  go_wp2_with fail
  refine (HX.out.great W1 kb1).mono ?_
  rintro e W2 ⟨g, rfl, hgx, hsx, hb⟩
  have kb2 := step2 kb1 hb
  have bX2 := bX1.below hb
  have bY2 := bY1.below hb
  clear bX1 bY1 kb1 hb c0 c1 c2 c3 c4 c5 c6
  rcases hgx.out with rfl | rfl
  case inr =>
    go_wp2_with fail
    go_ret
    exact ⟨rfl, kb2⟩
  have okx := enOk_small wf (hsx.out rfl)
  have SMx := Lib.hid (hsx.out rfl)
  clear hgx hsx
  obtain ⟨d0, d1, d2, d3, d4, d5, d6⟩ := bY2.cells7
  go_wp2_with fail
  refine (HY.out.great W2 kb2).mono ?_
  rintro e W3 ⟨g, rfl, hgy, hsy, hb⟩
  have kb3 := step2 kb2 hb
  have bX3 := bX2.below hb
  have bY3 := bY2.below hb
  clear bX2 bY2 kb2 hb d0 d1 d2 d3 d4 d5 d6
  rcases hgy.out with rfl | rfl
  case inr =>
    go_wp2_with fail
    go_ret
    exact ⟨rfl, kb3⟩
  have oky := enOk_small wf2 (hsy.out rfl)
  have SMy := Lib.hid (hsy.out rfl)
  clear hgy hsy
  clear wf wf2
  obtain ⟨c0, c1, c2, c3, c4, c5, c6⟩ := bX3.cells7
  by_cases hcx : chkE x = 0
  case neg =>
    have HN := Lib.hid (HX.out.enc okx)
    have HNy := Lib.hid (HY.out.enc oky)
    rw [if_neg hcx] at HN
    clear HX HY okx oky SMx SMy HQ
    generalize chkE x = ce at *
    generalize chkE y = cy at *
    generalize (if cy = 0 then bodyL y else []) = ly at *
    have q1 : (ce != 0) = true := by rw [bne_iff_ne]; exact hcx
    have Hc := Lib.hid hcx; clear hcx
    go_wp2_with fail
    refine (HN.out W3 kb3).mono ?_
    rintro e W4 ⟨t, rfl, ht, hb4⟩
    have kb4 := step2 kb3 hb4
    have bY4 := bY3.below hb4
    clear bX3 bY3 kb3 hb4 c0 c1 c2 c3 c4 c5 c6
    obtain ⟨d0, d1, d2, d3, d4, d5, d6⟩ := bY4.cells7
    go_wp2_with fail
    refine (HNy.out W4 kb4).mono ?_
    rintro e W5 ⟨t2, rfl, ht2, hb5⟩
    go_wp2_with fail
    go_ret
    exact ⟨rfl, step2 kb4 hb5⟩
  have HN := Lib.hid (HX.out.enc okx)
  rw [if_pos hcx, hcx] at HN
  go_wp2_with fail
  refine (HN.out W3 kb3).mono ?_
  rintro e W4 ⟨t, rfl, ht, hb4⟩
  have kb4 := step2 kb3 hb4
  have bX4 := bX3.below hb4
  have bY4 := bY3.below hb4
  clear bX3 bY3 kb3 hb4 c0 c1 c2 c3 c4 c5 c6 HN
  obtain ⟨d0, d1, d2, d3, d4, d5, d6⟩ := bY4.cells7
  by_cases hcy : chkE y = 0
  case neg =>
    have HNy := Lib.hid (HY.out.enc oky)
    rw [if_neg hcy] at HNy
    clear HX HY okx oky SMx SMy HQ hcx
    generalize chkE y = cy at *
    have q1 : (cy != 0) = true := by rw [bne_iff_ne]; exact hcy
    have Hc := Lib.hid hcy; clear hcy
    go_wp2_with fail
    refine (HNy.out W4 kb4).mono ?_
    rintro e W5 ⟨t2, rfl, ht2, hb5⟩
    go_wp2_with fail
    go_ret
    exact ⟨rfl, step2 kb4 hb5⟩
  have HNy := Lib.hid (HY.out.enc oky)
  rw [if_pos hcy, hcy] at HNy
  go_wp2_with fail
  refine (HNy.out W4 kb4).mono ?_
  rintro e W5 ⟨t2, rfl, ht2, hb5⟩
  have kb5 := step2 kb4 hb5
  have bX5 := bX4.below hb5
  have bY5 := bY4.below hb5
  clear bX4 bY4 kb4 hb5 d0 d1 d2 d3 d4 d5 d6 HNy
  have hq : (t.toList == t2.toList) = isB (x = y) := by
    rw [str_eq, ht.out, ht2.out]
    by_cases e : x = y
    · rw [isB_yes e]; exact decide_eq_true ((bodyL_inj hcx hcy).2 e)
    · rw [isB_no e]; exact decide_eq_false (fun h => e ((bodyL_inj hcx hcy).1 h))
  have htl : t.size ≤ 20000 := by
    have h3 := small_body SMx.out okx
    rw [← ht.out] at h3; exact h3
  have htp : 0 < t.size := by
    have h3 := bodyL_pos x
    rw [← ht.out] at h3; exact h3
  have HB := Lib.hid (fun (n : Nat) (hn : n < t.size) => show ∃ c, c ≠ 0 ∧ decA (t.extract 0 n) 0 = .error c from by
    rcases hd : decA (t.extract 0 n) 0 with c | ⟨z, f⟩
    · exact ⟨c, nz_decA _ _ c hd, rfl⟩
    · exfalso
      have h4 : (t.extract 0 n).data.toList = (bodyL x).take n := by rw [extract_list, List.drop_zero, Nat.sub_zero, ht.out]
      obtain ⟨h5, h6⟩ := decA_ok hd
      rw [h4] at h6
      have h7 : t.size = (bodyL x).length := by rw [← ht.out]; rfl
      exact body_prefix hcx (by omega) (decR_ok.2 ⟨h5, h6⟩))
  clear okx oky SMx SMy hcx hcy HX HY ht ht2
  generalize isB (x = y) = r at *
  obtain ⟨c0, c1, c2, c3, c4, c5, c6⟩ := bX5.cells7
  obtain ⟨d0, d1, d2, d3, d4, d5, d6⟩ := bY5.cells7
  go_upto_region 9 with (fail)
  cases r
  all_goals
    go_wp2_with fail
    refine (HQ.out W5 kb5).mono ?_
    rintro e W6 ⟨rfl, hb6⟩
    have kb6 := step2 kb5 hb6
    clear bX5 bY5 kb5 hb6 c0 c1 c2 c3 c4 c5 c6 d0 d1 d2 d3 d4 d5 d6 HQ
    obtain ⟨C, rfl⟩ := Int.eq_ofNat_of_zero_le hcut0
    have hm1 : C % t.size < t.size := Nat.mod_lt _ htp
    obtain ⟨c, hc, hd⟩ := HB.out _ hm1
    have HDW := decode_walk (t.extract 0 (C % t.size)) 0 W6 (HE.out _ kb6) (HM.out _ kb6) (by rw [ByteArray.size_extract]; omega) (by decide) (by decide)
    rw [hd] at HDW
    replace HDW := Lib.hid HDW
    have q1 : (c != 0) = true := by rw [bne_iff_ne]; exact hc
    have q3 : ((C : Int).tmod (t.size : Int)) = ((C % t.size : Nat) : Int) := by rw [Int.tmod_eq_emod_of_nonneg (by omega)]; rfl
    have q4 : ((C : Int) % (t.size : Int)) = ((C % t.size : Nat) : Int) := rfl
    have q5 : ((t.size : Int) == 0) = false := by rw [beq_eq_false_iff_ne]; omega
    have Hc := Lib.hid hc
    generalize C % t.size = m at *
    clear hc hd HB hq
    go_wp2_with fail
    refine HDW.out.mono ?_
    rintro e W7 ⟨rfl, hb7⟩
    unfold zeroE
    go_wp2_with fail
    go_ret
    exact ⟨rfl, (step2 kb6 hb7).alloc (Nat.le_trans kb6.size hb7.size) _⟩
end Go.Proofs.YtaeagckfkdmkaaaGreatDoor
