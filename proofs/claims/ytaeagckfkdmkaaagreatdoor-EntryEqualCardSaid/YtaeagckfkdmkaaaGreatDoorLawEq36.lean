/-
  Chapter 36: the law Equal, walked out of the contracts.
-/
import Derived.Test.YtaeagckfkdmkaaaGreatDoorLawB36
import Derived.Deep.RegionHeld3
namespace Go.Proofs.YtaeagckfkdmkaaaGreatDoor
open Go.RowKit Go.Shelf
set_option maxRecDepth 100000 in
set_option maxHeartbeats 4000000 in
theorem lawEqual_any (x : En) (va vx : Value) (y : En) (ua ux : Value) (w : World) (he : Env w) (hm : HasMax w) (ha : AtRow w va x.attrs) (hx : ExRow w vx x.exts) (wf : EnWf x) (ha2 : AtRow w ua y.attrs) (hx2 : ExRow w ux y.exts) (wf2 : EnWf y) :
    Calls Tryz.prog 8 #[.agg #[.int .i64 x.kind, .string x.path, va, .string x.target, .int .i64 x.size, .string x.digest, vx], .agg #[.int .i64 y.kind, .string y.path, ua, .string y.target, .int .i64 y.size, .string y.digest, ux]] w fun e w' => e = .returned (.bool true) ∧ Below w.heap.size w w' := by
  have HE := Lib.hid (show ∀ W, Below w.heap.size w W → Env W from fun W hW => he.below hW)
  have HM := Lib.hid (show ∀ W, Below w.heap.size w W → HasMax W from fun W hW => hm.below hW)
  have HX := Lib.hid (enCs he hm ha hx wf)
  have HY := Lib.hid (enCs he hm ha2 hx2 wf2)
  have HQ := Lib.hid (show ∀ W, Below w.heap.size w W → Calls Tryz.prog 21 #[.agg #[.int .i64 x.kind, .string x.path, va, .string x.target, .int .i64 x.size, .string x.digest, vx], .agg #[.int .i64 y.kind, .string y.path, ua, .string y.target, .int .i64 y.size, .string y.digest, ux]] W (BoolP (isB (x = y)) W) from
    fun W hW => equal_any x y va vx ua ux W (ha.below hW) (hx.below hW) (ha2.below hW) (hx2.below hW))
  have HQr := Lib.hid (show ∀ W, Below w.heap.size w W → Calls Tryz.prog 20 #[.agg #[.int .i64 x.kind, .string x.path, va, .string x.target, .int .i64 x.size, .string x.digest, vx], .agg #[.int .i64 y.kind, .string y.path, ua, .string y.target, .int .i64 y.size, .string y.digest, ux]] W (BoolP (isB (x = y)) W) from
    fun W hW => refEqual_any x y va vx ua ux W (ha.below hW) (hx.below hW) (ha2.below hW) (hx2.below hW))
  have HQx := Lib.hid (show ∀ W, Below w.heap.size w W → Calls Tryz.prog 21 #[.agg #[.int .i64 x.kind, .string x.path, va, .string x.target, .int .i64 x.size, .string x.digest, vx], .agg #[.int .i64 x.kind, .string x.path, va, .string x.target, .int .i64 x.size, .string x.digest, vx]] W (BoolP true W) from
    fun W hW => by
      have h := equal_any x x va vx va vx W (ha.below hW) (hx.below hW) (ha.below hW) (hx.below hW)
      rwa [isB_yes rfl] at h)
  obtain ⟨a1, m1, rfl⟩ := ha.form
  obtain ⟨a2, m2, rfl⟩ := hx.form
  obtain ⟨a3, m3, rfl⟩ := ha2.form
  obtain ⟨a4, m4, rfl⟩ := hx2.form
  clear he hm ha hx wf ha2 hx2 wf2
  generalize isB (x = y) = r at *
  obtain ⟨kb0, bX, bY⟩ := boxes2 w [.int .i64 x.kind, .string x.path, .slice a1 x.attrs.length m1, .string x.target, .int .i64 x.size, .string x.digest, .slice a2 x.exts.length m2] [.int .i64 y.kind, .string y.path, .slice a3 y.attrs.length m3, .string y.target, .int .i64 y.size, .string y.digest, .slice a4 y.exts.length m4] 25 25
  go_enter Tryz.func8, Tryz.ntmps8
  go_upto_region 1 with (fail)
  obtain ⟨W0, hW0⟩ : ∃ W0, (w.alloc (.cells #[.int .i64 x.kind, .string x.path, .slice a1 x.attrs.length m1, .string x.target, .int .i64 x.size, .string x.digest, .slice a2 x.exts.length m2] 25)).alloc (.cells #[.int .i64 y.kind, .string y.path, .slice a3 y.attrs.length m3, .string y.target, .int .i64 y.size, .string y.digest, .slice a4 y.exts.length m4] 25) = W0 := ⟨_, rfl⟩
  change Code.wp _ _ _ _ ((w.alloc (.cells #[.int .i64 x.kind, .string x.path, .slice a1 x.attrs.length m1, .string x.target, .int .i64 x.size, .string x.digest, .slice a2 x.exts.length m2] 25)).alloc (.cells #[.int .i64 y.kind, .string y.path, .slice a3 y.attrs.length m3, .string y.target, .int .i64 y.size, .string y.digest, .slice a4 y.exts.length m4] 25))
  change Below _ _ ((w.alloc (.cells #[.int .i64 x.kind, .string x.path, .slice a1 x.attrs.length m1, .string x.target, .int .i64 x.size, .string x.digest, .slice a2 x.exts.length m2] 25)).alloc (.cells #[.int .i64 y.kind, .string y.path, .slice a3 y.attrs.length m3, .string y.target, .int .i64 y.size, .string y.digest, .slice a4 y.exts.length m4] 25)) at kb0
  change Box ((w.alloc (.cells #[.int .i64 x.kind, .string x.path, .slice a1 x.attrs.length m1, .string x.target, .int .i64 x.size, .string x.digest, .slice a2 x.exts.length m2] 25)).alloc (.cells #[.int .i64 y.kind, .string y.path, .slice a3 y.attrs.length m3, .string y.target, .int .i64 y.size, .string y.digest, .slice a4 y.exts.length m4] 25)) _ _ _ at bX bY
  rw [hW0] at kb0 bX bY ⊢
  clear hW0
  go_wp2_with fail
  refine (alive_any W0 (HE.out _ kb0) (HM.out _ kb0)).mono ?_
  rintro e W1 ⟨rfl, hb1⟩
  have kb1 := step2 kb0 hb1
  have bX1 := bX.below hb1
  have bY1 := bY.below hb1
  clear bX bY kb0 hb1
  obtain ⟨c0, c1, c2, c3, c4, c5, c6⟩ := bX1.cells7
  go_wp2_with fail
  refine (HX.out.great W1 kb1).mono ?_
  rintro e W2 ⟨g, rfl, hg, hs, hb2⟩
  have kb2 := step2 kb1 hb2
  have bX2 := bX1.below hb2
  have bY2 := bY1.below hb2
  clear bX1 bY1 kb1 hb2 c0 c1 c2 c3 c4 c5 c6
  obtain ⟨d0, d1, d2, d3, d4, d5, d6⟩ := bY2.cells7
  rcases hg.out with rfl | rfl
  case inr =>
    go_wp2_with fail
    go_ret
    exact ⟨rfl, kb2⟩
  go_wp2_with fail
  refine (HY.out.great W2 kb2).mono ?_
  rintro e W3 ⟨g2, rfl, hg2, hs2, hb3⟩
  have kb3 := step2 kb2 hb3
  have bX3 := bX2.below hb3
  have bY3 := bY2.below hb3
  clear bX2 bY2 kb2 hb3 d0 d1 d2 d3 d4 d5 d6
  rcases hg2.out with rfl | rfl
  case inr =>
    go_wp2_with fail
    go_ret
    exact ⟨rfl, kb3⟩
  obtain ⟨c0, c1, c2, c3, c4, c5, c6⟩ := bX3.cells7
  obtain ⟨d0, d1, d2, d3, d4, d5, d6⟩ := bY3.cells7
  have kbd : Below w.heap.size w W3.drew := below_drew0 kb3
  have bXd := bX3.drew
  have bYd := bY3.drew
  clear hg hg2 hs hs2 HX HY HE HM
  go_upto_region 5 with (fail)
  cases r
  all_goals
    go_region_held3 (fun w' => (w'.cell? ⟨w.heap.size, 0, none⟩ = some (.int .i64 x.kind) ∧ w'.cell? ⟨w.heap.size, 1, none⟩ = some (.string x.path) ∧ w'.cell? ⟨w.heap.size, 2, none⟩ = some (.slice a1 x.attrs.length m1) ∧ w'.cell? ⟨w.heap.size, 3, none⟩ = some (.string x.target) ∧ w'.cell? ⟨w.heap.size, 4, none⟩ = some (.int .i64 x.size) ∧ w'.cell? ⟨w.heap.size, 5, none⟩ = some (.string x.digest) ∧ w'.cell? ⟨w.heap.size, 6, none⟩ = some (.slice a2 x.exts.length m2)) ∧
        (w'.cell? ⟨w.heap.size + 1, 0, none⟩ = some (.int .i64 y.kind) ∧ w'.cell? ⟨w.heap.size + 1, 1, none⟩ = some (.string y.path) ∧ w'.cell? ⟨w.heap.size + 1, 2, none⟩ = some (.slice a3 y.attrs.length m3) ∧ w'.cell? ⟨w.heap.size + 1, 3, none⟩ = some (.string y.target) ∧ w'.cell? ⟨w.heap.size + 1, 4, none⟩ = some (.int .i64 y.size) ∧ w'.cell? ⟨w.heap.size + 1, 5, none⟩ = some (.string y.digest) ∧ w'.cell? ⟨w.heap.size + 1, 6, none⟩ = some (.slice a4 y.exts.length m4)))
      (first | with_reducible exact ⟨⟨c0, c1, c2, c3, c4, c5, c6⟩, d0, d1, d2, d3, d4, d5, d6⟩ | with_reducible exact ⟨Box.cells7 bXd, Box.cells7 bYd⟩ | with_reducible exact ⟨Box.cells7 bX4, Box.cells7 bY4⟩ | with_reducible exact ⟨Box.cells7 bX5, Box.cells7 bY5⟩ | with_reducible exact ⟨Box.cells7 bX6, Box.cells7 bY6⟩)
      (first
        | (go_at_call 21; (with_reducible refine (HQ.out _ kbd).mono ?_); rintro e W4 ⟨rfl, hb4⟩; have kb4 := step2 kbd hb4; have bX4 := bXd.below hb4; have bY4 := bYd.below hb4)
        | (go_at_call 20; (with_reducible refine (HQr.out _ kbd).mono ?_); rintro e W4 ⟨rfl, hb4⟩; have kb4 := step2 kbd hb4; have bX4 := bXd.below hb4; have bY4 := bYd.below hb4)
        | (go_at_call 21; (with_reducible refine (HQ.out _ kb4).mono ?_); rintro e W5 ⟨rfl, hb5⟩; have kb5 := step2 kb4 hb5; have bX5 := bX4.below hb5; have bY5 := bY4.below hb5)
        | (go_at_call 20; (with_reducible refine (HQr.out _ kb4).mono ?_); rintro e W5 ⟨rfl, hb5⟩; have kb5 := step2 kb4 hb5; have bX5 := bX4.below hb5; have bY5 := bY4.below hb5)
        | (go_at_call 21; (with_reducible refine (HQx.out _ kb5).mono ?_); rintro e W6 ⟨rfl, hb6⟩; have kb6 := step2 kb5 hb6; have bX6 := bX5.below hb6; have bY6 := bY5.below hb6)
        | (go_at_call 21; (with_reducible refine (HQx.out _ kb4).mono ?_); rintro e W5 ⟨rfl, hb5⟩; have kb5 := step2 kb4 hb5; have bX5 := bX4.below hb5; have bY5 := bY4.below hb5)
        | (go_at_call 21; (with_reducible refine (HQx.out _ kbd).mono ?_); rintro e W4 ⟨rfl, hb4⟩; have kb4 := step2 kbd hb4; have bX4 := bXd.below hb4; have bY4 := bYd.below hb4))
    all_goals
      go_wp2_with fail
      go_ret
      exact ⟨rfl, by assumption⟩
end Go.Proofs.YtaeagckfkdmkaaaGreatDoor
