/-
  Chapter 36: the law Encoding, walked out of the contracts.
-/
import Derived.Test.YtaeagckfkdmkaaaGreatDoorLawB36
import Derived.Test.YtaeagckfkdmkaaaGreatDoorRdE
import Derived.Deep.RegionHeld3
namespace Go.Proofs.YtaeagckfkdmkaaaGreatDoor
open Go.RowKit Go.Shelf
set_option maxRecDepth 100000 in
set_option maxHeartbeats 4000000 in
theorem lawEncoding_any (x : En) (va vx : Value) (w : World) (he : Env w) (hm : HasMax w) (ha : AtRow w va x.attrs) (hx : ExRow w vx x.exts) (wf : EnWf x) :
    Calls Tryz.prog 3 #[.agg #[.int .i64 x.kind, .string x.path, va, .string x.target, .int .i64 x.size, .string x.digest, vx]] w fun e w' => e = .returned (.bool true) ∧ Below w.heap.size w w' := by
  have HE := Lib.hid (show ∀ W, Below w.heap.size w W → Env W from fun W hW => he.below hW)
  have HM := Lib.hid (show ∀ W, Below w.heap.size w W → HasMax W from fun W hW => hm.below hW)
  have HX := Lib.hid (enCs he hm ha hx wf)
  obtain ⟨a1, m1, rfl⟩ := ha.form
  obtain ⟨a2, m2, rfl⟩ := hx.form
  clear he hm ha hx
  obtain ⟨kb0, bX⟩ := box1 w [.int .i64 x.kind, .string x.path, .slice a1 x.attrs.length m1, .string x.target, .int .i64 x.size, .string x.digest, .slice a2 x.exts.length m2] 25
  change Below _ _ (w.alloc (.cells #[.int .i64 x.kind, .string x.path, .slice a1 x.attrs.length m1, .string x.target, .int .i64 x.size, .string x.digest, .slice a2 x.exts.length m2] 25)) at kb0
  change Box (w.alloc (.cells #[.int .i64 x.kind, .string x.path, .slice a1 x.attrs.length m1, .string x.target, .int .i64 x.size, .string x.digest, .slice a2 x.exts.length m2] 25)) _ _ _ at bX
  go_enter Tryz.func3, Tryz.ntmps3
  go_upto_region 1 with (fail)
  obtain ⟨W0, hW0⟩ : ∃ W0, w.alloc (.cells #[.int .i64 x.kind, .string x.path, .slice a1 x.attrs.length m1, .string x.target, .int .i64 x.size, .string x.digest, .slice a2 x.exts.length m2] 25) = W0 := ⟨_, rfl⟩
  change Code.wp _ _ _ _ (w.alloc (.cells #[.int .i64 x.kind, .string x.path, .slice a1 x.attrs.length m1, .string x.target, .int .i64 x.size, .string x.digest, .slice a2 x.exts.length m2] 25))
  rw [hW0] at kb0 bX ⊢
  clear hW0
  go_wp2_with fail
  refine (alive_any W0 (HE.out _ kb0) (HM.out _ kb0)).mono ?_
  rintro e W1 ⟨rfl, hb1⟩
  have kb1 := step2 kb0 hb1
  have bX1 := bX.below hb1
  clear bX kb0 hb1
  obtain ⟨c0, c1, c2, c3, c4, c5, c6⟩ := bX1.cells7
  go_wp2_with fail
  refine (HX.out.great W1 kb1).mono ?_
  rintro e W2 ⟨g, rfl, hgx, hsx, hb⟩
  have kb2 := step2 kb1 hb
  have bX2 := bX1.below hb
  clear bX1 kb1 hb c0 c1 c2 c3 c4 c5 c6
  rcases hgx.out with rfl | rfl
  case inr =>
    go_wp2_with fail
    go_ret
    exact ⟨rfl, kb2⟩
  have okx := enOk_small wf (hsx.out rfl)
  have SMx := Lib.hid (hsx.out rfl)
  clear hgx hsx
  clear wf
  have HRh := Lib.hid (show ∀ W, Below w.heap.size w W → Calls Tryz.prog 13 #[.agg #[.int .i64 x.kind, .string x.path, .slice a1 x.attrs.length m1, .string x.target, .int .i64 x.size, .string x.digest, .slice a2 x.exts.length m2]] W (HeadP (if chkE x = 0 then headL x else []) (chkE x) W) from fun W hW => refHead_any x _ _ W (HX.out.at_ _ hW) (HX.out.ex_ _ hW) okx SMx.out)
  have HRe := Lib.hid (show ∀ W, Below w.heap.size w W → Calls Tryz.prog 15 #[.agg #[.int .i64 x.kind, .string x.path, .slice a1 x.attrs.length m1, .string x.target, .int .i64 x.size, .string x.digest, .slice a2 x.exts.length m2]] W (HeadP (if chkE x = 0 then bodyL x else []) (chkE x) W) from fun W hW => refEncode_any x _ _ W (HX.out.at_ _ hW) (HX.out.ex_ _ hW) okx SMx.out)
  have HRc := Lib.hid (show ∀ W, Below w.heap.size w W → Calls Tryz.prog 17 #[.agg #[.int .i64 x.kind, .string x.path, .slice a1 x.attrs.length m1, .string x.target, .int .i64 x.size, .string x.digest, .slice a2 x.exts.length m2]] W (IntP (chkE x) W) from fun W hW => refCheck_any x _ _ W (HX.out.at_ _ hW) (HX.out.ex_ _ hW) okx)
  have HPh := Lib.hid (HX.out.head okx)
  have HPe := Lib.hid (HX.out.enc okx)
  have HPc := Lib.hid (HX.out.check okx)
  clear HX okx SMx
  generalize (if chkE x = 0 then headL x else []) = lh at *
  generalize (if chkE x = 0 then bodyL x else []) = lb at *
  generalize chkE x = ce at *
  obtain ⟨c0, c1, c2, c3, c4, c5, c6⟩ := bX2.cells7
  go_wp2_with fail
  refine (HPh.out W2 kb2).mono ?_
  rintro e W3 ⟨ta, rfl, hta, hb⟩
  have kb3 := step2 kb2 hb
  have bX3 := bX2.below hb
  clear bX2 kb2 hb c0 c1 c2 c3 c4 c5 c6 HPh
  obtain ⟨c0, c1, c2, c3, c4, c5, c6⟩ := bX3.cells7
  go_wp2_with fail
  refine (HRh.out W3 kb3).mono ?_
  rintro e W4 ⟨tb, rfl, htb, hb⟩
  have kb4 := step2 kb3 hb
  have bX4 := bX3.below hb
  clear bX3 kb3 hb c0 c1 c2 c3 c4 c5 c6 HRh
  obtain ⟨c0, c1, c2, c3, c4, c5, c6⟩ := bX4.cells7
  go_wp2_with fail
  refine (HPe.out W4 kb4).mono ?_
  rintro e W5 ⟨tc, rfl, htc, hb⟩
  have kb5 := step2 kb4 hb
  have bX5 := bX4.below hb
  clear bX4 kb4 hb c0 c1 c2 c3 c4 c5 c6 HPe
  obtain ⟨c0, c1, c2, c3, c4, c5, c6⟩ := bX5.cells7
  go_wp2_with fail
  refine (HRe.out W5 kb5).mono ?_
  rintro e W6 ⟨td, rfl, htd, hb⟩
  have kb6 := step2 kb5 hb
  have bX6 := bX5.below hb
  clear bX5 kb5 hb c0 c1 c2 c3 c4 c5 c6 HRe
  obtain ⟨c0, c1, c2, c3, c4, c5, c6⟩ := bX6.cells7
  have q1 : (ta.toList == tb.toList) = true := by rw [str_eq]; exact decide_eq_true (by rw [hta.out, htb.out])
  have q2 : (tc.toList == td.toList) = true := by rw [str_eq]; exact decide_eq_true (by rw [htc.out, htd.out])
  have q3 : (ce == ce) = true := by rw [beq_iff_eq]
  have kbd : Below w.heap.size w W6.drew := below_drew0 kb6
  have bXd := bX6.drew
  clear hta htb htc htd
  go_upto_region 9 with (fail)
  go_region_held3 (fun w' => w'.cell? ⟨w.heap.size, 0, none⟩ = some (.int .i64 x.kind) ∧ w'.cell? ⟨w.heap.size, 1, none⟩ = some (.string x.path) ∧ w'.cell? ⟨w.heap.size, 2, none⟩ = some (.slice a1 x.attrs.length m1) ∧ w'.cell? ⟨w.heap.size, 3, none⟩ = some (.string x.target) ∧ w'.cell? ⟨w.heap.size, 4, none⟩ = some (.int .i64 x.size) ∧ w'.cell? ⟨w.heap.size, 5, none⟩ = some (.string x.digest) ∧ w'.cell? ⟨w.heap.size, 6, none⟩ = some (.slice a2 x.exts.length m2))
    (first | with_reducible exact ⟨c0, c1, c2, c3, c4, c5, c6⟩ | with_reducible exact Box.cells7 bXd | with_reducible exact Box.cells7 bX7 | with_reducible exact Box.cells7 bX8)
    (first
      | (go_at_call 16; (with_reducible refine (HPc.out _ kbd).mono ?_); rintro e W7 ⟨rfl, hb7⟩; have kb7 := step2 kbd hb7; have bX7 := bXd.below hb7)
      | (go_at_call 17; (with_reducible refine (HRc.out _ kbd).mono ?_); rintro e W7 ⟨rfl, hb7⟩; have kb7 := step2 kbd hb7; have bX7 := bXd.below hb7)
      | (go_at_call 16; (with_reducible refine (HPc.out _ kb7).mono ?_); rintro e W8 ⟨rfl, hb8⟩; have kb8 := step2 kb7 hb8; have bX8 := bX7.below hb8)
      | (go_at_call 17; (with_reducible refine (HRc.out _ kb7).mono ?_); rintro e W8 ⟨rfl, hb8⟩; have kb8 := step2 kb7 hb8; have bX8 := bX7.below hb8))
  all_goals
    go_wp2_with fail
    go_ret
    exact ⟨rfl, kb8⟩
end Go.Proofs.YtaeagckfkdmkaaaGreatDoor
