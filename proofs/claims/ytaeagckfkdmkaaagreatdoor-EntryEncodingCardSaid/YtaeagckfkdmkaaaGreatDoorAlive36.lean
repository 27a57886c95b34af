/-
  Chapter 36: the example that each law checks first.
-/
import Derived.Test.YtaeagckfkdmkaaaGreatDoorDecW
import Derived.Test.YtaeagckfkdmkaaaGreatDoorEncV
import Derived.Test.YtaeagckfkdmkaaaGreatDoorEnEqR
namespace Go.Proofs.YtaeagckfkdmkaaaGreatDoor
open Go.RowKit Go.Shelf

def exEn : En := ⟨2, ⟨#[97]⟩, [], ⟨#[]⟩, 0, ⟨#[]⟩, []⟩
def exHead : ByteArray := ⟨#[51, 58, 100, 105, 114, 44, 49, 58, 97, 44, 48, 32, 48, 58, 44]⟩
def exBody : ByteArray := ⟨#[49, 53, 58, 51, 58, 100, 105, 114, 44, 49, 58, 97, 44, 48, 32, 48, 58, 44, 44, 48, 32, 48, 58, 44, 48, 32]⟩
theorem exChk : chkE exEn = 0 := by decide +kernel
theorem exHead_eq : headL exEn = exHead.data.toList := by decide +kernel
theorem exBody_eq : bodyL exEn = exBody.data.toList := by decide +kernel
theorem exOkE : EnOk exEn := ⟨by decide, by decide, ⟨by decide, fun i => by rw [show exEn.attrs = [] from rfl, atAt]; exact at0_ok⟩, by decide, by decide, by decide, ⟨by decide, fun i => by rw [show exEn.exts = [] from rfl, exAt]; exact ex0_ok⟩⟩
theorem exDec : decA exBody 0 = .ok (exEn, 26) := by
  rw [decA, if_neg (by decide)]
  refine decR_ok.2 ⟨exChk, ?_⟩
  rw [exBody_eq]
  exact reads_self exBody.data.toList
theorem ex_head (w : World) (he : Env w) (hm : HasMax w) : Calls Tryz.prog 12 #[.agg #[.int .i64 2, .string ⟨#[97]⟩, .slice none 0 0, .string ⟨#[]⟩, .int .i64 0, .string ⟨#[]⟩, .slice none 0 0]] w fun e w' => e = .returned (.tuple #[.string exHead, .int .i64 0]) ∧ Below w.heap.size w w' := by
  have h := head_any exEn (.slice none 0 0) (.slice none 0 0) w he hm (GRow.nil w) (GRow.nil w) exOkE
  rw [exChk, if_pos rfl, exHead_eq] at h
  exact h.mono fun e w' ⟨t, h1, h2, h3⟩ => ⟨by rw [h1, ba_inj h2.out], h3⟩
theorem ex_enc (w : World) (he : Env w) (hm : HasMax w) : Calls Tryz.prog 14 #[.agg #[.int .i64 2, .string ⟨#[97]⟩, .slice none 0 0, .string ⟨#[]⟩, .int .i64 0, .string ⟨#[]⟩, .slice none 0 0]] w fun e w' => e = .returned (.tuple #[.string exBody, .int .i64 0]) ∧ Below w.heap.size w w' := by
  have h := encode_any exEn (.slice none 0 0) (.slice none 0 0) w he hm (GRow.nil w) (GRow.nil w) exOkE
  rw [exChk, if_pos rfl, exBody_eq] at h
  exact h.mono fun e w' ⟨t, h1, h2, h3⟩ => ⟨by rw [h1, ba_inj h2.out], h3⟩
theorem ex_dec (w : World) (he : Env w) (hm : HasMax w) : Calls Tryz.prog 18 #[.string exBody, .int .i64 0] w fun e w' => ∃ (a a2 : Option Addr) (c c2 : Nat), e = .returned (.tuple #[.agg #[.int .i64 2, .string ⟨#[97]⟩, .slice a 0 c, .string ⟨#[]⟩, .int .i64 0, .string ⟨#[]⟩, .slice a2 0 c2], .int .i64 26, .int .i64 0]) ∧ AtRow w' (.slice a 0 c) [] ∧ ExRow w' (.slice a2 0 c2) [] ∧ Below w.heap.size w w' := by
  have h := decode_walk exBody 0 w he hm (by decide) (by decide) (by decide)
  rw [exDec] at h
  refine h.mono fun e w' ⟨va, vx, h1, h2, h3, h4⟩ => ?_
  obtain ⟨a, c, rfl⟩ := GRow.form h2
  obtain ⟨a2, c2, rfl⟩ := GRow.form h3
  exact ⟨a, a2, c, c2, h1, h2, h3, h4⟩
theorem ex_eq (w : World) (va vx ua ux : Value) (ha : AtRow w va []) (hx : ExRow w vx []) (ha2 : AtRow w ua []) (hx2 : ExRow w ux []) :
    Calls Tryz.prog 20 #[.agg #[.int .i64 2, .string ⟨#[97]⟩, va, .string ⟨#[]⟩, .int .i64 0, .string ⟨#[]⟩, vx], .agg #[.int .i64 2, .string ⟨#[97]⟩, ua, .string ⟨#[]⟩, .int .i64 0, .string ⟨#[]⟩, ux]] w fun e w' => e = .returned (.bool true) ∧ Below w.heap.size w w' := by
  have h := refEqual_any exEn exEn va vx ua ux w ha hx ha2 hx2
  rw [isB_yes rfl] at h
  exact h.mono fun e w' ⟨h1, h2⟩ => ⟨h1, h2⟩
set_option maxRecDepth 100000 in
set_option maxHeartbeats 2000000 in
theorem alive_any (w : World) (he : Env w) (hm : HasMax w) : Calls Tryz.prog 10 #[] w fun e w' => e = .returned (.bool true) ∧ Below w.heap.size w w' := by
  have HE := Lib.hid (show ∀ W, Below w.heap.size w W → Env W from fun W hW => he.below hW)
  have HM := Lib.hid (show ∀ W, Below w.heap.size w W → HasMax W from fun W hW => hm.below hW)
  clear he hm
  have bX := Box.new w [.int .i64 2, .string ⟨#[97]⟩, .slice none 0 0, .string ⟨#[]⟩, .int .i64 0, .string ⟨#[]⟩, .slice none 0 0] 25
  have kb0 : Below w.heap.size w (w.alloc (.cells #[.int .i64 2, .string ⟨#[97]⟩, .slice none 0 0, .string ⟨#[]⟩, .int .i64 0, .string ⟨#[]⟩, .slice none 0 0] 25)) := (below_refl _).alloc (Nat.le_refl _) _
  change Box (w.alloc (.cells #[.int .i64 2, .string ⟨#[97]⟩, .slice none 0 0, .string ⟨#[]⟩, .int .i64 0, .string ⟨#[]⟩, .slice none 0 0] 25)) _ _ _ at bX
  go_enter Tryz.func10, Tryz.ntmps10
  go_upto_region 2 with (fail)
  obtain ⟨W0, hW0⟩ : ∃ W0, w.alloc (.cells #[.int .i64 2, .string ⟨#[97]⟩, .slice none 0 0, .string ⟨#[]⟩, .int .i64 0, .string ⟨#[]⟩, .slice none 0 0] 25) = W0 := ⟨_, rfl⟩
  change Code.wp _ _ _ _ (w.alloc (.cells #[.int .i64 2, .string ⟨#[97]⟩, .slice none 0 0, .string ⟨#[]⟩, .int .i64 0, .string ⟨#[]⟩, .slice none 0 0] 25))
  rw [hW0] at bX kb0 ⊢
  clear hW0
  have c0 : W0.cell? ⟨w.heap.size, 0, none⟩ = some (.int .i64 2) := bX.cell 0
  have c1 : W0.cell? ⟨w.heap.size, 1, none⟩ = some (.string ⟨#[97]⟩) := bX.cell 1
  have c2 : W0.cell? ⟨w.heap.size, 2, none⟩ = some (.slice none 0 0) := bX.cell 2
  have c3 : W0.cell? ⟨w.heap.size, 3, none⟩ = some (.string ⟨#[]⟩) := bX.cell 3
  have c4 : W0.cell? ⟨w.heap.size, 4, none⟩ = some (.int .i64 0) := bX.cell 4
  have c5 : W0.cell? ⟨w.heap.size, 5, none⟩ = some (.string ⟨#[]⟩) := bX.cell 5
  have c6 : W0.cell? ⟨w.heap.size, 6, none⟩ = some (.slice none 0 0) := bX.cell 6
  go_wp2_with fail
  refine (ex_head W0 (HE.out _ kb0) (HM.out _ kb0)).mono ?_
  rintro e W1 ⟨rfl, hb1⟩
  have kb1 := step2 kb0 hb1
  have bX1 := bX.below hb1
  clear bX kb0 hb1 c0 c1 c2 c3 c4 c5 c6
  have c0 : W1.cell? ⟨w.heap.size, 0, none⟩ = some (.int .i64 2) := bX1.cell 0
  have c1 : W1.cell? ⟨w.heap.size, 1, none⟩ = some (.string ⟨#[97]⟩) := bX1.cell 1
  have c2 : W1.cell? ⟨w.heap.size, 2, none⟩ = some (.slice none 0 0) := bX1.cell 2
  have c3 : W1.cell? ⟨w.heap.size, 3, none⟩ = some (.string ⟨#[]⟩) := bX1.cell 3
  have c4 : W1.cell? ⟨w.heap.size, 4, none⟩ = some (.int .i64 0) := bX1.cell 4
  have c5 : W1.cell? ⟨w.heap.size, 5, none⟩ = some (.string ⟨#[]⟩) := bX1.cell 5
  have c6 : W1.cell? ⟨w.heap.size, 6, none⟩ = some (.slice none 0 0) := bX1.cell 6
  go_wp2_with fail
  refine (ex_enc W1 (HE.out _ kb1) (HM.out _ kb1)).mono ?_
  rintro e W2 ⟨rfl, hb2⟩
  have kb2 := step2 kb1 hb2
  have bX2 := bX1.below hb2
  clear bX1 kb1 hb2 c0 c1 c2 c3 c4 c5 c6
  go_wp2_with fail
  refine (ex_dec W2 (HE.out _ kb2) (HM.out _ kb2)).mono ?_
  rintro e W3 ⟨a, a2, m, m2, rfl, hA, hX, hb3⟩
  have kb3 := step2 kb2 hb3
  have bX3 := bX2.below hb3
  have bY := Box.new W3 [.int .i64 2, .string ⟨#[97]⟩, .slice a 0 m, .string ⟨#[]⟩, .int .i64 0, .string ⟨#[]⟩, .slice a2 0 m2] 25
  have hb4 : Below W3.heap.size W3 (W3.alloc (.cells #[.int .i64 2, .string ⟨#[97]⟩, .slice a 0 m, .string ⟨#[]⟩, .int .i64 0, .string ⟨#[]⟩, .slice a2 0 m2] 25)) := (below_refl _).alloc (Nat.le_refl _) _
  change Box (W3.alloc (.cells #[.int .i64 2, .string ⟨#[97]⟩, .slice a 0 m, .string ⟨#[]⟩, .int .i64 0, .string ⟨#[]⟩, .slice a2 0 m2] 25)) _ _ _ at bY
  clear bX2 kb2 hb3
  go_upto_region 5 with (fail)
  have hA4 := hA.below hb4
  have hX4 := hX.below hb4
  have bX4 := bX3.below hb4
  have kb4 := step2 kb3 hb4
  obtain ⟨W4, hW4⟩ : ∃ W4, W3.alloc (.cells #[.int .i64 2, .string ⟨#[97]⟩, .slice a 0 m, .string ⟨#[]⟩, .int .i64 0, .string ⟨#[]⟩, .slice a2 0 m2] 25) = W4 := ⟨_, rfl⟩
  change Code.wp _ _ _ _ (W3.alloc (.cells #[.int .i64 2, .string ⟨#[97]⟩, .slice a 0 m, .string ⟨#[]⟩, .int .i64 0, .string ⟨#[]⟩, .slice a2 0 m2] 25))
  rw [hW4] at bY hA4 hX4 bX4 kb4 ⊢
  clear hW4 hA hX bX3 kb3 hb4
  have c0 : W4.cell? ⟨w.heap.size, 0, none⟩ = some (.int .i64 2) := bX4.cell 0
  have c1 : W4.cell? ⟨w.heap.size, 1, none⟩ = some (.string ⟨#[97]⟩) := bX4.cell 1
  have c2 : W4.cell? ⟨w.heap.size, 2, none⟩ = some (.slice none 0 0) := bX4.cell 2
  have c3 : W4.cell? ⟨w.heap.size, 3, none⟩ = some (.string ⟨#[]⟩) := bX4.cell 3
  have c4 : W4.cell? ⟨w.heap.size, 4, none⟩ = some (.int .i64 0) := bX4.cell 4
  have c5 : W4.cell? ⟨w.heap.size, 5, none⟩ = some (.string ⟨#[]⟩) := bX4.cell 5
  have c6 : W4.cell? ⟨w.heap.size, 6, none⟩ = some (.slice none 0 0) := bX4.cell 6
  generalize W3.heap.size = D at *
  have d0 : W4.cell? ⟨D, 0, none⟩ = some (.int .i64 2) := bY.cell 0
  have d1 : W4.cell? ⟨D, 1, none⟩ = some (.string ⟨#[97]⟩) := bY.cell 1
  have d2 : W4.cell? ⟨D, 2, none⟩ = some (.slice a 0 m) := bY.cell 2
  have d3 : W4.cell? ⟨D, 3, none⟩ = some (.string ⟨#[]⟩) := bY.cell 3
  have d4 : W4.cell? ⟨D, 4, none⟩ = some (.int .i64 0) := bY.cell 4
  have d5 : W4.cell? ⟨D, 5, none⟩ = some (.string ⟨#[]⟩) := bY.cell 5
  have d6 : W4.cell? ⟨D, 6, none⟩ = some (.slice a2 0 m2) := bY.cell 6
  have HQ := Lib.hid (ex_eq W4 (.slice none 0 0) (.slice none 0 0) (.slice a 0 m) (.slice a2 0 m2) (GRow.nil _) (GRow.nil _) hA4 hX4)
  have l1 : exHead.toList = [51, 58, 100, 105, 114, 44, 49, 58, 97, 44, 48, 32, 48, 58, 44] := by decide +kernel
  have l2 : exBody.toList = [49, 53, 58, 51, 58, 100, 105, 114, 44, 49, 58, 97, 44, 48, 32, 48, 58, 44, 44, 48, 32, 48, 58, 44, 48, 32] := by decide +kernel
  have l3 : exBody.size = 26 := rfl
  clear hA4 hX4
  go_wp2_with fail
  refine HQ.out.mono ?_
  rintro e W5 ⟨rfl, hb5⟩
  go_wp2_with fail
  go_ret
  exact ⟨rfl, step2 kb4 hb5⟩
end Go.Proofs.YtaeagckfkdmkaaaGreatDoor
