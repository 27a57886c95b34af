/-
  The walk of the program's reading of one entry.
-/
import Derived.Test.YtpkapcijgldhhaaGreatDoorCe25
import Derived.Test.YtpkapcijgldhhaaGreatDoorCe23
import Derived.Deep.Cut
import Derived.Deep.CutRange
namespace Go.Proofs.YtpkapcijgldhhaaGreatDoor
open Go.RowKit Go.Shelf

theorem keep_high {R j D : Nat} {W W' : World} (h : Keep R W W') (hD : W.heap.size ≤ D) (hR : R < W.heap.size) (v : Value) : Keep R W (W'.setCell ⟨D, j, none⟩ v) :=
  ⟨h.1.setCell (p := ⟨D, j, none⟩) (by show R ≤ D; omega) v, fun i h1 h2 => by
    rw [← h.2 i h1 h2]
    simp only [World.setCell, Array.getElem?_modify]
    rw [if_neg (by omega)]⟩
theorem keep_high7 {R D : Nat} {W W' : World} (h : Keep R W W') (hD : W.heap.size ≤ D) (hR : R < W.heap.size) (u0 u1 u2 u3 u4 u5 u6 : Value) : Keep R W (((((((W'.setCell ⟨D, 0, none⟩ u0).setCell ⟨D, 1, none⟩ u1).setCell ⟨D, 2, none⟩ u2).setCell ⟨D, 3, none⟩ u3).setCell ⟨D, 4, none⟩ u4).setCell ⟨D, 5, none⟩ u5).setCell ⟨D, 6, none⟩ u6) :=
  keep_high (j := 6) (keep_high (j := 5) (keep_high (j := 4) (keep_high (j := 3) (keep_high (j := 2) (keep_high (j := 1) (keep_high (j := 0) h hD hR u0) hD hR u1) hD hR u2) hD hR u3) hD hR u4) hD hR u5) hD hR u6
theorem owns_low7 {W : World} {base E : Nat} {e : TypeId} {size n : Nat} {v : Value} {xs : List Value} (h : W.ownsRow base e size v n xs) (hE : E < base) (u0 u1 u2 u3 u4 u5 u6 : Value) : (((((((W.setCell ⟨E, 0, none⟩ u0).setCell ⟨E, 1, none⟩ u1).setCell ⟨E, 2, none⟩ u2).setCell ⟨E, 3, none⟩ u3).setCell ⟨E, 4, none⟩ u4).setCell ⟨E, 5, none⟩ u5).setCell ⟨E, 6, none⟩ u6).ownsRow base e size v n xs :=
  owns_setLow (j := 6) (owns_setLow (j := 5) (owns_setLow (j := 4) (owns_setLow (j := 3) (owns_setLow (j := 2) (owns_setLow (j := 1) (owns_setLow (j := 0) h hE u0) hE u1) hE u2) hE u3) hE u4) hE u5) hE u6
theorem resE {W : World} {D : Nat} {v0 v1 v2 v3 v4 v5 v6 : Value} (tmps : Array Value) (b : Box W D [v0, v1, v2, v3, v4, v5, v6] 109) (h4 : tmps[4]?.getD undef = .pointer (some ⟨D, 0, none⟩)) :
    (results Tryz.f97 tmps).run Tryz.prog W = .ok (.agg #[v0, v1, v2, v3, v4, v5, v6]) W := by
  obtain ⟨c0, c1, c2, c3, c4, c5, c6⟩ := b.cells7
  simp [results, Tryz.results97, go_sem, h4, c0, c1, c2, c3, c4, c5, c6]
set_option maxRecDepth 100000 in
set_option maxHeartbeats 2000000 in
theorem dent_stop (s : ByteArray) (R : Nat) (a x : Int) (W : World) (hb : Box W R [.string s, .int .i64 a, .int .i64 x] 157) (hx : x ≠ 0) :
    Calls Tryz.prog 97 #[.pointer (some ⟨R, 0, none⟩), .func (.func 98) #[] #[]] W fun e W' => e = .returned (.agg #[.int .i64 0, .string ⟨#[]⟩, .slice none 0 0, .string ⟨#[]⟩, .int .i64 0, .string ⟨#[]⟩, .slice none 0 0]) ∧ Box W' R [.string s, .int .i64 a, .int .i64 x] 157 ∧ Keep R W W' := by
  obtain ⟨kb0, bD, bZ⟩ := boxes2' W zeroE zeroE 109 109
  change Below _ _ ((W.alloc (.cells #[.int .i64 0, .string ⟨#[]⟩, .slice none 0 0, .string ⟨#[]⟩, .int .i64 0, .string ⟨#[]⟩, .slice none 0 0] 109)).alloc (.cells #[.int .i64 0, .string ⟨#[]⟩, .slice none 0 0, .string ⟨#[]⟩, .int .i64 0, .string ⟨#[]⟩, .slice none 0 0] 109)) at kb0
  change Box ((W.alloc (.cells #[.int .i64 0, .string ⟨#[]⟩, .slice none 0 0, .string ⟨#[]⟩, .int .i64 0, .string ⟨#[]⟩, .slice none 0 0] 109)).alloc (.cells #[.int .i64 0, .string ⟨#[]⟩, .slice none 0 0, .string ⟨#[]⟩, .int .i64 0, .string ⟨#[]⟩, .slice none 0 0] 109)) _ _ _ at bD bZ
  have q1 : (x != 0) = true := by rw [bne_iff_ne]; exact hx
  have Hx := Lib.hid hx; clear hx
  go_enter Tryz.func97, Tryz.ntmps97
  go_upto_region 2 with (fail)
  have bR0 := hb.below kb0
  obtain ⟨W0, hW0⟩ : ∃ W0, (W.alloc (.cells #[.int .i64 0, .string ⟨#[]⟩, .slice none 0 0, .string ⟨#[]⟩, .int .i64 0, .string ⟨#[]⟩, .slice none 0 0] 109)).alloc (.cells #[.int .i64 0, .string ⟨#[]⟩, .slice none 0 0, .string ⟨#[]⟩, .int .i64 0, .string ⟨#[]⟩, .slice none 0 0] 109) = W0 := ⟨_, rfl⟩
  change Code.wp _ _ _ _ ((W.alloc (.cells #[.int .i64 0, .string ⟨#[]⟩, .slice none 0 0, .string ⟨#[]⟩, .int .i64 0, .string ⟨#[]⟩, .slice none 0 0] 109)).alloc (.cells #[.int .i64 0, .string ⟨#[]⟩, .slice none 0 0, .string ⟨#[]⟩, .int .i64 0, .string ⟨#[]⟩, .slice none 0 0] 109))
  rw [hW0] at kb0 bD bZ bR0 ⊢
  clear hW0
  have hRW := hb.lt
  unfold zeroE at bD bZ
  have r2 : W0.cell? ⟨R, 2, none⟩ = some (.int .i64 x) := bR0.cell 2
  obtain ⟨e0, e1, e2, e3, e4, e5, e6⟩ := bZ.cells7
  obtain ⟨d0, d1, d2, d3, d4, d5, d6⟩ := bD.cells7
  obtain ⟨z0, z1, z2, z3, z4, z5, z6⟩ := bD.froz7
  go_wp2_with fail
  have b1 := bD.set7 (.int .i64 0) (.string ⟨#[]⟩) (.slice none 0 0) (.string ⟨#[]⟩) (.int .i64 0) (.string ⟨#[]⟩) (.slice none 0 0)
  have b2 := bR0.other7 (E := W.heap.size) (by omega) (.int .i64 0) (.string ⟨#[]⟩) (.slice none 0 0) (.string ⟨#[]⟩) (.int .i64 0) (.string ⟨#[]⟩) (.slice none 0 0)
  have hk := keep_high7 (Keep.of_below kb0 (Nat.le_of_lt hRW)) (Nat.le_refl _) hRW (.int .i64 0) (.string ⟨#[]⟩) (.slice none 0 0) (.string ⟨#[]⟩) (.int .i64 0) (.string ⟨#[]⟩) (.slice none 0 0)
  exact bodyPost_ret (v := .agg #[.int .i64 0, .string ⟨#[]⟩, .slice none 0 0, .string ⟨#[]⟩, .int .i64 0, .string ⟨#[]⟩, .slice none 0 0]) (resE _ b1 rfl) rfl ⟨rfl, b2, hk⟩
set_option maxRecDepth 100000 in
set_option maxHeartbeats 2000000 in
theorem dent_bad (s : ByteArray) (R : Nat) (a x : Int) (W : World) (hb : Box W R [.string s, .int .i64 a, .int .i64 0] 157) (h : decR s.data.toList a = .error x) (hs : s.size ≤ 1000000) (he : Env W) (hm : HasMax W) (ha : -9223372036854775808 ≤ a ∧ a ≤ 9223372036854775807) :
    Calls Tryz.prog 97 #[.pointer (some ⟨R, 0, none⟩), .func (.func 98) #[] #[]] W fun e W' => e = .returned (.agg #[.int .i64 0, .string ⟨#[]⟩, .slice none 0 0, .string ⟨#[]⟩, .int .i64 0, .string ⟨#[]⟩, .slice none 0 0]) ∧ Box W' R [.string s, .int .i64 a, .int .i64 x] 157 ∧ Keep R W W' := by
  obtain ⟨kb0, bD, bZ⟩ := boxes2' W zeroE zeroE 109 109
  change Below _ _ ((W.alloc (.cells #[.int .i64 0, .string ⟨#[]⟩, .slice none 0 0, .string ⟨#[]⟩, .int .i64 0, .string ⟨#[]⟩, .slice none 0 0] 109)).alloc (.cells #[.int .i64 0, .string ⟨#[]⟩, .slice none 0 0, .string ⟨#[]⟩, .int .i64 0, .string ⟨#[]⟩, .slice none 0 0] 109)) at kb0
  change Box ((W.alloc (.cells #[.int .i64 0, .string ⟨#[]⟩, .slice none 0 0, .string ⟨#[]⟩, .int .i64 0, .string ⟨#[]⟩, .slice none 0 0] 109)).alloc (.cells #[.int .i64 0, .string ⟨#[]⟩, .slice none 0 0, .string ⟨#[]⟩, .int .i64 0, .string ⟨#[]⟩, .slice none 0 0] 109)) _ _ _ at bD bZ
  have hx : x ≠ 0 := nz_decR _ _ _ h
  have q1 : (x != 0) = true := by rw [bne_iff_ne]; exact hx
  have HC0 := fun W' hW => decode_walk s a W' (he.below hW) (hm.below hW) hs ha.1 ha.2
  rw [decA_dec, h] at HC0
  have HC : Hid (∀ W', Below W.heap.size W W' → Calls Tryz.prog 98 #[.string s, .int .i64 a] W' fun e w' => e = .returned (.tuple #[.agg #[.int .i64 0, .string ⟨#[]⟩, .slice none 0 0, .string ⟨#[]⟩, .int .i64 0, .string ⟨#[]⟩, .slice none 0 0], .int .i64 0, .int .i64 x]) ∧ Below W'.heap.size W' w') := Lib.hid fun W' hW => (HC0 W' hW).mono fun e w' ⟨h1, h2⟩ => ⟨h1, h2⟩
  have eg := enters_of Tryz.func98 (by kernel_rfl) rfl
  clear h he hm HC0 hx
  go_enter Tryz.func97, Tryz.ntmps97
  go_upto_region 2 with (fail)
  have bR0 := hb.below kb0
  obtain ⟨W0, hW0⟩ : ∃ W0, (W.alloc (.cells #[.int .i64 0, .string ⟨#[]⟩, .slice none 0 0, .string ⟨#[]⟩, .int .i64 0, .string ⟨#[]⟩, .slice none 0 0] 109)).alloc (.cells #[.int .i64 0, .string ⟨#[]⟩, .slice none 0 0, .string ⟨#[]⟩, .int .i64 0, .string ⟨#[]⟩, .slice none 0 0] 109) = W0 := ⟨_, rfl⟩
  change Code.wp _ _ _ _ ((W.alloc (.cells #[.int .i64 0, .string ⟨#[]⟩, .slice none 0 0, .string ⟨#[]⟩, .int .i64 0, .string ⟨#[]⟩, .slice none 0 0] 109)).alloc (.cells #[.int .i64 0, .string ⟨#[]⟩, .slice none 0 0, .string ⟨#[]⟩, .int .i64 0, .string ⟨#[]⟩, .slice none 0 0] 109))
  rw [hW0] at kb0 bD bZ bR0 ⊢
  clear hW0
  have hRW := hb.lt
  unfold zeroE at bD bZ
  have r0 : W0.cell? ⟨R, 0, none⟩ = some (.string s) := bR0.cell 0
  have r1 : W0.cell? ⟨R, 1, none⟩ = some (.int .i64 a) := bR0.cell 1
  have r2 : W0.cell? ⟨R, 2, none⟩ = some (.int .i64 0) := bR0.cell 2
  go_upto_region 4 with (fail)
  have kbd : Below W.heap.size W W0.drew := below_drew0 kb0
  have bRd : Box W0.drew R [.string s, .int .i64 a, .int .i64 0] 157 := bR0
  have bDd : Box W0.drew W.heap.size [.int .i64 0, .string ⟨#[]⟩, .slice none 0 0, .string ⟨#[]⟩, .int .i64 0, .string ⟨#[]⟩, .slice none 0 0] 109 := bD
  have bZd : Box W0.drew (W.heap.size + 1) [.int .i64 0, .string ⟨#[]⟩, .slice none 0 0, .string ⟨#[]⟩, .int .i64 0, .string ⟨#[]⟩, .slice none 0 0] 109 := bZ
  obtain ⟨hbF, bF0⟩ := box1' W0 [.int .i64 0, .string ⟨#[]⟩, .slice none 0 0, .string ⟨#[]⟩, .int .i64 0, .string ⟨#[]⟩, .slice none 0 0] 109
  change Below _ _ (W0.alloc (.cells #[.int .i64 0, .string ⟨#[]⟩, .slice none 0 0, .string ⟨#[]⟩, .int .i64 0, .string ⟨#[]⟩, .slice none 0 0] 109)) at hbF
  change Box (W0.alloc (.cells #[.int .i64 0, .string ⟨#[]⟩, .slice none 0 0, .string ⟨#[]⟩, .int .i64 0, .string ⟨#[]⟩, .slice none 0 0] 109)) _ _ _ at bF0
  have kbe : Below W.heap.size W (W0.alloc (.cells #[.int .i64 0, .string ⟨#[]⟩, .slice none 0 0, .string ⟨#[]⟩, .int .i64 0, .string ⟨#[]⟩, .slice none 0 0] 109)).drew := below_drew0 (step2 kb0 hbF)
  have bRe : Box (W0.alloc (.cells #[.int .i64 0, .string ⟨#[]⟩, .slice none 0 0, .string ⟨#[]⟩, .int .i64 0, .string ⟨#[]⟩, .slice none 0 0] 109)).drew R [.string s, .int .i64 a, .int .i64 0] 157 := bR0.below (below_drew0 hbF)
  have bDe : Box (W0.alloc (.cells #[.int .i64 0, .string ⟨#[]⟩, .slice none 0 0, .string ⟨#[]⟩, .int .i64 0, .string ⟨#[]⟩, .slice none 0 0] 109)).drew W.heap.size [.int .i64 0, .string ⟨#[]⟩, .slice none 0 0, .string ⟨#[]⟩, .int .i64 0, .string ⟨#[]⟩, .slice none 0 0] 109 := bD.below (below_drew0 hbF)
  have bZe : Box (W0.alloc (.cells #[.int .i64 0, .string ⟨#[]⟩, .slice none 0 0, .string ⟨#[]⟩, .int .i64 0, .string ⟨#[]⟩, .slice none 0 0] 109)).drew (W.heap.size + 1) [.int .i64 0, .string ⟨#[]⟩, .slice none 0 0, .string ⟨#[]⟩, .int .i64 0, .string ⟨#[]⟩, .slice none 0 0] 109 := bZ.below (below_drew0 hbF)
  have bFe : Box (W0.alloc (.cells #[.int .i64 0, .string ⟨#[]⟩, .slice none 0 0, .string ⟨#[]⟩, .int .i64 0, .string ⟨#[]⟩, .slice none 0 0] 109)).drew W0.heap.size [.int .i64 0, .string ⟨#[]⟩, .slice none 0 0, .string ⟨#[]⟩, .int .i64 0, .string ⟨#[]⟩, .slice none 0 0] 109 := bF0
  have hDl := bD.lt
  have hZl := bZ.lt
  have hRl := bR0.lt
  have hne0 : W0.heap.size ≠ R := by omega
  go_cut [6, 7, 8] from 15 to 28 (fun v6 v7 v8 wc => ∃ F, v6 = .pointer (some ⟨F, 0, none⟩) ∧ W0.heap.size ≤ F ∧ v7 = .int .i64 0 ∧ v8 = .int .i64 x ∧ Box wc F [.int .i64 0, .string ⟨#[]⟩, .slice none 0 0, .string ⟨#[]⟩, .int .i64 0, .string ⟨#[]⟩, .slice none 0 0] 109 ∧ Box wc R [.string s, .int .i64 a, .int .i64 0] 157 ∧ Box wc W.heap.size [.int .i64 0, .string ⟨#[]⟩, .slice none 0 0, .string ⟨#[]⟩, .int .i64 0, .string ⟨#[]⟩, .slice none 0 0] 109 ∧ Box wc (W.heap.size + 1) [.int .i64 0, .string ⟨#[]⟩, .slice none 0 0, .string ⟨#[]⟩, .int .i64 0, .string ⟨#[]⟩, .slice none 0 0] 109 ∧ Below W.heap.size W wc)
  case first =>
    go_region_held3 (fun w => w.cell? ⟨R, 0, none⟩ = some (.string s) ∧ w.cell? ⟨R, 1, none⟩ = some (.int .i64 a))
      (first | with_reducible exact ⟨r0, r1⟩ | with_reducible exact SK | go_keep | exact ⟨Box.cell (Box.other7 bR1 hne0 (.int .i64 0) (.string ⟨#[]⟩) (.slice none 0 0) (.string ⟨#[]⟩) (.int .i64 0) (.string ⟨#[]⟩) (.slice none 0 0)) 0, Box.cell (Box.other7 bR1 hne0 (.int .i64 0) (.string ⟨#[]⟩) (.slice none 0 0) (.string ⟨#[]⟩) (.int .i64 0) (.string ⟨#[]⟩) (.slice none 0 0)) 1⟩)
      (first
        | (go_at_call 98; (with_reducible refine (HC.out _ kbd).mono ?_); rintro e w1 ⟨rfl, hb1⟩; have bR1 := bRd.below hb1; have bD1 := bDd.below hb1; have bZ1 := bZd.below hb1; have kb1 := step2 kbd hb1; have SK : w1.cell? ⟨R, 0, none⟩ = some (.string s) ∧ w1.cell? ⟨R, 1, none⟩ = some (.int .i64 a) := ⟨bR1.cell 0, bR1.cell 1⟩; have hlR := bR1.lt; have way : True := trivial)
        | (go_at_call 98; (with_reducible refine (HC.out _ kbe).mono ?_); rintro e w1 ⟨rfl, hb1⟩; have bR1 := bRe.below hb1; have bD1 := bDe.below hb1; have bZ1 := bZe.below hb1; have kb1 := step2 kbe hb1; have SK : w1.cell? ⟨R, 0, none⟩ = some (.string s) ∧ w1.cell? ⟨R, 1, none⟩ = some (.int .i64 a) := ⟨bR1.cell 0, bR1.cell 1⟩; have hlR := bR1.lt; have bF1 := bFe.below hb1; obtain ⟨f0, f1, f2, f3, f4, f5, f6⟩ := bF1.cells7; obtain ⟨g0, g1, g2, g3, g4, g5, g6⟩ := bF1.froz7))
    all_goals
      go_wp2_with fail
      go_meet
      first
        | (have hway := way
           obtain ⟨hb2, bF⟩ := box1' w1 [.int .i64 0, .string ⟨#[]⟩, .slice none 0 0, .string ⟨#[]⟩, .int .i64 0, .string ⟨#[]⟩, .slice none 0 0] 109
           exact ⟨_, rfl, hb1.size, rfl, rfl, bF, bR1.below hb2, bD1.below hb2, bZ1.below hb2, step2 kb1 hb2⟩)
        | exact ⟨_, rfl, Nat.le_refl _, rfl, rfl, bF1.set7 (.int .i64 0) (.string ⟨#[]⟩) (.slice none 0 0) (.string ⟨#[]⟩) (.int .i64 0) (.string ⟨#[]⟩) (.slice none 0 0), bR1.other7 (E := W0.heap.size) (by omega) (.int .i64 0) (.string ⟨#[]⟩) (.slice none 0 0) (.string ⟨#[]⟩) (.int .i64 0) (.string ⟨#[]⟩) (.slice none 0 0), bD1.other7 (E := W0.heap.size) (by omega) (.int .i64 0) (.string ⟨#[]⟩) (.slice none 0 0) (.string ⟨#[]⟩) (.int .i64 0) (.string ⟨#[]⟩) (.slice none 0 0), bZ1.other7 (E := W0.heap.size) (by omega) (.int .i64 0) (.string ⟨#[]⟩) (.slice none 0 0) (.string ⟨#[]⟩) (.int .i64 0) (.string ⟨#[]⟩) (.slice none 0 0), below_set7 kb1 (show W.heap.size ≤ W0.heap.size by omega) (.int .i64 0) (.string ⟨#[]⟩) (.slice none 0 0) (.string ⟨#[]⟩) (.int .i64 0) (.string ⟨#[]⟩) (.slice none 0 0)⟩
  case rest =>
  obtain ⟨F, rfl, hF, rfl, rfl, bF, bR2, bD2, bZ2, kb2⟩ := hcut
  have hFR : F ≠ R := by omega
  clear r0 r1 r2 kbd bRd bDd bZd hbF bF0 kbe bRe bDe bZe bFe bD bZ bR0 kb0 HC
  obtain ⟨W2, rfl⟩ : ∃ W2, W2 = wc := ⟨_, rfl⟩
  have r2 : W2.cell? ⟨R, 2, none⟩ = some (.int .i64 0) := bR2.cell 2
  have y2 := bR2.frozen 2
  obtain ⟨e0, e1, e2, e3, e4, e5, e6⟩ := bZ2.cells7
  obtain ⟨d0, d1, d2, d3, d4, d5, d6⟩ := bD2.cells7
  obtain ⟨z0, z1, z2, z3, z4, z5, z6⟩ := bD2.froz7
  go_wp2_with fail
  have b1 := (bD2.setOther (E' := R) (j := 2) (by omega) (.int .i64 x)).set7 (.int .i64 0) (.string ⟨#[]⟩) (.slice none 0 0) (.string ⟨#[]⟩) (.int .i64 0) (.string ⟨#[]⟩) (.slice none 0 0)
  have b2 := (bR2.set (j := 2) (.int .i64 x)).other7 (E := W.heap.size) (by omega) (.int .i64 0) (.string ⟨#[]⟩) (.slice none 0 0) (.string ⟨#[]⟩) (.int .i64 0) (.string ⟨#[]⟩) (.slice none 0 0)
  have hk := keep_high7 (keep_set (j := 2) (Keep.of_below kb2 (Nat.le_of_lt hRW)) (.int .i64 x)) (Nat.le_refl _) hRW (.int .i64 0) (.string ⟨#[]⟩) (.slice none 0 0) (.string ⟨#[]⟩) (.int .i64 0) (.string ⟨#[]⟩) (.slice none 0 0)
  exact bodyPost_ret (v := .agg #[.int .i64 0, .string ⟨#[]⟩, .slice none 0 0, .string ⟨#[]⟩, .int .i64 0, .string ⟨#[]⟩, .slice none 0 0]) (resE _ b1 rfl) rfl ⟨rfl, b2, hk⟩
set_option maxRecDepth 100000 in
set_option maxHeartbeats 2000000 in
theorem dent_walk (s : ByteArray) (R : Nat) (a b : Int) (y : En) (W : World) (hb : Box W R [.string s, .int .i64 a, .int .i64 0] 157) (h : decR s.data.toList a = .ok (y, b)) (hs : s.size ≤ 1000000) (he : Env W) (hm : HasMax W) (ha : -9223372036854775808 ≤ a ∧ a ≤ 9223372036854775807) :
    Calls Tryz.prog 97 #[.pointer (some ⟨R, 0, none⟩), .func (.func 98) #[] #[]] W fun e W' => ∃ va vx, e = .returned (enV y va vx) ∧ OwnA W.heap.size W' ⟨y, va, vx⟩ ∧ Box W' R [.string s, .int .i64 b, .int .i64 0] 157 ∧ Keep R W W' := by
  obtain ⟨kb0, bD, bZ⟩ := boxes2' W zeroE zeroE 109 109
  change Below _ _ ((W.alloc (.cells #[.int .i64 0, .string ⟨#[]⟩, .slice none 0 0, .string ⟨#[]⟩, .int .i64 0, .string ⟨#[]⟩, .slice none 0 0] 109)).alloc (.cells #[.int .i64 0, .string ⟨#[]⟩, .slice none 0 0, .string ⟨#[]⟩, .int .i64 0, .string ⟨#[]⟩, .slice none 0 0] 109)) at kb0
  change Box ((W.alloc (.cells #[.int .i64 0, .string ⟨#[]⟩, .slice none 0 0, .string ⟨#[]⟩, .int .i64 0, .string ⟨#[]⟩, .slice none 0 0] 109)).alloc (.cells #[.int .i64 0, .string ⟨#[]⟩, .slice none 0 0, .string ⟨#[]⟩, .int .i64 0, .string ⟨#[]⟩, .slice none 0 0] 109)) _ _ _ at bD bZ
  have HC0 := fun W' hW => decode_walk s a W' (he.below hW) (hm.below hW) hs ha.1 ha.2
  rw [decA_dec, h] at HC0
  have HC : Hid (∀ W', Below W.heap.size W W' → Calls Tryz.prog 98 #[.string s, .int .i64 a] W' fun e w' => ∃ a1 m1 a2 m2, e = .returned (.tuple #[.agg #[.int .i64 y.kind, .string y.path, .slice a1 y.attrs.length m1, .string y.target, .int .i64 y.size, .string y.digest, .slice a2 y.exts.length m2], .int .i64 b, .int .i64 0]) ∧ OwnG W'.heap.size 192 2 At.vals w' (.slice a1 y.attrs.length m1) y.attrs ∧ OwnG W'.heap.size 34 3 Ex.vals w' (.slice a2 y.exts.length m2) y.exts ∧ Below W'.heap.size W' w') := Lib.hid fun W' hW => (HC0 W' hW).mono fun e w' ⟨va, vx, h1, h2, h3, h4⟩ => by
    obtain ⟨a1, m1, rfl⟩ := (OwnG.row (n := 2) (f := At.vals) (d := at0) (fun _ => rfl) h2).form
    obtain ⟨a2, m2, rfl⟩ := (OwnG.row (n := 3) (f := Ex.vals) (d := ex0) (fun _ => rfl) h3).form
    exact ⟨a1, m1, a2, m2, h1, h2, h3, h4⟩
  have eg := enters_of Tryz.func98 (by kernel_rfl) rfl
  clear h he hm HC0
  go_enter Tryz.func97, Tryz.ntmps97
  go_upto_region 2 with (fail)
  have bR0 := hb.below kb0
  obtain ⟨W0, hW0⟩ : ∃ W0, (W.alloc (.cells #[.int .i64 0, .string ⟨#[]⟩, .slice none 0 0, .string ⟨#[]⟩, .int .i64 0, .string ⟨#[]⟩, .slice none 0 0] 109)).alloc (.cells #[.int .i64 0, .string ⟨#[]⟩, .slice none 0 0, .string ⟨#[]⟩, .int .i64 0, .string ⟨#[]⟩, .slice none 0 0] 109) = W0 := ⟨_, rfl⟩
  change Code.wp _ _ _ _ ((W.alloc (.cells #[.int .i64 0, .string ⟨#[]⟩, .slice none 0 0, .string ⟨#[]⟩, .int .i64 0, .string ⟨#[]⟩, .slice none 0 0] 109)).alloc (.cells #[.int .i64 0, .string ⟨#[]⟩, .slice none 0 0, .string ⟨#[]⟩, .int .i64 0, .string ⟨#[]⟩, .slice none 0 0] 109))
  rw [hW0] at kb0 bD bZ bR0 ⊢
  clear hW0
  have hRW := hb.lt
  unfold zeroE at bD bZ
  have r0 : W0.cell? ⟨R, 0, none⟩ = some (.string s) := bR0.cell 0
  have r1 : W0.cell? ⟨R, 1, none⟩ = some (.int .i64 a) := bR0.cell 1
  have r2 : W0.cell? ⟨R, 2, none⟩ = some (.int .i64 0) := bR0.cell 2
  go_upto_region 4 with (fail)
  have kbd : Below W.heap.size W W0.drew := below_drew0 kb0
  have bRd : Box W0.drew R [.string s, .int .i64 a, .int .i64 0] 157 := bR0
  have bDd : Box W0.drew W.heap.size [.int .i64 0, .string ⟨#[]⟩, .slice none 0 0, .string ⟨#[]⟩, .int .i64 0, .string ⟨#[]⟩, .slice none 0 0] 109 := bD
  have bZd : Box W0.drew (W.heap.size + 1) [.int .i64 0, .string ⟨#[]⟩, .slice none 0 0, .string ⟨#[]⟩, .int .i64 0, .string ⟨#[]⟩, .slice none 0 0] 109 := bZ
  obtain ⟨hbF, bF0⟩ := box1' W0 [.int .i64 0, .string ⟨#[]⟩, .slice none 0 0, .string ⟨#[]⟩, .int .i64 0, .string ⟨#[]⟩, .slice none 0 0] 109
  change Below _ _ (W0.alloc (.cells #[.int .i64 0, .string ⟨#[]⟩, .slice none 0 0, .string ⟨#[]⟩, .int .i64 0, .string ⟨#[]⟩, .slice none 0 0] 109)) at hbF
  change Box (W0.alloc (.cells #[.int .i64 0, .string ⟨#[]⟩, .slice none 0 0, .string ⟨#[]⟩, .int .i64 0, .string ⟨#[]⟩, .slice none 0 0] 109)) _ _ _ at bF0
  have kbe : Below W.heap.size W (W0.alloc (.cells #[.int .i64 0, .string ⟨#[]⟩, .slice none 0 0, .string ⟨#[]⟩, .int .i64 0, .string ⟨#[]⟩, .slice none 0 0] 109)).drew := below_drew0 (step2 kb0 hbF)
  have bRe : Box (W0.alloc (.cells #[.int .i64 0, .string ⟨#[]⟩, .slice none 0 0, .string ⟨#[]⟩, .int .i64 0, .string ⟨#[]⟩, .slice none 0 0] 109)).drew R [.string s, .int .i64 a, .int .i64 0] 157 := bR0.below (below_drew0 hbF)
  have bDe : Box (W0.alloc (.cells #[.int .i64 0, .string ⟨#[]⟩, .slice none 0 0, .string ⟨#[]⟩, .int .i64 0, .string ⟨#[]⟩, .slice none 0 0] 109)).drew W.heap.size [.int .i64 0, .string ⟨#[]⟩, .slice none 0 0, .string ⟨#[]⟩, .int .i64 0, .string ⟨#[]⟩, .slice none 0 0] 109 := bD.below (below_drew0 hbF)
  have bZe : Box (W0.alloc (.cells #[.int .i64 0, .string ⟨#[]⟩, .slice none 0 0, .string ⟨#[]⟩, .int .i64 0, .string ⟨#[]⟩, .slice none 0 0] 109)).drew (W.heap.size + 1) [.int .i64 0, .string ⟨#[]⟩, .slice none 0 0, .string ⟨#[]⟩, .int .i64 0, .string ⟨#[]⟩, .slice none 0 0] 109 := bZ.below (below_drew0 hbF)
  have bFe : Box (W0.alloc (.cells #[.int .i64 0, .string ⟨#[]⟩, .slice none 0 0, .string ⟨#[]⟩, .int .i64 0, .string ⟨#[]⟩, .slice none 0 0] 109)).drew W0.heap.size [.int .i64 0, .string ⟨#[]⟩, .slice none 0 0, .string ⟨#[]⟩, .int .i64 0, .string ⟨#[]⟩, .slice none 0 0] 109 := bF0
  have hDl := bD.lt
  have hZl := bZ.lt
  have hRl := bR0.lt
  have hne0 : W0.heap.size ≠ R := by omega
  go_cut [6, 7, 8] from 15 to 28 (fun v6 v7 v8 wc => ∃ F a1 m1 a2 m2, v6 = .pointer (some ⟨F, 0, none⟩) ∧ W0.heap.size ≤ F ∧ v7 = .int .i64 b ∧ v8 = .int .i64 0 ∧ Box wc F [.int .i64 y.kind, .string y.path, .slice a1 y.attrs.length m1, .string y.target, .int .i64 y.size, .string y.digest, .slice a2 y.exts.length m2] 109 ∧ Box wc R [.string s, .int .i64 a, .int .i64 0] 157 ∧ Box wc W.heap.size [.int .i64 0, .string ⟨#[]⟩, .slice none 0 0, .string ⟨#[]⟩, .int .i64 0, .string ⟨#[]⟩, .slice none 0 0] 109 ∧ Box wc (W.heap.size + 1) [.int .i64 0, .string ⟨#[]⟩, .slice none 0 0, .string ⟨#[]⟩, .int .i64 0, .string ⟨#[]⟩, .slice none 0 0] 109 ∧ Below W.heap.size W wc ∧ OwnG W0.heap.size 192 2 At.vals wc (.slice a1 y.attrs.length m1) y.attrs ∧ OwnG W0.heap.size 34 3 Ex.vals wc (.slice a2 y.exts.length m2) y.exts)
  case first =>
    go_region_held3 (fun w => w.cell? ⟨R, 0, none⟩ = some (.string s) ∧ w.cell? ⟨R, 1, none⟩ = some (.int .i64 a))
      (first | with_reducible exact ⟨r0, r1⟩ | with_reducible exact SK | go_keep | exact ⟨Box.cell (Box.other7 bR1 hne0 (.int .i64 y.kind) (.string y.path) (.slice a1 y.attrs.length m1) (.string y.target) (.int .i64 y.size) (.string y.digest) (.slice a2 y.exts.length m2)) 0, Box.cell (Box.other7 bR1 hne0 (.int .i64 y.kind) (.string y.path) (.slice a1 y.attrs.length m1) (.string y.target) (.int .i64 y.size) (.string y.digest) (.slice a2 y.exts.length m2)) 1⟩)
      (first
        | (go_at_call 98; (with_reducible refine (HC.out _ kbd).mono ?_); rintro e w1 ⟨a1, m1, a2, m2, rfl, hA, hX, hb1⟩; have bR1 := bRd.below hb1; have bD1 := bDd.below hb1; have bZ1 := bZd.below hb1; have kb1 := step2 kbd hb1; have SK : w1.cell? ⟨R, 0, none⟩ = some (.string s) ∧ w1.cell? ⟨R, 1, none⟩ = some (.int .i64 a) := ⟨bR1.cell 0, bR1.cell 1⟩; have hlR := bR1.lt; have way : True := trivial)
        | (go_at_call 98; (with_reducible refine (HC.out _ kbe).mono ?_); rintro e w1 ⟨a1, m1, a2, m2, rfl, hA, hX, hb1⟩; have bR1 := bRe.below hb1; have bD1 := bDe.below hb1; have bZ1 := bZe.below hb1; have kb1 := step2 kbe hb1; have SK : w1.cell? ⟨R, 0, none⟩ = some (.string s) ∧ w1.cell? ⟨R, 1, none⟩ = some (.int .i64 a) := ⟨bR1.cell 0, bR1.cell 1⟩; have hlR := bR1.lt; have bF1 := bFe.below hb1; obtain ⟨f0, f1, f2, f3, f4, f5, f6⟩ := bF1.cells7; obtain ⟨g0, g1, g2, g3, g4, g5, g6⟩ := bF1.froz7))
    all_goals
      go_wp2_with fail
      go_meet
      first
        | (have hway := way
           obtain ⟨hb2, bF⟩ := box1' w1 [.int .i64 y.kind, .string y.path, .slice a1 y.attrs.length m1, .string y.target, .int .i64 y.size, .string y.digest, .slice a2 y.exts.length m2] 109
           exact ⟨_, _, _, _, _, rfl, hb1.size, rfl, rfl, bF, bR1.below hb2, bD1.below hb2, bZ1.below hb2, step2 kb1 hb2, owns_below hA hb2, owns_below hX hb2⟩)
        | exact ⟨_, _, _, _, _, rfl, Nat.le_refl _, rfl, rfl, bF1.set7 (.int .i64 y.kind) (.string y.path) (.slice a1 y.attrs.length m1) (.string y.target) (.int .i64 y.size) (.string y.digest) (.slice a2 y.exts.length m2), bR1.other7 (E := W0.heap.size) (by omega) (.int .i64 y.kind) (.string y.path) (.slice a1 y.attrs.length m1) (.string y.target) (.int .i64 y.size) (.string y.digest) (.slice a2 y.exts.length m2), bD1.other7 (E := W0.heap.size) (by omega) (.int .i64 y.kind) (.string y.path) (.slice a1 y.attrs.length m1) (.string y.target) (.int .i64 y.size) (.string y.digest) (.slice a2 y.exts.length m2), bZ1.other7 (E := W0.heap.size) (by omega) (.int .i64 y.kind) (.string y.path) (.slice a1 y.attrs.length m1) (.string y.target) (.int .i64 y.size) (.string y.digest) (.slice a2 y.exts.length m2), below_set7 kb1 (show W.heap.size ≤ W0.heap.size by omega) (.int .i64 y.kind) (.string y.path) (.slice a1 y.attrs.length m1) (.string y.target) (.int .i64 y.size) (.string y.digest) (.slice a2 y.exts.length m2), owns_mono (owns_low7 hA (by simp) (.int .i64 y.kind) (.string y.path) (.slice a1 y.attrs.length m1) (.string y.target) (.int .i64 y.size) (.string y.digest) (.slice a2 y.exts.length m2)) (by simp), owns_mono (owns_low7 hX (by simp) (.int .i64 y.kind) (.string y.path) (.slice a1 y.attrs.length m1) (.string y.target) (.int .i64 y.size) (.string y.digest) (.slice a2 y.exts.length m2)) (by simp)⟩
  case rest =>
  obtain ⟨F, a1, m1, a2, m2, rfl, hF, rfl, rfl, bF, bR2, bD2, bZ2, kb2, oA, oX⟩ := hcut
  have hFR : F ≠ R := by omega
  clear r0 r1 r2 kbd bRd bDd bZd hbF bF0 kbe bRe bDe bZe bFe bD bZ bR0 kb0 HC
  obtain ⟨W2, rfl⟩ : ∃ W2, W2 = wc := ⟨_, rfl⟩
  have hDd : W.heap.size < W0.heap.size := hDl
  have r1 : W2.cell? ⟨R, 1, none⟩ = some (.int .i64 a) := bR2.cell 1
  have y1 := bR2.frozen 1
  obtain ⟨f0, f1, f2, f3, f4, f5, f6⟩ := bF.cells7
  obtain ⟨d0, d1, d2, d3, d4, d5, d6⟩ := bD2.cells7
  obtain ⟨z0, z1, z2, z3, z4, z5, z6⟩ := bD2.froz7
  go_wp2_with fail
  have b1 := (bD2.setOther (E' := R) (j := 1) (by omega) (.int .i64 b)).set7 (.int .i64 y.kind) (.string y.path) (.slice a1 y.attrs.length m1) (.string y.target) (.int .i64 y.size) (.string y.digest) (.slice a2 y.exts.length m2)
  have b2 := (bR2.set (j := 1) (.int .i64 b)).other7 (E := W.heap.size) (by omega) (.int .i64 y.kind) (.string y.path) (.slice a1 y.attrs.length m1) (.string y.target) (.int .i64 y.size) (.string y.digest) (.slice a2 y.exts.length m2)
  have hk := keep_high7 (keep_set (j := 1) (Keep.of_below kb2 (Nat.le_of_lt hRW)) (.int .i64 b)) (Nat.le_refl _) hRW (.int .i64 y.kind) (.string y.path) (.slice a1 y.attrs.length m1) (.string y.target) (.int .i64 y.size) (.string y.digest) (.slice a2 y.exts.length m2)
  have qA := owns_mono (owns_low7 (owns_setLow (E := R) (j := 1) oA (by omega) (.int .i64 b)) hDd (.int .i64 y.kind) (.string y.path) (.slice a1 y.attrs.length m1) (.string y.target) (.int .i64 y.size) (.string y.digest) (.slice a2 y.exts.length m2)) (Nat.le_of_lt hDd)
  have qX := owns_mono (owns_low7 (owns_setLow (E := R) (j := 1) oX (by omega) (.int .i64 b)) hDd (.int .i64 y.kind) (.string y.path) (.slice a1 y.attrs.length m1) (.string y.target) (.int .i64 y.size) (.string y.digest) (.slice a2 y.exts.length m2)) (Nat.le_of_lt hDd)
  exact bodyPost_ret (v := .agg #[.int .i64 y.kind, .string y.path, .slice a1 y.attrs.length m1, .string y.target, .int .i64 y.size, .string y.digest, .slice a2 y.exts.length m2]) (resE _ b1 rfl) rfl ⟨_, _, rfl, ⟨qA, qX⟩, b2, hk⟩
theorem dent_any (s : ByteArray) (R : Nat) (st : Except Int Int) (W : World) (hr : RS 157 W R s st) (hs : s.size ≤ 1000000) (he : Env W) (hm : HasMax W) (hst : ∀ a, st = .ok a → -9223372036854775808 ≤ a ∧ a ≤ 9223372036854775807) :
    Calls Tryz.prog 97 #[.pointer (some ⟨R, 0, none⟩), .func (.func 98) #[] #[]] W (EntS 157 (st >>= decR s.data.toList) s R W) := by
  cases st with
  | error x =>
    obtain ⟨hx, a, hb⟩ := hr
    exact (dent_stop s R a x W hb hx).mono fun e w' ⟨e1, e2, e3⟩ => ⟨_, _, e1, ⟨World.ownsRow_nil _ _ _ _, World.ownsRow_nil _ _ _ _⟩, ⟨hx, a, e2⟩, e3⟩
  | ok a =>
    show Calls _ _ _ _ (EntS 157 (decR s.data.toList a) s R W)
    rcases h : decR s.data.toList a with x | ⟨y, b⟩
    · exact (dent_bad s R a x W hr h hs he hm (hst a rfl)).mono fun e w' ⟨e1, e2, e3⟩ => ⟨_, _, e1, ⟨World.ownsRow_nil _ _ _ _, World.ownsRow_nil _ _ _ _⟩, ⟨nz_decR _ _ _ h, a, e2⟩, e3⟩
    · exact (dent_walk s R a b y W hr h hs he hm (hst a rfl)).mono fun e w' ⟨va, vx, e1, e2, e3, e4⟩ => ⟨va, vx, e1, e2, e3, e4⟩
end Go.Proofs.YtpkapcijgldhhaaGreatDoor
