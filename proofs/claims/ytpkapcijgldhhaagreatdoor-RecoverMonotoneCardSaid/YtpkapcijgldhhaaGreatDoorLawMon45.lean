/-
  Chapter 45: the law of additional frames, walked out of the contracts.
-/
import Derived.Test.YtpkapcijgldhhaaGreatDoorStmRow
import Derived.Test.YtpkapcijgldhhaaGreatDoorCe45
import Derived.Test.YtpkapcijgldhhaaGreatDoorCe33
namespace Go.Proofs.YtpkapcijgldhhaaGreatDoor
open Go.RowKit Go.Shelf
def selA (L : List Bool) (i : Nat) : Bool := decide (i < L.length) && L.getD i false
def selO (K L : List Bool) (i : Nat) : Bool := selA K i || selA L i
theorem selA_out {L : List Bool} {i : Nat} (h : ¬ i < L.length) : selA L i = false := by unfold selA; rw [decide_eq_false h]; rfl
theorem selA_in {L : List Bool} {i : Nat} (h : i < L.length) : selA L i = L.getD i false := by unfold selA; rw [decide_eq_true h]; rfl
/-- the two collections between two rounds -/
structure MonI (w w7 : World) (C0 : Nat) (W : World) (u v : Value) (A B : List Fr) : Prop where
  bel : Below w.heap.size w W
  size : w7.heap.size ≤ W.heap.size
  same : ∀ j, j < w7.heap.size → j ≠ C0 → j ≠ C0 + 1 → W.heap[j]? = w7.heap[j]?
  b0 : Box W C0 [.int .u32 1, u] 25
  b1 : Box W (C0 + 1) [.int .u32 1, v] 25
  o0 : OwnG w7.heap.size 46 9 Fr.vals W u A
  o1 : OwnG w7.heap.size 46 9 Fr.vals W v B
  ap : ∀ q, u.ownBlock = some q → v.ownBlock = some q → False
theorem MonI.go {w w7 : World} {C0 : Nat} {W W' : World} {u v : Value} {A B : List Fr} (h : MonI w w7 C0 W u v A B) (hb : Below W.heap.size W W') : MonI w w7 C0 W' u v A B :=
  ⟨step2 h.bel hb, Nat.le_trans h.size hb.size, fun j h1 h2 h3 => (hb.block j (Nat.lt_of_lt_of_le h1 h.size)).trans (h.same j h1 h2 h3), h.b0.below hb, h.b1.below hb, owns_below h.o0 hb, owns_below h.o1 hb, h.ap⟩
theorem MonI.app0 {w w7 : World} {C0 : Nat} {W W' : World} {u v u' : Value} {A B : List Fr} {f : Fr} (h : MonI w w7 C0 W u v A B) (hC : C0 + 1 < w7.heap.size) (hw : w.heap.size ≤ C0) (ha : App w7.heap.size C0 W W' u u' A f) : MonI w w7 C0 W' u' v (A ++ [f]) B :=
  ⟨h.bel.trans (ha.bel _ hw (by omega)), Nat.le_trans h.size ha.size, fun j h1 h2 h3 => (ha.keep j (Nat.lt_of_lt_of_le h1 h.size) h2 (fun e => by have := (h.o0.lt j e.symm).1; omega)).trans (h.same j h1 h2 h3), ha.bx, ha.box h.b1 (by omega) (fun e => by have := (h.o0.lt _ e.symm).1; omega), ha.ow, ha.row h.o1 (fun e => by have := (h.o1.lt _ e.symm).1; omega) (fun q h1 h2 => h.ap q h2 h1), ha.apart h.o1 h.ap⟩
theorem MonI.app1 {w w7 : World} {C0 : Nat} {W W' : World} {u v v' : Value} {A B : List Fr} {f : Fr} (h : MonI w w7 C0 W u v A B) (hC : C0 + 1 < w7.heap.size) (hw : w.heap.size ≤ C0) (ha : App w7.heap.size (C0 + 1) W W' v v' B f) : MonI w w7 C0 W' u v' A (B ++ [f]) :=
  ⟨h.bel.trans (ha.bel _ (by omega) (by omega)), Nat.le_trans h.size ha.size, fun j h1 h2 h3 => (ha.keep j (Nat.lt_of_lt_of_le h1 h.size) h3 (fun e => by have := (h.o1.lt j e.symm).1; omega)).trans (h.same j h1 h2 h3), ha.box h.b0 (by omega) (fun e => by have := (h.o1.lt _ e.symm).1; omega), ha.bx, ha.row h.o0 (fun e => by have := (h.o0.lt _ e.symm).1; omega) (fun q h1 h2 => h.ap q h1 h2), ha.ow, fun q h1 h2 => ha.apart h.o0 (fun q h1 h2 => h.ap q h2 h1) q h2 h1⟩
set_option maxRecDepth 100000 in
set_option maxHeartbeats 4000000 in
theorem lawMon45_any (d sp : Int) (t : ByteArray) (v0 v1 : Value) (K0 K1 : List Bool) (w : World) (he : Env w) (hm : HasMax w) (hk0 : Row w v0 (K0.map Value.bool)) (hk1 : Row w v1 (K1.map Value.bool)) :
    Calls Tryz.prog 10 #[.agg #[.int .i64 d, .int .i64 sp], .string t, .agg #[v0, v1]] w (TrueP w) := by
  have HA := Lib.hid (show ∀ W, Below w.heap.size w W → _ from fun W hW => alive45_any W (he.below hW) (hm.below hW))
  have HC := Lib.hid (fun W => check16_any d sp W)
  have HB := Lib.hid (show ∀ (W : World) (v : Value) (F : List Fr), FrRow W v F → SmallF F → LayWf F → ∀ b : Int, wf64 b → Calls _ _ _ _ _ from fun W v F hr hs hl b hb => (block_any 1 v F 3 b W hr hs hl hb).mono fun _ _ h => h.form)
  clear he hm
  obtain ⟨k0a, k0c, rfl, _, _, hr0⟩ := hk0
  obtain ⟨k1a, k1c, rfl, _, _, hr1⟩ := hk1
  simp only [List.length_map] at *
  obtain ⟨k1, b1⟩ := boxr w [.int .i64 d, .int .i64 sp] 39
  obtain ⟨k2, b2⟩ := boxr (w.alloc (.cells [.int .i64 d, .int .i64 sp].toArray 39)) [.slice k0a K0.length k0c, .slice k1a K1.length k1c] 69
  have kb := step2 k1 k2
  replace b1 := b1.below k2
  rw [World.size_alloc] at b2
  clear k1 k2
  go_enter Tryz.func10, Tryz.ntmps10
  go_upto_region 1 with (fail)
  change Code.wp _ _ _ _ ((w.alloc (.cells [.int .i64 d, .int .i64 sp].toArray 39)).alloc (.cells [.slice k0a K0.length k0c, .slice k1a K1.length k1c].toArray 69))
  generalize (w.alloc (.cells [.int .i64 d, .int .i64 sp].toArray 39)).alloc (.cells [.slice k0a K0.length k0c, .slice k1a K1.length k1c].toArray 69) = W0 at *
  go_wp2_with fail
  refine (HA.out _ kb).mono ?_
  rintro e w1 ⟨rfl, hb1⟩
  replace kb := step2 kb hb1
  replace b1 := b1.below hb1
  replace b2 := b2.below hb1
  clear HA hb1
  obtain ⟨l0, l1⟩ := b1.cells2
  go_wp2_with fail
  refine (HC.out _).mono ?_
  rintro e w2 ⟨cx, rfl, hcx, hb2⟩
  replace kb := step2 kb hb2
  replace b1 := b1.below hb2
  replace b2 := b2.below hb2
  clear HC hb2 l0 l1
  rcases hcx.out with ⟨rfl, d1, d2, d3, d4⟩ | rfl
  case inr =>
    clear HB hcx
    go_wp2_with fail
    go_ret
    exact ⟨rfl, kb⟩
  clear hcx
  by_cases hl : 400 < t.size
  · clear HB
    go_wp2_with fail
    go_ret
    exact ⟨rfl, kb⟩
  obtain ⟨d, rfl⟩ := Int.eq_ofNat_of_zero_le (show 0 ≤ d by omega)
  obtain ⟨sp, rfl⟩ := Int.eq_ofNat_of_zero_le d3
  have hlw : w.heap.size + 1 < w2.heap.size := b2.lt
  obtain ⟨k3, b3⟩ := boxr w2 [.int .u32 1, .slice none 0 0] 25
  obtain ⟨k4, b4⟩ := boxr (w2.alloc (.cells [.int .u32 1, .slice none 0 0].toArray 25)) [.int .u32 1, .slice none 0 0] 25
  go_upto_region 5 with (fail)
  go_upto_region 6 with (fail)
  change Code.wp _ _ _ _ ((w2.alloc (.cells [.int .u32 1, .slice none 0 0].toArray 25)).alloc (.cells [.int .u32 1, .slice none 0 0].toArray 25))
  replace kb := step2 kb (step2 k3 k4)
  have hC1 : w2.heap.size + 1 = (w2.alloc (.cells [.int .u32 1, .slice none 0 0].toArray 25)).heap.size := (World.size_alloc _ _).symm
  replace b1 := (b1.below k3).below k4
  replace b2 := (b2.below k3).below k4
  replace b3 := b3.below k4
  rw [World.size_alloc] at b4
  clear k3 k4 hC1
  generalize (w2.alloc (.cells [.int .u32 1, .slice none 0 0].toArray 25)).alloc (.cells [.int .u32 1, .slice none 0 0].toArray 25) = w3 at *
  generalize w2.heap.size = C0 at *
  obtain ⟨l0, l1⟩ := b1.cells2
  have HF := Lib.hid (framesR_any 3 d sp t w3 (by omega) (by omega) (by omega))
  go_wp2_with fail
  refine HF.out.mono ?_
  rintro e w7 ⟨va, rfl, hown, hb7⟩
  have hz3 : C0 + 1 < w3.heap.size := b4.lt
  have hz7 := hb7.size
  replace kb := step2 kb hb7
  replace b1 := b1.below hb7
  replace b2 := b2.below hb7
  replace b3 := b3.below hb7
  replace b4 := b4.below hb7
  clear HF l0 l1 hb7
  have hGl := (nStr_bound (d := d) (sp := sp) (l := t.size) (by omega) (by omega) (by omega) (by omega)).1
  rw [← frL_len d sp t.data.toList 3] at hGl
  obtain ⟨G, hG⟩ : ∃ G, frL d sp t.data.toList 3 (nStr d t.size) = G := ⟨_, rfl⟩
  have HG := Lib.hid hG
  rw [hG] at hown hGl
  clear hG
  have hown' : OwnG w3.heap.size 46 9 Fr.vals w7 va G := hown
  obtain ⟨fa, fc, rfl, hfr⟩ := ownFr_form hown'
  clear hown hown'
  have hI0 : MonI w w7 C0 w7 (.slice none 0 0) (.slice none 0 0) (selF (selA K0) G 0) (selF (selO K0 K1) G 0) := ⟨kb, Nat.le_refl _, fun _ _ _ _ => rfl, b3, b4, World.ownsRow_nil _ _ _ _, World.ownsRow_nil _ _ _ _, fun q h => by cases h⟩
  clear b3 b4
  go_wp2_with fail
  go_loopw [9, 10, 11, 12, 34] (fun _ _ _ _ i W => ∃ (k : Nat) (u v : Value), k ≤ G.length ∧ i = .int .i64 k ∧ MonI w w7 C0 W u v (selF (selA K0) G k) (selF (selO K0 K1) G k)) (fun _ _ _ _ i _ => G.length - (intOf i).toNat)
  case atStart => exact ⟨0, _, _, Nat.zero_le _, rfl, hI0⟩
  case round =>
    clear hI0 kb
    obtain ⟨k, u, v, hk, rfl, hI⟩ := hrel
    by_cases hlt : k < G.length
    · obtain ⟨g, rfl, hg6, hg7, hF⟩ := hfr (by omega)
      have hFr := frAt_same hF (hI.same g hg7 (by omega) (by omega))
      obtain ⟨q0, q1, q2, q3, q4, q5, q6, q7, q8⟩ := frCells hFr (i := k) hlt
      rw [Nat.zero_add] at q0 q1 q2 q3 q4 q5 q6 q7 q8
      have hix : (0 : Int) ≤ (k : Int) ∧ (k : Int) < (G.length : Int) := by omega
      obtain ⟨kF, bF⟩ := boxr wr (frAt G k).vals 46
      have hlow0 : ∀ q, u.ownBlock = some q → q < wr.heap.size := fun q hq => (hI.o0.lt q hq).2
      have hlow1 : ∀ q, v.ownBlock = some q → q < wr.heap.size := fun q hq => (hI.o1.lt q hq).2
      have hCw := hI.b1.lt
      replace hI := hI.go kF
      go_upto_region 8 with (fail)
      go_upto_region 9 with (fail)
      change Code.wp _ _ _ _ (wr.alloc (.cells (frAt G k).vals.toArray 46))
      have hWF : wr.heap.size < (wr.alloc (.cells (frAt G k).vals.toArray 46)).heap.size := bF.lt
      have hFB := hI.size
      generalize wr.alloc (.cells (frAt G k).vals.toArray 46) = W1 at *
      generalize wr.heap.size = FB at *
      have b2' : Box W1 (w.heap.size + 1) [.slice k0a K0.length k0c, .slice k1a K1.length k1c] 69 := (hI.same _ b2.lt (by omega) (by omega)).trans b2
      obtain ⟨e0, e1⟩ := b2'.cells2
      have hc0 : k < K0.length → ∃ g o, k0a = some ⟨g, o, none⟩ ∧ W1.cell? ⟨g, o + k, none⟩ = some (.bool (selA K0 k)) := fun h1 => by
        rcases hr0 with ⟨hke, _⟩ | ⟨g, o, rfl, hcell⟩
        · exfalso; have : K0.length = 0 := by rw [← List.length_map (f := Value.bool), hke]; rfl
          omega
        · have hc := hcell k (.bool (K0.getD k false)) (by rw [List.getElem?_map, List.getElem?_eq_getElem h1, List.getD_eq_getElem?_getD, List.getElem?_eq_getElem h1]; rfl)
          exact ⟨g, o, rfl, by rw [selA_in h1]; exact (hI.bel.cell (p := ⟨g, o + k, none⟩) (World.block_lt_of_cell? w _ hc)).trans hc⟩
      have hc1 : k < K1.length → ∃ g o, k1a = some ⟨g, o, none⟩ ∧ W1.cell? ⟨g, o + k, none⟩ = some (.bool (selA K1 k)) := fun h1 => by
        rcases hr1 with ⟨hke, _⟩ | ⟨g, o, rfl, hcell⟩
        · exfalso; have : K1.length = 0 := by rw [← List.length_map (f := Value.bool), hke]; rfl
          omega
        · have hc := hcell k (.bool (K1.getD k false)) (by rw [List.getElem?_map, List.getElem?_eq_getElem h1, List.getD_eq_getElem?_getD, List.getElem?_eq_getElem h1]; rfl)
          exact ⟨g, o, rfl, by rw [selA_in h1]; exact (hI.bel.cell (p := ⟨g, o + k, none⟩) (World.block_lt_of_cell? w _ hc)).trans hc⟩
      have hs0 : selA K0 k = false → selF (selA K0) G (k + 1) = selF (selA K0) G k := selF_no
      have hs0' : selA K0 k = true → selF (selA K0) G (k + 1) = selF (selA K0) G k ++ [frAt G k] := selF_yes
      have hs1 : selA K0 k = false → selA K1 k = false → selF (selO K0 K1) G (k + 1) = selF (selO K0 K1) G k := fun h1 h2 => selF_no (by unfold selO; rw [h1, h2]; rfl)
      have hs1' : selA K0 k = true ∨ selA K1 k = true → selF (selO K0 K1) G (k + 1) = selF (selO K0 K1) G k ++ [frAt G k] := fun h => selF_yes (by unfold selO; rcases h with h | h <;> rw [h] <;> simp)
      have Hs0 := Lib.hid hs0
      have Hs0' := Lib.hid hs0'
      have Hs1 := Lib.hid hs1
      have Hs1' := Lib.hid hs1'
      have hlA := selF_len (selA K0) G k
      have hlB := selF_len (selO K0 K1) G k
      have HI := Lib.hid hI
      clear hs0 hs0' hs1 hs1' hI kF hFr hF q0 q1 q2 q3 q4 q5 q6 q7 q8 b2'
      obtain ⟨c0, hc0e⟩ : ∃ c, selA K0 k = c := ⟨_, rfl⟩
      obtain ⟨c1, hc1e⟩ : ∃ c, selA K1 k = c := ⟨_, rfl⟩
      rw [hc0e] at hc0 Hs0 Hs0' Hs1 Hs1'
      rw [hc1e] at hc1 Hs1 Hs1'
      have Hc0e := Lib.hid hc0e
      have Hc1e := Lib.hid hc1e
      clear hc0e hc1e
      go_cut [11, 12] from 39 to 62 (fun x y wc => x = .bool c0 ∧ y = .bool c1 ∧ Below W1.heap.size W1 wc)
      case first =>
        by_cases h1 : k < K0.length
        · obtain ⟨g0, o0, rfl, hc0⟩ := hc0 h1
          have h1' : (k : Int) < (K0.length : Int) := by omega
          by_cases h2 : k < K1.length
          · obtain ⟨g1, o1, rfl, hc1⟩ := hc1 h2
            have h2' : (k : Int) < (K1.length : Int) := by omega
            go_quiet (fail)
            go_wp2_with fail
            go_meet
            case rel => exact ⟨rfl, rfl, below_drewN (below_refl _) _⟩
          · have hf1 := Lib.hid (Hc1e.out.symm.trans (selA_out h2))
            clear hc1
            go_quiet (fail)
            go_wp2_with fail
            go_meet
            case rel => exact ⟨rfl, by rw [hf1.out], below_drewN (below_refl _) _⟩
        · have hf0 := Lib.hid (Hc0e.out.symm.trans (selA_out h1))
          clear hc0
          by_cases h2 : k < K1.length
          · obtain ⟨g1, o1, rfl, hc1⟩ := hc1 h2
            have h2' : (k : Int) < (K1.length : Int) := by omega
            go_quiet (fail)
            go_wp2_with fail
            go_meet
            case rel => exact ⟨by rw [hf0.out], rfl, below_drewN (below_refl _) _⟩
          · have hf1 := Lib.hid (Hc1e.out.symm.trans (selA_out h2))
            clear hc1
            go_quiet (fail)
            go_wp2_with fail
            go_meet
            case rel => exact ⟨by rw [hf0.out], by rw [hf1.out], below_drewN (below_refl _) _⟩
      case rest =>
        obtain ⟨rfl, rfl, hbc⟩ := hcut
        replace HI := Lib.hid (HI.out.go hbc)
        replace bF := bF.below hbc
        have hWF2 := hbc.size
        clear e0 e1 hc0 hc1 hbc
        obtain ⟨z0, z1, z2, z3, z4, z5, z6, z7, z8⟩ := bF.cells9
        obtain ⟨i0, hi, hzz0, hzz1, hzz2⟩ := info_parts infoFr
        obtain ⟨FD, hfd⟩ : ∃ FD, frAt G k = FD := ⟨_, rfl⟩
        rw [hfd] at Hs0' Hs1' z0 z1 z2 z3 z4 z5 z6 z7 z8 bF
        clear hfd
        go_upto_if 63 with (fail)
        go_cut [11] from 63 to 69 (fun x W => ∃ u' : Value, x = .bool c0 ∧ MonI w w7 C0 W u' v (selF (selA K0) G (k + 1)) (selF (selO K0 K1) G k) ∧ Box W FB FD.vals 46)
        case first =>
          cases c0 with
          | false =>
            have hq := HI.out
            rw [← Hs0.out rfl] at hq
            have HQ := Lib.hid hq
            clear hq z0 z1 z2 z3 z4 z5 z6 z7 z8
            go_wp2_with fail
            go_meet
            case rel => exact ⟨u, rfl, HQ.out, bF⟩
          | true =>
            obtain ⟨y0, y1⟩ := HI.out.b0.cells2
            have ho := HI.out.o0
            go_wp2_with (at_builtin; refine wpList_append_own_at _ rfl _ _ 23 rfl w7.heap.size 46 i0 (.agg #[.int .i64 0, .int .i64 0, .int .i64 0, .int .i64 0, .int .i64 0, .int .i64 0, .int .i64 0, .int .u32 0, .string ⟨#[]⟩]) 9 80 Tryz.underlying23 hi hzz0 hzz1 hzz2 rfl (by decide) _ _ _ rfl (World.ownsRow.alloc ho _) ⟨wc.heap.size, 0, none⟩ 1 1 (Fr.vals FD) rfl rfl ?c1 ?c2 ?c3 ?c4 ?c5 ?_)
            case c1 => exact fun j u hu => by first | exact hu | (rw [Addr.add_mid, Nat.zero_add]; exact ((Box.new wc FD.vals 46).cell j).trans hu)
            case c2 => exact one9 FD
            case c3 => unfold maxLen; omega
            case c4 => omega
            case c5 => have := HI.out.size; first | omega | (simp; omega)
            intro v6 w6 hown6 hg6 _ hat6
            have hC0 : some C0 ≠ u.ownBlock := fun e => by have := (HI.out.o0.lt _ e.symm).1; omega
            have bC6 := app_pre (f := FD) hC0 HI.out.b0 HI.out.o0 hg6
            have hApp := app_mk (f := FD) hC0 HI.out.size HI.out.b0 HI.out.o0 hown6 hg6 hat6
            have HM := Lib.hid (HI.out.app0 (by omega) (by omega) hApp)
            have bF6 := hApp.box bF (by omega) (fun e => by have := hlow0 _ e.symm; omega)
            obtain ⟨oa6, oc6, rfl⟩ := own_form hown6
            obtain ⟨r0, r1⟩ := bC6.cells2
            obtain ⟨g0, g1⟩ := bC6.froz2
            rw [← Hs0'.out trivial] at HM
            clear hApp hown6 hg6 hat6 bC6 z0 z1 z2 z3 z4 z5 z6 z7 z8 y0 y1 ho
            go_wp2_with fail
            go_meet
            case rel => exact ⟨_, rfl, HM.out, bF6⟩
        case rest =>
          obtain ⟨u', rfl, hI2, bF2⟩ := hcut
          clear bF HI Hs0 Hs0' Hc0e hlow0
          go_upto_region 12 with (fail)
          go_cut [73] from 70 to 73 (fun x W => x = .bool (c0 || c1) ∧ wc = W)
          case first =>
            cases c0 with
            | false =>
              go_wp2_with fail
              go_meet
              case rel => exact ⟨rfl, rfl⟩
            | true =>
              go_wp2_with fail
              go_meet
              case rel => exact ⟨rfl, rfl⟩
          case rest =>
            obtain ⟨rfl, rfl⟩ := hcut
            cases hcb : (c0 || c1) with
            | false =>
              have hs : selF (selO K0 K1) G (k + 1) = selF (selO K0 K1) G k := by
                rw [Bool.or_eq_false_iff] at hcb
                obtain ⟨rfl, rfl⟩ := hcb
                exact Hs1.out rfl rfl
              rw [← hs] at hI2
              have HI2 := Lib.hid hI2
              clear hI2 hs Hs1 Hs1' Hc1e hcb z0 z1 z2 z3 z4 z5 z6 z7 z8
              go_wp2_with fail
              go_roundw
              case rel => exact ⟨k + 1, _, _, by omega, by go_num, HI2.out⟩
              case measure => simp [intOf]; omega
            | true =>
              have hs : selF (selO K0 K1) G (k + 1) = selF (selO K0 K1) G k ++ [FD] := Hs1'.out (by rwa [Bool.or_eq_true] at hcb)
              have HS := Lib.hid hs
              have HI2 := Lib.hid hI2
              have ho := hI2.o1
              have hsz := hI2.size
              obtain ⟨y0, y1⟩ := hI2.b1.cells2
              obtain ⟨z0, z1, z2, z3, z4, z5, z6, z7, z8⟩ := bF2.cells9
              clear hI2 hs Hs1 Hs1' Hc1e hcb
              go_wp2_with (at_builtin; refine wpList_append_own_at _ rfl _ _ 23 rfl w7.heap.size 46 i0 (.agg #[.int .i64 0, .int .i64 0, .int .i64 0, .int .i64 0, .int .i64 0, .int .i64 0, .int .i64 0, .int .u32 0, .string ⟨#[]⟩]) 9 80 Tryz.underlying23 hi hzz0 hzz1 hzz2 rfl (by decide) _ _ _ rfl (World.ownsRow.alloc ho _) ⟨wc.heap.size, 0, none⟩ 1 1 (Fr.vals FD) rfl rfl ?c1 ?c2 ?c3 ?c4 ?c5 ?_)
              case c1 => exact fun j u hu => by first | exact hu | (rw [Addr.add_mid, Nat.zero_add]; exact ((Box.new wc FD.vals 46).cell j).trans hu)
              case c2 => exact one9 FD
              case c3 => unfold maxLen; omega
              case c4 => omega
              case c5 => have := hsz; first | omega | (simp; omega)
              intro v6 w6 hown6 hg6 _ hat6
              have hC0 : some (C0 + 1) ≠ v.ownBlock := fun e => by have := (HI2.out.o1.lt _ e.symm).1; omega
              have bC6 := app_pre (f := FD) hC0 HI2.out.b1 HI2.out.o1 hg6
              have hApp := app_mk (f := FD) hC0 HI2.out.size HI2.out.b1 HI2.out.o1 hown6 hg6 hat6
              have HM := Lib.hid (HI2.out.app1 (by omega) (by omega) hApp)
              obtain ⟨oa6, oc6, rfl⟩ := own_form hown6
              obtain ⟨r0, r1⟩ := bC6.cells2
              obtain ⟨g0, g1⟩ := bC6.froz2
              rw [← HS.out] at HM
              clear hApp hown6 hg6 hat6 bC6 z0 z1 z2 z3 z4 z5 z6 z7 z8 y0 y1 ho
              go_wp2_with fail
              go_roundw
              case rel => exact ⟨k + 1, _, _, by omega, by go_num, HM.out⟩
              case measure => simp [intOf]; omega
    · obtain rfl : k = G.length := by omega
      have hmA : ∀ f ∈ selF (selA K0) G G.length, f ∈ frL d sp t.data.toList 3 (nStr d t.size) := fun f hf => by rw [HG.out]; exact selF_mem (Nat.le_refl _) f hf
      have hmB : ∀ f ∈ selF (selO K0 K1) G G.length, f ∈ frL d sp t.data.toList 3 (nStr d t.size) := fun f hf => by rw [HG.out]; exact selF_mem (Nat.le_refl _) f hf
      have hAB : ∀ f ∈ selF (selA K0) G G.length, f ∈ selF (selO K0 K1) G G.length := selF_mono (fun i h => by unfold selO; rw [h]; rfl) _
      have hlA := selF_len (selA K0) G G.length
      have hlB := selF_len (selO K0 K1) G G.length
      generalize selF (selA K0) G G.length = A at *
      generalize selF (selO K0 K1) G G.length = B at *
      have HX := Lib.hid (show ∀ b : Nat, b ≤ 65535 → erE (blkR A 3 b) = 0 → erE (blkR B 3 b) = 0 ∧ erS (blkR A 3 b) = erS (blkR B 3 b) from fun b hb h0 => by
        rcases hx : blkR A 3 b with x | s
        · rw [hx] at h0; exact absurd h0 (blk_nz hx)
        · rw [blk_mono hAB hmB (by omega) (by omega) (by omega) hb hx]; exact ⟨rfl, rfl⟩)
      have HBA := Lib.hid (show ∀ (W : World) (x : Value), OwnG w7.heap.size 46 9 Fr.vals W x A → ∀ b : Nat, b ≤ 65535 → Calls _ _ _ _ _ from fun W x h b hb => HB.out W x A (OwnG.row (n := 9) (f := Fr.vals) (d := fr0) (fun _ => rfl) h) (small_of hmA (by omega)) (layWf_of (by omega) (by omega) hmA) b (by unfold wf64; omega))
      have HBB := Lib.hid (show ∀ (W : World) (x : Value), OwnG w7.heap.size 46 9 Fr.vals W x B → ∀ b : Nat, b ≤ 65535 → Calls _ _ _ _ _ from fun W x h b hb => HB.out W x B (OwnG.row (n := 9) (f := Fr.vals) (d := fr0) (fun _ => rfl) h) (small_of hmB (by omega)) (layWf_of (by omega) (by omega) hmB) b (by unfold wf64; omega))
      clear hmA hmB hAB hlA hlB HB hr0 hr1 hfr HG hGl
      have HI := Lib.hid hI
      clear hI
      go_wp2_with fail
      go_loopw [13, 14, 15, 16, 17] (fun vb _ _ _ _ W => ∃ b : Nat, 28 * b ≤ t.size + 27 ∧ vb = .int .i64 b ∧ MonI w w7 C0 W u v A B) (fun vb _ _ _ _ _ => t.size + 28 - 28 * (intOf vb).toNat)
      case atStart => exact ⟨0, by omega, rfl, HI.out⟩
      case round =>
        clear HI
        obtain ⟨b, hb, rfl, hI⟩ := hrel
        by_cases hlt : 28 * b < t.size
        · have hbi : 28 * (b : Int) < (t.size : Int) := by omega
          have hx := HX.out b (by omega)
          have HC1 := Lib.hid (fun W (h : MonI w w7 C0 W u v A B) => HBA.out W u h.o0 b (by omega))
          have HC2 := Lib.hid (fun W (h : MonI w w7 C0 W u v A B) => HBB.out W v h.o1 b (by omega))
          generalize erE (blkR A 3 b) = ea at *
          generalize erE (blkR B 3 b) = eb at *
          generalize erS (blkR A 3 b) = sa at *
          generalize erS (blkR B 3 b) = sb at *
          obtain ⟨c0, c1⟩ := hI.b0.cells2
          obtain ⟨na, ha⟩ := own_form hI.o0
          obtain ⟨ca, rfl⟩ := ha
          obtain ⟨nb, hb'⟩ := own_form hI.o1
          obtain ⟨cb, rfl⟩ := hb'
          have HI := Lib.hid hI
          clear hI
          go_wp2_with fail
          refine (HC1.out _ HI.out).mono ?_
          rintro e w8 ⟨rfl, hb8⟩
          replace HI := Lib.hid (HI.out.go hb8)
          obtain ⟨g0, g1⟩ := HI.out.b1.cells2
          clear HC1 hb8 c0 c1
          go_wp2_with fail
          refine (HC2.out _ HI.out).mono ?_
          rintro e w9 ⟨rfl, hb9⟩
          replace HI := Lib.hid (HI.out.go hb9)
          clear HC2 hb9 g0 g1
          by_cases he : ea = 0
          · obtain ⟨rfl, rfl⟩ := hx he
            subst he
            go_wp2_with fail
            go_roundw
            case rel => exact ⟨b + 1, by omega, by go_num, HI.out⟩
            case measure => simp [intOf]; omega
          · obtain ⟨y1, y2⟩ := neq0 he
            clear hx
            go_wp2_with fail
            go_roundw
            case rel => exact ⟨b + 1, by omega, by go_num, HI.out⟩
            case measure => simp [intOf]; omega
        · have hbi : ¬ 28 * (b : Int) < (t.size : Int) := by omega
          have kb := hI.bel
          clear hI
          go_wp2_with fail
          go_ret
          exact ⟨rfl, kb⟩
theorem lawMon45_card (d sp : Int) (t : ByteArray) (v0 v1 : Value) (K0 K1 : List Bool) (w : World) (he : Env w) (hm : HasMax w) (_ : -9223372036854775808 ≤ d ∧ d ≤ 9223372036854775807) (_ : -9223372036854775808 ≤ sp ∧ sp ≤ 9223372036854775807) (_ : t.size ≤ 140737488355328) (hk0 : Row w v0 (K0.map Value.bool)) (hk1 : Row w v1 (K1.map Value.bool)) :
    Calls Tryz.prog 10 #[.agg #[.int .i64 d, .int .i64 sp], .string t, .agg #[v0, v1]] w (TrueP w) :=
  lawMon45_any d sp t v0 v1 K0 K1 w he hm hk0 hk1
end Go.Proofs.YtpkapcijgldhhaaGreatDoor
