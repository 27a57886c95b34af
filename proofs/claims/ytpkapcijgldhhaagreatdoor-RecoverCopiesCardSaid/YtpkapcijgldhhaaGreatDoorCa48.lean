/-
  Chapter 45: the law of copies, walked out of the contracts. Under way.
-/
import Derived.Test.YtpkapcijgldhhaaGreatDoorCa41
import Derived.Test.YtpkapcijgldhhaaGreatDoorCa47
namespace Go.Proofs.YtpkapcijgldhhaaGreatDoor
open Go.RowKit Go.Shelf
/-- a row of frames of the call's own -/
theorem ownFr_form {base : Nat} {w : World} {v : Value} {F : List Fr} (h : OwnG base 46 9 Fr.vals w v F) : ∃ a c, v = .slice a F.length c ∧ (0 < F.length → ∃ g, a = some ⟨g, 0, none⟩ ∧ base ≤ g ∧ g < w.heap.size ∧ FrAt w g 0 F) := by
  have hr := OwnG.row (n := 9) (f := Fr.vals) (d := fr0) (fun _ => rfl) h
  rcases h.2 with ⟨rfl, h0⟩ | ⟨g, cap, cur, rfl, hb, hg, _⟩
  · exact ⟨none, 0, by rw [h0], fun hp => absurd hp (by omega)⟩
  · refine ⟨_, cap, rfl, fun hp => ⟨g, rfl, hb, (Array.getElem?_eq_some_iff.1 hg).1, ?_⟩⟩
    rcases hr.2 with ⟨he, _⟩ | ⟨_, b, o, c, hv, _, _, _, hF⟩
    · rw [he] at hp; cases hp
    · cases hv; exact hF
theorem frAt_same {w w' : World} {b o : Nat} {F : List Fr} (h : FrAt w b o F) (he : w'.heap[b]? = w.heap[b]?) : FrAt w' b o F := fun i hi j v hv => (World.cell?_of_block (a := ⟨b, o + i * 9 + j, none⟩) he).trans (h i hi j v hv)
theorem ownsMap_at {W W' : World} {b n : Nat} {D : DataW Unit} {P : Program} {k : TypeId} {R : Value → Option (DataW Unit × List MemPlace)} (h : W.ownsMap P k R b n D) (hb : W'.heap[b]? = W.heap[b]?) : W'.ownsMap P k R b n D := by
  obtain ⟨es, clock, hh, r⟩ := h
  exact ⟨es, clock, hb.trans hh, r⟩
theorem grown_set (W : World) (a : Addr) (v : Value) : W.grownBy (W.setCell a v) (some a.block) := ⟨rfl, rfl, rfl, (KeepsOthers.setCell W a v).size, fun k _ hk => Below.heap_setCell _ _ _ k (fun e => hk (by rw [e]))⟩
set_option maxRecDepth 100000 in
set_option maxHeartbeats 8000000 in
theorem lawCop45_any (s : Se) (a : Option Addr) (c : Nat) (d sp : Int) (kv : Value) (KL : List Bool) (w : World) (he : Env w) (hm : HasMax w) (hr : EnRow w (.slice a s.entries.length c) s.entries) (ok : SeBig s) (wf : SeWf s) (hk : Row w kv (KL.map Value.bool)) :
    Calls Tryz.prog 7 #[.agg #[.int .i64 s.number, .int .i64 s.date, .string s.prev, .slice a s.entries.length c, .string s.stream, .string s.sl], .agg #[.int .i64 d, .int .i64 sp], kv] w (TrueP w) := by
  have HA := Lib.hid (show ∀ W, Below w.heap.size w W → _ from fun W hW => alive45_any W (he.below hW) (hm.below hW))
  have HE := Lib.hid (show ∀ W, Below w.heap.size w W → _ from fun W hW => rencode_big s a c W ok (hr.below hW))
  have HG := Lib.hid (show ∀ W, Below w.heap.size w W → _ from fun W hW => sgreat_any s a c W wf (hr.below hW))
  have HC := Lib.hid (fun W => check16_any d sp W)
  have HD := Lib.hid (show ∀ W, Below w.heap.size w W → ∀ (F : List Fr) (v : Value), FrRow W v F → SmallF F → _ from fun W hW F v hF hs => directory_any 1 v F s.number ⟨#[]⟩ W (he.below hW) (hm.below hW) hF hs)
  have HT := Lib.hid (show sgnE s = 0 → (if sgnE s = 0 then textL s else []) = textL s from fun h => if_pos h)
  have HDec := Lib.hid (show sgnE s = 0 → ∃ x : De, dirR (textL s) = .ok x ∧ x.number = s.number from fun h => ⟨_, dir_round h, rfl⟩)
  clear he hm hr ok wf
  generalize (if sgnE s = 0 then textL s else []) = L at *
  generalize textL s = TL at *
  generalize sgnE s = se at *
  generalize s.number = n at *
  generalize s.date = dt at *
  generalize s.prev = pv at *
  generalize s.stream = st at *
  generalize s.sl = sl at *
  generalize s.entries.length = N at *
  obtain ⟨kb0, bX0⟩ := boxr w [.int .i64 n, .int .i64 dt, .string pv, .slice a N c, .string st, .string sl] 53
  obtain ⟨kb1, bL0⟩ := boxr (w.alloc (.cells [.int .i64 n, .int .i64 dt, .string pv, .slice a N c, .string st, .string sl].toArray 53)) [.int .i64 d, .int .i64 sp] 39
  replace bX0 := bX0.below kb1
  replace kb0 := step2 kb0 kb1
  clear kb1
  rw [World.size_alloc] at bL0
  go_enter Tryz.func7, Tryz.ntmps7
  go_upto_region 1 with (fail)
  obtain ⟨W0, hW0⟩ : ∃ W0, (w.alloc (.cells [.int .i64 n, .int .i64 dt, .string pv, .slice a N c, .string st, .string sl].toArray 53)).alloc (.cells [.int .i64 d, .int .i64 sp].toArray 39) = W0 := ⟨_, rfl⟩
  change Code.wp _ _ _ _ ((w.alloc (.cells [.int .i64 n, .int .i64 dt, .string pv, .slice a N c, .string st, .string sl].toArray 53)).alloc (.cells [.int .i64 d, .int .i64 sp].toArray 39))
  rw [hW0] at kb0 bX0 bL0 ⊢
  clear hW0
  go_wp2_with fail
  refine (HA.out _ kb0).mono ?_
  rintro e w1 ⟨rfl, hb1⟩
  have k1 := step2 kb0 hb1
  have bX1 := bX0.below hb1
  have bL1 := bL0.below hb1
  obtain ⟨x0, x1, x2, x3, x4, x5⟩ := bX1.cells6
  clear HA kb0 bX0 bL0 hb1
  go_wp2_with fail
  refine (HE.out _ k1).mono ?_
  rintro e w2 ⟨t, rfl, ht, hb2⟩
  have k2 := step2 k1 hb2
  have bX2 := bX1.below hb2
  have bL2 := bL1.below hb2
  clear HE k1 bX1 bL1 hb2 x0 x1 x2 x3 x4 x5
  by_cases hse : se = 0
  case neg =>
    obtain ⟨y1, y2⟩ := neq0 hse
    clear HC HD HG HT HDec ht
    go_wp2_with fail
    go_ret
    exact ⟨rfl, k2⟩
  subst hse
  replace HT := HT.out rfl
  replace HDec := HDec.out rfl
  rw [HT] at ht
  clear HT
  obtain ⟨l0, l1⟩ := bL2.cells2
  go_wp2_with fail
  refine (HC.out _).mono ?_
  rintro e w3 ⟨cx, rfl, hcx, hb3⟩
  have k3 := step2 k2 hb3
  have bX3 := bX2.below hb3
  have bL3 := bL2.below hb3
  clear HC k2 bX2 bL2 hb3 l0 l1
  rcases hcx.out with ⟨rfl, d1, d2, d3, d4⟩ | rfl
  case inr =>
    clear HD HG HDec ht hcx
    go_wp2_with fail
    go_ret
    exact ⟨rfl, k3⟩
  clear hcx
  obtain ⟨x0, x1, x2, x3, x4, x5⟩ := bX3.cells6
  go_wp2_with fail
  refine (HG.out _ k3).mono ?_
  rintro e w4 ⟨g, rfl, hg, _, hb4⟩
  have k4 := step2 k3 hb4
  have bX4 := bX3.below hb4
  have bL4 := bL3.below hb4
  clear HG k3 bX3 bL3 hb4 x0 x1 x2 x3 x4 x5
  rcases hg.out with rfl | rfl
  case inr =>
    clear HD HDec ht hg
    go_wp2_with fail
    go_ret
    exact ⟨rfl, k4⟩
  clear hg
  by_cases hl : 700 < t.size
  · clear HD HDec ht
    go_wp2_with fail
    go_ret
    exact ⟨rfl, k4⟩
  obtain ⟨d, rfl⟩ := Int.eq_ofNat_of_zero_le (show 0 ≤ d by omega)
  obtain ⟨sp, rfl⟩ := Int.eq_ofNat_of_zero_le d3
  obtain ⟨kC, bC⟩ := boxr w4 [.int .u32 1, .slice none 0 0] 25
  go_upto_region 6 with (fail)
  go_upto_region 7 with (fail)
  obtain ⟨W5, hW5⟩ : ∃ W5, w4.alloc (.cells [.int .u32 1, .slice none 0 0].toArray 25) = W5 := ⟨_, rfl⟩
  change Code.wp _ _ _ _ (w4.alloc (.cells [.int .u32 1, .slice none 0 0].toArray 25))
  rw [hW5] at kC bC ⊢
  have hzC : W5.heap.size = w4.heap.size + 1 := by rw [← hW5, World.size_alloc]
  clear hW5
  have hmm := @run_makeMap Tryz.prog
  have hm0 := World.ownsMap_made W5 Tryz.prog 3 (plainElem (H := Unit) Tryz.prog 4)
  have kM : Below W5.heap.size W5 (W5.alloc (.map #[] 0)) := (Below.refl _ _).alloc (Nat.le_refl _) _
  go_upto_region 8 with (fail)
  obtain ⟨W6, hW6⟩ : ∃ W6, W5.alloc (.map #[] 0) = W6 := ⟨_, rfl⟩
  rw [hW6]
  rw [hW6] at hm0 kM
  clear hW6 hmm
  have k6 := step2 k4 (step2 kC kM)
  have bX6 := bX4.below (step2 kC kM)
  have bL6 := bL4.below (step2 kC kM)
  have bC6 := bC.below kM
  have hzA := bX4.lt
  have hzL := bL4.lt
  clear kC kM k4 bX4 bL4 bC
  rw [hzC] at hm0
  clear hzC
  generalize w4.heap.size = C0 at *
  obtain ⟨x0, x1, x2, x3, x4, x5⟩ := bX6.cells6
  obtain ⟨l0, l1⟩ := bL6.cells2
  have HDr := Lib.hid (dirs45_any n d sp t W6 (by omega) (by omega) (by omega))
  go_wp2_with fail
  refine HDr.out.mono ?_
  rintro e w7 ⟨fv, rfl, hown, hb7⟩
  have k7 := step2 k6 hb7
  have bX7 := bX6.below hb7
  have bL7 := bL6.below hb7
  have bC7 := bC6.below hb7
  have hm7 := hm0.kept (grown_of_below hb7) (fun e => by cases e)
  have hm7z : C0 + 2 ≤ W6.heap.size := hm0.lt
  clear HDr k6 bX6 bL6 bC6 hm0 x0 x1 x2 x3 x4 x5 l0 l1
  obtain ⟨fa, fc, rfl, hfr⟩ := ownFr_form hown
  have hz6 : C0 + 2 ≤ W6.heap.size := hm7z
  have hz7 := hb7.size
  obtain ⟨ka, kc, rfl, _, _, hkr⟩ := hk
  simp only [List.length_map]
  have hgl : (framesN n d sp t.data.toList (d + sp)).length ≤ 1000 := by
    have hc : cntP t.data.toList.length ≤ 40 := by show cntP t.size ≤ 40; unfold cntP; omega
    have h1 : (d + sp) * cntP t.data.toList.length ≤ 15 * 40 := Nat.mul_le_mul (by omega) hc
    rw [framesN_len]; omega
  clear hb7
  obtain ⟨G, hG⟩ : ∃ G, framesN n d sp t.data.toList (d + sp) = G := ⟨_, rfl⟩
  have HGe := Lib.hid hG
  rw [hG] at hown hfr hgl
  rw [hG]
  clear hG hown
  go_wp2_with fail
  go_loopw [11, 12, 47] (fun _ _ i wr => ∃ (k : Nat) (cv : Value) (m : Nat), k ≤ G.length ∧ i = .int .i64 k ∧ Below w.heap.size w wr ∧ w7.heap.size ≤ wr.heap.size ∧ Hid (∀ j, j < w7.heap.size → j ≠ C0 → j ≠ C0 + 1 → wr.heap[j]? = w7.heap[j]?) ∧ Box wr C0 [.int .u32 1, cv] 25 ∧
    wr.ownsMap Tryz.prog 3 (plainElem (H := Unit) Tryz.prog 4) (C0 + 1) m (setI (keptF KL G k)) ∧ m ≤ k ∧ OwnG w7.heap.size 46 9 Fr.vals wr cv (keptF KL G k)) (fun _ _ i _ => G.length - (intOf i).toNat)
  case atStart => exact ⟨0, .slice none 0 0, 0, by omega, rfl, k7, Nat.le_refl _, fun _ _ _ _ => rfl, bC7, hm7, Nat.le_refl _, World.ownsRow_nil _ _ _ _⟩
  case round =>
    clear hm7 bC7 k7
    obtain ⟨k, cv, m, hk, rfl, kb, hzr, hsame, bC, hmp, hmk, ho⟩ := hrel
    by_cases hlt : k < G.length
    · obtain ⟨g, rfl, hg6, hg7, hF⟩ := hfr (by omega)
      have hFr := frAt_same hF (hsame.out g hg7 (by omega) (by omega))
      obtain ⟨q0, q1, q2, q3, q4, q5, q6, q7, q8⟩ := frCells hFr (i := k) hlt
      rw [Nat.zero_add] at q0 q1 q2 q3 q4 q5 q6 q7 q8
      have hix : (0 : Int) ≤ (k : Int) ∧ (k : Int) < (G.length : Int) := by omega
      obtain ⟨kF, bF⟩ := boxr wr (frAt G k).vals 46
      have k1 := step2 kb kF
      have bC1 := bC.below kF
      have hm1 := hmp.kept (grown_of_below kF) (fun e => by cases e)
      have ho1 := owns_below ho kF
      have hs1 : Hid (∀ j, j < w7.heap.size → j ≠ C0 → j ≠ C0 + 1 → (wr.alloc (.cells (frAt G k).vals.toArray 46)).heap[j]? = w7.heap[j]?) := fun j h1 h2 h3 => (kF.block j (by omega)).trans (hsame.out j h1 h2 h3)
      have hz1 := Nat.le_trans hzr kF.size
      have hlow : ∀ q, cv.ownBlock = some q → q < wr.heap.size := fun q hq => (World.ownsRow.lt ho q hq).2
      go_upto_region 10 with (fail)
      go_upto_region 11 with (fail)
      change Code.wp _ _ _ _ (wr.alloc (.cells (frAt G k).vals.toArray 46))
      have hWF : wr.heap.size < (wr.alloc (.cells (frAt G k).vals.toArray 46)).heap.size := bF.lt
      generalize wr.alloc (.cells (frAt G k).vals.toArray 46) = W1 at *
      generalize wr.heap.size = FB at *
      clear kF bC hmp ho hsame kb hFr hF q0 q1 q2 q3 q4 q5 q6 q7 q8
      go_cut [61] from 52 to 61 (fun v wc => v = .bool (keepB KL k) ∧ W1 = wc)
      case first =>
        by_cases h1 : KL.length ≤ k
        · have hb : Hid (keepB KL k = true) := by rw [Hid, keepB, decide_eq_true h1]; rfl
          go_wp2_with fail
          go_meet
          case rel => exact ⟨by rw [hb.out], rfl⟩
        · rcases hkr with ⟨hke, _⟩ | ⟨kbk, kof, rfl, hcell⟩
          · exfalso; have : KL.length = 0 := by rw [← List.length_map (f := Value.bool), hke]; rfl
            omega
          have hc0 := hcell k (.bool (KL.getD k false)) (by rw [List.getElem?_map, List.getElem?_eq_getElem (by omega), List.getD_eq_getElem?_getD, List.getElem?_eq_getElem (by omega)]; rfl)
          have hc1 := (k1.cell (p := ⟨kbk, kof + k, none⟩) (World.block_lt_of_cell? w _ hc0)).trans hc0
          have hb : Hid (keepB KL k = KL.getD k false) := by rw [Hid, keepB, decide_eq_false h1]; rfl
          have hkx : (k : Int) < (KL.length : Int) := by omega
          go_wp2_with fail
          go_meet
          case rel => exact ⟨by rw [hb.out, List.getD_eq_getElem?_getD], rfl⟩
      case rest =>
        obtain ⟨rfl, rfl⟩ := hcut
        cases hkb : keepB KL k with
        | false =>
          have hs := Lib.hid (keptF_no (G := G) hkb)
          clear hkb
          go_wp2_with fail
          go_roundw
          case rel => exact ⟨k + 1, cv, m, by omega, by go_num, k1, hz1, hs1, bC1, by rw [hs.out]; exact hm1, by omega, by rw [hs.out]; exact ho1⟩
          case measure => simp [intOf]; omega
        | true =>
          have hs := Lib.hid (keptF_yes (G := G) hkb)
          obtain ⟨z0, z1, z2, z3, z4, z5, z6, z7, z8⟩ := bF.cells9
          obtain ⟨c0, c1⟩ := bC1.cells2
          obtain ⟨i0, hi, hzz0, hzz1, hzz2⟩ := info_parts infoFr
          have hlk := keptF_len KL G k
          have hX7 := bX7.lt
          have hFD := Lib.hid (show ∃ FD, frAt G k = FD from ⟨_, rfl⟩)
          clear hkb
          generalize hfd : frAt G k = FD at *
          have Hfd := Lib.hid hfd; clear hfd hFD
          go_wp2_with (at_builtin; refine wpList_append_own _ rfl _ _ 23 rfl w7.heap.size 46 i0 (.agg #[.int .i64 0, .int .i64 0, .int .i64 0, .int .i64 0, .int .i64 0, .int .i64 0, .int .i64 0, .int .u32 0, .string ⟨#[]⟩]) 9 80 Tryz.underlying23 hi hzz0 hzz1 hzz2 rfl (by decide) _ _ _ rfl (World.ownsRow.alloc ho1 _) ⟨W1.heap.size, 0, none⟩ 1 1 (Fr.vals FD) rfl rfl ?c1 ?c2 ?c3 ?c4 ?c5 ?_)
          case c1 => exact fun j u hu => by rw [Addr.add_mid, Nat.zero_add]; exact ((Box.new W1 FD.vals 46).cell j).trans hu
          case c2 => exact one9 FD
          case c3 => unfold maxLen; omega
          case c4 => omega
          case c5 => simp; omega
          intro v6 w6 hown6 hgrow6 _
          have ka : Below W1.heap.size W1 (W1.alloc (.cells FD.vals.toArray 46)) := (Below.refl _ _).alloc (Nat.le_refl _) _
          have kb6 : Below w7.heap.size W1 w6 := below_grownBy (ka.mono hz1) (World.ownsRow.alloc ho1 _) hgrow6 (Nat.le_trans hz1 ka.size)
          have k6 := k1.trans (kb6.mono (by omega))
          have bC6 := bC1.below' kb6 (by omega)
          have hm6 := ownsMap_at hm1 (kb6.block (C0 + 1) (by omega))
          have bF6 : Box w6 FB FD.vals 46 := (hgrow6.block FB (Nat.lt_of_lt_of_le hWF ka.size) (fun e => by have := hlow FB e.symm; omega)).trans ((ka.block FB hWF).trans bF)
          have hs6 : Hid (∀ j, j < w7.heap.size → j ≠ C0 → j ≠ C0 + 1 → w6.heap[j]? = w7.heap[j]?) := fun j h1 h2 h3 => (kb6.block j h1).trans (hs1.out j h1 h2 h3)
          have ho6 : OwnG w7.heap.size 46 9 Fr.vals w6 v6 (keptF KL G (k + 1)) := by
            rw [hs.out]
            unfold OwnG
            rw [List.length_append, List.flatMap_append]
            simpa using hown6
          obtain ⟨oa6, oc6, rfl⟩ := own_form ho6
          have hz6' := Nat.le_trans hz1 kb6.size
          have e1 : w6.cell? ⟨C0, 1, none⟩ = some cv := bC6.cell 1
          have f1 : w6.frozen? ⟨C0, 1, none⟩ = false := bC6.frozen 1
          clear ka hown6 hgrow6 k1 bC1 hm1 bF hs1 ho1 z0 z1 z2 z3 z4 z5 z6 z7 z8 c0 c1 hi hzz0 hzz1 hzz2 hlow hWF hz1 kb6
          go_upto_region 13 with (fail)
          have bC7' := bC6.set (j := 1) (.slice oa6 (keptF KL G (k + 1)).length oc6)
          change Box (w6.setCell ⟨C0, 1, none⟩ (.slice oa6 (keptF KL G (k + 1)).length oc6)) C0 [.int .u32 1, .slice oa6 (keptF KL G (k + 1)).length oc6] 25 at bC7'
          have hgs := grown_set w6 ⟨C0, 1, none⟩ (.slice oa6 (keptF KL G (k + 1)).length oc6)
          have hm7' := hm6.kept hgs (fun e => by injection e with e; exact absurd e (by show ¬ C0 + 1 = C0; omega))
          have bF7 := bF6.setOther (E' := C0) (j := 1) (by omega) (.slice oa6 (keptF KL G (k + 1)).length oc6)
          have k7' : Below w.heap.size w (w6.setCell ⟨C0, 1, none⟩ (.slice oa6 (keptF KL G (k + 1)).length oc6)) := k6.setCell (p := ⟨C0, 1, none⟩) (by show w.heap.size ≤ C0; omega) _
          have hs7 : Hid (∀ j, j < w7.heap.size → j ≠ C0 → j ≠ C0 + 1 → (w6.setCell ⟨C0, 1, none⟩ (.slice oa6 (keptF KL G (k + 1)).length oc6)).heap[j]? = w7.heap[j]?) := fun j h1 h2 h3 => (hgs.block j (by omega) (fun e => by injection e with e; exact h2 e)).trans (hs6.out j h1 h2 h3)
          have ho7 : OwnG w7.heap.size 46 9 Fr.vals (w6.setCell ⟨C0, 1, none⟩ (.slice oa6 (keptF KL G (k + 1)).length oc6)) (.slice oa6 (keptF KL G (k + 1)).length oc6) (keptF KL G (k + 1)) := by
            refine ⟨ho6.1, ho6.2.imp id ?_⟩
            rintro ⟨g', cap', cur', e1, e2, hh, r⟩
            exact ⟨g', cap', cur', e1, e2, (hgs.block g' (Array.getElem?_eq_some_iff.1 hh).1 (fun e => by injection e with e; have e : g' = C0 := e; omega)).trans hh, r⟩
          have hz7' : w7.heap.size ≤ (w6.setCell ⟨C0, 1, none⟩ (.slice oa6 (keptF KL G (k + 1)).length oc6)).heap.size := Nat.le_trans hz6' hgs.size
          generalize w6.setCell ⟨C0, 1, none⟩ (.slice oa6 (keptF KL G (k + 1)).length oc6) = W7 at *
          have ix3 : W7.cell? ⟨FB, 3, none⟩ = some (.int .i64 FD.index) := bF7.cell 3
          clear hgs bC6 hm6 bF6 k6 hs6 ho6 e1 f1 hz6' bF7
          have hidx : ∃ j : Nat, j ≤ 1000 ∧ FD.index = (j : Int) := by
            have hmem : FD ∈ framesN n d sp t.data.toList (d + sp) := by rw [HGe.out, ← Hfd.out, frAt_get hlt]; exact List.getElem_mem _
            obtain ⟨r, i, _, h2, rfl⟩ := framesN_mem hmem
            exact ⟨i, by have : cntP t.data.toList.length ≤ 40 := (by show cntP t.size ≤ 40; unfold cntP; omega); omega, rfl⟩
          obtain ⟨jx, hjx, hje⟩ := hidx
          have hwf : (Lit.int .i64 FD.index).wf = true := by
            rw [hje]; simp only [Lit.wf, Bool.and_eq_true, decide_eq_true_eq]
            exact ⟨Int.le_trans (by decide : IntKind.i64.min ≤ 0) (by omega), Int.le_trans (by omega : (jx : Int) ≤ 1000) (by decide)⟩
          have hkey := Maps.keyOf_int_mk Tryz.underlying3 hwf
          clear hje hjx hwf
          go_wp2_with ((at_mapUpdate; refine wpList_mapUpdate_own _ rfl _ _ _ 56 rfl 3 4 (Maps.int_keyed Tryz.underlying3) Tryz.underlying56 _ (C0 + 1) m _ rfl hm7' (by unfold maxLen; omega) _ _ _ rfl rfl hkey _ [] (plainElem_bool Tryz.underlying4 true) ?_; intro w9 hown9 hgrow9))
          have hC7 := bC7'.lt
          have bC9 : Box w9 C0 [.int .u32 1, .slice oa6 (keptF KL G (k + 1)).length oc6] 25 := (hgrow9.block C0 hC7 (fun e => by injection e with e; omega)).trans bC7'
          have hm9 : w9.ownsMap Tryz.prog 3 (plainElem (H := Unit) Tryz.prog 4) (C0 + 1) (m + 1) (setI (keptF KL G (k + 1))) := by rw [hs.out, setI_snoc]; exact hown9
          have k9 : Below w.heap.size w w9 := k7'.grown hgrow9 k7'.size (fun q e => by injection e with e; omega)
          have hs9 : Hid (∀ j, j < w7.heap.size → j ≠ C0 → j ≠ C0 + 1 → w9.heap[j]? = w7.heap[j]?) := fun j h1 h2 h3 => (hgrow9.block j (by omega) (fun e => by injection e with e; exact h3 e)).trans (hs7.out j h1 h2 h3)
          have ho9 : OwnG w7.heap.size 46 9 Fr.vals w9 (.slice oa6 (keptF KL G (k + 1)).length oc6) (keptF KL G (k + 1)) := by
            refine ⟨ho7.1, ho7.2.imp id ?_⟩
            rintro ⟨g', cap', cur', e1, e2, hh, r⟩
            exact ⟨g', cap', cur', e1, e2, (hgrow9.block g' (Array.getElem?_eq_some_iff.1 hh).1 (fun e => by injection e with e; omega)).trans hh, r⟩
          have hz9 := Nat.le_trans hz7' hgrow9.size
          clear hown9 hgrow9 hm7' bC7' k7' hs7 ho7 hz7' hkey ix3
          go_wp2_with fail
          go_roundw
          case rel => exact ⟨k + 1, _, m + 1, by omega, by go_num, k9, hz9, hs9, bC9, hm9, by omega, ho9⟩
          case measure => simp [intOf]; omega
    · obtain rfl : k = G.length := by omega
      obtain ⟨x, hx, hxn⟩ := HDec
      have hFm : ∀ f ∈ keptF KL G G.length, f ∈ framesN n d sp t.data.toList (d + sp) := fun f hf => by rw [HGe.out]; exact keptF_mem (Nat.le_refl _) f hf
      have hR : d + sp ≤ 15 := by omega
      have hsm : SmallF (keptF KL G G.length) := framesN_small hR (by show t.size ≤ 1000; omega) hFm (by rw [HGe.out]; exact keptF_len KL G G.length)
      have hrow : FrRow wr cv (keptF KL G G.length) := OwnG.row (n := 9) (f := Fr.vals) (d := fr0) (fun _ => rfl) ho
      have hszI := setI_size (K := cntP t.data.toList.length) (keptF KL G G.length) (fun f hf => by
        obtain ⟨r, i, _, h2, rfl⟩ := framesN_mem (hFm f hf)
        exact ⟨i, h2, rfl⟩)
      rw [← ht.out] at hx
      have HALL := Lib.hid (fun h => copies_all hR hFm hx hxn h)
      have HLOST := Lib.hid (fun h => copies_lost (n := n) hR hFm hx h)
      have HDW := Lib.hid (HD.out wr kb (keptF KL G G.length) cv hrow hsm)
      have bXr : Box wr w.heap.size [.int .i64 n, .int .i64 dt, .string pv, .slice a N c, .string st, .string sl] 53 := (hsame.out _ bX7.lt (by omega) (by omega)).trans bX7
      obtain ⟨e0, e1⟩ := bC.cells2
      obtain ⟨x0, _, _, _, _, _⟩ := bXr.cells6
      generalize keptF KL G G.length = F at *
      clear hsame hrow hsm hFm hx hxn ho hfr hkr bXr bX7 bL7 HD HGe
      go_wp2_with fail
      refine HDW.out.mono ?_
      rintro e w8 ⟨rfl, hb8⟩
      have k8 := step2 kb hb8
      have hm8 := hmp.kept (grown_of_below hb8) (fun e => by cases e)
      have hln := hm8.len Tryz.underlying56 3
      have HPt := Lib.hid (rparts_any t w8 (by omega))
      clear HDW hmp hb8 e0 e1 x0 kb
      rw [hszI] at hln
      clear hszI hm8
      have hK : cntP t.data.toList.length = cntP t.size := rfl
      have hpl : (partsB t).length = cntP t.size := by unfold partsB; rw [partsK_length]
      rw [hK] at hln HALL HLOST
      by_cases hall : leftN F (cntP t.size) = cntP t.size
      · rw [HALL.out hall]
        dsimp only [dirS, dirE]
        rw [bA'_of]
        rw [hall] at hln
        clear HALL HLOST hall hK
        generalize cntP t.size = K at *
        go_wp2_with fail
        refine HPt.out.mono ?_
        rintro e w9 ⟨pv2, rfl, hown9, hb9⟩
        have k9 := step2 k8 hb9
        obtain ⟨pa, pc, rfl⟩ := own_form hown9
        rw [hpl]
        have y0 : (t.toList == t.toList) = true := by simp
        clear hown9 hpl hln HPt hb9 k8
        go_wp2_with fail
        go_ret
        exact ⟨rfl, k9⟩
      · rw [HLOST.out hall]
        dsimp only [dirS, dirE]
        have y : (((leftN F (cntP t.size) : Nat) : Int) == ((cntP t.size : Nat) : Int)) = false := by rw [beq_eq_false_iff_ne]; omega
        clear HALL HLOST hall hK
        generalize leftN F (cntP t.size) = q at *
        generalize cntP t.size = K at *
        go_wp2_with fail
        refine HPt.out.mono ?_
        rintro e w9 ⟨pv2, rfl, hown9, hb9⟩
        have k9 := step2 k8 hb9
        obtain ⟨pa, pc, rfl⟩ := own_form hown9
        rw [hpl]
        clear hown9 hpl hln HPt hb9 k8
        go_wp2_with fail
        go_ret
        exact ⟨rfl, k9⟩
theorem lawCop45_card (s : Se) (a : Option Addr) (c : Nat) (d sp : Int) (kv : Value) (KL : List Bool) (w : World) (he : Env w) (hm : HasMax w) (hr : EnRow w (.slice a s.entries.length c) s.entries) (ok : SeBig s) (wf : SeWf s)
    (_ : -9223372036854775808 ≤ d ∧ d ≤ 9223372036854775807) (_ : -9223372036854775808 ≤ sp ∧ sp ≤ 9223372036854775807) (hk : Row w kv (KL.map Value.bool)) :
    Calls Tryz.prog 7 #[.agg #[.int .i64 s.number, .int .i64 s.date, .string s.prev, .slice a s.entries.length c, .string s.stream, .string s.sl], .agg #[.int .i64 d, .int .i64 sp], kv] w (TrueP w) :=
  lawCop45_any s a c d sp kv KL w he hm hr ok wf hk
end Go.Proofs.YtpkapcijgldhhaaGreatDoor
