/-
  Chapter 45: the law of lost frames, walked out of the contracts.
-/
import Derived.Test.YtpkapcijgldhhaaGreatDoorStmRow
import Derived.Test.YtpkapcijgldhhaaGreatDoorCe45
import Derived.Test.YtpkapcijgldhhaaGreatDoorCe33
import Derived.Test.YtpkapcijgldhhaaGreatDoorCe25
namespace Go.Proofs.YtpkapcijgldhhaaGreatDoor
open Go.RowKit Go.Shelf
theorem keptF_sel (K : List Bool) (G : List Fr) : ∀ k, keptF K G k = selF (keepB K) G k
  | 0 => rfl
  | k + 1 => by rw [keptF, selF, keptF_sel K G k]
theorem ext_cut' (t : ByteArray) (i j : Nat) : t.extract i j = bA' ((t.data.toList.drop i).take (j - i)) := bA'_ext (extract_list t i j)
/-- the head of a block is the stream's -/
theorem head_cut {t : ByteArray} {b e : Nat} (h1 : 28 * b ≤ e) (h2 : e ≤ 28 * b + 28) (h3 : e ≤ t.size) : (bA' (dblk t.data.toList b)).extract 0 (e - 28 * b) = t.extract (28 * b) e := by
  rw [ext_cut', ext_cut', bA'_list]
  congr 1
  rw [List.drop_zero, Nat.sub_zero]
  exact dblk_pre (by omega) (show 28 * b + (e - 28 * b) ≤ t.size by omega)
set_option maxRecDepth 100000 in
set_option maxHeartbeats 4000000 in
theorem lawStm45_any (d sp : Int) (t : ByteArray) (kv : Value) (KL : List Bool) (w : World) (he : Env w) (hm : HasMax w) (hk : Row w kv (KL.map Value.bool)) :
    Calls Tryz.prog 5 #[.agg #[.int .i64 d, .int .i64 sp], .string t, kv] w (TrueP w) := by
  have HA := Lib.hid (show ∀ W, Below w.heap.size w W → _ from fun W hW => alive45_any W (he.below hW) (hm.below hW))
  have HC := Lib.hid (fun W => check16_any d sp W)
  have HB := Lib.hid (show ∀ (W : World) (v : Value) (F : List Fr), FrRow W v F → SmallF F → LayWf F → ∀ b : Int, wf64 b → Calls _ _ _ _ _ from fun W v F hr hs hl b hb => (block_any 1 v F 3 b W hr hs hl hb).mono fun _ _ h => h.form)
  clear he hm
  obtain ⟨ka, kc, rfl, _, _, hkr⟩ := hk
  simp only [List.length_map] at *
  obtain ⟨kb, b1⟩ := boxr w [.int .i64 d, .int .i64 sp] 39
  go_enter Tryz.func5, Tryz.ntmps5
  go_upto_region 1 with (fail)
  change Code.wp _ _ _ _ (w.alloc (.cells [.int .i64 d, .int .i64 sp].toArray 39))
  generalize w.alloc (.cells [.int .i64 d, .int .i64 sp].toArray 39) = W0 at *
  go_wp2_with fail
  refine (HA.out _ kb).mono ?_
  rintro e w1 ⟨rfl, hb1⟩
  replace kb := step2 kb hb1
  replace b1 := b1.below hb1
  clear HA hb1
  obtain ⟨l0, l1⟩ := b1.cells2
  go_wp2_with fail
  refine (HC.out _).mono ?_
  rintro e w2 ⟨cx, rfl, hcx, hb2⟩
  replace kb := step2 kb hb2
  replace b1 := b1.below hb2
  clear HC hb2 l0 l1
  rcases hcx.out with ⟨rfl, d1, d2, d3, d4⟩ | rfl
  case inr =>
    clear HB hcx
    go_wp2_with fail
    go_ret
    exact ⟨rfl, kb⟩
  clear hcx
  by_cases hl : 600 < t.size
  · clear HB
    go_wp2_with fail
    go_ret
    exact ⟨rfl, kb⟩
  obtain ⟨d, rfl⟩ := Int.eq_ofNat_of_zero_le (show 0 ≤ d by omega)
  obtain ⟨sp, rfl⟩ := Int.eq_ofNat_of_zero_le d3
  have hlw : w.heap.size < w2.heap.size := b1.lt
  obtain ⟨k3, b3⟩ := boxr w2 [.int .u32 1, .slice none 0 0] 25
  go_upto_region 5 with (fail)
  go_upto_region 6 with (fail)
  change Code.wp _ _ _ _ (w2.alloc (.cells [.int .u32 1, .slice none 0 0].toArray 25))
  obtain ⟨W3, hW3⟩ : ∃ W, w2.alloc (.cells [.int .u32 1, .slice none 0 0].toArray 25) = W := ⟨_, rfl⟩
  rw [hW3] at k3 b3 ⊢
  have hz3 : W3.heap.size = w2.heap.size + 1 := by rw [← hW3, World.size_alloc]
  clear hW3
  have hmm := @run_makeMap Tryz.prog
  have hm1 := World.ownsMap_made W3 Tryz.prog 32 (plainElem (H := Unit) Tryz.prog 4)
  have k4 : Below W3.heap.size W3 (W3.alloc (.map #[] 0)) := (Below.refl _ _).alloc (Nat.le_refl _) _
  go_upto_region 7 with (fail)
  obtain ⟨W4, hW4⟩ : ∃ W, W3.alloc (.map #[] 0) = W := ⟨_, rfl⟩
  rw [hW4] at hm1 k4 ⊢
  have hz4 : W4.heap.size = W3.heap.size + 1 := by rw [← hW4, World.size_alloc]
  clear hW4
  have hm2 := World.ownsMap_made W4 Tryz.prog 3 (plainElem (H := Unit) Tryz.prog 3)
  have k5 : Below W4.heap.size W4 (W4.alloc (.map #[] 0)) := (Below.refl _ _).alloc (Nat.le_refl _) _
  go_upto_region 8 with (fail)
  obtain ⟨W5, hW5⟩ : ∃ W, W4.alloc (.map #[] 0) = W := ⟨_, rfl⟩
  rw [hW5] at hm2 k5 ⊢
  clear hW5 hmm
  replace kb := step2 kb (step2 k3 (step2 k4 k5))
  replace b1 := ((b1.below k3).below k4).below k5
  replace b3 := (b3.below k4).below k5
  replace hm1 := hm1.kept (grown_of_below k5) (fun e => by cases e)
  rw [hz3] at hm1 hz4
  rw [hz4] at hm2
  have hlt5 : w2.heap.size + 1 + 1 < W5.heap.size := hm2.lt
  clear k3 k4 k5 hz3 hz4
  generalize w2.heap.size = C0 at *
  obtain ⟨l0, l1⟩ := b1.cells2
  have HF := Lib.hid (framesR_any 3 d sp t W5 (by omega) (by omega) (by omega))
  go_wp2_with fail
  refine HF.out.mono ?_
  rintro e w7 ⟨va, rfl, hown, hb7⟩
  have hz7 := hb7.size
  replace kb := step2 kb hb7
  replace b1 := b1.below hb7
  replace b3 := b3.below hb7
  replace hm1 := hm1.kept (grown_of_below hb7) (fun e => by cases e)
  replace hm2 := hm2.kept (grown_of_below hb7) (fun e => by cases e)
  clear HF l0 l1 hb7
  have hGl := (nStr_bound (d := d) (sp := sp) (l := t.size) (by omega) (by omega) (by omega) (by omega)).1
  rw [← frL_len d sp t.data.toList 3] at hGl
  obtain ⟨G, hG⟩ : ∃ G, frL d sp t.data.toList 3 (nStr d t.size) = G := ⟨_, rfl⟩
  have HG := Lib.hid hG
  rw [hG] at hown hGl
  clear hG
  have hown' : OwnG W5.heap.size 46 9 Fr.vals w7 va G := hown
  obtain ⟨fa, fc, rfl, hfr⟩ := ownFr_form hown'
  clear hown hown'
  have hI0 : StmJ w w7 C0 w7 (.slice none 0 0) (selF (keepB KL) G 0) (selF (keepB KL) G 0) (selF (keepB KL) G 0) := ⟨kb, Nat.le_refl _, fun _ _ _ _ _ => rfl, b3, World.ownsRow_nil _ _ _ _, ⟨0, Nat.le_refl _, hm1⟩, ⟨0, _, Nat.le_refl _, hm2, CntM.start⟩⟩
  clear b3 hm1 hm2
  go_wp2_with fail
  go_loopw [10, 11, 35] (fun _ _ i W => ∃ (k : Nat) (u : Value), k ≤ G.length ∧ i = .int .i64 k ∧ StmJ w w7 C0 W u (selF (keepB KL) G k) (selF (keepB KL) G k) (selF (keepB KL) G k)) (fun _ _ i _ => G.length - (intOf i).toNat)
  case atStart => exact ⟨0, _, Nat.zero_le _, rfl, hI0⟩
  case round =>
    clear hI0 kb
    obtain ⟨k, u, hk, rfl, hI⟩ := hrel
    by_cases hlt : k < G.length
    · obtain ⟨g, rfl, hg6, hg7, hF⟩ := hfr (by omega)
      have hFr := frAt_same hF (hI.same g hg7 (by omega) (by omega) (by omega))
      obtain ⟨q0, q1, q2, q3, q4, q5, q6, q7, q8⟩ := frCells hFr (i := k) hlt
      rw [Nat.zero_add] at q0 q1 q2 q3 q4 q5 q6 q7 q8
      have hix : (0 : Int) ≤ (k : Int) ∧ (k : Int) < (G.length : Int) := by omega
      obtain ⟨kF, bF⟩ := boxr wr (frAt G k).vals 46
      have hlow0 : ∀ q, u.ownBlock = some q → q < wr.heap.size := fun q hq => (hI.o0.lt q hq).2
      have hCw := hI.b0.lt
      have hCz := hI.size
      replace hI := hI.go kF
      go_upto_region 10 with (fail)
      go_upto_region 11 with (fail)
      change Code.wp _ _ _ _ (wr.alloc (.cells (frAt G k).vals.toArray 46))
      have hWF : wr.heap.size < (wr.alloc (.cells (frAt G k).vals.toArray 46)).heap.size := bF.lt
      generalize wr.alloc (.cells (frAt G k).vals.toArray 46) = W1 at *
      generalize wr.heap.size = FB at *
      have HI := Lib.hid hI
      clear hI kF hFr hF q0 q1 q2 q3 q4 q5 q6 q7 q8
      go_cut [49] from 40 to 49 (fun v wc => v = .bool (keepB KL k) ∧ W1 = wc)
      case first =>
        by_cases h1 : KL.length ≤ k
        · have hb : Hid (keepB KL k = true) := by rw [Hid, keepB, decide_eq_true h1]; rfl
          go_wp2_with fail
          go_meet
          case rel => exact ⟨by rw [hb.out], rfl⟩
        · rcases hkr with ⟨hke, _⟩ | ⟨kbk, kof, rfl, hcell⟩
          · exfalso; have : KL.length = 0 := by rw [← List.length_map (f := Value.bool), hke]; rfl
            omega
          have hc0 := hcell k (.bool (KL.getD k false)) (by rw [List.getElem?_map, List.getElem?_eq_getElem (by omega), List.getD_eq_getElem?_getD, List.getElem?_eq_getElem (by omega)]; rfl)
          have hc1 := (HI.out.bel.cell (p := ⟨kbk, kof + k, none⟩) (World.block_lt_of_cell? w _ hc0)).trans hc0
          have hb : Hid (keepB KL k = KL.getD k false) := by rw [Hid, keepB, decide_eq_false h1]; rfl
          have hkx : (k : Int) < (KL.length : Int) := by omega
          go_wp2_with fail
          go_meet
          case rel => exact ⟨by rw [hb.out, List.getD_eq_getElem?_getD], rfl⟩
      case rest =>
        obtain ⟨rfl, rfl⟩ := hcut
        cases hkb : keepB KL k with
        | false =>
          have hs := selF_no (G := G) hkb
          have hq := HI.out
          rw [← hs] at hq
          have HQ := Lib.hid hq
          clear hkb hs hq HI
          go_wp2_with fail
          go_roundw
          case rel => exact ⟨k + 1, _, by omega, by go_num, HQ.out⟩
          case measure => simp [intOf]; omega
        | true =>
          have hs := Lib.hid (selF_yes (G := G) hkb)
          have hlk := selF_len (keepB KL) G k
          have hfm : frAt G k ∈ frL d sp t.data.toList 3 (nStr d t.size) := by rw [HG.out, frAt_get hlt]; exact List.getElem_mem _
          obtain ⟨z0, z1, z2, z3, z4, z5, z6, z7, z8⟩ := bF.cells9
          obtain ⟨i0, hi, hzz0, hzz1, hzz2⟩ := info_parts infoFr
          obtain ⟨FD, hfd⟩ : ∃ FD, frAt G k = FD := ⟨_, rfl⟩
          rw [hfd] at hs z0 z1 z2 z3 z4 z5 z6 z7 z8 bF hfm
          obtain ⟨fk, fr, hfk, hfr', hfe⟩ := frL_mem.1 hfm
          have hnb := (nStr_bound (d := d) (sp := sp) (l := t.size) (by omega) (by omega) (by omega) (by omega)).2
          have hx1 : FD.index = (fk : Int) := by rw [hfe]; rfl
          have hx2 : FD.reel = (fr : Int) := by rw [hfe]; rfl
          have hwi : wf64 FD.index := by unfold wf64; omega
          have hwr : wf64 FD.reel := by unfold wf64; omega
          clear hfd hkb hfm hfe hx1 hx2 hfk hfr'
          obtain ⟨y0, y1⟩ := HI.out.b0.cells2
          have ho := HI.out.o0
          have hsz := HI.out.size
          have HwI := Lib.hid hwi
          have HwR := Lib.hid hwr
          clear hwi hwr
          go_wp2_with (at_builtin; refine wpList_append_own_at _ rfl _ _ 23 rfl w7.heap.size 46 i0 (.agg #[.int .i64 0, .int .i64 0, .int .i64 0, .int .i64 0, .int .i64 0, .int .i64 0, .int .i64 0, .int .u32 0, .string ⟨#[]⟩]) 9 80 Tryz.underlying23 hi hzz0 hzz1 hzz2 rfl (by decide) _ _ _ rfl (World.ownsRow.alloc ho _) ⟨W1.heap.size, 0, none⟩ 1 1 (Fr.vals FD) rfl rfl ?c1 ?c2 ?c3 ?c4 ?c5 ?_)
          case c1 => exact fun j u hu => by first | exact hu | (rw [Addr.add_mid, Nat.zero_add]; exact ((Box.new W1 FD.vals 46).cell j).trans hu)
          case c2 => exact one9 FD
          case c3 => unfold maxLen; omega
          case c4 => omega
          case c5 => have := hsz; first | omega | (simp; omega)
          intro v6 w6 hown6 hg6 _ hat6
          have hC0 : some C0 ≠ u.ownBlock := fun e => by have := (HI.out.o0.lt _ e.symm).1; omega
          have bC6 := app_pre (f := FD) hC0 HI.out.b0 HI.out.o0 hg6
          have hApp := app_mk (f := FD) hC0 HI.out.size HI.out.b0 HI.out.o0 hown6 hg6 hat6
          have HM := Lib.hid (HI.out.app (by omega) (by omega) hApp)
          have bF6 := hApp.box bF (by omega) (fun e => by have := hlow0 _ e.symm; omega)
          obtain ⟨oa6, oc6, rfl⟩ := own_form hown6
          obtain ⟨r0, r1⟩ := bC6.cells2
          obtain ⟨g0, g1⟩ := bC6.froz2
          clear hApp hown6 hg6 hat6 bC6 z0 z1 z2 z3 z4 z5 z6 z7 z8 y0 y1 ho HI bF hlow0
          go_upto_region 13 with (fail)
          obtain ⟨W8, hW8⟩ : ∃ W, w6.setCell ⟨C0, 1, none⟩ (.slice oa6 ((selF (keepB KL) G k).length + 1) oc6) = W := ⟨_, rfl⟩
          rw [hW8] at HM bF6 ⊢
          clear hW8 r0 r1 g0 g1
          obtain ⟨z0, z1, z2, z3, z4, z5, z6, z7, z8⟩ := bF6.cells9
          have hkey : keyOf Tryz.prog 32 (.agg #[.int .i64 FD.index, .int .i64 FD.reel]) = some (keyP (posF FD)) := pair_key (x := posF FD) HwI.out HwR.out
          obtain ⟨m1, hm1l, hm1⟩ := HM.out.m1
          go_upto_region 14 with (at_mapUpdate; refine wpList_mapUpdate_own _ rfl _ _ _ 42 rfl 32 4 pairKeyed Tryz.underlying42 _ (C0 + 1) m1 _ rfl hm1 (by unfold maxLen; omega) _ _ _ rfl rfl hkey _ [] (plainElem_bool Tryz.underlying4 true) ?_; intro w9 hown9 hgrow9)
          have HM2 := Lib.hid (HM.out.put1 (f := FD) (by omega) (by omega) hm1l hown9 hgrow9)
          have bF9 : Box w9 FB FD.vals 46 := (hgrow9.block FB bF6.lt (fun e => by injection e with e; omega)).trans bF6
          clear HM bF6 hown9 hgrow9 z0 z1 z2 z3 z4 z5 z6 z7 z8 hkey hm1 hm1l
          obtain ⟨z0, z1, z2, z3, z4, z5, z6, z7, z8⟩ := bF9.cells9
          have hlook := HM2.out.look2 FD.index HwI.out
          have hcl := cntF_le (selF (keepB KL) G k) FD.index
          obtain ⟨m2, D, hm2l, hm2, hcm⟩ := HM2.out.m2
          have hkey2 := Maps.keyOf_int_mk Tryz.underlying3 (lit_wf64 HwI.out)
          obtain ⟨cn, hcn⟩ : ∃ cn, cntF (selF (keepB KL) G k) FD.index = cn := ⟨_, rfl⟩
          have hwc : (Lit.int .i64 ((cn : Int) + 1)).wf = true := lit_wf64 (by unfold wf64; omega)
          rw [hcn] at hlook hcl
          have HCN := Lib.hid hcn
          have HCM := Lib.hid hcm
          clear hcn hcm
          go_wp2_with (at_mapUpdate; refine wpList_mapUpdate_own _ rfl _ _ _ 43 rfl 3 3 (Maps.int_keyed Tryz.underlying3) Tryz.underlying43 _ (C0 + 2) m2 _ rfl hm2 (by unfold maxLen; omega) _ _ _ rfl rfl hkey2 _ [] (plainElem_int Tryz.underlying3 hwc) ?_; intro w10 hown10 hgrow10)
          have HM3 := Lib.hid (HM2.out.put2 (f := FD) (by omega) (by omega) hm2l HCM.out (by rw [HCN.out]; exact hown10) hgrow10)
          rw [← hs.out] at HM3
          clear HM2 bF9 hown10 hgrow10 z0 z1 z2 z3 z4 z5 z6 z7 z8 hkey2 hm2 hm2l hlook hwc HCN HCM
          go_wp2_with fail
          go_roundw
          case rel => exact ⟨k + 1, _, by omega, by go_num, HM3.out⟩
          case measure => simp [intOf]; omega
    · obtain rfl : k = G.length := by omega
      have hmA : ∀ f ∈ selF (keepB KL) G G.length, f ∈ frL d sp t.data.toList 3 (nStr d t.size) := fun f hf => by rw [HG.out]; exact selF_mem (Nat.le_refl _) f hf
      have hnA : (selF (keepB KL) G G.length).Nodup := by
        refine List.Nodup.sublist (selF_sub _ _ _ (Nat.le_refl _)) ?_
        rw [List.take_length, ← HG.out]
        exact frL_nodup _ _ _ _ _
      have hlA := selF_len (keepB KL) G G.length
      generalize selF (keepB KL) G G.length = A at *
      have hwA : ∀ y ∈ A.map posF, wf64 y.1 ∧ wf64 y.2 := fun y hy => by
        obtain ⟨f, hf, rfl⟩ := List.mem_map.1 hy
        obtain ⟨fk, fr, h1, h2, rfl⟩ := frL_mem.1 (hmA f hf)
        have hnb := (nStr_bound (d := d) (sp := sp) (l := t.size) (by omega) (by omega) (by omega) (by omega)).2
        rw [frO_pos]
        unfold wf64
        exact ⟨⟨by show _ ≤ (fk : Int); omega, by show (fk : Int) ≤ _; omega⟩, by show _ ≤ (fr : Int); omega, by show (fr : Int) ≤ _; omega⟩
      have HY := Lib.hid (show ∀ b : Nat, b ≤ 65535 → (((b / d : Nat) : Int), ((b % d : Nat) : Int)) ∈ A.map posF ∨ d ≤ cntF A ((b / d : Nat) : Int) → blkR A 3 b = .ok (dblk t.data.toList b) from fun b hb hc => blk_yes hmA hnA (by omega) (by omega) (by omega) hb (hc.imp (pos_mem hmA _ _).1 id))
      have HN := Lib.hid (show ∀ b : Nat, b ≤ 65535 → (((b / d : Nat) : Int), ((b % d : Nat) : Int)) ∉ A.map posF → ¬ d ≤ cntF A ((b / d : Nat) : Int) → blkR A 3 b = .error 19 from fun b hb h1 h2 => blk_no hmA hnA (by omega) (by omega) (by omega) hb (fun h => h1 ((pos_mem hmA _ _).2 h)) h2)
      have HBA := Lib.hid (show ∀ (W : World) (x : Value), OwnG w7.heap.size 46 9 Fr.vals W x A → ∀ b : Nat, b ≤ 65535 → Calls _ _ _ _ _ from fun W x h b hb => HB.out W x A (OwnG.row (n := 9) (f := Fr.vals) (d := fr0) (fun _ => rfl) h) (small_of hmA (by omega)) (layWf_of (by omega) (by omega) hmA) b (by unfold wf64; omega))
      have HwA := Lib.hid hwA
      have hlw7 := b1.lt
      clear hmA hnA hlA HB hkr hfr HG hGl hwA
      have HI := Lib.hid hI
      clear hI
      go_wp2_with fail
      go_loopw [12, 13, 14, 15, 16, 17] (fun vb _ _ _ _ _ W => ∃ b : Nat, 28 * b ≤ t.size + 27 ∧ vb = .int .i64 b ∧ StmJ w w7 C0 W u A A A) (fun vb _ _ _ _ _ _ => t.size + 28 - 28 * (intOf vb).toNat)
      case atStart => exact ⟨0, by omega, rfl, HI.out⟩
      case round =>
        clear HI
        obtain ⟨b, hb, rfl, hI⟩ := hrel
        by_cases hlt : 28 * b < t.size
        · have hbi : 28 * (b : Int) < (t.size : Int) := by omega
          have hy := HY.out b (by omega)
          have hn := HN.out b (by omega)
          have HC1 := Lib.hid (fun W (h : StmJ w w7 C0 W u A A A) => HBA.out W u h.o0 b (by omega))
          have hq : b / d ≤ 600 := Nat.le_trans (Nat.div_le_self b d) (by omega)
          have hm' : b % d < d := Nat.mod_lt _ (by omega)
          have htd : (b : Int).tdiv (d : Int) = ((b / d : Nat) : Int) := by rw [Int.tdiv_eq_ediv_of_nonneg (by omega)]; rfl
          have htm : (b : Int).tmod (d : Int) = ((b % d : Nat) : Int) := by rw [Int.tmod_eq_emod_of_nonneg (by omega)]; rfl
          have hd0 : ¬ d = 0 := by omega
          have hd1 : ¬ (d : Int) = 0 := by omega
          generalize b / d = q at *
          generalize b % d = m at *
          have HHead := Lib.hid (fun e (h1 : 28 * b ≤ e) (h2 : e ≤ 28 * b + 28) (h3 : e ≤ t.size) => head_cut h1 h2 h3)
          have h28 : (bA' (dblk t.data.toList b)).size = 28 := by show (bA' (dblk t.data.toList b)).data.toList.length = 28; rw [bA'_list, dblk_length]
          obtain ⟨c0, c1⟩ := hI.b0.cells2
          obtain ⟨na, ha⟩ := own_form hI.o0
          obtain ⟨ca, rfl⟩ := ha
          have HI := Lib.hid hI
          clear hI
          go_wp2_with fail
          refine (HC1.out _ HI.out).mono ?_
          rintro e w8 ⟨rfl, hb8⟩
          replace HI := Lib.hid (HI.out.go hb8)
          clear HC1 hb8 c0 c1
          have b1' : Box w8 w.heap.size [.int .i64 (d : Int), .int .i64 (sp : Int)] 39 := (HI.out.same _ hlw7 (by omega) (by omega) (by omega)).trans b1
          obtain ⟨l0, l1⟩ := b1'.cells2
          go_upto_region 20 with (fail)
          go_cut [15, 16] from 81 to 88 (fun x y W => x = .int .i64 q ∧ y = .int .i64 m ∧ Below w8.heap.size w8 W)
          case first =>
            go_quiet (fail)
            go_wp2_with fail
            go_meet
            case rel => exact ⟨rfl, rfl, below_drewN (below_refl _) _⟩
          case rest =>
            obtain ⟨rfl, rfl, hbc⟩ := hcut
            replace HI := Lib.hid (HI.out.go hbc)
            replace b1' := b1'.below hbc
            obtain ⟨l0', l1'⟩ := b1'.cells2
            have hk1 := HI.out.look1 HwA.out (x := ((q : Int), (m : Int))) ⟨by unfold wf64; dsimp only; omega, by unfold wf64; dsimp only; omega⟩
            have hk2 := HI.out.look2 (q : Int) (by unfold wf64; omega)
            dsimp only at hk1
            have hcl := cntF_le A (q : Int)
            obtain ⟨cb, hcb⟩ : ∃ c, decide (((q : Int), (m : Int)) ∈ A.map posF) = c := ⟨_, rfl⟩
            rw [hcb] at hk1
            generalize cntF A (q : Int) = cn at *
            clear hbc l0 l1 hcl
            by_cases hc : cb = true ∨ d ≤ cn
            · have hB : blkR A 3 b = .ok (dblk t.data.toList b) := hy (hc.imp (fun h => of_decide_eq_true (hcb.trans h)) id)
              rw [hB]
              dsimp only [erS, erE]
              generalize bA' (dblk t.data.toList b) = S at *
              clear hy hn hcb hB htd htm hd0 hd1
              have HK1 := Lib.hid hk1
              have HK2 := Lib.hid hk2
              go_upto_region 21 with (fail)
              go_cut [101] from 89 to 101 (fun x W => x = .bool true ∧ wc = W)
              case first =>
                cases cb with
                | true =>
                  go_wp2_with fail
                  go_meet
                  case rel => exact ⟨rfl, rfl⟩
                | false =>
                  have hdc : (d : Int) ≤ (cn : Int) := by rcases hc with hc | hc; cases hc; omega
                  go_wp2_with fail
                  go_meet
                  case rel => exact ⟨rfl, rfl⟩
              case rest =>
                obtain ⟨rfl, rfl⟩ := hcut
                clear hc hk1 hk2 HK1 HK2 l0' l1'
                obtain ⟨e, hee⟩ : ∃ e, min (28 * b + 28) t.size = e := ⟨_, rfl⟩
                go_upto_region 22 with (fail)
                go_cut [17] from 102 to 107 (fun x W => x = .int .i64 e ∧ wc = W)
                case first =>
                  go_wp2_with fail
                  all_goals (go_meet; case rel => exact ⟨by congr 1; omega, rfl⟩)
                case rest =>
                  obtain ⟨rfl, rfl⟩ := hcut
                  have e1 : 28 * b ≤ e := by omega
                  have e2 : e ≤ 28 * b + 28 := by omega
                  have e3 : e ≤ t.size := by omega
                  have hhd := HHead.out e e1 e2 e3
                  clear hee
                  obtain ⟨p, hp⟩ : ∃ p, 28 * b = p := ⟨_, rfl⟩
                  obtain ⟨m', hm''⟩ : ∃ m', e - p = m' := ⟨_, rfl⟩
                  rw [hp, hm''] at hhd
                  have f1 : 28 * (b : Int) = (p : Int) := by omega
                  have f2 : (e : Int) - (p : Int) = (m' : Int) := by omega
                  have f3 : (0 : Int) ≤ m' ∧ (m' : Int) ≤ 28 ∧ m' ≤ 28 := by omega
                  have f4 : (0 : Int) ≤ p ∧ (p : Int) ≤ e ∧ (e : Int) ≤ t.size := by omega
                  have hs28 : (S.size : Int) = 28 := by omega
                  go_upto_region 23 with (fail)
                  go_quiet (fail)
                  go_wp2_with fail
                  go_roundw
                  case rel => exact ⟨b + 1, by omega, by go_num, HI.out.go (below_drewN (below_refl _) _)⟩
                  case measure => simp [intOf]; omega
            · have hc1 : cb = false := by
                cases cb with
                | false => rfl
                | true => exact absurd (.inl rfl) hc
              have hc2 : ¬ d ≤ cn := fun h => hc (.inr h)
              have hB : blkR A 3 b = .error 19 := hn (fun h => by rw [decide_eq_true h] at hcb; rw [← hcb] at hc1; cases hc1) hc2
              subst hc1
              rw [hB]
              dsimp only [erS, erE]
              have hdc : ¬ (d : Int) ≤ (cn : Int) := by omega
              clear hy hn hcb hB htd htm hd0 hd1 hc HHead h28
              go_wp2_with fail
              go_roundw
              case rel => exact ⟨b + 1, by omega, by go_num, HI.out⟩
              case measure => simp [intOf]; omega
        · have hbi : ¬ 28 * (b : Int) < (t.size : Int) := by omega
          have kb := hI.bel
          clear hI
          go_wp2_with fail
          go_ret
          exact ⟨rfl, kb⟩
theorem lawStm45_card (d sp : Int) (t : ByteArray) (kv : Value) (KL : List Bool) (w : World) (he : Env w) (hm : HasMax w) (_ : -9223372036854775808 ≤ d ∧ d ≤ 9223372036854775807) (_ : -9223372036854775808 ≤ sp ∧ sp ≤ 9223372036854775807) (_ : t.size ≤ 140737488355328) (hk : Row w kv (KL.map Value.bool)) :
    Calls Tryz.prog 5 #[.agg #[.int .i64 d, .int .i64 sp], .string t, kv] w (TrueP w) :=
  lawStm45_any d sp t kv KL w he hm hk
end Go.Proofs.YtpkapcijgldhhaaGreatDoor
