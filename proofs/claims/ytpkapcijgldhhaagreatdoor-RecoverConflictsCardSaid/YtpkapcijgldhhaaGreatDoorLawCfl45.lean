/-
  Chapter 45: the law of conflicting frames, walked out of the contracts.
-/
import Derived.Test.YtpkapcijgldhhaaGreatDoorCflRow
import Derived.Test.YtpkapcijgldhhaaGreatDoorCe45
namespace Go.Proofs.YtpkapcijgldhhaaGreatDoor
open Go.RowKit Go.Shelf
theorem ext_cut' (t : ByteArray) (i j : Nat) : t.extract i j = bA' ((t.data.toList.drop i).take (j - i)) := bA'_ext (extract_list t i j)
/-- the head of a block is the stream's -/
theorem head_cut {t : ByteArray} {b e : Nat} (h1 : 28 * b ≤ e) (h2 : e ≤ 28 * b + 28) (h3 : e ≤ t.size) : (bA' (dblk t.data.toList b)).extract 0 (e - 28 * b) = t.extract (28 * b) e := by
  rw [ext_cut', ext_cut', bA'_list]
  congr 1
  rw [List.drop_zero, Nat.sub_zero]
  exact dblk_pre (by omega) (show 28 * b + (e - 28 * b) ≤ t.size by omega)
set_option maxRecDepth 100000 in
set_option maxHeartbeats 4000000 in
theorem lawCfl45_any (d sp : Int) (t : ByteArray) (kv : Value) (KL : List Int) (w : World) (he : Env w) (hm : HasMax w) (hk : Row w kv (KL.map fun x => Value.int .u8 x)) (hu : ∀ x ∈ KL, 0 ≤ x ∧ x ≤ 255) :
    Calls Tryz.prog 8 #[.agg #[.int .i64 d, .int .i64 sp], .string t, kv] w (TrueP w) := by
  have HA := Lib.hid (show ∀ W, Below w.heap.size w W → _ from fun W hW => alive45_any W (he.below hW) (hm.below hW))
  have HC := Lib.hid (fun W => check16_any d sp W)
  have HB := Lib.hid (show ∀ (W : World) (v : Value) (F : List Fr), FrRow W v F → SmallF F → LayWf F → ∀ b : Int, wf64 b → Calls _ _ _ _ _ from fun W v F hr hs hl b hb => (block_any 1 v F 3 b W hr hs hl hb).mono fun _ _ h => h.form)
  clear he hm
  obtain ⟨ka, kc, rfl, _, _, hkr⟩ := hk
  simp only [List.length_map] at *
  obtain ⟨kb, b1⟩ := boxr w [.int .i64 d, .int .i64 sp] 39
  go_enter Tryz.func8, Tryz.ntmps8
  go_upto_region 1 with (fail)
  change Code.wp _ _ _ _ (w.alloc (.cells [.int .i64 d, .int .i64 sp].toArray 39))
  generalize w.alloc (.cells [.int .i64 d, .int .i64 sp].toArray 39) = W0 at *
  go_wp2_with fail
  refine (HA.out _ kb).mono ?_
  rintro e w1 ⟨rfl, hb1⟩
  replace kb := step2 kb hb1
  replace b1 := b1.below hb1
  clear HA hb1
  obtain ⟨l0, l1⟩ := b1.cells2
  go_wp2_with fail
  refine (HC.out _).mono ?_
  rintro e w2 ⟨cx, rfl, hcx, hb2⟩
  replace kb := step2 kb hb2
  replace b1 := b1.below hb2
  clear HC hb2 l0 l1
  rcases hcx.out with ⟨rfl, d1, d2, d3, d4⟩ | rfl
  case inr =>
    clear HB hcx
    go_wp2_with fail
    go_ret
    exact ⟨rfl, kb⟩
  clear hcx
  by_cases hl : 600 < t.size
  · clear HB
    go_wp2_with fail
    go_ret
    exact ⟨rfl, kb⟩
  by_cases hk100 : 100 < KL.length
  · clear HB
    go_wp2_with fail
    go_ret
    exact ⟨rfl, kb⟩
  obtain ⟨d, rfl⟩ := Int.eq_ofNat_of_zero_le (show 0 ≤ d by omega)
  obtain ⟨sp, rfl⟩ := Int.eq_ofNat_of_zero_le d3
  obtain ⟨l0, l1⟩ := b1.cells2
  have HF := Lib.hid (framesR_any 3 d sp t w2 (by omega) (by omega) (by omega))
  go_wp2_with fail
  refine HF.out.mono ?_
  rintro e w3 ⟨va, rfl, hown, hb3⟩
  replace kb := step2 kb hb3
  replace b1 := b1.below hb3
  have hwz := kb.size
  have hkw3 := kb
  clear HF l0 l1
  have hGl := (nStr_bound (d := d) (sp := sp) (l := t.size) (by omega) (by omega) (by omega) (by omega)).1
  rw [← frL_len d sp t.data.toList 3] at hGl
  obtain ⟨G, hG⟩ : ∃ G, frL d sp t.data.toList 3 (nStr d t.size) = G := ⟨_, rfl⟩
  have HG := Lib.hid hG
  rw [hG] at hown hGl
  clear hG
  have hown' : OwnG w2.heap.size 46 9 Fr.vals w3 va G := hown
  obtain ⟨fa, fc, rfl, hfr⟩ := ownFr_form hown'
  clear hown hb3
  obtain ⟨i0, hi, hzz0, hzz1, hzz2⟩ := info_parts infoFr
  go_upto_region 6 with (fail)
  go_cut [8] from 38 to 41 (fun x W => ∃ (C0 : Nat) (u : Value), x = .pointer (some ⟨C0, 0, none⟩) ∧ C0 + 1 = W.heap.size ∧ w3.heap.size ≤ C0 ∧ Below w3.heap.size w3 W ∧ Box W C0 [.int .u32 1, u] 25 ∧ OwnG w3.heap.size 46 9 Fr.vals W u G ∧ (∀ q, u.ownBlock = some q → q < C0))
  case first =>
    have hmade := World.ownsRow_made (base := w3.heap.size) (e := 46) (size := 9) w3 #[] 0 (Nat.le_refl _) (by decide) rfl
    have k4 : Below w3.heap.size w3 (w3.alloc (.cells #[] 46)) := (Below.refl _ _).alloc (Nat.le_refl _) _
    have hz4 : (w3.alloc (.cells #[] 46)).heap.size = w3.heap.size + 1 := World.size_alloc _ _
    rcases hown'.2 with ⟨hv, hG0⟩ | ⟨g, cap, cur, hv, hbg, hg, _⟩
    · have hGn : G = [] := List.length_eq_zero_iff.1 hG0
      subst hGn
      injection hv with hv1 hv2 hv3
      subst hv1 hv3
      go_wp2_with (at_builtin; refine wpList_append_own_none rfl _ _ 23 rfl w3.heap.size 46 i0 9 Tryz.underlying23 hi (.slice (some ⟨w3.heap.size, 0, none⟩) 0 0) 0 [] rfl hmade rfl ?_)
      go_meet
      case rel =>
        obtain ⟨k5, b5⟩ := boxr (w3.alloc (.cells #[] 46)) [.int .u32 1, .slice (some ⟨w3.heap.size, 0, none⟩) 0 0] 25
        rw [hz4] at b5
        exact ⟨w3.heap.size + 1, _, rfl, by rw [World.size_alloc, hz4], by omega, step2 k4 k5, b5, owns_below hmade k5, fun q hq => by injection hq with hq; show q < w3.heap.size + 1; have hq : w3.heap.size = q := hq; omega⟩
    · injection hv with hv1 hv2 hv3
      subst hv1 hv3
      have hcl := World.ownsRow.cells hown' (g := g) rfl
      have hgw : g < w3.heap.size := (Array.getElem?_eq_some_iff.1 hg).1
      have hcl' : ∀ j u, (G.flatMap Fr.vals)[j]? = some u → (w3.alloc (.cells #[] 46)).cell? ((⟨g, 0, none⟩ : Addr).add j) = some u := fun j u hu => by
        have := hcl j u hu
        rw [Addr.add_mid, Nat.zero_add] at this ⊢
        exact (k4.cell (p := ⟨g, j, none⟩) hgw).trans this
      have hone : ∀ u ∈ G.flatMap Fr.vals, u.oneCell' = true := fun u hu => by
        obtain ⟨f, _, hf⟩ := List.mem_flatMap.1 hu
        exact one9 f u hf
      go_wp2_with (at_builtin; refine wpList_append_own_at _ rfl _ _ 23 rfl w3.heap.size 46 i0 (.agg #[.int .i64 0, .int .i64 0, .int .i64 0, .int .i64 0, .int .i64 0, .int .i64 0, .int .i64 0, .int .u32 0, .string ⟨#[]⟩]) 9 80 Tryz.underlying23 hi hzz0 hzz1 hzz2 rfl (by decide) (.slice (some ⟨w3.heap.size, 0, none⟩) 0 0) 0 [] rfl hmade ⟨g, 0, none⟩ G.length fc (G.flatMap Fr.vals) rfl hown'.1 hcl' hone (by unfold maxLen; omega) (by omega) (by rw [hz4]; omega) ?_; intro v6 w6 hown6 hg6 _ hat6; obtain ⟨oa6, oc6, rfl⟩ := own_form hown6)
      have hb6 : Below w3.heap.size w3 w6 := k4.grown hg6 (by omega) (fun q hq => by injection hq with hq; have hq : w3.heap.size = q := hq; omega)
      have hz6 := hb6.size
      rw [Nat.zero_add, List.nil_append] at hown6
      go_meet
      case rel =>
        obtain ⟨k5, b5⟩ := boxr w6 [.int .u32 1, .slice oa6 (0 + G.length) oc6] 25
        rw [Nat.zero_add] at b5 k5
        exact ⟨w6.heap.size, .slice oa6 G.length oc6, by trivial, by rw [World.size_alloc], by omega, step2 hb6 k5, b5, owns_below hown6 k5, fun q hq => (hown6.lt q hq).2⟩
  case rest =>
    obtain ⟨C0, u, rfl, hCz, hCl, hb4, b4, ho4, hlow4⟩ := hcut
    replace kb := step2 kb hb4
    have hmm := @run_makeMap Tryz.prog
    obtain ⟨W4, hW4⟩ : ∃ W, wc = W := ⟨_, rfl⟩
    rw [hW4] at hCz hb4 b4 ho4 kb ⊢
    clear hW4
    have hm1 := World.ownsMap_made W4 Tryz.prog 32 (plainElem (H := Unit) Tryz.prog 4)
    have k5 : Below W4.heap.size W4 (W4.alloc (.map #[] 0)) := (Below.refl _ _).alloc (Nat.le_refl _) _
    go_upto_region 8 with (fail)
    obtain ⟨W5, hW5⟩ : ∃ W, W4.alloc (.map #[] 0) = W := ⟨_, rfl⟩
    rw [hW5] at hm1 k5 ⊢
    have hz5 : W5.heap.size = W4.heap.size + 1 := by rw [← hW5, World.size_alloc]
    clear hW5
    have hm2 := World.ownsMap_made W5 Tryz.prog 3 (plainElem (H := Unit) Tryz.prog 3)
    have k6 : Below W5.heap.size W5 (W5.alloc (.map #[] 0)) := (Below.refl _ _).alloc (Nat.le_refl _) _
    go_upto_region 9 with (fail)
    obtain ⟨W6, hW6⟩ : ∃ W, W5.alloc (.map #[] 0) = W := ⟨_, rfl⟩
    rw [hW6] at hm2 k6 ⊢
    have hz6 : W6.heap.size = W5.heap.size + 1 := by rw [← hW6, World.size_alloc]
    clear hW6 hmm
    replace hm1 := hm1.kept (grown_of_below k6) (fun e => by cases e)
    rw [← hCz] at hm1 hz5
    rw [hz5] at hm2
    rw [← hCz]
    have hI0 : CflJ w3 C0 W6 u (G ++ []) [] [] := by
      refine ⟨step2 hb4 (step2 k5 k6), hCl, by omega, (b4.below k5).below k6, ?_, fun q hq => by have := hlow4 q hq; omega, ⟨0, _, Nat.le_refl _, hm1⟩, ⟨0, _, Nat.le_refl _, hm2, CntM.start⟩⟩
      rw [List.append_nil]
      exact owns_below (owns_below ho4 k5) k6
    have hE0 := CflI.start d sp t.data.toList 3 (nStr d t.size)
    replace kb := step2 kb (step2 k5 k6)
    clear hm1 hm2 k5 k6 hz5 hz6 b4 ho4 hlow4 hb4 hCz
    have HUU := Lib.hid hu
    have HWW := Lib.hid (show Below w.heap.size w w3 from hkw3)
    go_wp2_with fail
    go_loopw [12, 13, 14, 15, 46] (fun _ _ _ _ i W => ∃ (k : Nat) (u : Value) (E : List Fr), k ≤ KL.length ∧ i = .int .i64 k ∧ CflJ w3 C0 W u (G ++ E) E E ∧ CflI d sp t.data.toList 3 (nStr d t.size) E ∧ E.length ≤ k ∧ ∀ e ∈ E, e.payload.size ≤ 100) (fun _ _ _ _ i _ => KL.length - (intOf i).toNat)
    case atStart => exact ⟨0, u, [], Nat.zero_le _, rfl, hI0, hE0, Nat.le_refl _, fun _ he => (nomatch he)⟩
    case round =>
      clear hI0 hE0 kb
      obtain ⟨k, u, E, hk, rfl, hI, hE, hEl, hEp⟩ := hrel
      by_cases hlt : k < KL.length
      · have HI := Lib.hid hI
        have HE := Lib.hid hE
        clear hI hE
        obtain ⟨kbk, kof, rfl, hcell⟩ : ∃ b o, ka = some ⟨b, o, none⟩ ∧ ∀ (i : Nat) (v : Value), (KL.map fun x => Value.int .u8 x)[i]? = some v → w.cell? ⟨b, o + i, none⟩ = some v := by
          rcases hkr with ⟨hke, _⟩ | hkr
          · exfalso; have : KL.length = 0 := by rw [← List.length_map (f := fun x => Value.int .u8 x), hke]; rfl
            omega
          · exact hkr
        obtain ⟨x, hx⟩ : ∃ x, KL.getD k 0 = x := ⟨_, rfl⟩
        have hget : KL[k]? = some x := by rw [← hx, List.getD_eq_getElem?_getD, List.getElem?_eq_getElem hlt]; rfl
        have hxb := HUU.out x (List.mem_of_getElem? hget)
        have hc0 := hcell k (.int .u8 x) (by rw [List.getElem?_map, hget]; rfl)
        have hc1 := ((step2 HWW.out HI.out.bel).cell (p := ⟨kbk, kof + k, none⟩) (World.block_lt_of_cell? w _ hc0)).trans hc0
        obtain ⟨X, rfl⟩ := Int.eq_ofNat_of_zero_le hxb.1
        have hkx : (0 : Int) ≤ (k : Int) ∧ (k : Int) < (KL.length : Int) := by omega
        clear hcell hx hget hc0
        by_cases hG0 : G.length = 0
        · have kb := step2 HWW.out HI.out.bel
          have hG0' : (G.length : Int) = 0 := by omega
          have hG1 : ((G.length : Int) == 0) = true := by rw [hG0']; rfl
          clear HI HE
          go_wp2_with fail
          go_ret
          exact ⟨rfl, kb⟩
        · have hG1 : ((G.length : Int) == 0) = false := by rw [beq_eq_false_iff_ne]; omega
          obtain ⟨j, hj⟩ : ∃ j, X % G.length = j := ⟨_, rfl⟩
          have hjl : j < G.length := by rw [← hj]; exact Nat.mod_lt _ (by omega)
          have hjt : (X : Int).tmod (G.length : Int) = (j : Int) := by rw [Int.tmod_eq_emod_of_nonneg (by omega), ← hj]; rfl
          have hn0 : ¬ (G.length : Int) = 0 := by omega
          clear hj
          obtain ⟨g, rfl, hg6, hg7, hF⟩ := hfr (by omega)
          have hFr := frAt_same hF (HI.out.bel.block g hg7)
          obtain ⟨q0, q1, q2, q3, q4, q5, q6, q7, q8⟩ := frCells hFr (i := j) hjl
          rw [Nat.zero_add] at q0 q1 q2 q3 q4 q5 q6 q7 q8
          have hix : (0 : Int) ≤ (j : Int) ∧ (j : Int) < (G.length : Int) := by omega
          obtain ⟨kF, bF⟩ := boxr wr (frAt G j).vals 46
          have hlow0 : ∀ q, u.ownBlock = some q → q < wr.heap.size := fun q hq => (HI.out.o0.lt q hq).2
          have hCw := HI.out.top
          have HEp := Lib.hid hEp
          replace HI := Lib.hid (HI.out.go kF)
          go_upto_region 15 with (fail)
          change Code.wp _ _ _ _ (wr.alloc (.cells (frAt G j).vals.toArray 46))
          have hWF : wr.heap.size < (wr.alloc (.cells (frAt G j).vals.toArray 46)).heap.size := bF.lt
          generalize wr.alloc (.cells (frAt G j).vals.toArray 46) = W1 at *
          generalize wr.heap.size = FB at *
          obtain ⟨F0, hfd⟩ : ∃ F0, frAt G j = F0 := ⟨_, rfl⟩
          have hfm : F0 ∈ frL d sp t.data.toList 3 (nStr d t.size) := by rw [HG.out, ← hfd, frAt_get hjl]; exact List.getElem_mem _
          rw [hfd] at bF
          obtain ⟨fk, fr, hfk, hfr', hfe⟩ := frL_mem.1 hfm
          have hnb := (nStr_bound (d := d) (sp := sp) (l := t.size) (by omega) (by omega) (by omega) (by omega)).2
          have hx1 : F0.index = (fk : Int) := by rw [hfe]; rfl
          have hx2 : F0.reel = (fr : Int) := by rw [hfe]; rfl
          have HwI := Lib.hid (show wf64 F0.index by unfold wf64; omega)
          have HwR := Lib.hid (show wf64 F0.reel by unfold wf64; omega)
          have h28 : F0.payload.size = 28 := by rw [hfe]; exact frO_small _ _ _ _ _ _
          -- the altered payload
          obtain ⟨p, hp⟩ : ∃ p, X % 28 = p := ⟨_, rfl⟩
          have hp28 : p < 28 := by omega
          have hpt : (X : Int).tmod 28 = (p : Int) := by rw [Int.tmod_eq_emod_of_nonneg (by omega), ← hp]; rfl
          obtain ⟨c7, hc7⟩ : ∃ c, X % 7 = c := ⟨_, rfl⟩
          have hc7b : c7 < 7 := by omega
          have hct : (X : Int).tmod 7 = (c7 : Int) := by rw [Int.tmod_eq_emod_of_nonneg (by omega), ← hc7]; rfl
          obtain ⟨c8, hc8⟩ : ∃ c, 1 + c7 = c := ⟨_, rfl⟩
          have hc8i : 1 + (c7 : Int) = (c8 : Int) := by omega
          obtain ⟨y, hy⟩ : ∃ y, (F0.payload.data.toList.getD p 0).toNat = y := ⟨_, rfl⟩
          have hy255 : y < 256 := by rw [← hy]; exact (F0.payload.data.toList.getD p 0).toNat_lt
          have hxr := xor_u8C ⟨y, hy255⟩ ⟨c8, by omega⟩
          simp only at hxr
          obtain ⟨q, hq⟩ : ∃ q, bits BinOp.xor IntKind.u8 (y : Int) (c8 : Int) = q := ⟨_, rfl⟩
          rw [hq] at hxr
          obtain ⟨q, rfl⟩ := Int.eq_ofNat_of_zero_le hxr.1
          have hq255 : q ≤ 255 := by omega
          have hqy : q ≠ y := fun e => hxr.2.2 (by omega) (by rw [e])
          obtain ⟨PL, hPL⟩ : ∃ PL, F0.payload.data.toList = PL := ⟨_, rfl⟩
          have hPl : PL.length = 28 := by rw [← hPL]; exact h28
          rw [hPL] at hy
          obtain ⟨FD, hFD⟩ : ∃ FD : Fr, { F0 with payload := bA' (PL.set p (UInt8.ofNat q)) } = FD := ⟨_, rfl⟩
          have HFDi := Lib.hid (show FD.index = F0.index by rw [← hFD])
          have hFDp : FD.payload.size ≤ 100 := by
            rw [← hFD]
            show (bA' (PL.set p (UInt8.ofNat q))).data.toList.length ≤ 100
            rw [bA'_list, List.length_set, hPl]; omega
          have hbad : BadF d sp t.data.toList 3 (nStr d t.size) FD := by
            refine ⟨fk, fr, bA' (PL.set p (UInt8.ofNat q)), hfk, hfr', ?_, by rw [← hFD, hfe]⟩
            have e1 : bA' (stB d t.data.toList fk fr) = bA' PL := by
              rw [← hPL, hfe, frO_pay, bA'_list]
            rw [e1]
            exact set_ne (by omega) hq255 (by rw [hy]; exact hqy)
          have HBAD := Lib.hid hbad
          have HFDV := Lib.hid (show F0.vals.set 8 (.string (bA' (PL.set p (UInt8.ofNat q)))) = FD.vals by rw [← hFD]; rfl)
          clear hfd hfm hfe hx1 hx2 hfk hfr' hbad hFD hxr hqy hp hc7 hFr hF q0 q1 q2 q3 q4 q5 q6 q7 q8 hjt hn0 hix hjl
          have bF0 := bF
          obtain ⟨z0, z1, z2, z3, z4, z5, z6, z7, z8⟩ := bF0.cells9
          obtain ⟨kP, bP⟩ := boxr W1 [.int .i64 F0.index, .int .i64 F0.reel] 32
          go_upto_region 16 with (fail)
          change Code.wp _ _ _ _ (W1.alloc (.cells [.int .i64 F0.index, .int .i64 F0.reel].toArray 32))
          replace HI := Lib.hid (HI.out.go kP)
          replace bF := bF.below kP
          have hWP : W1.heap.size < (W1.alloc (.cells [.int .i64 F0.index, .int .i64 F0.reel].toArray 32)).heap.size := bP.lt
          generalize W1.alloc (.cells [.int .i64 F0.index, .int .i64 F0.reel].toArray 32) = W2 at *
          generalize W1.heap.size = PB at *
          clear bF0 kP kF z0 z1 z2 z3 z4 z5 z6 z7 z8
          obtain ⟨z0, z1, z2, z3, z4, z5, z6, z7, z8⟩ := bF.cells9
          obtain ⟨p0, p1⟩ := bP.cells2
          have b1' : Box W2 w.heap.size [.int .i64 (d : Int), .int .i64 (sp : Int)] 39 := (HI.out.bel.block _ b1.lt).trans b1
          obtain ⟨l0, l1⟩ := b1'.cells2
          obtain ⟨cb, hk1⟩ := HI.out.look1 (x := posF F0) ⟨HwI.out, HwR.out⟩
          have hk2 := HI.out.look2 F0.index HwI.out
          change (Instr.lookup 42 (.map (some (C0 + 1))) (.agg #[.int .i64 F0.index, .int .i64 F0.reel]) false).run Tryz.prog W2 = _ at hk1
          obtain ⟨cn, hcn⟩ : ∃ cn, cntF E F0.index = cn := ⟨_, rfl⟩
          have hcl := cntF_le E F0.index
          rw [hcn] at hk2 hcl
          have HCN := Lib.hid hcn
          clear hcn b1'
          by_cases hcc : cb = true ∨ sp ≤ cn
          · cases cb with
            | true =>
              go_wp2_with fail
              go_roundw
              case rel => exact ⟨k + 1, u, E, by omega, by go_num, HI.out, HE.out, by omega, HEp.out⟩
              case measure => simp [intOf]; omega
            | false =>
              have hsc : (sp : Int) ≤ (cn : Int) := by rcases hcc with h | h; cases h; omega
              go_wp2_with fail
              go_roundw
              case rel => exact ⟨k + 1, u, E, by omega, by go_num, HI.out, HE.out, by omega, HEp.out⟩
              case measure => simp [intOf]; omega
          · have hcb : cb = false := by
              cases cb with
              | false => rfl
              | true => exact absurd (.inl rfl) hcc
            subst hcb
            have hscn : cn < sp := by omega
            have hsc : ¬ (sp : Int) ≤ (cn : Int) := by omega
            have hE' := HE.out.snoc HBAD.out (by rw [HFDi.out, HCN.out]; exact hscn)
            have HE' := Lib.hid hE'
            clear hE' HE HBAD hcc
            have hkey : keyOf Tryz.prog 32 (.agg #[.int .i64 F0.index, .int .i64 F0.reel]) = some (keyP (posF F0)) := pair_key (x := posF F0) HwI.out HwR.out
            obtain ⟨m1, D1, hm1l, hm1⟩ := HI.out.m1
            go_upto_region 18 with (at_mapUpdate; refine wpList_mapUpdate_own _ rfl _ _ _ 42 rfl 32 4 pairKeyed Tryz.underlying42 _ (C0 + 1) m1 _ rfl hm1 (by unfold maxLen; omega) _ _ _ rfl rfl hkey _ [] (plainElem_bool Tryz.underlying4 true) ?_; intro w9 hown9 hgrow9)
            have HM2 := Lib.hid (HI.out.put1 (f := FD) hm1l hown9 hgrow9)
            have bF9 : Box w9 FB F0.vals 46 := (hgrow9.block FB bF.lt (fun e => by injection e with e; omega)).trans bF
            clear HI bF hown9 hgrow9 z0 z1 z2 z3 z4 z5 z6 z7 z8 hkey hm1 hm1l hk1 hk2 p0 p1 l0 l1 bP
            obtain ⟨z0, z1, z2, z3, z4, z5, z6, z7, z8⟩ := bF9.cells9
            have hlook := HM2.out.look2 F0.index HwI.out
            rw [HCN.out] at hlook
            obtain ⟨m2, D, hm2l, hm2, hcm⟩ := HM2.out.m2
            have hkey2 := Maps.keyOf_int_mk Tryz.underlying3 (lit_wf64 HwI.out)
            have hwc : (Lit.int .i64 ((cn : Int) + 1)).wf = true := lit_wf64 (by unfold wf64; omega)
            have HCM := Lib.hid hcm
            clear hcm
            go_upto_region 19 with (at_mapUpdate; refine wpList_mapUpdate_own _ rfl _ _ _ 43 rfl 3 3 (Maps.int_keyed Tryz.underlying3) Tryz.underlying43 _ (C0 + 2) m2 _ rfl hm2 (by unfold maxLen; omega) _ _ _ rfl rfl hkey2 _ [] (plainElem_int Tryz.underlying3 hwc) ?_; intro w10 hown10 hgrow10)
            have HM3 := Lib.hid (HM2.out.put2 (f := FD) hm2l HCM.out (by rw [HFDi.out, HCN.out]; exact hown10) hgrow10)
            have bF10 : Box w10 FB F0.vals 46 := (hgrow10.block FB bF9.lt (fun e => by injection e with e; omega)).trans bF9
            clear HM2 bF9 hown10 hgrow10 z0 z1 z2 z3 z4 z5 z6 z7 z8 hkey2 hm2 hm2l hlook hwc HCN HCM
            obtain ⟨z0, z1, z2, z3, z4, z5, z6, z7, z8⟩ := bF10.cells9
            have hcv := Lib.run_convert_string_bytes (P := Tryz.prog) w10 9 60 5 F0.payload Tryz.underlying9 Tryz.underlying60 Tryz.underlying5
            obtain ⟨cap, hcap⟩ : ∃ cap, grownCap w10 F0.payload.size 0 5 = cap := ⟨_, rfl⟩
            rw [hcap] at hcv
            have hcell : ∀ j, j < F0.payload.size → (Lib.bytesWorld w10 5 F0.payload).cell? ⟨w10.heap.size, j, none⟩ = some (.int .u8 (F0.payload.data.toList.getD j 0).toNat) := fun j hj => Lib.bytesWorld_cell w10 _ F0.payload j hj
            have hfz : (Lib.bytesWorld w10 5 F0.payload).frozen? ⟨w10.heap.size, p, none⟩ = false := bytes_frozenC w10 F0.payload p (by omega)
            have hbW := below_bytes w10 F0.payload 5
            have HM4 := Lib.hid (HM3.out.go hbW)
            have bF11 := bF10.below hbW
            have hlowB : ∀ q, u.ownBlock = some q → q < w10.heap.size := fun q hq => (HM3.out.o0.lt q hq).2
            have htop := HM3.out.top
            have hFB10 := bF10.lt
            rw [h28] at hcell hcv
            rw [hPL] at hcell
            clear hbW HM3 bF10
            go_upto_region 20 with (fail)
            generalize Lib.bytesWorld w10 5 F0.payload = WB at *
            generalize w10.heap.size = BB at *
            have hcp := hcell p hp28
            rw [hy] at hcp
            have hpi : (0 : Int) ≤ (p : Int) ∧ (p : Int) < 28 := by omega
            have hyi : (0 : Int) ≤ (y : Int) ∧ (y : Int) ≤ 255 := by omega
            have hback := bytes_set_backC WB BB cap 28 PL p q hPl hp28 hq255 hcell
            have HBACK := Lib.hid hback
            clear hcell hcv hcap z0 z1 z2 z3 z4 z5 z6 z7 z8 hback
            go_upto_region 21 with (fail)
            change Code.wp _ _ _ _ (WB.setCell ⟨BB, p, none⟩ (.int .u8 q))
            have hback := HBACK.out
            have HM5 := Lib.hid (HM4.out.set (B := BB) (j := p) (by omega) (fun q hq => by have := hlowB q hq; omega) (.int .u8 q))
            have bF12 := bF11.setOther (E' := BB) (j := p) (by omega) (.int .u8 q)
            generalize WB.setCell ⟨BB, p, none⟩ (.int .u8 q) = WC at *
            have r8 : WC.cell? ⟨FB, 8, none⟩ = some (.string F0.payload) := bF12.cell 8
            have g8 : WC.frozen? ⟨FB, 8, none⟩ = false := bF12.frozen 8
            clear HBACK HM4 bF11 hcp hfz
            go_upto_region 22 with (fail)
            change Code.wp _ _ _ _ (WC.setCell ⟨FB, 8, none⟩ (.string (bA' (PL.set p (UInt8.ofNat q)))))
            have HM6 := Lib.hid (HM5.out.set (B := FB) (j := 8) (by omega) (fun q hq => by have := hlow0 q hq; omega) (.string (bA' (PL.set p (UInt8.ofNat q)))))
            have bF13 := bF12.set (j := 8) (.string (bA' (PL.set p (UInt8.ofNat q))))
            rw [HFDV.out] at bF13
            generalize WC.setCell ⟨FB, 8, none⟩ (.string (bA' (PL.set p (UInt8.ofNat q)))) = WD at *
            clear hback HM5 bF12 r8 g8 HFDV
            obtain ⟨z0, z1, z2, z3, z4, z5, z6, z7, z8⟩ := bF13.cells9
            obtain ⟨A, hA⟩ : ∃ A, G ++ E = A := ⟨_, rfl⟩
            rw [hA] at HM6
            obtain ⟨y0, y1⟩ := HM6.out.b0.cells2
            have ho := HM6.out.o0
            have hsz := HM6.out.bel.size
            have hlk : A.length ≤ 1000 := by rw [← hA, List.length_append]; omega
            have HAA := Lib.hid (show A ++ [FD] = G ++ (E ++ [FD]) by rw [← hA, List.append_assoc])
            clear hA
            go_wp2_with (at_builtin; refine wpList_append_own_at _ rfl _ _ 23 rfl w3.heap.size 46 i0 (.agg #[.int .i64 0, .int .i64 0, .int .i64 0, .int .i64 0, .int .i64 0, .int .i64 0, .int .i64 0, .int .u32 0, .string ⟨#[]⟩]) 9 80 Tryz.underlying23 hi hzz0 hzz1 hzz2 rfl (by decide) _ _ _ rfl (World.ownsRow.alloc ho _) ⟨WD.heap.size, 0, none⟩ 1 1 (Fr.vals FD) rfl rfl ?c1 ?c2 ?c3 ?c4 ?c5 ?_)
            case c1 => exact fun j u hu => by first | exact hu | (rw [Addr.add_mid, Nat.zero_add]; exact ((Box.new WD FD.vals 46).cell j).trans hu)
            case c2 => exact one9 FD
            case c3 => unfold maxLen; omega
            case c4 => omega
            case c5 => have := hsz; first | omega | (simp; omega)
            intro v6 w6 hown6 hg6 _ hat6
            have hC0 : some C0 ≠ u.ownBlock := fun e => (HM6.out.ne _ e.symm).1 rfl
            have bC6 := app_pre (f := FD) hC0 HM6.out.b0 HM6.out.o0 hg6
            have hApp := app_mk (f := FD) hC0 hsz HM6.out.b0 HM6.out.o0 hown6 hg6 hat6
            have hM := HM6.out.app hApp
            rw [HAA.out] at hM
            have HM := Lib.hid hM
            obtain ⟨oa6, oc6, rfl⟩ := own_form hown6
            obtain ⟨r0, r1⟩ := bC6.cells2
            obtain ⟨g0, g1⟩ := bC6.froz2
            clear hApp hown6 hg6 hat6 bC6 z0 z1 z2 z3 z4 z5 z6 z7 z8 y0 y1 ho hM HM6 bF13
            go_wp2_with fail
            go_roundw
            case rel => exact ⟨k + 1, _, E ++ [FD], by omega, by go_num, HM.out, HE'.out, by rw [List.length_append]; simp; omega, fun e he => by
              rcases List.mem_append.1 he with he | he
              · exact HEp.out e he
              · rw [List.mem_singleton.1 he]; exact hFDp⟩
            case measure => simp [intOf]; omega
      · obtain rfl : k = KL.length := by omega
        have hF' : ∀ f ∈ G ++ E, f.payload.size ≤ 100 ∧ f.data = (d : Int) ∧ f.spare = (sp : Int) := fun f hf => by
          rcases List.mem_append.1 hf with hf | hf
          · rw [← HG.out] at hf
            obtain ⟨fk, fr, _, _, rfl⟩ := frL_mem.1 hf
            exact ⟨by rw [frO_small]; omega, rfl, rfl⟩
          · obtain ⟨fk, fr, p, _, _, _, e⟩ := hE.bad f hf
            exact ⟨hEp f hf, by rw [e]; rfl, by rw [e]; rfl⟩
        have hlk : (G ++ E).length ≤ 1000 := by rw [List.length_append]; omega
        have hsm : SmallF (G ++ E) := ⟨hlk, fun f hf => (hF' f hf).1⟩
        have hlw : LayWf (G ++ E) := fun i hi => by
          rw [frAt_get hi]
          obtain ⟨_, h1, h2⟩ := hF' _ (List.getElem_mem hi)
          rw [h1, h2]
          unfold wf64
          omega
        have HY := Lib.hid (show ∀ b : Nat, b ≤ 65535 → 28 * b < t.size → blkR (G ++ E) 3 b = .ok (dblk t.data.toList b) from fun b hb hb2 => by
          rw [← HG.out]
          exact cfl_blk hE (by omega) (by omega) (by omega) hb hb2)
        have HBA := Lib.hid (show ∀ (W : World) (x : Value), OwnG w3.heap.size 46 9 Fr.vals W x (G ++ E) → ∀ b : Nat, b ≤ 65535 → Calls _ _ _ _ _ from fun W x h b hb => HB.out W x (G ++ E) (OwnG.row (n := 9) (f := Fr.vals) (d := fr0) (fun _ => rfl) h) hsm hlw b (by unfold wf64; omega))
        have HI := Lib.hid hI
        generalize G ++ E = A at *
        clear hF' hlk hsm hlw HB hE hEl hEp hI hkr hfr HG hGl HUU
        go_wp2_with fail
        go_loopw [16, 17, 18, 19] (fun vb _ _ _ W => ∃ b : Nat, 28 * b ≤ t.size + 27 ∧ vb = .int .i64 b ∧ CflJ w3 C0 W u A E E) (fun vb _ _ _ _ => t.size + 28 - 28 * (intOf vb).toNat)
        case atStart => exact ⟨0, by omega, rfl, HI.out⟩
        case round =>
          clear HI
          obtain ⟨b, hb, rfl, hI⟩ := hrel
          by_cases hlt : 28 * b < t.size
          · have hbi : 28 * (b : Int) < (t.size : Int) := by omega
            have hB := HY.out b (by omega) hlt
            have HC1 := Lib.hid (fun W (h : CflJ w3 C0 W u A E E) => HBA.out W u h.o0 b (by omega))
            rw [hB] at HC1
            dsimp only [erS, erE] at HC1
            have HHead := Lib.hid (fun e (h1 : 28 * b ≤ e) (h2 : e ≤ 28 * b + 28) (h3 : e ≤ t.size) => head_cut h1 h2 h3)
            have h28 : (bA' (dblk t.data.toList b)).size = 28 := by show (bA' (dblk t.data.toList b)).data.toList.length = 28; rw [bA'_list, dblk_length]
            generalize bA' (dblk t.data.toList b) = S at *
            obtain ⟨c0, c1⟩ := hI.b0.cells2
            obtain ⟨na, ha⟩ := own_form hI.o0
            obtain ⟨ca, rfl⟩ := ha
            have HI := Lib.hid hI
            clear hI hB
            go_wp2_with fail
            refine (HC1.out _ HI.out).mono ?_
            rintro e w8 ⟨rfl, hb8⟩
            replace HI := Lib.hid (HI.out.go hb8)
            clear HC1 hb8 c0 c1
            obtain ⟨e, hee⟩ : ∃ e, min (28 * b + 28) t.size = e := ⟨_, rfl⟩
            go_upto_region 28 with (fail)
            go_cut [19] from 122 to 127 (fun x W => x = .int .i64 e ∧ w8 = W)
            case first =>
              go_wp2_with fail
              all_goals (go_meet; case rel => exact ⟨by congr 1; omega, rfl⟩)
            case rest =>
              obtain ⟨rfl, rfl⟩ := hcut
              have e1 : 28 * b ≤ e := by omega
              have e2 : e ≤ 28 * b + 28 := by omega
              have e3 : e ≤ t.size := by omega
              have hhd := HHead.out e e1 e2 e3
              clear hee
              obtain ⟨p, hp⟩ : ∃ p, 28 * b = p := ⟨_, rfl⟩
              obtain ⟨m', hm''⟩ : ∃ m', e - p = m' := ⟨_, rfl⟩
              rw [hp, hm''] at hhd
              have f1 : 28 * (b : Int) = (p : Int) := by omega
              have f2 : (e : Int) - (p : Int) = (m' : Int) := by omega
              have f3 : (0 : Int) ≤ m' ∧ (m' : Int) ≤ 28 ∧ m' ≤ 28 := by omega
              have f4 : (0 : Int) ≤ p ∧ (p : Int) ≤ e ∧ (e : Int) ≤ t.size := by omega
              have hs28 : (S.size : Int) = 28 := by omega
              go_upto_region 29 with (fail)
              go_quiet (fail)
              go_wp2_with fail
              go_roundw
              case rel => exact ⟨b + 1, by omega, by go_num, HI.out.go (below_drewN (below_refl _) _)⟩
              case measure => simp [intOf]; omega
          · have hbi : ¬ 28 * (b : Int) < (t.size : Int) := by omega
            have kb := step2 HWW.out hI.bel
            clear hI
            go_wp2_with fail
            go_ret
            exact ⟨rfl, kb⟩
theorem lawCfl45_card (d sp : Int) (t : ByteArray) (kv : Value) (KL : List Int) (w : World) (he : Env w) (hm : HasMax w) (_ : -9223372036854775808 ≤ d ∧ d ≤ 9223372036854775807) (_ : -9223372036854775808 ≤ sp ∧ sp ≤ 9223372036854775807) (_ : t.size ≤ 140737488355328) (hk : Row w kv (KL.map fun x => Value.int .u8 x)) (hu : ∀ x ∈ KL, 0 ≤ x ∧ x ≤ 255) :
    Calls Tryz.prog 8 #[.agg #[.int .i64 d, .int .i64 sp], .string t, kv] w (TrueP w) :=
  lawCfl45_any d sp t kv KL w he hm hk hu
end Go.Proofs.YtpkapcijgldhhaaGreatDoor
