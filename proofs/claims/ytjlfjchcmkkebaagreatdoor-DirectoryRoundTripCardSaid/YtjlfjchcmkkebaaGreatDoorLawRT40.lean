/-
  Chapter 40: the law RoundTrip, walked out of the contracts.
-/
import Derived.Test.YtjlfjchcmkkebaaGreatDoorMb
import Derived.Test.YtjlfjchcmkkebaaGreatDoorMc
namespace Go.Proofs.YtjlfjchcmkkebaaGreatDoor
open Go.RowKit Go.Shelf

theorem dirQ_se {s : Se} {w w' : World} {e : Ending} (h : DirQ (.ok s.de) w e w') : ∃ xa xc, e = .returned (.tuple #[.agg #[.int .i64 s.number, .int .i64 s.date, .string s.prev, .slice xa s.entries.length xc, .string ⟨#[]⟩, .string s.sl], .int .i64 s.stream.size, .string (bA' (sumB s.stream.data.toList)), .int .i64 0]) ∧ EnRow w' (.slice xa s.entries.length xc) s.entries ∧ Below w.heap.size w w' := by
  obtain ⟨v, rfl, own, hb⟩ := h
  obtain ⟨xa, xc, rfl⟩ := own.form
  have e1 : bA' s.de.prev = s.prev := bA'_of _
  have e2 : bA' s.de.sl = s.sl := bA'_of _
  refine ⟨xa, xc, ?_, own.row, hb⟩
  rw [e1, e2]; rfl
theorem own_cells {base : Nat} {w : World} {v : Value} {t : ByteArray} (h : OwnStrs base w v (partsB t)) (hp : 0 < cntP t.size) : ∃ b o c, v = .slice (some ⟨b, o, none⟩) (cntP t.size) c ∧ b < w.heap.size ∧ ∀ i, i < cntP t.size → w.cell? ⟨b, o + i, none⟩ = some (.string (bA' (chunkL t.data.toList i))) := by
  have hl : (partsB t).length = cntP t.size := partsK_length _ _
  obtain ⟨hm, hr⟩ := row_cases h.strs
  rw [List.length_map] at hm hr
  rcases hr with ⟨h0, _⟩ | ⟨_, b, o, c, hv, _, _, hc⟩
  · rw [List.map_eq_nil_iff] at h0
    rw [h0] at hl
    exact absurd hl.symm (by show ¬ cntP t.size = 0; omega)
  · have hcc : ∀ i, i < cntP t.size → w.cell? ⟨b, o + i, none⟩ = some (.string (bA' (chunkL t.data.toList i))) := fun i hi => hc i _ (by rw [List.getElem?_map]; unfold partsB; rw [partsK_get _ hi]; rfl)
    exact ⟨b, o, c, by rw [hv, hl], World.block_lt_of_cell? w _ (hcc 0 hp), hcc⟩
set_option maxRecDepth 100000 in
set_option maxHeartbeats 4000000 in
theorem lawRound40 (s : Se) (a : Option Addr) (c : Nat) (w : World) (he : Env w) (hm : HasMax w) (hr : EnRow w (.slice a s.entries.length c) s.entries) (wf : SeWf s) :
    Calls Tryz.prog 10 #[.agg #[.int .i64 s.number, .int .i64 s.date, .string s.prev, .slice a s.entries.length c, .string s.stream, .string s.sl]] w fun e w' => e = .returned (.bool true) ∧ Below w.heap.size w w' := by
  have HE := Lib.hid (show ∀ W, Below w.heap.size w W → Env W from fun W hW => he.below hW)
  have HM := Lib.hid (show ∀ W, Below w.heap.size w W → HasMax W from fun W hW => hm.below hW)
  have HX := Lib.hid (seCs he hm hr wf)
  have WF := Lib.hid wf
  clear he hm hr wf
  obtain ⟨kb0, bX⟩ := box1'' w [.int .i64 s.number, .int .i64 s.date, .string s.prev, .slice a s.entries.length c, .string s.stream, .string s.sl] 25
  change Below _ _ (w.alloc (.cells #[.int .i64 s.number, .int .i64 s.date, .string s.prev, .slice a s.entries.length c, .string s.stream, .string s.sl] 25)) at kb0
  change Box (w.alloc (.cells #[.int .i64 s.number, .int .i64 s.date, .string s.prev, .slice a s.entries.length c, .string s.stream, .string s.sl] 25)) _ _ _ at bX
  go_enter Tryz.func10, Tryz.ntmps10
  go_upto_region 1 with (fail)
  obtain ⟨W0, hW0⟩ : ∃ W0, w.alloc (.cells #[.int .i64 s.number, .int .i64 s.date, .string s.prev, .slice a s.entries.length c, .string s.stream, .string s.sl] 25) = W0 := ⟨_, rfl⟩
  change Code.wp _ _ _ _ (w.alloc (.cells #[.int .i64 s.number, .int .i64 s.date, .string s.prev, .slice a s.entries.length c, .string s.stream, .string s.sl] 25))
  rw [hW0] at kb0 bX ⊢
  clear hW0
  obtain ⟨c0, c1, c2, c3, c4, c5⟩ := bX.cells6
  go_wp2_with fail
  refine (alive40_any W0 (HE.out _ kb0) (HM.out _ kb0)).mono ?_
  rintro e W1 ⟨rfl, hb⟩
  have kb1 := step2 kb0 hb
  have bX1 := bX.below hb
  clear kb0 hb bX c0 c1 c2 c3 c4 c5
  obtain ⟨c0, c1, c2, c3, c4, c5⟩ := bX1.cells6
  go_wp2_with fail
  refine (HX.out.great W1 kb1).mono ?_
  rintro e W2 ⟨g, rfl, hgx, hsx, hb⟩
  have kb2 := step2 kb1 hb
  have bX2 := bX1.below hb
  clear kb1 hb bX1 c0 c1 c2 c3 c4 c5
  rcases hgx.out with rfl | rfl
  case inr =>
    go_wp2_with fail
    go_ret
    exact ⟨rfl, kb2⟩
  have SS := Lib.hid (hsx.out rfl)
  have OK := Lib.hid (seOk_small WF.out SS.out)
  clear hgx hsx
  have HPe := Lib.hid (HX.out.enc OK.out)
  by_cases hc : sgnE s = 0
  case neg =>
    rw [if_neg hc] at HPe
    generalize sgnE s = ce at *
    have q1 : (ce != 0) = true := by rw [bne_iff_ne]; exact hc
    have Hc := Lib.hid hc; clear hc
    obtain ⟨c0, c1, c2, c3, c4, c5⟩ := bX2.cells6
    go_wp2_with fail
    refine (HPe.out W2 kb2).mono ?_
    rintro e W3 ⟨t, rfl, ht, hb3⟩
    have hte : t.toList.isEmpty = true := by rw [isEmpty_list, ht.out]; rfl
    have qte : (t.toList == (⟨#[]⟩ : ByteArray).toList) = true := by rw [str_eq]; exact decide_eq_true ht.out
    go_wp2_with fail
    go_ret
    exact ⟨rfl, step2 kb2 hb3⟩
  rw [if_pos hc, hc] at HPe
  have HRo := Lib.hid (dir_round hc)
  have HLn := Lib.hid (len_chunk (len_read (dir_round hc)))
  have htz := small_text WF.out SS.out hc
  have htp := text_pos s
  have hst : s.stream.size ≤ 1000 := SS.out.2.1
  have Hc := Lib.hid hc; clear hc
  obtain ⟨c0, c1, c2, c3, c4, c5⟩ := bX2.cells6
  go_wp2_with fail
  refine (HPe.out W2 kb2).mono ?_
  rintro e W3 ⟨t, rfl, ht, hb⟩
  have kb3 := step2 kb2 hb
  have bX3 := bX2.below hb
  clear kb2 hb bX2 c0 c1 c2 c3 c4 c5
  have zt : t.size ≤ 400000 := by rw [← toList_size, ht.out]; exact htz
  have zt8 : 8 ≤ t.size := by rw [← toList_size, ht.out]; exact htp
  clear htz htp
  have HDW := ddecode_walk t W3 (by omega) (HE.out _ kb3) (HM.out _ kb3)
  rw [ht.out, HRo.out] at HDW
  rw [← ht.out] at HLn
  replace HDW := Lib.hid HDW
  clear HRo HPe
  obtain ⟨c0, c1, c2, c3, c4, c5⟩ := bX3.cells6
  go_wp2_with fail
  refine (HDW.out.mono fun _ _ h => dirQ_se h).mono ?_
  rintro e W4 ⟨xa, xc, rfl, hro, hb4⟩
  have kb4 := step2 kb3 hb4
  have bX4 := bX3.below hb4
  clear HDW kb3 hb4 bX3 c0 c1 c2 c3 c4 c5
  have hSU := Lib.hid (fun W => one_sum s.stream W (by omega))
  have hD4 : w.heap.size < W4.heap.size := bX4.lt
  obtain ⟨hbN, bA⟩ := box1'' W4 [.int .i64 s.number, .int .i64 s.date, .string s.prev, .slice xa s.entries.length xc, .string ⟨#[]⟩, .string s.sl] 25
  change Below _ _ (W4.alloc (.cells #[.int .i64 s.number, .int .i64 s.date, .string s.prev, .slice xa s.entries.length xc, .string ⟨#[]⟩, .string s.sl] 25)) at hbN
  change Box (W4.alloc (.cells #[.int .i64 s.number, .int .i64 s.date, .string s.prev, .slice xa s.entries.length xc, .string ⟨#[]⟩, .string s.sl] 25)) _ _ _ at bA
  go_upto_region 9 with (fail)
  obtain ⟨W5, hW2⟩ : ∃ W5, W4.alloc (.cells #[.int .i64 s.number, .int .i64 s.date, .string s.prev, .slice xa s.entries.length xc, .string ⟨#[]⟩, .string s.sl] 25) = W5 := ⟨_, rfl⟩
  change Code.wp _ _ _ _ (W4.alloc (.cells #[.int .i64 s.number, .int .i64 s.date, .string s.prev, .slice xa s.entries.length xc, .string ⟨#[]⟩, .string s.sl] 25))
  rw [hW2] at hbN bA ⊢
  clear hW2
  have kb5 := step2 kb4 hbN
  have bX5 := bX4.below hbN
  have b45 := hbN
  clear hbN kb4  bX4
  have h45 : W4.heap.size < W5.heap.size := bA.lt
  obtain ⟨c0, c1, c2, c3, c4, c5⟩ := bX5.cells6
  obtain ⟨hbN, bB⟩ := box1'' W5 [.int .i64 s.number, .int .i64 s.date, .string s.prev, .slice a s.entries.length c, .string s.stream, .string s.sl] 25
  change Below _ _ (W5.alloc (.cells #[.int .i64 s.number, .int .i64 s.date, .string s.prev, .slice a s.entries.length c, .string s.stream, .string s.sl] 25)) at hbN
  change Box (W5.alloc (.cells #[.int .i64 s.number, .int .i64 s.date, .string s.prev, .slice a s.entries.length c, .string s.stream, .string s.sl] 25)) _ _ _ at bB
  go_upto_region 10 with (fail)
  obtain ⟨W6, hW2⟩ : ∃ W6, W5.alloc (.cells #[.int .i64 s.number, .int .i64 s.date, .string s.prev, .slice a s.entries.length c, .string s.stream, .string s.sl] 25) = W6 := ⟨_, rfl⟩
  change Code.wp _ _ _ _ (W5.alloc (.cells #[.int .i64 s.number, .int .i64 s.date, .string s.prev, .slice a s.entries.length c, .string s.stream, .string s.sl] 25))
  rw [hW2] at hbN bB ⊢
  clear hW2
  have kb6 := step2 kb5 hbN
  have bX6 := bX5.below hbN
  have bA6 := bA.below hbN
  have b46 := step2 b45 hbN
  clear hbN kb5 b45 c0 c1 c2 c3 c4 c5 bX5 bA
  have hle5 : w.heap.size ≤ W5.heap.size := by omega
  have hle6 : W4.heap.size ≤ W5.heap.size := by omega
  generalize W5.heap.size = Y at *
  have ec := bB.cell 4
  have ef := bB.frozen 4
  go_upto_region 11 with (fail)
  have bB7 := bB.set (j := 4) (.string ⟨#[]⟩)
  simp only [List.set_cons_zero, List.set_cons_succ] at bB7
  have kb7 := kb6.setCell (p := ⟨Y, 4, none⟩) hle5 (.string ⟨#[]⟩)
  have bX7 := bX6.setOther (E' := Y) (j := 4) (by omega) (.string ⟨#[]⟩)
  have bA7 := bA6.setOther (E' := Y) (j := 4) (by omega) (.string ⟨#[]⟩)
  have b47 := b46.setCell (p := ⟨Y, 4, none⟩) hle6 (.string ⟨#[]⟩)
  clear b46
  obtain ⟨W7, hW2⟩ : ∃ W7, W6.setCell ⟨Y, 4, none⟩ (.string ⟨#[]⟩) = W7 := ⟨_, rfl⟩
  change Code.wp _ _ _ _ (W6.setCell ⟨Y, 4, none⟩ (.string ⟨#[]⟩))
  rw [hW2] at bB7 kb7 bX7 bA7 b47 ⊢
  clear hW2 ec ef bB kb6 bX6 bA6

  have hro7 : EnRow W7 (.slice xa s.entries.length xc) s.entries := hro.below b47
  have HPa := Lib.hid (parts_any t W7 (by omega))
  clear hro b47 hle5 hle6 h45 hD4
  go_wp2_with fail
  refine HPa.out.mono ?_
  rintro e W8 ⟨v, rfl, own, hb8⟩
  have kb8 := step2 kb7 hb8
  have bX8 := bX7.below hb8
  have bA8 := bA7.below hb8
  have bB8 := bB7.below hb8
  have hro8 := hro7.below hb8
  have hp0 := parts_pos zt8
  obtain ⟨pb, po, pc, rfl, hpl, hpc⟩ := own_cells own hp0
  have p0 := hpc 0 hp0
  rw [Nat.add_zero] at p0
  have HLe := Lib.hid (length_any (bA' (chunkL t.data.toList 0)) W8 (by have := (chunk_size hp0).1; omega))
  rw [bA'_list, HLn.out] at HLe
  clear HPa kb7 bX7 bA7 bB7 hb8 own hpc hro7
  generalize cntP t.size = NP at *
  generalize bA' (chunkL t.data.toList 0) = ch at *
  go_wp2_with fail
  refine HLe.out.mono ?_
  rintro e W9 ⟨rfl, rfl⟩
  have HSm := Lib.hid (show Calls Tryz.prog 14 #[.agg #[.int .i64 s.number, .int .i64 s.date, .string s.prev, .slice xa s.entries.length xc, .string ⟨#[]⟩, .string s.sl], .agg #[.int .i64 s.number, .int .i64 s.date, .string s.prev, .slice a s.entries.length c, .string ⟨#[]⟩, .string s.sl]] W8 (BoolP true W8) from by
    have := ssame_any { s with stream := ⟨#[]⟩ } { s with stream := ⟨#[]⟩ } xa a xc c W8 hro8 (HX.out.row _ kb8)
    rw [isB_yes rfl] at this
    exact this)
  have i1 : stInt (.ok (t.data.toList.length : Int)) = (t.size : Int) := rfl
  have i2 : errOf (.ok (t.data.toList.length : Int)) = 0 := rfl
  rw [i1, i2]
  clear HLe HLn hro8 i1 i2 p0 hpl
  obtain ⟨c0, c1, c2, c3, c4, c5⟩ := bA8.cells6
  obtain ⟨d0, d1, d2, d3, d4, d5⟩ := bB8.cells6
  go_wp2_with fail
  refine HSm.out.mono ?_
  rintro e W10 ⟨rfl, hb10⟩
  have kb10 := step2 kb8 hb10
  have bX10 := bX8.below hb10
  clear HSm kb8 bX8 bA8 bB8 hb10 c0 c1 c2 c3 c4 c5 d0 d1 d2 d3 d4 d5
  obtain ⟨c0, c1, c2, c3, c4, c5⟩ := bX10.cells6
  have q3 : ((s.stream.size : Int) == (s.stream.size : Int)) = true := by rw [beq_iff_eq]
  have q4 : ((t.size : Int) == (t.size : Int)) = true := by rw [beq_iff_eq]
  go_wp2_with fail
  refine (hSU.out W10).mono ?_
  rintro e W11 ⟨u, rfl, hu, hb11⟩
  have q5 : ((bA' (sumB s.stream.data.toList)).toList == u.toList) = true := by rw [str_eq]; exact decide_eq_true (by rw [bA'_list, hu.out])
  go_wp2_with fail
  go_ret
  exact ⟨rfl, (kb10.alloc kb10.size _).trans (hb11.mono (Nat.le_trans kb10.size (by rw [size_one]; omega)))⟩
end Go.Proofs.YtjlfjchcmkkebaaGreatDoor
