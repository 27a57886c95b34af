/-
  Chapter 40: the law Digest, walked out of the contracts.
-/
import Derived.Test.YtjlfjchcmkkebaaGreatDoorLawRT40
namespace Go.Proofs.YtjlfjchcmkkebaaGreatDoor
open Go.RowKit Go.Shelf
set_option maxRecDepth 100000 in
set_option maxHeartbeats 4000000 in
theorem lawDigest40 (s : Se) (a : Option Addr) (c : Nat) (u : ByteArray) (w : World) (he : Env w) (hm : HasMax w) (hr : EnRow w (.slice a s.entries.length c) s.entries) (wf : SeWf s) (hz : u.size ≤ 140737488355328) :
    Calls Tryz.prog 8 #[.agg #[.int .i64 s.number, .int .i64 s.date, .string s.prev, .slice a s.entries.length c, .string s.stream, .string s.sl], .string u] w fun e w' => e = .returned (.bool true) ∧ Below w.heap.size w w' := by
  have HE := Lib.hid (show ∀ W, Below w.heap.size w W → Env W from fun W hW => he.below hW)
  have HM := Lib.hid (show ∀ W, Below w.heap.size w W → HasMax W from fun W hW => hm.below hW)
  have HX := Lib.hid (seCs he hm hr wf)
  have WF := Lib.hid wf
  clear he hm hr wf
  obtain ⟨kb0, bX⟩ := box1'' w [.int .i64 s.number, .int .i64 s.date, .string s.prev, .slice a s.entries.length c, .string s.stream, .string s.sl] 25
  change Below _ _ (w.alloc (.cells #[.int .i64 s.number, .int .i64 s.date, .string s.prev, .slice a s.entries.length c, .string s.stream, .string s.sl] 25)) at kb0
  change Box (w.alloc (.cells #[.int .i64 s.number, .int .i64 s.date, .string s.prev, .slice a s.entries.length c, .string s.stream, .string s.sl] 25)) _ _ _ at bX
  go_enter Tryz.func8, Tryz.ntmps8
  go_upto_region 1 with (fail)
  obtain ⟨W0, hW0⟩ : ∃ W0, w.alloc (.cells #[.int .i64 s.number, .int .i64 s.date, .string s.prev, .slice a s.entries.length c, .string s.stream, .string s.sl] 25) = W0 := ⟨_, rfl⟩
  change Code.wp _ _ _ _ (w.alloc (.cells #[.int .i64 s.number, .int .i64 s.date, .string s.prev, .slice a s.entries.length c, .string s.stream, .string s.sl] 25))
  rw [hW0] at kb0 bX ⊢
  clear hW0
  obtain ⟨c0, c1, c2, c3, c4, c5⟩ := bX.cells6
  go_wp2_with fail
  refine (alive40_any W0 (HE.out _ kb0) (HM.out _ kb0)).mono ?_
  rintro e W1 ⟨rfl, hb⟩
  have kb1 := step2 kb0 hb
  have bX1 := bX.below hb
  clear kb0 hb bX c0 c1 c2 c3 c4 c5
  obtain ⟨c0, c1, c2, c3, c4, c5⟩ := bX1.cells6
  go_wp2_with fail
  refine (HX.out.great W1 kb1).mono ?_
  rintro e W2 ⟨g, rfl, hgx, hsx, hb⟩
  have kb2 := step2 kb1 hb
  have bX2 := bX1.below hb
  clear kb1 hb bX1 c0 c1 c2 c3 c4 c5
  rcases hgx.out with rfl | rfl
  case inr =>
    clear hz
    go_wp2_with fail
    go_ret
    exact ⟨rfl, kb2⟩
  have SS := Lib.hid (hsx.out rfl)
  have OK := Lib.hid (seOk_small WF.out SS.out)
  clear hgx hsx
  by_cases hu : 2000 < u.size
  · go_wp2_with fail
    go_ret
    exact ⟨rfl, kb2⟩
  have HPe := Lib.hid (HX.out.dig OK.out)
  by_cases hc : sgnE s = 0
  case neg =>
    rw [if_neg hc] at HPe
    generalize sgnE s = ce at *
    have q1 : (ce != 0) = true := by rw [bne_iff_ne]; exact hc
    have Hc := Lib.hid hc; clear hc
    obtain ⟨c0, c1, c2, c3, c4, c5⟩ := bX2.cells6
    go_wp2_with fail
    refine (HPe.out W2 kb2).mono ?_
    rintro e W3 ⟨t, rfl, ht, hb3⟩
    have hte : t.toList.isEmpty = true := by rw [isEmpty_list, ht.out]; rfl
    have qte : (t.toList == (⟨#[]⟩ : ByteArray).toList) = true := by rw [str_eq]; exact decide_eq_true ht.out
    go_wp2_with fail
    go_ret
    exact ⟨rfl, step2 kb2 hb3⟩
  rw [if_pos hc, hc] at HPe
  have HLe := Lib.hid (small_signed WF.out SS.out (sgnE_parts hc).2.2.1)
  have HD2 := Lib.hid (show ∀ W, Below w.heap.size w W → Calls Tryz.prog 19 #[.agg #[.int .i64 s.number, .int .i64 s.date, .string s.prev, .slice a s.entries.length c, .string s.stream, .string u]] W (HeadP (sumB (signedL s)) 0 W) from fun W hW => by
    have := ddigest_any { s with sl := u } a c W (HE.out W hW) (HM.out W hW) (seOk_seal OK.out (by omega)) (HX.out.row W hW)
    rw [sgn_seal hc (by omega), if_pos rfl] at this
    exact this)
  have HE2 := Lib.hid (show ∀ W, Below w.heap.size w W → Calls Tryz.prog 16 #[.agg #[.int .i64 s.number, .int .i64 s.date, .string s.prev, .slice a s.entries.length c, .string s.stream, .string ⟨#[]⟩]] W (HeadP (textL { s with sl := ⟨#[]⟩ }) 0 W) from fun W hW => by
    have := dencode_any { s with sl := ⟨#[]⟩ } a c W (HE.out W hW) (HM.out W hW) (seOk_seal OK.out (by decide)) (HX.out.row W hW)
    rw [sgn_seal hc (by decide), if_pos rfl] at this
    exact this)
  have HBe := Lib.hid (fun (t : ByteArray) h => bare_end (s := s) (t := t) h)
  have HPo := Lib.hid (signed_pos s)
  generalize textL { s with sl := ⟨#[]⟩ } = tl at *
  have Hc := Lib.hid hc; clear hc
  obtain ⟨c0, c1, c2, c3, c4, c5⟩ := bX2.cells6
  go_wp2_with fail
  refine (HPe.out W2 kb2).mono ?_
  rintro e W3 ⟨t, rfl, ht, hb⟩
  have kb3 := step2 kb2 hb
  have bX3 := bX2.below hb
  clear kb2 hb bX2 c0 c1 c2 c3 c4 c5
  clear HPe HX OK SS WF
  obtain ⟨c0, c1, c2, c3, c4, c5⟩ := bX3.cells6
  have hD3 : w.heap.size < W3.heap.size := bX3.lt
  obtain ⟨hbN, bA⟩ := box1'' W3 [.int .i64 s.number, .int .i64 s.date, .string s.prev, .slice a s.entries.length c, .string s.stream, .string s.sl] 25
  change Below _ _ (W3.alloc (.cells #[.int .i64 s.number, .int .i64 s.date, .string s.prev, .slice a s.entries.length c, .string s.stream, .string s.sl] 25)) at hbN
  change Box (W3.alloc (.cells #[.int .i64 s.number, .int .i64 s.date, .string s.prev, .slice a s.entries.length c, .string s.stream, .string s.sl] 25)) _ _ _ at bA
  go_upto_region 9 with (fail)
  obtain ⟨W4, hW2⟩ : ∃ W4, W3.alloc (.cells #[.int .i64 s.number, .int .i64 s.date, .string s.prev, .slice a s.entries.length c, .string s.stream, .string s.sl] 25) = W4 := ⟨_, rfl⟩
  change Code.wp _ _ _ _ (W3.alloc (.cells #[.int .i64 s.number, .int .i64 s.date, .string s.prev, .slice a s.entries.length c, .string s.stream, .string s.sl] 25))
  rw [hW2] at hbN bA ⊢
  clear hW2
  have kb4 := step2 kb3 hbN
  have bX4 := bX3.below hbN
  clear hbN kb3 c0 c1 c2 c3 c4 c5 bX3
  have hle3 : w.heap.size ≤ W3.heap.size := by omega
  generalize W3.heap.size = Y at *
  have ec := bA.cell 5
  have ef := bA.frozen 5
  go_upto_region 10 with (fail)
  have bA5 := bA.set (j := 5) (.string u)
  simp only [List.set_cons_zero, List.set_cons_succ] at bA5
  have kb5 := kb4.setCell (p := ⟨Y, 5, none⟩) hle3 (.string u)
  have bX5 := bX4.setOther (E' := Y) (j := 5) (by omega) (.string u)
  obtain ⟨W5, hW2⟩ : ∃ W5, W4.setCell ⟨Y, 5, none⟩ (.string u) = W5 := ⟨_, rfl⟩
  change Code.wp _ _ _ _ (W4.setCell ⟨Y, 5, none⟩ (.string u))
  rw [hW2] at bA5 kb5 bX5  ⊢
  clear hW2 ec ef bA kb4 bX4
  obtain ⟨c0, c1, c2, c3, c4, c5⟩ := bA5.cells6
  obtain ⟨d0, d1, d2, d3, d4, d5⟩ := bX5.cells6
  go_wp2_with fail
  refine (HD2.out W5 kb5).mono ?_
  rintro e W6 ⟨t2, rfl, ht2, hb⟩
  have kb6 := step2 kb5 hb
  have bA6 := bA5.below hb
  have bX6 := bX5.below hb
  clear kb5 hb bA5 bX5 c0 c1 c2 c3 c4 c5 d0 d1 d2 d3 d4 d5
  clear HD2 bA6
  have ec := bX6.cell 5
  have ef := bX6.frozen 5
  go_upto_region 12 with (fail)
  have bX7 := bX6.set (j := 5) (.string ⟨#[]⟩)
  simp only [List.set_cons_zero, List.set_cons_succ] at bX7
  have kb7 := kb6.setCell (p := ⟨w.heap.size, 5, none⟩) (Nat.le_refl _) (.string ⟨#[]⟩)
  obtain ⟨W7, hW2⟩ : ∃ W7, W6.setCell ⟨w.heap.size, 5, none⟩ (.string ⟨#[]⟩) = W7 := ⟨_, rfl⟩
  change Code.wp _ _ _ _ (W6.setCell ⟨w.heap.size, 5, none⟩ (.string ⟨#[]⟩))
  rw [hW2] at bX7 kb7   ⊢
  clear hW2 ec ef bX6 kb6 
  obtain ⟨c0, c1, c2, c3, c4, c5⟩ := bX7.cells6
  go_wp2_with fail
  refine (HE2.out W7 kb7).mono ?_
  rintro e W8 ⟨t3, rfl, ht3, hb⟩
  have kb8 := step2 kb7 hb
  have bX8 := bX7.below hb
  clear kb7 hb bX7 c0 c1 c2 c3 c4 c5
  clear HE2
  obtain ⟨z3, y3, x3⟩ := HBe.out t3 ht3.out
  have hpo := HPo.out
  have hle := HLe.out
  have z4 : 11 < t3.size := by
    have h1 := congrArg List.length x3
    have h2 : (t3.extract 8 (t3.size - 3)).data.toList.length = (t3.extract 8 (t3.size - 3)).size := rfl
    rw [h2, ByteArray.size_extract] at h1
    omega
  have z5 : t3.size ≤ 400000 := by
    have h1 := congrArg List.length x3
    have h2 : (t3.extract 8 (t3.size - 3)).data.toList.length = (t3.extract 8 (t3.size - 3)).size := rfl
    rw [h2, ByteArray.size_extract] at h1
    omega
  have q1 : (t.toList == t2.toList) = true := by rw [str_eq]; exact decide_eq_true (by rw [ht.out, ht2.out])
  have q2 : ((t3.extract (t3.size - 3) t3.size).toList == (⟨#[48, 58, 44]⟩ : ByteArray).toList) = true := by rw [str_eq]; exact decide_eq_true y3
  have q2b : (t3.extract (t3.size - 3) t3.size).toList = [48, 58, 44] := by rw [ByteArray.toList_eq]; exact y3
  have X3 := Lib.hid x3
  have e3 : (t3.size : Int) - 3 = ((t3.size - 3 : Nat) : Int) := by omega
  have hSU := Lib.hid (fun W => one_sum (t3.extract 8 (t3.size - 3)) W (by rw [ByteArray.size_extract]; omega))
  clear z3 y3 x3 HBe HPo hpo hle HLe ht3
  obtain ⟨c0, c1, c2, c3, c4, c5⟩ := bX8.cells6
  go_wp2_with fail
  refine (hSU.out W8).mono ?_
  rintro e W11 ⟨v, rfl, hv, hb11⟩
  have q5 : (t.toList == v.toList) = true := by rw [str_eq]; exact decide_eq_true (by rw [ht.out, hv.out, X3.out])
  go_wp2_with fail
  go_ret
  exact ⟨rfl, (kb8.alloc kb8.size _).trans (hb11.mono (Nat.le_trans kb8.size (by rw [size_one]; omega)))⟩
end Go.Proofs.YtjlfjchcmkkebaaGreatDoor
