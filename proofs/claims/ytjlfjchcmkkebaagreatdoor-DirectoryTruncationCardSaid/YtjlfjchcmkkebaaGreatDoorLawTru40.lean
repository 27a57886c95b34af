/-
  Chapter 40: the law Truncation, walked out of the contracts.
-/
import Derived.Test.YtjlfjchcmkkebaaGreatDoorLawRT40
namespace Go.Proofs.YtjlfjchcmkkebaaGreatDoor
open Go.RowKit Go.Shelf
set_option maxRecDepth 100000 in
set_option maxHeartbeats 4000000 in
theorem lawTruncation40 (s : Se) (a : Option Addr) (c : Nat) (k : Nat) (u : ByteArray) (w : World) (he : Env w) (hm : HasMax w) (hr : EnRow w (.slice a s.entries.length c) s.entries) (wf : SeWf s) (hk : k < 65536) (hz : u.size ≤ 140737488355328) :
    Calls Tryz.prog 5 #[.agg #[.int .i64 s.number, .int .i64 s.date, .string s.prev, .slice a s.entries.length c, .string s.stream, .string s.sl], .int .u16 (k : Int), .string u] w fun e w' => e = .returned (.bool true) ∧ Below w.heap.size w w' := by
  have HE := Lib.hid (show ∀ W, Below w.heap.size w W → Env W from fun W hW => he.below hW)
  have HM := Lib.hid (show ∀ W, Below w.heap.size w W → HasMax W from fun W hW => hm.below hW)
  have HX := Lib.hid (seCs he hm hr wf)
  have WF := Lib.hid wf
  clear he hm hr wf
  obtain ⟨kb0, bX⟩ := box1'' w [.int .i64 s.number, .int .i64 s.date, .string s.prev, .slice a s.entries.length c, .string s.stream, .string s.sl] 25
  change Below _ _ (w.alloc (.cells #[.int .i64 s.number, .int .i64 s.date, .string s.prev, .slice a s.entries.length c, .string s.stream, .string s.sl] 25)) at kb0
  change Box (w.alloc (.cells #[.int .i64 s.number, .int .i64 s.date, .string s.prev, .slice a s.entries.length c, .string s.stream, .string s.sl] 25)) _ _ _ at bX
  go_enter Tryz.func5, Tryz.ntmps5
  go_upto_region 1 with (fail)
  obtain ⟨W0, hW0⟩ : ∃ W0, w.alloc (.cells #[.int .i64 s.number, .int .i64 s.date, .string s.prev, .slice a s.entries.length c, .string s.stream, .string s.sl] 25) = W0 := ⟨_, rfl⟩
  change Code.wp _ _ _ _ (w.alloc (.cells #[.int .i64 s.number, .int .i64 s.date, .string s.prev, .slice a s.entries.length c, .string s.stream, .string s.sl] 25))
  rw [hW0] at kb0 bX ⊢
  clear hW0
  obtain ⟨c0, c1, c2, c3, c4, c5⟩ := bX.cells6
  go_wp2_with fail
  refine (alive40_any W0 (HE.out _ kb0) (HM.out _ kb0)).mono ?_
  rintro e W1 ⟨rfl, hb⟩
  have kb1 := step2 kb0 hb
  have bX1 := bX.below hb
  clear kb0 hb bX c0 c1 c2 c3 c4 c5
  obtain ⟨c0, c1, c2, c3, c4, c5⟩ := bX1.cells6
  go_wp2_with fail
  refine (HX.out.great W1 kb1).mono ?_
  rintro e W2 ⟨g, rfl, hgx, hsx, hb⟩
  have kb2 := step2 kb1 hb
  have bX2 := bX1.below hb
  clear kb1 hb bX1 c0 c1 c2 c3 c4 c5
  rcases hgx.out with rfl | rfl
  case inr =>
    clear hz hk
    go_wp2_with fail
    go_ret
    exact ⟨rfl, kb2⟩
  have SS := Lib.hid (hsx.out rfl)
  have OK := Lib.hid (seOk_small WF.out SS.out)
  clear hgx hsx
  by_cases hu : 100 < u.size
  · go_wp2_with fail
    go_ret
    exact ⟨rfl, kb2⟩
  have HPe := Lib.hid (HX.out.enc OK.out)
  by_cases hc : sgnE s = 0
  case neg =>
    rw [if_neg hc] at HPe
    generalize sgnE s = ce at *
    have q1 : (ce != 0) = true := by rw [bne_iff_ne]; exact hc
    have Hc := Lib.hid hc; clear hc
    obtain ⟨c0, c1, c2, c3, c4, c5⟩ := bX2.cells6
    go_wp2_with fail
    refine (HPe.out W2 kb2).mono ?_
    rintro e W3 ⟨t, rfl, ht, hb3⟩
    go_wp2_with fail
    go_ret
    exact ⟨rfl, step2 kb2 hb3⟩
  rw [if_pos hc, hc] at HPe
  have HRo := Lib.hid (dir_round hc)
  have htz := small_text WF.out SS.out hc
  have htp := text_pos s
  have HSh := Lib.hid (fun m (hm : m < (textL s).length) => text_short hc hm)
  have HLo := Lib.hid (fun r (h : r ≠ []) => text_long hc (r := r) h)
  have Hc := Lib.hid hc; clear hc
  obtain ⟨c0, c1, c2, c3, c4, c5⟩ := bX2.cells6
  go_wp2_with fail
  refine (HPe.out W2 kb2).mono ?_
  rintro e W3 ⟨t, rfl, ht, hb⟩
  have kb3 := step2 kb2 hb
  have bX3 := bX2.below hb
  clear kb2 hb bX2 c0 c1 c2 c3 c4 c5
  have zt : t.size ≤ 400000 := by rw [← toList_size, ht.out]; exact htz
  have zt8 : 8 ≤ t.size := by rw [← toList_size, ht.out]; exact htp
  have htl : t.size = (textL s).length := by rw [← toList_size, ht.out]
  clear htz htp HPe HX OK SS WF bX3
  obtain ⟨m, hm⟩ : ∃ m, k % t.size = m := ⟨_, rfl⟩
  have hml : m < t.size := by rw [← hm]; exact Nat.mod_lt _ (by omega)
  have em : Int.tmod (k : Int) (t.size : Int) = (m : Int) := by rw [Int.tmod_eq_emod_of_nonneg (by omega), ← hm]; rfl
  have HDa := Lib.hid (show ∀ W, Below w.heap.size w W → Calls Tryz.prog 12 #[.string (t.extract 0 m)] W (DirQ (.error 4) W) from fun W hW => by
    have h1 := ddecode_walk (t.extract 0 m) W (by rw [ByteArray.size_extract]; omega) (HE.out W hW) (HM.out W hW)
    rw [extract_list, List.drop_zero, Nat.sub_zero, ht.out, HSh.out m (by omega)] at h1
    exact h1)
  have HDb := Lib.hid (show ∀ W, Below w.heap.size w W → Calls Tryz.prog 12 #[.string (t ++ u)] W (DirQ (dirR (textL s ++ u.data.toList)) W) from fun W hW => by
    have h1 := ddecode_walk (t ++ u) W (by rw [ByteArray.size_append]; omega) (HE.out W hW) (HM.out W hW)
    rw [append_list, ht.out] at h1
    exact h1)
  have Hm := Lib.hid hm
  have Htl := Lib.hid htl
  clear hm htl HSh
  have ht0 : ((t.size : Int) == 0) = false := by rw [beq_eq_false_iff_ne]; omega
  have zu : t.size + u.size ≤ 1000000 := by omega
  go_wp2_with fail
  try rw [em]
  refine (HDa.out W3 kb3).mono ?_
  rintro e W4 ⟨rfl, hb4⟩
  have kb4 := step2 kb3 hb4
  clear HDa kb3 hb4
  obtain ⟨hbN, bA⟩ := box1'' W4 [.int .i64 0, .int .i64 0, .string ⟨#[]⟩, .slice none 0 0, .string ⟨#[]⟩, .string ⟨#[]⟩] 25
  change Below _ _ (W4.alloc (.cells #[.int .i64 0, .int .i64 0, .string ⟨#[]⟩, .slice none 0 0, .string ⟨#[]⟩, .string ⟨#[]⟩] 25)) at hbN
  change Box (W4.alloc (.cells #[.int .i64 0, .int .i64 0, .string ⟨#[]⟩, .slice none 0 0, .string ⟨#[]⟩, .string ⟨#[]⟩] 25)) _ _ _ at bA
  go_upto_region 9 with (fail)
  obtain ⟨W5, hW2⟩ : ∃ W5, W4.alloc (.cells #[.int .i64 0, .int .i64 0, .string ⟨#[]⟩, .slice none 0 0, .string ⟨#[]⟩, .string ⟨#[]⟩] 25) = W5 := ⟨_, rfl⟩
  change Code.wp _ _ _ _ (W4.alloc (.cells #[.int .i64 0, .int .i64 0, .string ⟨#[]⟩, .slice none 0 0, .string ⟨#[]⟩, .string ⟨#[]⟩] 25))
  rw [hW2] at hbN bA ⊢
  clear hW2
  have kb5 := step2 kb4 hbN
  clear hbN kb4  

  clear bA
  by_cases h0 : u.data.toList = []
  · have he : u.toList.isEmpty = true := by rw [isEmpty_list, h0]; rfl
    rw [h0, List.append_nil, HRo.out] at HDb
    have hq : (u.toList == (⟨#[]⟩ : ByteArray).toList) = true := by rw [str_eq]; exact decide_eq_true h0
    have H0 := Lib.hid h0; clear h0
    go_wp2_with fail
    refine ((HDb.out W5 kb5).mono fun _ _ h => dirQ_se h).mono ?_
    rintro e W6 ⟨xa, xc, rfl, _, hb6⟩
    have kb6 := step2 kb5 hb6
    go_wp2_with fail
    go_ret
    exact ⟨rfl, kb6.alloc kb6.size _⟩
  · have he : u.toList.isEmpty = false := by
      rw [isEmpty_list]
      cases h : u.data.toList
      · exact absurd h h0
      · rfl
    rw [HLo.out _ h0] at HDb
    have hq : (u.toList == (⟨#[]⟩ : ByteArray).toList) = false := by rw [str_eq]; exact decide_eq_false h0
    have H0 := Lib.hid h0; clear h0
    go_wp2_with fail
    refine (HDb.out W5 kb5).mono ?_
    rintro e W6 ⟨rfl, hb6⟩
    have kb6 := step2 kb5 hb6
    go_wp2_with fail
    go_ret
    exact ⟨rfl, kb6.alloc kb6.size _⟩
theorem lawTruncation40' (s : Se) (a : Option Addr) (c : Nat) (k : Int) (u : ByteArray) (w : World) (he : Env w) (hm : HasMax w) (hr : EnRow w (.slice a s.entries.length c) s.entries) (wf : SeWf s) (hk : 0 ≤ k ∧ k ≤ 65535) (hz : u.size ≤ 140737488355328) :
    Calls Tryz.prog 5 #[.agg #[.int .i64 s.number, .int .i64 s.date, .string s.prev, .slice a s.entries.length c, .string s.stream, .string s.sl], .int .u16 k, .string u] w fun e w' => e = .returned (.bool true) ∧ Below w.heap.size w w' := by
  obtain ⟨n, rfl⟩ := Int.eq_ofNat_of_zero_le hk.1
  exact lawTruncation40 s a c n u w he hm hr wf (by omega) hz
end Go.Proofs.YtjlfjchcmkkebaaGreatDoor
