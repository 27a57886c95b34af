/-
  Chapter 40: the law Canonical, walked out of the contracts.
-/
import Derived.Test.YtjlfjchcmkkebaaGreatDoorMb
import Derived.Test.YtjlfjchcmkkebaaGreatDoorMc
namespace Go.Proofs.YtjlfjchcmkkebaaGreatDoor
open Go.RowKit Go.Shelf
set_option maxRecDepth 100000 in
set_option maxHeartbeats 4000000 in
theorem lawCanonical40 (s : ByteArray) (w : World) (he : Env w) (hm : HasMax w) (hz : s.size ≤ 140737488355328) :
    Calls Tryz.prog 4 #[.string s] w fun e w' => e = .returned (.bool true) ∧ Below w.heap.size w w' := by
  have HE := Lib.hid (show ∀ W, Below w.heap.size w W → Env W from fun W hW => he.below hW)
  have HM := Lib.hid (show ∀ W, Below w.heap.size w W → HasMax W from fun W hW => hm.below hW)
  have HA := Lib.hid (alive40_any w he hm)
  clear he hm
  go_enter Tryz.func4, Tryz.ntmps4
  go_wp2_with fail
  refine HA.out.mono ?_
  rintro e W1 ⟨rfl, kb1⟩
  by_cases h5 : 5000 < s.size
  · go_wp2_with fail
    go_ret
    exact ⟨rfl, kb1⟩
  have hs : s.size ≤ 1000000 := by omega
  have HD := ddecode_walk s W1 hs (HE.out _ kb1) (HM.out _ kb1)
  have NZd := nz_dirR s.data.toList
  rcases hr : dirR s.data.toList with x | x
  · rw [hr] at HD NZd
    have hx := NZd x rfl
    replace HD := Lib.hid HD
    clear hr NZd
    go_wp2_with fail
    refine HD.out.mono ?_
    rintro e W2 ⟨rfl, hb2⟩
    have kb2 := step2 kb1 hb2
    clear HD kb1 hb2
    obtain ⟨hbN, bA⟩ := box1'' W2 [.int .i64 0, .int .i64 0, .string ⟨#[]⟩, .slice none 0 0, .string ⟨#[]⟩, .string ⟨#[]⟩] 25
    change Below _ _ (W2.alloc (.cells #[.int .i64 0, .int .i64 0, .string ⟨#[]⟩, .slice none 0 0, .string ⟨#[]⟩, .string ⟨#[]⟩] 25)) at hbN
    change Box (W2.alloc (.cells #[.int .i64 0, .int .i64 0, .string ⟨#[]⟩, .slice none 0 0, .string ⟨#[]⟩, .string ⟨#[]⟩] 25)) _ _ _ at bA
    go_upto_region 6 with (fail)
    obtain ⟨W3, hW2⟩ : ∃ W3, W2.alloc (.cells #[.int .i64 0, .int .i64 0, .string ⟨#[]⟩, .slice none 0 0, .string ⟨#[]⟩, .string ⟨#[]⟩] 25) = W3 := ⟨_, rfl⟩
    change Code.wp _ _ _ _ (W2.alloc (.cells #[.int .i64 0, .int .i64 0, .string ⟨#[]⟩, .slice none 0 0, .string ⟨#[]⟩, .string ⟨#[]⟩] 25))
    rw [hW2] at hbN bA ⊢
    clear hW2
    have kb3 := step2 kb2 hbN
    clear hbN kb2  
    have HSm := Lib.hid (show Calls Tryz.prog 14 #[.agg #[.int .i64 0, .int .i64 0, .string ⟨#[]⟩, .slice none 0 0, .string ⟨#[]⟩, .string ⟨#[]⟩], .agg #[.int .i64 0, .int .i64 0, .string ⟨#[]⟩, .slice none 0 0, .string ⟨#[]⟩, .string ⟨#[]⟩]] W3 (BoolP true W3) from by
      have := ssame_any seZ seZ none none 0 0 W3 (EnRow.nil W3) (EnRow.nil W3)
      rw [isB_yes rfl] at this
      exact this)
    obtain ⟨c0, c1, c2, c3, c4, c5⟩ := bA.cells6
    have q1 : (x != 0) = true := by rw [bne_iff_ne]; exact hx
    have q2 : (x == 0) = false := by rw [beq_eq_false_iff_ne]; exact hx
    clear hx
    go_wp2_with fail
    refine HSm.out.mono ?_
    rintro e W6 ⟨rfl, hb6⟩
    go_wp2_with fail
    go_ret
    exact ⟨rfl, step2 kb3 hb6⟩
  rw [hr] at HD
  replace HD := Lib.hid HD
  have HT := Lib.hid (text_read hr)
  have OK := Lib.hid (seOk_read hr hs)
  have SG := Lib.hid (sgn_read hr hs)
  have S32 := Lib.hid (sum_read hr)
  clear hr NZd
  go_wp2_with fail
  refine HD.out.mono ?_
  rintro e W2 ⟨v, rfl, own, hb2⟩
  have kb2 := step2 kb1 hb2
  obtain ⟨xa, xc, rfl⟩ := own.form
  have hro := own.row
  clear HD kb1 hb2 own
  obtain ⟨hbN, bA⟩ := box1'' W2 [.int .i64 x.number, .int .i64 x.date, .string (bA' x.prev), .slice xa x.entries.length xc, .string ⟨#[]⟩, .string (bA' x.sl)] 25
  change Below _ _ (W2.alloc (.cells #[.int .i64 x.number, .int .i64 x.date, .string (bA' x.prev), .slice xa x.entries.length xc, .string ⟨#[]⟩, .string (bA' x.sl)] 25)) at hbN
  change Box (W2.alloc (.cells #[.int .i64 x.number, .int .i64 x.date, .string (bA' x.prev), .slice xa x.entries.length xc, .string ⟨#[]⟩, .string (bA' x.sl)] 25)) _ _ _ at bA
  go_upto_region 6 with (fail)
  obtain ⟨W3, hW2⟩ : ∃ W3, W2.alloc (.cells #[.int .i64 x.number, .int .i64 x.date, .string (bA' x.prev), .slice xa x.entries.length xc, .string ⟨#[]⟩, .string (bA' x.sl)] 25) = W3 := ⟨_, rfl⟩
  change Code.wp _ _ _ _ (W2.alloc (.cells #[.int .i64 x.number, .int .i64 x.date, .string (bA' x.prev), .slice xa x.entries.length xc, .string ⟨#[]⟩, .string (bA' x.sl)] 25))
  rw [hW2] at hbN bA ⊢
  clear hW2
  have kb3 := step2 kb2 hbN
  have hro3 := hro.below hbN
  clear hro hbN kb2  

  have z32 : (bA' x.sum).size = 32 := S32.out
  have q32 : (((bA' x.sum).size : Int) == 32) = true := by rw [beq_iff_eq, z32]; rfl
  have Z32 := Lib.hid z32; clear z32
  have qs : ((⟨#[]⟩ : ByteArray).toList == (⟨#[]⟩ : ByteArray).toList) = true := by rw [str_eq]; exact decide_eq_true rfl
  obtain ⟨c0, c1, c2, c3, c4, c5⟩ := bA.cells6
  by_cases h0 : x.size = 0
  case neg =>
    have q1 : (x.size != 0) = true := by rw [bne_iff_ne]; exact h0
    have q2 : (x.size == 0) = false := by rw [beq_eq_false_iff_ne]; exact h0
    have H0 := Lib.hid h0; clear h0
    go_wp2_with fail
    go_ret
    exact ⟨rfl, kb3⟩
  have q1 : (x.size != 0) = false := by rw [bne_eq_false_iff_eq]; exact h0
  have q2 : (x.size == 0) = true := by rw [beq_iff_eq]; exact h0
  have H0 := Lib.hid h0; clear h0
  go_wp2_with fail
  refine (sum_none W3).mono ?_
  rintro e W4 ⟨t4, rfl, ht4, hb4⟩
  have kb4 := step2 kb3 hb4
  have bA4 := bA.below hb4
  have hro4 := hro3.below hb4
  clear kb3 hb4 bA hro3 c0 c1 c2 c3 c4 c5
  obtain ⟨c0, c1, c2, c3, c4, c5⟩ := bA4.cells6
  by_cases h1 : x.sum = sumB []
  case neg =>
    have q5 : ((bA' x.sum).toList == t4.toList) = false := by rw [str_eq]; exact decide_eq_false (by rw [bA'_list, ht4.out]; exact h1)
    have H1 := Lib.hid h1; clear h1
    go_wp2_with fail
    go_ret
    exact ⟨rfl, kb4⟩
  have q5 : ((bA' x.sum).toList == t4.toList) = true := by rw [str_eq]; exact decide_eq_true (by rw [bA'_list, ht4.out]; exact h1)
  have H1 := Lib.hid h1; clear h1
  have HT2 := Lib.hid (HT.out H0.out H1.out)
  have HEn := dencode_any x.se xa xc W4 (HE.out _ kb4) (HM.out _ kb4) OK.out hro4
  rw [SG.out, if_pos rfl, HT2.out] at HEn
  replace HEn := Lib.hid (show Calls Tryz.prog 16 #[.agg #[.int .i64 x.number, .int .i64 x.date, .string (bA' x.prev), .slice xa x.entries.length xc, .string ⟨#[]⟩, .string (bA' x.sl)]] W4 (HeadP s.data.toList 0 W4) from HEn)
  clear HT HT2 OK SG hro4
  go_wp2_with fail
  refine HEn.out.mono ?_
  rintro e W5 ⟨t5, rfl, ht5, hb5⟩
  have q6 : (t5.toList == s.toList) = true := by rw [str_eq]; exact decide_eq_true ht5.out
  go_wp2_with fail
  go_ret
  exact ⟨rfl, step2 kb4 hb5⟩
end Go.Proofs.YtjlfjchcmkkebaaGreatDoor
