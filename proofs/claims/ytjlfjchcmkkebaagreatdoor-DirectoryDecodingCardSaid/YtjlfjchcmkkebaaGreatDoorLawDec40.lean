/-
  Chapter 40: the law Decoding, walked out of the contracts.
-/
import Derived.Test.YtjlfjchcmkkebaaGreatDoorMb
import Derived.Test.YtjlfjchcmkkebaaGreatDoorMc
import Derived.Test.YtjlfjchcmkkebaaGreatDoorMd
namespace Go.Proofs.YtjlfjchcmkkebaaGreatDoor
open Go.RowKit Go.Shelf

set_option maxRecDepth 100000 in
set_option maxHeartbeats 4000000 in
theorem lawDecoding40 (s : ByteArray) (w : World) (he : Env w) (hm : HasMax w) (hz : s.size ≤ 140737488355328) :
    Calls Tryz.prog 3 #[.string s] w fun e w' => e = .returned (.bool true) ∧ Below w.heap.size w w' := by
  have HE := Lib.hid (show ∀ W, Below w.heap.size w W → Env W from fun W hW => he.below hW)
  have HM := Lib.hid (show ∀ W, Below w.heap.size w W → HasMax W from fun W hW => hm.below hW)
  have HA := Lib.hid (alive40_any w he hm)
  clear he hm
  go_enter Tryz.func3, Tryz.ntmps3
  go_wp2_with fail
  refine HA.out.mono ?_
  rintro e W1 ⟨rfl, kb1⟩
  by_cases h5 : 5000 < s.size
  · go_wp2_with fail
    go_ret
    exact ⟨rfl, kb1⟩
  have hs : s.size ≤ 1000000 := by omega
  have HD := ddecode_walk s W1 hs (HE.out _ kb1) (HM.out _ kb1)
  have HQ := Lib.hid (fun W => qdecode_walk s W hs)
  rcases hr : dirR s.data.toList with x | x
  · rw [hr] at HD HQ
    replace HD := Lib.hid HD
    clear hr
    go_wp2_with fail
    refine HD.out.mono ?_
    rintro e W2 ⟨rfl, hb2⟩
    have kb2 := step2 kb1 hb2
    clear HD kb1 hb2
    obtain ⟨hbN, bA⟩ := box1'' W2 [.int .i64 0, .int .i64 0, .string ⟨#[]⟩, .slice none 0 0, .string ⟨#[]⟩, .string ⟨#[]⟩] 25
    change Below _ _ (W2.alloc (.cells #[.int .i64 0, .int .i64 0, .string ⟨#[]⟩, .slice none 0 0, .string ⟨#[]⟩, .string ⟨#[]⟩] 25)) at hbN
    change Box (W2.alloc (.cells #[.int .i64 0, .int .i64 0, .string ⟨#[]⟩, .slice none 0 0, .string ⟨#[]⟩, .string ⟨#[]⟩] 25)) _ _ _ at bA
    go_upto_region 6 with (fail)
    obtain ⟨W3, hW2⟩ : ∃ W3, W2.alloc (.cells #[.int .i64 0, .int .i64 0, .string ⟨#[]⟩, .slice none 0 0, .string ⟨#[]⟩, .string ⟨#[]⟩] 25) = W3 := ⟨_, rfl⟩
    change Code.wp _ _ _ _ (W2.alloc (.cells #[.int .i64 0, .int .i64 0, .string ⟨#[]⟩, .slice none 0 0, .string ⟨#[]⟩, .string ⟨#[]⟩] 25))
    rw [hW2] at hbN bA ⊢
    clear hW2
    have kb3 := step2 kb2 hbN
    clear hbN kb2  
    go_wp2_with fail
    refine (HQ.out W3).mono ?_
    rintro e W4 ⟨rfl, hb4⟩
    have kb4 := step2 kb3 hb4
    have bA4 := bA.below hb4
    clear HQ kb3 hb4 bA
    obtain ⟨hbN, bB⟩ := box1'' W4 [.int .i64 0, .int .i64 0, .string ⟨#[]⟩, .slice none 0 0, .string ⟨#[]⟩, .string ⟨#[]⟩] 25
    change Below _ _ (W4.alloc (.cells #[.int .i64 0, .int .i64 0, .string ⟨#[]⟩, .slice none 0 0, .string ⟨#[]⟩, .string ⟨#[]⟩] 25)) at hbN
    change Box (W4.alloc (.cells #[.int .i64 0, .int .i64 0, .string ⟨#[]⟩, .slice none 0 0, .string ⟨#[]⟩, .string ⟨#[]⟩] 25)) _ _ _ at bB
    go_upto_region 7 with (fail)
    obtain ⟨W5, hW2⟩ : ∃ W5, W4.alloc (.cells #[.int .i64 0, .int .i64 0, .string ⟨#[]⟩, .slice none 0 0, .string ⟨#[]⟩, .string ⟨#[]⟩] 25) = W5 := ⟨_, rfl⟩
    change Code.wp _ _ _ _ (W4.alloc (.cells #[.int .i64 0, .int .i64 0, .string ⟨#[]⟩, .slice none 0 0, .string ⟨#[]⟩, .string ⟨#[]⟩] 25))
    rw [hW2] at hbN bB ⊢
    clear hW2
    have kb5 := step2 kb4 hbN
    have bA5 := bA4.below hbN
    clear hbN kb4  bA4
    have HSm := Lib.hid (show Calls Tryz.prog 14 #[.agg #[.int .i64 0, .int .i64 0, .string ⟨#[]⟩, .slice none 0 0, .string ⟨#[]⟩, .string ⟨#[]⟩], .agg #[.int .i64 0, .int .i64 0, .string ⟨#[]⟩, .slice none 0 0, .string ⟨#[]⟩, .string ⟨#[]⟩]] W5 (BoolP true W5) from by
      have := ssame_any seZ seZ none none 0 0 W5 (EnRow.nil W5) (EnRow.nil W5)
      rw [isB_yes rfl] at this
      exact this)
    obtain ⟨c0, c1, c2, c3, c4, c5⟩ := bA5.cells6
    obtain ⟨d0, d1, d2, d3, d4, d5⟩ := bB.cells6
    have q3 : (x == x) = true := by rw [beq_iff_eq]
    go_wp2_with fail
    refine HSm.out.mono ?_
    rintro e W6 ⟨rfl, hb6⟩
    go_wp2_with fail
    go_ret
    exact ⟨rfl, step2 kb5 hb6⟩
  · rw [hr] at HD HQ
    replace HD := Lib.hid HD
    clear hr
    go_wp2_with fail
    refine HD.out.mono ?_
    rintro e W2 ⟨v, rfl, own, hb2⟩
    have kb2 := step2 kb1 hb2
    obtain ⟨xa, xc, rfl⟩ := own.form
    have hro := own.row
    clear HD kb1 hb2 own
    obtain ⟨hbN, bA⟩ := box1'' W2 [.int .i64 x.number, .int .i64 x.date, .string (bA' x.prev), .slice xa x.entries.length xc, .string ⟨#[]⟩, .string (bA' x.sl)] 25
    change Below _ _ (W2.alloc (.cells #[.int .i64 x.number, .int .i64 x.date, .string (bA' x.prev), .slice xa x.entries.length xc, .string ⟨#[]⟩, .string (bA' x.sl)] 25)) at hbN
    change Box (W2.alloc (.cells #[.int .i64 x.number, .int .i64 x.date, .string (bA' x.prev), .slice xa x.entries.length xc, .string ⟨#[]⟩, .string (bA' x.sl)] 25)) _ _ _ at bA
    go_upto_region 6 with (fail)
    obtain ⟨W3, hW2⟩ : ∃ W3, W2.alloc (.cells #[.int .i64 x.number, .int .i64 x.date, .string (bA' x.prev), .slice xa x.entries.length xc, .string ⟨#[]⟩, .string (bA' x.sl)] 25) = W3 := ⟨_, rfl⟩
    change Code.wp _ _ _ _ (W2.alloc (.cells #[.int .i64 x.number, .int .i64 x.date, .string (bA' x.prev), .slice xa x.entries.length xc, .string ⟨#[]⟩, .string (bA' x.sl)] 25))
    rw [hW2] at hbN bA ⊢
    clear hW2
    have kb3 := step2 kb2 hbN
    have hro3 := hro.below hbN
    clear hro hbN kb2  
    go_wp2_with fail
    refine (HQ.out W3).mono ?_
    rintro e W4 ⟨v, rfl, own, hb4⟩
    have kb4 := step2 kb3 hb4
    have bA4 := bA.below hb4
    have hro4 := hro3.below hb4
    obtain ⟨ya, yc, rfl⟩ := own.form
    have hro2 := own.row
    clear HQ kb3 hb4 bA own hro3
    obtain ⟨hbN, bB⟩ := box1'' W4 [.int .i64 x.number, .int .i64 x.date, .string (bA' x.prev), .slice ya x.entries.length yc, .string ⟨#[]⟩, .string (bA' x.sl)] 25
    change Below _ _ (W4.alloc (.cells #[.int .i64 x.number, .int .i64 x.date, .string (bA' x.prev), .slice ya x.entries.length yc, .string ⟨#[]⟩, .string (bA' x.sl)] 25)) at hbN
    change Box (W4.alloc (.cells #[.int .i64 x.number, .int .i64 x.date, .string (bA' x.prev), .slice ya x.entries.length yc, .string ⟨#[]⟩, .string (bA' x.sl)] 25)) _ _ _ at bB
    go_upto_region 7 with (fail)
    obtain ⟨W5, hW2⟩ : ∃ W5, W4.alloc (.cells #[.int .i64 x.number, .int .i64 x.date, .string (bA' x.prev), .slice ya x.entries.length yc, .string ⟨#[]⟩, .string (bA' x.sl)] 25) = W5 := ⟨_, rfl⟩
    change Code.wp _ _ _ _ (W4.alloc (.cells #[.int .i64 x.number, .int .i64 x.date, .string (bA' x.prev), .slice ya x.entries.length yc, .string ⟨#[]⟩, .string (bA' x.sl)] 25))
    rw [hW2] at hbN bB ⊢
    clear hW2
    have kb5 := step2 kb4 hbN
    have bA5 := bA4.below hbN
    have hro5 := hro4.below hbN
    have hro6 := hro2.below hbN
    clear hro4 hro2 hbN kb4  bA4
    have HSm := Lib.hid (show Calls Tryz.prog 14 #[.agg #[.int .i64 x.number, .int .i64 x.date, .string (bA' x.prev), .slice xa x.entries.length xc, .string ⟨#[]⟩, .string (bA' x.sl)], .agg #[.int .i64 x.number, .int .i64 x.date, .string (bA' x.prev), .slice ya x.entries.length yc, .string ⟨#[]⟩, .string (bA' x.sl)]] W5 (BoolP true W5) from by
      have := ssame_any x.se x.se xa ya xc yc W5 hro5 hro6
      rw [isB_yes rfl] at this
      exact this)
    obtain ⟨c0, c1, c2, c3, c4, c5⟩ := bA5.cells6
    obtain ⟨d0, d1, d2, d3, d4, d5⟩ := bB.cells6
    clear hro5 hro6
    go_wp2_with fail
    refine HSm.out.mono ?_
    rintro e W6 ⟨rfl, hb6⟩
    have q3 : (x.size == x.size) = true := by rw [beq_iff_eq]
    have q4 : ((bA' x.sum).toList == (bA' x.sum).toList) = true := by rw [str_eq]; exact decide_eq_true rfl
    go_wp2_with fail
    go_ret
    exact ⟨rfl, step2 kb5 hb6⟩
end Go.Proofs.YtjlfjchcmkkebaaGreatDoor
