/-
  Chapter 40: the law Encoding, walked out of the contracts.
-/
import Derived.Test.YtjlfjchcmkkebaaGreatDoorMb
import Derived.Test.YtjlfjchcmkkebaaGreatDoorMc
namespace Go.Proofs.YtjlfjchcmkkebaaGreatDoor
open Go.RowKit Go.Shelf
set_option maxRecDepth 100000 in
set_option maxHeartbeats 4000000 in
theorem lawEncoding40 (s : Se) (a : Option Addr) (c : Nat) (w : World) (he : Env w) (hm : HasMax w) (hr : EnRow w (.slice a s.entries.length c) s.entries) (wf : SeWf s) :
    Calls Tryz.prog 7 #[.agg #[.int .i64 s.number, .int .i64 s.date, .string s.prev, .slice a s.entries.length c, .string s.stream, .string s.sl]] w fun e w' => e = .returned (.bool true) ∧ Below w.heap.size w w' := by
  have HE := Lib.hid (show ∀ W, Below w.heap.size w W → Env W from fun W hW => he.below hW)
  have HM := Lib.hid (show ∀ W, Below w.heap.size w W → HasMax W from fun W hW => hm.below hW)
  have HX := Lib.hid (seCs he hm hr wf)
  have WF := Lib.hid wf
  clear he hm hr wf
  obtain ⟨kb0, bX⟩ := box1'' w [.int .i64 s.number, .int .i64 s.date, .string s.prev, .slice a s.entries.length c, .string s.stream, .string s.sl] 25
  change Below _ _ (w.alloc (.cells #[.int .i64 s.number, .int .i64 s.date, .string s.prev, .slice a s.entries.length c, .string s.stream, .string s.sl] 25)) at kb0
  change Box (w.alloc (.cells #[.int .i64 s.number, .int .i64 s.date, .string s.prev, .slice a s.entries.length c, .string s.stream, .string s.sl] 25)) _ _ _ at bX
  go_enter Tryz.func7, Tryz.ntmps7
  go_upto_region 1 with (fail)
  obtain ⟨W0, hW0⟩ : ∃ W0, w.alloc (.cells #[.int .i64 s.number, .int .i64 s.date, .string s.prev, .slice a s.entries.length c, .string s.stream, .string s.sl] 25) = W0 := ⟨_, rfl⟩
  change Code.wp _ _ _ _ (w.alloc (.cells #[.int .i64 s.number, .int .i64 s.date, .string s.prev, .slice a s.entries.length c, .string s.stream, .string s.sl] 25))
  rw [hW0] at kb0 bX ⊢
  clear hW0
  obtain ⟨c0, c1, c2, c3, c4, c5⟩ := bX.cells6
  go_wp2_with fail
  refine (alive40_any W0 (HE.out _ kb0) (HM.out _ kb0)).mono ?_
  rintro e W1 ⟨rfl, hb⟩
  have kb1 := step2 kb0 hb
  have bX1 := bX.below hb
  clear kb0 hb bX c0 c1 c2 c3 c4 c5
  obtain ⟨c0, c1, c2, c3, c4, c5⟩ := bX1.cells6
  go_wp2_with fail
  refine (HX.out.great W1 kb1).mono ?_
  rintro e W2 ⟨g, rfl, hgx, hsx, hb⟩
  have kb2 := step2 kb1 hb
  have bX2 := bX1.below hb
  clear kb1 hb bX1 c0 c1 c2 c3 c4 c5
  rcases hgx.out with rfl | rfl
  case inr =>
    go_wp2_with fail
    go_ret
    exact ⟨rfl, kb2⟩
  have SS := Lib.hid (hsx.out rfl)
  have OK := Lib.hid (seOk_small WF.out SS.out)
  clear hgx hsx
  have HPe := Lib.hid (HX.out.enc OK.out)
  have HRe := Lib.hid (HX.out.renc OK.out SS.out)
  have HPd := Lib.hid (HX.out.dig OK.out)
  have HRd := Lib.hid (HX.out.rdig OK.out SS.out)
  clear HX OK SS WF
  generalize (if sgnE s = 0 then textL s else []) = l1 at *
  generalize (if sgnE s = 0 then sumB (signedL s) else []) = l2 at *
  generalize sgnE s = ce at *
  obtain ⟨c0, c1, c2, c3, c4, c5⟩ := bX2.cells6
  go_wp2_with fail
  refine (HPe.out W2 kb2).mono ?_
  rintro e W3 ⟨ta, rfl, hta, hb⟩
  have kb3 := step2 kb2 hb
  have bX3 := bX2.below hb
  clear kb2 hb bX2 c0 c1 c2 c3 c4 c5
  obtain ⟨c0, c1, c2, c3, c4, c5⟩ := bX3.cells6
  go_wp2_with fail
  refine (HRe.out W3 kb3).mono ?_
  rintro e W4 ⟨tb, rfl, htb, hb⟩
  have kb4 := step2 kb3 hb
  have bX4 := bX3.below hb
  clear kb3 hb bX3 c0 c1 c2 c3 c4 c5
  obtain ⟨c0, c1, c2, c3, c4, c5⟩ := bX4.cells6
  go_wp2_with fail
  refine (HPd.out W4 kb4).mono ?_
  rintro e W5 ⟨tc, rfl, htc, hb⟩
  have kb5 := step2 kb4 hb
  have bX5 := bX4.below hb
  clear kb4 hb bX4 c0 c1 c2 c3 c4 c5
  obtain ⟨c0, c1, c2, c3, c4, c5⟩ := bX5.cells6
  go_wp2_with fail
  refine (HRd.out W5 kb5).mono ?_
  rintro e W6 ⟨td, rfl, htd, hb⟩
  have kb6 := step2 kb5 hb
  have bX6 := bX5.below hb
  clear kb5 hb bX5 c0 c1 c2 c3 c4 c5
  have q1 : (ta.toList == tb.toList) = true := by rw [str_eq]; exact decide_eq_true (by rw [hta.out, htb.out])
  have q2 : (tc.toList == td.toList) = true := by rw [str_eq]; exact decide_eq_true (by rw [htc.out, htd.out])
  have q3 : (ce == ce) = true := by rw [beq_iff_eq]
  clear hta htb htc htd
  go_wp2_with fail
  go_ret
  exact ⟨rfl, kb6⟩
end Go.Proofs.YtjlfjchcmkkebaaGreatDoor
