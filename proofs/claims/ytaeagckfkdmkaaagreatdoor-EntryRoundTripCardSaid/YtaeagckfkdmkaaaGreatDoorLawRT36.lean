/-
  Chapter 36: the law RoundTrip, walked out of the contracts.
-/
import Derived.Test.YtaeagckfkdmkaaaGreatDoorLawB36
import Derived.Test.YtaeagckfkdmkaaaGreatDoorEntMore
namespace Go.Proofs.YtaeagckfkdmkaaaGreatDoor
open Go.RowKit Go.Shelf
set_option maxRecDepth 100000 in
set_option maxHeartbeats 4000000 in
theorem lawRound_any (x : En) (va vx : Value) (s1 s2 : ByteArray) (w : World) (he : Env w) (hm : HasMax w) (ha : AtRow w va x.attrs) (hx : ExRow w vx x.exts) (wf : EnWf x) (z1 : s1.size ≤ 140737488355328) (z2 : s2.size ≤ 140737488355328) :
    Calls Tryz.prog 5 #[.agg #[.int .i64 x.kind, .string x.path, va, .string x.target, .int .i64 x.size, .string x.digest, vx], .string s1, .string s2] w fun e w' => e = .returned (.bool true) ∧ Below w.heap.size w w' := by
  have HE := Lib.hid (show ∀ W, Below w.heap.size w W → Env W from fun W hW => he.below hW)
  have HM := Lib.hid (show ∀ W, Below w.heap.size w W → HasMax W from fun W hW => hm.below hW)
  have HX := Lib.hid (enCs he hm ha hx wf)
  obtain ⟨a1, m1, rfl⟩ := ha.form
  obtain ⟨a2, m2, rfl⟩ := hx.form
  clear he hm ha hx
  obtain ⟨kb0, bX⟩ := box1 w [.int .i64 x.kind, .string x.path, .slice a1 x.attrs.length m1, .string x.target, .int .i64 x.size, .string x.digest, .slice a2 x.exts.length m2] 25
  change Below _ _ (w.alloc (.cells #[.int .i64 x.kind, .string x.path, .slice a1 x.attrs.length m1, .string x.target, .int .i64 x.size, .string x.digest, .slice a2 x.exts.length m2] 25)) at kb0
  change Box (w.alloc (.cells #[.int .i64 x.kind, .string x.path, .slice a1 x.attrs.length m1, .string x.target, .int .i64 x.size, .string x.digest, .slice a2 x.exts.length m2] 25)) _ _ _ at bX
  go_enter Tryz.func5, Tryz.ntmps5
  go_upto_region 1 with (fail)
  obtain ⟨W0, hW0⟩ : ∃ W0, w.alloc (.cells #[.int .i64 x.kind, .string x.path, .slice a1 x.attrs.length m1, .string x.target, .int .i64 x.size, .string x.digest, .slice a2 x.exts.length m2] 25) = W0 := ⟨_, rfl⟩
  change Code.wp _ _ _ _ (w.alloc (.cells #[.int .i64 x.kind, .string x.path, .slice a1 x.attrs.length m1, .string x.target, .int .i64 x.size, .string x.digest, .slice a2 x.exts.length m2] 25))
  rw [hW0] at kb0 bX ⊢
  clear hW0
  go_wp2_with fail
  refine (alive_any W0 (HE.out _ kb0) (HM.out _ kb0)).mono ?_
  rintro e W1 ⟨rfl, hb1⟩
  have kb1 := step2 kb0 hb1
  have bX1 := bX.below hb1
  clear bX kb0 hb1
  obtain ⟨c0, c1, c2, c3, c4, c5, c6⟩ := bX1.cells7
  go_wp2_with fail
  refine (HX.out.great W1 kb1).mono ?_
  rintro e W2 ⟨g, rfl, hgx, hsx, hb⟩
  have kb2 := step2 kb1 hb
  have bX2 := bX1.below hb
  clear bX1 kb1 hb c0 c1 c2 c3 c4 c5 c6
  rcases hgx.out with rfl | rfl
  case inr =>
    go_wp2_with fail
    go_ret
    exact ⟨rfl, kb2⟩
  have okx := enOk_small wf (hsx.out rfl)
  have SMx := Lib.hid (hsx.out rfl)
  clear hgx hsx
  clear wf
  by_cases h1 : 300 < s1.size
  · go_wp2_with fail
    go_ret
    exact ⟨rfl, kb2⟩
  by_cases h2 : 300 < s2.size
  · go_wp2_with fail
    go_ret
    exact ⟨rfl, kb2⟩
  obtain ⟨c0, c1, c2, c3, c4, c5, c6⟩ := bX2.cells7
  by_cases hc : chkE x = 0
  case neg =>
    have HN := Lib.hid (HX.out.enc okx)
    have HCk := Lib.hid (HX.out.check okx)
    rw [if_neg hc] at HN
    clear HX okx SMx
    generalize chkE x = ce at *
    have q1 : (ce != 0) = true := by rw [bne_iff_ne]; exact hc
    have Hc := Lib.hid hc; clear hc
    go_wp2_with fail
    refine (HN.out W2 kb2).mono ?_
    rintro e W3 ⟨t, rfl, ht, hb3⟩
    have kb3 := step2 kb2 hb3
    have bX3 := bX2.below hb3
    have hte : t.toList.isEmpty = true := by rw [isEmpty_list, ht.out]; rfl
    clear bX2 kb2 hb3 c0 c1 c2 c3 c4 c5 c6
    obtain ⟨c0, c1, c2, c3, c4, c5, c6⟩ := bX3.cells7
    go_wp2_with fail
    refine (HCk.out W3 kb3).mono ?_
    rintro e W4 ⟨rfl, hb4⟩
    have q3 : (ce == ce) = true := by rw [beq_iff_eq]
    go_wp2_with fail
    go_ret
    exact ⟨rfl, step2 kb3 hb4⟩
  have HN := Lib.hid (HX.out.enc okx)
  rw [if_pos hc, hc] at HN
  go_wp2_with fail
  refine (HN.out W2 kb2).mono ?_
  rintro e W3 ⟨t, rfl, ht, hb3⟩
  have kb3 := step2 kb2 hb3
  have bX3 := bX2.below hb3
  have htl : t.size ≤ 20000 := by
    have h3 := small_body SMx.out okx
    rw [← ht.out] at h3; exact h3
  have HD : Hid (decA (s1 ++ t ++ s2) (s1.size : Int) = .ok (x, ((s1.size + t.size : Nat) : Int))) := by
    have h3 := reads_mid s1.data.toList (bodyL x) s2.data.toList
    have h4 : (s1 ++ t ++ s2).data.toList = s1.data.toList ++ bodyL x ++ s2.data.toList := by
      rw [append_list, append_list, ht.out]
    rw [← h4, ← ht.out] at h3
    refine Lib.hid (decA_of hc ?_)
    rw [← ht.out]; exact h3
  have hsS : (s1 ++ t ++ s2).size ≤ 1000000 := by
    rw [ByteArray.size_append, ByteArray.size_append]; omega
  have HDW := Lib.hid (decode_walk (s1 ++ t ++ s2) s1.size W3 (HE.out _ kb3) (HM.out _ kb3) hsS (by omega) (by omega))
  rw [HD.out] at HDW
  clear bX2 kb2 hb3 c0 c1 c2 c3 c4 c5 c6 HN HD hsS
  go_wp2_with fail
  refine HDW.out.mono ?_
  rintro e W4 ⟨vb, vy, rfl, hA, hX, hb4⟩
  have kb4 := step2 kb3 hb4
  have bX4 := bX3.below hb4
  obtain ⟨a5, m5, rfl⟩ := GRow.form hA
  obtain ⟨a6, m6, rfl⟩ := GRow.form hX
  have hbY := box1 W4 [.int .i64 x.kind, .string x.path, .slice a5 x.attrs.length m5, .string x.target, .int .i64 x.size, .string x.digest, .slice a6 x.exts.length m6] 25
  obtain ⟨hb5, bY⟩ := hbY
  change Below _ _ (W4.alloc (.cells #[.int .i64 x.kind, .string x.path, .slice a5 x.attrs.length m5, .string x.target, .int .i64 x.size, .string x.digest, .slice a6 x.exts.length m6] 25)) at hb5
  change Box (W4.alloc (.cells #[.int .i64 x.kind, .string x.path, .slice a5 x.attrs.length m5, .string x.target, .int .i64 x.size, .string x.digest, .slice a6 x.exts.length m6] 25)) _ _ _ at bY
  clear HDW bX3 kb3 hb4
  unfold enV
  go_upto_region 9 with (fail)
  have hA5 := hA.below hb5
  have hX5 := hX.below hb5
  have kb5 := step2 kb4 hb5
  have bX5 := bX4.below hb5
  obtain ⟨W5, hW5⟩ : ∃ W5, W4.alloc (.cells #[.int .i64 x.kind, .string x.path, .slice a5 x.attrs.length m5, .string x.target, .int .i64 x.size, .string x.digest, .slice a6 x.exts.length m6] 25) = W5 := ⟨_, rfl⟩
  change Code.wp _ _ _ _ (W4.alloc (.cells #[.int .i64 x.kind, .string x.path, .slice a5 x.attrs.length m5, .string x.target, .int .i64 x.size, .string x.digest, .slice a6 x.exts.length m6] 25))
  rw [hW5] at bY hA5 hX5 kb5 bX5 ⊢
  clear hW5 hA hX bX4 kb4 hb5
  obtain ⟨c0, c1, c2, c3, c4, c5, c6⟩ := bX5.cells7
  obtain ⟨d0, d1, d2, d3, d4, d5, d6⟩ := bY.cells7
  have HQ := equal_any x x (.slice a1 x.attrs.length m1) (.slice a2 x.exts.length m2) (.slice a5 x.attrs.length m5) (.slice a6 x.exts.length m6) W5 (HX.out.at_ _ kb5) (HX.out.ex_ _ kb5) hA5 hX5
  rw [isB_yes rfl] at HQ
  replace HQ := Lib.hid HQ
  have HCk := Lib.hid (fun W (hW : Below W5.heap.size W5 W) => check_any x (.slice a5 x.attrs.length m5) (.slice a6 x.exts.length m6) W (HE.out _ (step2 kb5 hW)) (HM.out _ (step2 kb5 hW)) (hA5.below hW) (hX5.below hW) okx)
  rw [hc] at HCk
  clear hA5 hX5 HX SMx okx hc
  have q5 : (((s1.size + t.size : Nat) : Int) == (s1.size : Int) + (t.size : Int)) = true := by simp
  go_wp2_with fail
  refine HQ.out.mono ?_
  rintro e W6 ⟨rfl, hb6⟩
  have kb6 := step2 kb5 hb6
  have bY6 := bY.below hb6
  have HC6 := Lib.hid (HCk.out W6 hb6)
  clear HQ HCk hb6 kb5 bX5 bY c0 c1 c2 c3 c4 c5 c6 d0 d1 d2 d3 d4 d5 d6
  obtain ⟨d0, d1, d2, d3, d4, d5, d6⟩ := bY6.cells7
  go_wp2_with fail
  refine HC6.out.mono ?_
  rintro e W7 ⟨rfl, hb7⟩
  go_wp2_with fail
  go_ret
  exact ⟨rfl, step2 kb6 hb7⟩
end Go.Proofs.YtaeagckfkdmkaaaGreatDoor
