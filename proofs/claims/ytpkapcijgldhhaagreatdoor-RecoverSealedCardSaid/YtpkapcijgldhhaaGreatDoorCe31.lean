/-
  The walk of the program's Decode of a directory text.
-/
import Derived.Test.YtpkapcijgldhhaaGreatDoorCe27
import Derived.Deep.Cut
import Derived.Deep.CutRange
import Derived.Deep.CutBlock
import Derived.BigRegion
namespace Go.Proofs.YtpkapcijgldhhaaGreatDoor
open Go.RowKit Go.Shelf

theorem resN {W : World} {D : Nat} {v0 v1 v2 v3 v4 v5 : Value} (tmps : Array Value) (n : Int) (t : ByteArray) (x : Int) (b : Box W D [v0, v1, v2, v3, v4, v5] 53) (h2 : tmps[2]?.getD undef = .pointer (some ⟨D, 0, none⟩)) (h3 : tmps[3]?.getD undef = .int .i64 n) (h4 : tmps[4]?.getD undef = .string t) (h5 : tmps[5]?.getD undef = .int .i64 x) :
    (results Tryz.f92 tmps).run Tryz.prog W = .ok (.tuple #[.agg #[v0, v1, v2, v3, v4, v5], .int .i64 n, .string t, .int .i64 x]) W := by
  obtain ⟨c0, c1, c2, c3, c4, c5⟩ := b.cells6
  simp [results, Tryz.results92, go_sem, h2, h3, h4, h5, c0, c1, c2, c3, c4, c5]
theorem resS {W : World} {D : Nat} {v0 v1 v2 v3 v4 v5 : Value} (tmps : Array Value) (n : Int) (t : ByteArray) (x : Int) (b : Box W D [v0, v1, v2, v3, v4, v5] 53) (h2 : tmps[2]?.getD undef = .pointer (some ⟨D, 0, none⟩)) (h3 : tmps[3]?.getD undef = .int .i64 n) (h4 : tmps[4]?.getD undef = .string t) (h5 : tmps[5]?.getD undef = .int .i64 x) :
    (results Tryz.f61 tmps).run Tryz.prog W = .ok (.tuple #[.agg #[v0, v1, v2, v3, v4, v5], .int .i64 n, .string t, .int .i64 x]) W := by
  obtain ⟨c0, c1, c2, c3, c4, c5⟩ := b.cells6
  simp [results, Tryz.results61, go_sem, h2, h3, h4, h5, c0, c1, c2, c3, c4, c5]
set_option maxHeartbeats 1000000 in
theorem none_any (x : Int) (w : World) : Calls Tryz.prog 92 #[.int .i64 x] w fun e w' => e = .returned (.tuple #[.agg #[.int .i64 0, .int .i64 0, .string ⟨#[]⟩, .slice none 0 0, .string ⟨#[]⟩, .string ⟨#[]⟩], .int .i64 0, .string ⟨#[]⟩, .int .i64 x]) ∧ Below w.heap.size w w' := by
  obtain ⟨kb, bD⟩ := box1' w [.int .i64 0, .int .i64 0, .string ⟨#[]⟩, .slice none 0 0, .string ⟨#[]⟩, .string ⟨#[]⟩] 53
  change Box (w.alloc (.cells #[.int .i64 0, .int .i64 0, .string ⟨#[]⟩, .slice none 0 0, .string ⟨#[]⟩, .string ⟨#[]⟩] 53)) _ _ _ at bD
  go_enter Tryz.func92, Tryz.ntmps92
  go_wp2_with fail
  exact bodyPost_ret (v := .tuple #[.agg #[.int .i64 0, .int .i64 0, .string ⟨#[]⟩, .slice none 0 0, .string ⟨#[]⟩, .string ⟨#[]⟩], .int .i64 0, .string ⟨#[]⟩, .int .i64 x]) (resN _ _ _ _ bD rfl rfl rfl rfl) rfl ⟨rfl, kb⟩
set_option maxRecDepth 100000 in
set_option maxHeartbeats 4000000 in
theorem ddecode_walk (s : ByteArray) (w : World) (hs : s.size ≤ 1000000) (he : Env w) (hm : HasMax w) : Calls Tryz.prog 61 #[.string s] w (DirQ (dirR s.data.toList) w) := by
  have HE := Lib.hid (show ∀ W, Below w.heap.size w W → Env W from fun W hW => he.below hW)
  have HM := Lib.hid (show ∀ W, Below w.heap.size w W → HasMax W from fun W hW => hm.below hW)
  clear he hm
  have eg := enters_of Tryz.func92 (by kernel_rfl) rfl
  obtain ⟨Q, hQ⟩ : ∃ Q, dirR s.data.toList = Q := ⟨_, rfl⟩
  rw [hQ]
  have HQ := Lib.hid hQ.symm; clear hQ
  obtain ⟨kb0, bD0⟩ := box1' w zeroS 53
  change Below _ _ (w.alloc (.cells #[.int .i64 0, .int .i64 0, .string ⟨#[]⟩, .slice none 0 0, .string ⟨#[]⟩, .string ⟨#[]⟩] 53)) at kb0
  change Box (w.alloc (.cells #[.int .i64 0, .int .i64 0, .string ⟨#[]⟩, .slice none 0 0, .string ⟨#[]⟩, .string ⟨#[]⟩] 53)) _ _ _ at bD0
  have HL := Lib.hid (fun W => length_any s W (by omega))
  go_enter Tryz.func61, Tryz.ntmps61
  go_upto_region 2 with (fail)
  obtain ⟨W0, hW0⟩ : ∃ W0, w.alloc (.cells #[.int .i64 0, .int .i64 0, .string ⟨#[]⟩, .slice none 0 0, .string ⟨#[]⟩, .string ⟨#[]⟩] 53) = W0 := ⟨_, rfl⟩
  change Code.wp _ _ _ _ (w.alloc (.cells #[.int .i64 0, .int .i64 0, .string ⟨#[]⟩, .slice none 0 0, .string ⟨#[]⟩, .string ⟨#[]⟩] 53))
  rw [hW0] at kb0 bD0 ⊢
  clear hW0
  have HS0 : Hid (Q = lenR s.data.toList >>= fun n => if (s.data.toList.length : Int) < n then .error 4 else if n < s.data.toList.length then .error 3 else bodyR s.data.toList) := HQ
  have hl : s.data.toList.length = s.size := rfl
  go_wp2_with fail
  refine (HL.out W0).mono ?_
  rintro e W1 ⟨rfl, rfl⟩
  clear HL HQ
  have HN : Hid (∀ n, lenR s.data.toList = .ok n → 8 ≤ n) := Lib.hid fun n h => by obtain ⟨_, _, rfl⟩ := lenR_ok.1 h; omega
  have HZ : Hid (∀ x, lenR s.data.toList = .error x → x ≠ 0) := Lib.hid fun x h => by
    unfold lenR at h
    split at h
    · cases h; decide
    split at h
    · cases h
    · cases h; decide
  rcases hr : lenR s.data.toList with x | n
  · have HRx : Hid (Q = .error x) := by rw [Hid, HS0.out, hr]; rfl
    have hx := HZ.out x hr
    have q1 : (x != 0) = true := by rw [bne_iff_ne]; exact hx
    have i1 : stInt (.error x) = 0 := rfl
    have i2 : errOf (.error x) = x := rfl
    rw [i1, i2]
    clear hr hx HS0 HN HZ
    go_wp2_with fail
    refine (none_any x W0).mono ?_
    rintro e Wz ⟨rfl, hbz⟩
    have kbz := step2 kb0 hbz
    have bDz := Box.below bD0 hbz
    unfold zeroS at bDz
    obtain ⟨d0, d1, d2, d3, d4, d5⟩ := bDz.cells6
    obtain ⟨y0, y1, y2, y3, y4, y5⟩ := bDz.froz6
    go_wp2_with fail
    have zz := bDz.set6 (.int .i64 0) (.int .i64 0) (.string ⟨#[]⟩) (.slice none 0 0) (.string ⟨#[]⟩) (.string ⟨#[]⟩)
    have kz := below_set6 kbz (Nat.le_refl _) (.int .i64 0) (.int .i64 0) (.string ⟨#[]⟩) (.slice none 0 0) (.string ⟨#[]⟩) (.string ⟨#[]⟩)
    refine bodyPost_ret (v := .tuple #[.agg #[.int .i64 0, .int .i64 0, .string ⟨#[]⟩, .slice none 0 0, .string ⟨#[]⟩, .string ⟨#[]⟩], .int .i64 0, .string ⟨#[]⟩, .int .i64 x]) (resS _ _ _ _ zz rfl rfl rfl rfl) rfl ?_
    rw [HRx.out]
    exact ⟨rfl, kz⟩
  have hn8 := HN.out n hr
  have HS1 : Hid (Q = if (s.data.toList.length : Int) < n then .error 4 else if n < s.data.toList.length then .error 3 else bodyR s.data.toList) := by rw [Hid, HS0.out, hr]; rfl
  have i1 : stInt (.ok n) = n := rfl
  have i2 : errOf (.ok n) = 0 := rfl
  rw [i1, i2]
  clear hr HS0 HN HZ
  by_cases hlt : (s.size : Int) < n
  · have HRx : Hid (Q = .error 4) := by rw [Hid, HS1.out, hl, if_pos hlt]
    go_wp2_with fail
    refine (none_any 4 W0).mono ?_
    rintro e Wz ⟨rfl, hbz⟩
    have kbz := step2 kb0 hbz
    have bDz := Box.below bD0 hbz
    unfold zeroS at bDz
    obtain ⟨d0, d1, d2, d3, d4, d5⟩ := bDz.cells6
    obtain ⟨y0, y1, y2, y3, y4, y5⟩ := bDz.froz6
    go_wp2_with fail
    have zz := bDz.set6 (.int .i64 0) (.int .i64 0) (.string ⟨#[]⟩) (.slice none 0 0) (.string ⟨#[]⟩) (.string ⟨#[]⟩)
    have kz := below_set6 kbz (Nat.le_refl _) (.int .i64 0) (.int .i64 0) (.string ⟨#[]⟩) (.slice none 0 0) (.string ⟨#[]⟩) (.string ⟨#[]⟩)
    refine bodyPost_ret (v := .tuple #[.agg #[.int .i64 0, .int .i64 0, .string ⟨#[]⟩, .slice none 0 0, .string ⟨#[]⟩, .string ⟨#[]⟩], .int .i64 0, .string ⟨#[]⟩, .int .i64 4]) (resS _ _ _ _ zz rfl rfl rfl rfl) rfl ?_
    rw [HRx.out]
    exact ⟨rfl, kz⟩
  by_cases hgt : n < (s.size : Int)
  · have HRx : Hid (Q = .error 3) := by rw [Hid, HS1.out, hl, if_neg hlt, if_pos hgt]
    go_wp2_with fail
    refine (none_any 3 W0).mono ?_
    rintro e Wz ⟨rfl, hbz⟩
    have kbz := step2 kb0 hbz
    have bDz := Box.below bD0 hbz
    unfold zeroS at bDz
    obtain ⟨d0, d1, d2, d3, d4, d5⟩ := bDz.cells6
    obtain ⟨y0, y1, y2, y3, y4, y5⟩ := bDz.froz6
    go_wp2_with fail
    have zz := bDz.set6 (.int .i64 0) (.int .i64 0) (.string ⟨#[]⟩) (.slice none 0 0) (.string ⟨#[]⟩) (.string ⟨#[]⟩)
    have kz := below_set6 kbz (Nat.le_refl _) (.int .i64 0) (.int .i64 0) (.string ⟨#[]⟩) (.slice none 0 0) (.string ⟨#[]⟩) (.string ⟨#[]⟩)
    refine bodyPost_ret (v := .tuple #[.agg #[.int .i64 0, .int .i64 0, .string ⟨#[]⟩, .slice none 0 0, .string ⟨#[]⟩, .string ⟨#[]⟩], .int .i64 0, .string ⟨#[]⟩, .int .i64 3]) (resS _ _ _ _ zz rfl rfl rfl rfl) rfl ?_
    rw [HRx.out]
    exact ⟨rfl, kz⟩
  have HR0 : Hid (Q = bs1 s.data.toList ((.ok 8 : Except Int Int) >>= nmb s.data.toList)) := by rw [Hid, HS1.out, hl, if_neg hlt, if_neg hgt]; exact bodyR_steps _
  obtain rfl : n = (s.size : Int) := by omega
  clear HS1 hlt hgt
  have hDR : w.heap.size < W0.heap.size := bD0.lt
  obtain ⟨kbx, bR, bE⟩ := boxes2' W0 [.string s, .int .i64 8, .int .i64 0] zeroS 157 53
  change Below _ _ ((W0.alloc (.cells #[.string s, .int .i64 8, .int .i64 0] 157)).alloc (.cells #[.int .i64 0, .int .i64 0, .string ⟨#[]⟩, .slice none 0 0, .string ⟨#[]⟩, .string ⟨#[]⟩] 53)) at kbx
  change Box ((W0.alloc (.cells #[.string s, .int .i64 8, .int .i64 0] 157)).alloc (.cells #[.int .i64 0, .int .i64 0, .string ⟨#[]⟩, .slice none 0 0, .string ⟨#[]⟩, .string ⟨#[]⟩] 53)) _ _ _ at bR bE
  go_upto_region 11 with (fail)
  have kb2 := step2 kb0 kbx
  have bD2 := bD0.below kbx
  obtain ⟨W2, hW2⟩ : ∃ W2, (W0.alloc (.cells #[.string s, .int .i64 8, .int .i64 0] 157)).alloc (.cells #[.int .i64 0, .int .i64 0, .string ⟨#[]⟩, .slice none 0 0, .string ⟨#[]⟩, .string ⟨#[]⟩] 53) = W2 := ⟨_, rfl⟩
  change Code.wp _ _ _ _ ((W0.alloc (.cells #[.string s, .int .i64 8, .int .i64 0] 157)).alloc (.cells #[.int .i64 0, .int .i64 0, .string ⟨#[]⟩, .slice none 0 0, .string ⟨#[]⟩, .string ⟨#[]⟩] 53))
  rw [hW2] at kb2 bD2 bR bE ⊢
  clear hW2 kb0 bD0 kbx
  generalize W0.heap.size = R at *
  have hst2 : RS 157 W2 R s (.ok 8) := bR
  have bE2 : Box W2 (R + 1) [.int .i64 0, .int .i64 0, .string ⟨#[]⟩, .slice none 0 0, .string ⟨#[]⟩, .string ⟨#[]⟩] 53 := bE
  clear bR bE
  have KB := Lib.hid (show ∀ W W', Below w.heap.size w W → Keep R W W' → Below w.heap.size w W' from fun W W' h1 h2 => h1.trans (h2.1.mono (Nat.le_of_lt hDR)))
  have KD := Lib.hid (show ∀ W W', Box W w.heap.size zeroS 53 → Keep R W W' → Box W' w.heap.size zeroS 53 from fun W W' h1 h2 => h1.below' h2.1 hDR)
  have HC := Lib.hid (dnum_any s (R) (.ok 8 : Except Int Int) W2 hst2 hs (HE.out _ kb2))
  obtain ⟨r1, hr1⟩ : ∃ r1, ((.ok 8 : Except Int Int) >>= nmb s.data.toList) = r1 := ⟨_, rfl⟩
  rw [hr1] at HC
  have HR1 := Lib.hid (HR0.out.trans (by rw [hr1, bs1_next]))

  clear hr1 HR0 hst2
  go_wp2_with fail
  refine HC.out.mono ?_
  rintro e W3 ⟨rfl, hst3, hk3⟩
  have kb3 := KB.out _ _ kb2 hk3
  have bD3 := KD.out _ _ bD2 hk3
  have bE3 := bE2.keep hk3 (by omega)
  obtain ⟨v1, hv1⟩ : ∃ v1, stNum r1 = v1 := ⟨_, rfl⟩
  rw [hv1]
  have HR1' := Lib.hid (by have h := HR1.out; rw [hv1] at h; exact h)
  have Hv1 := Lib.hid hv1
  clear HC kb2 bD2 bE2 hk3 hv1 HR1
  have HR1 := HR1'
  clear HR1'

  have ec : W3.cell? ⟨R + 1, 0, none⟩ = some (.int .i64 0) := bE3.cell 0
  have ef := bE3.frozen 0
  go_upto_region 12 with (fail)
  have hst4 := hst3.setOther (E := R + 1) (j := 0) (by omega) (.int .i64 v1)
  have bD4 := bD3.setOther (E' := R + 1) (j := 0) (by omega) (.int .i64 v1)
  have bE4 := bE3.set (j := 0) (.int .i64 v1)
  have kb4 := kb3.setCell (p := ⟨R + 1, 0, none⟩) (show w.heap.size ≤ R + 1 by omega) (.int .i64 v1)
  simp only [List.set_cons_zero] at bE4
  obtain ⟨W4, hW4⟩ : ∃ W4, W3.setCell ⟨R + 1, 0, none⟩ (.int .i64 v1) = W4 := ⟨_, rfl⟩
  change Code.wp _ _ _ _ (W3.setCell ⟨R + 1, 0, none⟩ (.int .i64 v1))
  rw [hW4] at hst4 bD4 bE4 kb4 ⊢
  clear hW4 ec ef hst3 bD3 bE3 kb3

  have HC := Lib.hid (dnum_any s (R) (stAt r1) W4 hst4 hs (HE.out _ kb4))
  obtain ⟨r2, hr2⟩ : ∃ r2, ((stAt r1) >>= nmb s.data.toList) = r2 := ⟨_, rfl⟩
  rw [hr2] at HC
  have HR2 := Lib.hid (HR1.out.trans (by rw [hr2, bs2_next]))

  clear hr2 HR1 hst4
  go_wp2_with fail
  refine HC.out.mono ?_
  rintro e W5 ⟨rfl, hst5, hk5⟩
  have kb5 := KB.out _ _ kb4 hk5
  have bD5 := KD.out _ _ bD4 hk5
  have bE5 := bE4.keep hk5 (by omega)
  obtain ⟨v2, hv2⟩ : ∃ v2, stNum r2 = v2 := ⟨_, rfl⟩
  rw [hv2]
  have HR2' := Lib.hid (by have h := HR2.out; rw [hv2] at h; exact h)
  have Hv2 := Lib.hid hv2
  clear HC kb4 bD4 bE4 hk5 hv2 HR2
  have HR2 := HR2'
  clear HR2'

  have ec : W5.cell? ⟨R + 1, 1, none⟩ = some (.int .i64 0) := bE5.cell 1
  have ef := bE5.frozen 1
  go_upto_region 13 with (fail)
  have hst6 := hst5.setOther (E := R + 1) (j := 1) (by omega) (.int .i64 v2)
  have bD6 := bD5.setOther (E' := R + 1) (j := 1) (by omega) (.int .i64 v2)
  have bE6 := bE5.set (j := 1) (.int .i64 v2)
  have kb6 := kb5.setCell (p := ⟨R + 1, 1, none⟩) (show w.heap.size ≤ R + 1 by omega) (.int .i64 v2)
  simp only [List.set_cons_zero, List.set_cons_succ] at bE6
  obtain ⟨W6, hW6⟩ : ∃ W6, W5.setCell ⟨R + 1, 1, none⟩ (.int .i64 v2) = W6 := ⟨_, rfl⟩
  change Code.wp _ _ _ _ (W5.setCell ⟨R + 1, 1, none⟩ (.int .i64 v2))
  rw [hW6] at hst6 bD6 bE6 kb6 ⊢
  clear hW6 ec ef hst5 bD5 bE5 kb5

  have HC := Lib.hid (dtxt_any s (R) (stAt r2) W6 hst6 hs (HE.out _ kb6))
  obtain ⟨r3, hr3⟩ : ∃ r3, ((stAt r2) >>= txt s.data.toList) = r3 := ⟨_, rfl⟩
  rw [hr3] at HC
  have HR3 := Lib.hid (HR2.out.trans (by rw [hr3, bs3_next]))
  have HBS3 := Lib.hid (show (stStr r3).length ≤ s.data.toList.length from by rw [← hr3]; exact stStr_le _ _)
  clear hr3 HR2 hst6
  go_wp2_with fail
  refine HC.out.mono ?_
  rintro e W7 ⟨rfl, hst7, hk7⟩
  have kb7 := KB.out _ _ kb6 hk7
  have bD7 := KD.out _ _ bD6 hk7
  have bE7 := bE6.keep hk7 (by omega)
  obtain ⟨v3, hv3⟩ : ∃ v3, stStr r3 = v3 := ⟨_, rfl⟩
  rw [hv3]
  have HR3' := Lib.hid (by have h := HR3.out; rw [hv3] at h; exact h)
  have Hv3 := Lib.hid hv3
  clear HC kb6 bD6 bE6 hk7 hv3 HR3
  have HR3 := HR3'
  clear HR3'

  have ec : W7.cell? ⟨R + 1, 2, none⟩ = some (.string ⟨#[]⟩) := bE7.cell 2
  have ef := bE7.frozen 2
  go_upto_region 14 with (fail)
  have hst8 := hst7.setOther (E := R + 1) (j := 2) (by omega) (.string (bA' v3))
  have bD8 := bD7.setOther (E' := R + 1) (j := 2) (by omega) (.string (bA' v3))
  have bE8 := bE7.set (j := 2) (.string (bA' v3))
  have kb8 := kb7.setCell (p := ⟨R + 1, 2, none⟩) (show w.heap.size ≤ R + 1 by omega) (.string (bA' v3))
  simp only [List.set_cons_zero, List.set_cons_succ] at bE8
  obtain ⟨W8, hW8⟩ : ∃ W8, W7.setCell ⟨R + 1, 2, none⟩ (.string (bA' v3)) = W8 := ⟨_, rfl⟩
  change Code.wp _ _ _ _ (W7.setCell ⟨R + 1, 2, none⟩ (.string (bA' v3)))
  rw [hW8] at hst8 bD8 bE8 kb8 ⊢
  clear hW8 ec ef hst7 bD7 bE7 kb7

  have HBD3 : Hid ((bA' v3).size ≤ 9223372036854775807) := Lib.hid (by
    show v3.length ≤ 9223372036854775807
    rw [← Hv3.out]
    have h := HBS3.out
    have hl : s.data.toList.length = s.size := rfl
    omega)

  have HC := Lib.hid (dnum_any s (R) (stAt r3) W8 hst8 hs (HE.out _ kb8))
  obtain ⟨r4, hr4⟩ : ∃ r4, ((stAt r3) >>= nmb s.data.toList) = r4 := ⟨_, rfl⟩
  rw [hr4] at HC
  have HR4 := Lib.hid (HR3.out.trans (by rw [hr4, bs4_next]))

  clear hr4 HR3 hst8
  go_wp2_with fail
  refine HC.out.mono ?_
  rintro e W9 ⟨rfl, hst9, hk9⟩
  have kb9 := KB.out _ _ kb8 hk9
  have bD9 := KD.out _ _ bD8 hk9
  have bE9 := bE8.keep hk9 (by omega)
  obtain ⟨v4, hv4⟩ : ∃ v4, stNum r4 = v4 := ⟨_, rfl⟩
  rw [hv4]
  have HR4' := Lib.hid (by have h := HR4.out; rw [hv4] at h; exact h)
  have Hv4 := Lib.hid hv4
  clear HC kb8 bD8 bE8 hk9 hv4 HR4
  have HR4 := HR4'
  clear HR4'

  have HC := Lib.hid (dtxt_any s (R) (stAt r4) W9 hst9 hs (HE.out _ kb9))
  obtain ⟨r5, hr5⟩ : ∃ r5, ((stAt r4) >>= txt s.data.toList) = r5 := ⟨_, rfl⟩
  rw [hr5] at HC
  have HR5 := Lib.hid (HR4.out.trans (by rw [hr5, bs5_next]))
  have HBS5 := Lib.hid (show (stStr r5).length ≤ s.data.toList.length from by rw [← hr5]; exact stStr_le _ _)
  clear hr5 HR4 hst9
  go_wp2_with fail
  refine HC.out.mono ?_
  rintro e W10 ⟨rfl, hst10, hk10⟩
  have kb10 := KB.out _ _ kb9 hk10
  have bD10 := KD.out _ _ bD9 hk10
  have bE10 := bE9.keep hk10 (by omega)
  obtain ⟨v5, hv5⟩ : ∃ v5, stStr r5 = v5 := ⟨_, rfl⟩
  rw [hv5]
  have HR5' := Lib.hid (by have h := HR5.out; rw [hv5] at h; exact h)
  have Hv5 := Lib.hid hv5
  clear HC kb9 bD9 bE9 hk10 hv5 HR5
  have HR5 := HR5'
  clear HR5'

  have HC := Lib.hid (dnum_any s R (stAt r5) W10 hst10 hs (HE.out _ kb10))
  obtain ⟨r7, hr7⟩ : ∃ r7, (stAt r5 >>= cnt4 s.data.toList) = r7 := ⟨_, rfl⟩
  have HR6 : Hid (Q = bs6 s.data.toList v1 v2 v3 v4 v5 r7) := by rw [Hid, HR5.out, hr7]
  have HC4 : Hid (∀ c b, r7 = .ok (c, b) → (0 ≤ c ∧ c ≤ 400) ∧ 0 ≤ b ∧ b ≤ s.data.toList.length) := Lib.hid fun c b h => cnt4_pos (hr7.trans h)
  have HS6 : Hid (r7 = (match stAt r5 >>= nmb s.data.toList with | .error x => .error x | .ok p => if 400 < p.1 then .error 6 else if p.1 < 0 then .error 2 else .ok p)) := by rw [Hid, ← hr7]; exact cnt4_split _ _
  obtain ⟨r6, hr6⟩ : ∃ r6, (stAt r5 >>= nmb s.data.toList) = r6 := ⟨_, rfl⟩
  rw [hr6] at HC HS6
  clear hr6 hr7 HR5 hst10
  go_wp2_with fail
  refine HC.out.mono ?_
  rintro e W11 ⟨rfl, hst11, hk11⟩
  have kb11 := KB.out _ _ kb10 hk11
  have bD11 := KD.out _ _ bD10 hk11
  have bE11 := bE10.keep hk11 (by omega)
  obtain ⟨v6, hv6⟩ : ∃ v6, stNum r6 = v6 := ⟨_, rfl⟩
  rw [hv6]
  have HV6 : Hid (∀ c b, r7 = .ok (c, b) → v6 = c) := Lib.hid fun c b h => by
    have h1 := HS6.out
    rw [h] at h1
    rcases r6 with x | p
    · cases h1
    · dsimp only at h1
      split at h1
      · cases h1
      split at h1
      · cases h1
      · cases h1; exact hv6.symm
  clear HC kb10 bD10 bE10 hk11
  obtain ⟨c2, f2⟩ := hst11.err

  go_upto_block 1 with (fail)
  go_cut [] from 70 (fun wc => RS 157 wc R s (stAt r7) ∧ Box wc w.heap.size zeroS 53 ∧ Box wc (R + 1) [.int .i64 v1, .int .i64 v2, .string (bA' v3), .slice none 0 0, .string ⟨#[]⟩, .string ⟨#[]⟩] 53 ∧ Below w.heap.size w wc)
  case first =>
    rcases r6 with x | ⟨c, b⟩
    · obtain rfl : r7 = .error x := HS6.out
      have hx : x ≠ 0 := hst11.1
      change W11.cell? _ = some (.int .i64 x) at c2
      have q1 : (x != 0) = true := by rw [bne_iff_ne]; exact hx
      clear hx
      go_wp2_with fail
      go_meet
      exact ⟨hst11, bD11, bE11, kb11⟩
    have hcv : c = v6 := hv6
    subst hcv
    change W11.cell? _ = some (.int .i64 0) at c2
    have bR : Box W11 R [.string s, .int .i64 b, .int .i64 0] 157 := hst11
    have HS7 : Hid (r7 = if 400 < c then .error 6 else if c < 0 then .error 2 else .ok (c, b)) := HS6.out
    by_cases h4 : 400 < c
    · obtain rfl : r7 = .error 6 := HS7.out.trans (if_pos h4)
      go_wp2_with fail
      go_meet
      exact ⟨⟨by decide, b, bR.set (j := 2) (.int .i64 6)⟩, bD11.setOther (by omega) _, bE11.setOther (by omega) _, kb11.setCell (p := ⟨R, 2, none⟩) (Nat.le_of_lt hDR) _⟩
    by_cases h0 : c < 0
    · obtain rfl : r7 = .error 2 := HS7.out.trans ((if_neg h4).trans (if_pos h0))
      go_wp2_with fail
      go_meet
      exact ⟨⟨by decide, b, bR.set (j := 2) (.int .i64 2)⟩, bD11.setOther (by omega) _, bE11.setOther (by omega) _, kb11.setCell (p := ⟨R, 2, none⟩) (Nat.le_of_lt hDR) _⟩
    · obtain rfl : r7 = .ok (c, b) := HS7.out.trans ((if_neg h4).trans (if_neg h0))
      go_wp2_with fail
      go_meet
      exact ⟨hst11, bD11, bE11, kb11⟩
  case rest =>
  obtain ⟨hstA, bDA, bEA, kbA⟩ := hcut
  clear hst11 bD11 bE11 kb11 c2 f2 HS6 hv6
  obtain ⟨WA, rfl⟩ : ∃ WA, WA = wc := ⟨_, rfl⟩

  have hEA : R + 1 < WA.heap.size := bEA.lt
  go_upto_block 2 with (fail)
  go_cut [14] from 88 (fun _ wc => ∃ X v st, RS 157 wc R s st ∧ Box wc w.heap.size zeroS 53 ∧ Box wc (R + 1) [.int .i64 v1, .int .i64 v2, .string (bA' v3), v, .string ⟨#[]⟩, .string ⟨#[]⟩] 53 ∧ Below w.heap.size w wc ∧ OwnEn (R + 2) wc v X ∧ Hid (Q = bs8 s.data.toList v1 v2 v3 v4 v5 X (st >>= txt s.data.toList)))
  case first =>
    obtain ⟨i0, hi, hz0, hz1, hz2⟩ := info_parts infoEn
    rcases r7 with x | ⟨c, b4⟩
    · have c2 : WA.cell? ⟨R, 2, none⟩ = some (.int .i64 x) := hstA.err.1
      have hx : x ≠ 0 := hstA.1
      have q1 : (x == 0) = false := by rw [beq_eq_false_iff_ne]; exact hx
      have HR8 : Hid (Q = bs8 s.data.toList v1 v2 v3 v4 v5 [] ((.error x : Except Int Int) >>= txt s.data.toList)) := HR6
      clear hx
      by_cases hc0 : 0 < v6
      · go_wp2_with fail
        refine wp_loop_rounds 1 ?_; rw [rounds_succ]
        go_wp2_with fail
        go_meet
        exact ⟨[], _, .error x, hstA, bDA, bEA, kbA, OwnEn.nil _ _, HR8⟩
      · go_wp2_with fail
        refine wp_loop_rounds 1 ?_; rw [rounds_succ]
        go_wp2_with fail
        go_meet
        exact ⟨[], _, .error x, hstA, bDA, bEA, kbA, OwnEn.nil _ _, HR8⟩
    obtain ⟨⟨hc0, hc4⟩, hb4⟩ := HC4.out c b4 rfl
    obtain rfl : v6 = c := HV6.out c b4 rfl
    obtain ⟨M, rfl⟩ := Int.eq_ofNat_of_zero_le hc0
    have HR7 : Hid (Q = bs7 s.data.toList v1 v2 v3 v4 v5 (rowR (decR s.data.toList) b4 M)) := by rw [Hid, HR6.out]; show bs7 _ _ _ _ _ _ (rowR (decR s.data.toList) b4 ((M : Int)).toNat) = _; rw [Int.toNat_natCast]
    have HB4 := Lib.hid hb4
    have hM : M ≤ 400 := by omega
    obtain ⟨N, hN⟩ : ∃ N, WA.heap.size = N := ⟨_, rfl⟩
    have hNE : R + 2 ≤ N := by omega
    have hNs : N ≤ WA.heap.size := by omega
    clear HR6 HC4 HV6 hb4 hc4 hc0 hN
    go_wp2_with fail
    go_loopw [14] (fun i wr => ∃ (k : Nat) (X : List En) (st : Except Int Int) (v : Value), k ≤ M ∧ i = .int .i64 k ∧ X.length = k ∧ Hid (RowSt (decR s.data.toList) b4 M k X st) ∧ RS 157 wr R s st ∧ Box wr w.heap.size zeroS 53 ∧
      Box wr (R + 1) [.int .i64 v1, .int .i64 v2, .string (bA' v3), v, .string ⟨#[]⟩, .string ⟨#[]⟩] 53 ∧ Below w.heap.size w wr ∧ N ≤ wr.heap.size ∧ OwnEn N wr v X) (fun i _ => M - (intOf i).toNat)
    case atStart => exact ⟨0, [], .ok b4, _, by omega, rfl, rfl, rfl, hstA, bDA, bEA, kbA, hNs, OwnEn.nil _ _⟩
    case round =>
      obtain ⟨k, X, st, v, hk, rfl, rfl, hrow, hstB, bDB, bEB, kbB, hNB, ownB⟩ := hrel
      clear hstA bDA bEA kbA hNs
      obtain ⟨xa, xc, rfl⟩ := ownB.form
      by_cases hlt : X.length < M
      case neg =>
        obtain rfl : M = X.length := by omega
        have HR8 := Lib.hid (HR7.out.trans (bs7_end hrow.out))
        go_wp2_with fail
        go_meet
        exact ⟨X, _, st, hstB, bDB, bEB, kbB, ownB.mono hNE, HR8⟩
      cases st with
      | error x =>
        have c2 : wr.cell? ⟨R, 2, none⟩ = some (.int .i64 x) := hstB.err.1
        have hx : x ≠ 0 := hstB.1
        have q1 : (x == 0) = false := by rw [beq_eq_false_iff_ne]; exact hx
        have HR8 := Lib.hid (HR7.out.trans (bs7_end (rowSn_err hrow.out)))
        clear hx
        go_wp2_with fail
        go_meet
        exact ⟨X, _, .error x, hstB, bDB, bEB, kbB, ownB.mono hNE, HR8⟩
      | ok b =>
        have c2 : wr.cell? ⟨R, 2, none⟩ = some (.int .i64 0) := hstB.err.1
        have hbb := rowSn_bd hrow.out HB4.out
        have HT := Lib.hid (fun r h => rowEn_next (r := r) hrow.out hlt h)
        have hd : Below wr.heap.size wr wr.drew := below_drew0 (below_refl wr)
        have HC := Lib.hid (dent_any s R (.ok b) wr.drew (hstB.keepE hd hstB.lt) hs (HE.out _ (step2 kbB hd)) (HM.out _ (step2 kbB hd)) (fun a ha => by cases ha; omega))
        change Hid (Calls _ _ _ _ (EntS _ (decR s.data.toList b) _ _ _)) at HC
        obtain ⟨r, hr⟩ : ∃ r, decR s.data.toList b = r := ⟨_, rfl⟩
        rw [hr] at HC
        have HNX := Lib.hid (HT.out r hr)
        clear hr HT hbb hrow
        have HC2 : Hid (Calls Tryz.prog 97 #[.pointer (some ⟨R, 0, none⟩), .func (.func 98) #[] #[]] wr.drew fun e w' => ∃ a1 m1 a2 m2, e = .returned (.agg #[.int .i64 (stEn r).kind, .string (stEn r).path, .slice a1 (stEn r).attrs.length m1, .string (stEn r).target, .int .i64 (stEn r).size, .string (stEn r).digest, .slice a2 (stEn r).exts.length m2]) ∧ OwnA wr.drew.heap.size w' ⟨stEn r, .slice a1 (stEn r).attrs.length m1, .slice a2 (stEn r).exts.length m2⟩ ∧ RS 157 w' R s (stAt r) ∧ Keep R wr.drew w') := Lib.hid (HC.out.mono fun e w' ⟨va, vx, h1, h2, h3, h4⟩ => by
          obtain ⟨a1, m1, e1⟩ := (OwnG.row (n := 2) (f := At.vals) (d := at0) (fun _ => rfl) h2.1).form
          obtain ⟨a2, m2, e2⟩ := (OwnG.row (n := 3) (f := Ex.vals) (d := ex0) (fun _ => rfl) h2.2).form
          simp only at e1 e2
          subst e1 e2
          exact ⟨a1, m1, a2, m2, h1, h2, h3, h4⟩)
        clear HC
        generalize stEn r = y at *
        generalize stAt r = st2 at *
        obtain ⟨LL, hLL, hG, hAll⟩ := ownB
        have hLn : LL.length = X.length := by rw [← hLL, List.length_map]
        rw [OwnG, hLn] at hG
        have HLL := Lib.hid hLL
        have HAL := Lib.hid hAll
        have hGd : wr.drew.ownsRow N 109 7 (.slice xa X.length xc) X.length (LL.flatMap ER.vals) := owns_drew hG
        have bDd := bDB.below hd
        have bEd := bEB.below hd
        have kbd := step2 kbB hd
        have e3 : wr.cell? ⟨R + 1, 3, none⟩ = some (.slice xa X.length xc) := bEB.cell 3
        have hNd : N ≤ wr.drew.heap.size := hNB
        have HLn := Lib.hid hLn
        clear hLL hAll hG bDB bEB kbB hstB hLn
        go_upto_region 25 with (fail)
        clear c2
        go_region_law (first
          | (go_simp; go_at_call 97; refine HC2.out.mono ?_; rintro e W1 ⟨a1, m1, a2, m2, rfl, hOy, hstC, hkC⟩; have kbC := KB.out _ _ kbd hkC; have bDC := KD.out _ _ bDd hkC; have bEC := bEd.keep hkC (by omega); have hGC := owns_keep hGd hkC (by omega); have hNC : N ≤ W1.heap.size := Nat.le_trans hNd hkC.1.size; have e3b : W1.cell? ⟨R + 1, 3, none⟩ = some (.slice xa X.length xc) := bEC.cell 3; have hEl := bEC.lt)
          | (refine step_append_own2 rfl (.tmp 101) (.tmp 104) 51 rfl N 109 i0 (.agg #[.int .i64 0, .string ⟨#[]⟩, .slice none 0 0, .string ⟨#[]⟩, .int .i64 0, .string ⟨#[]⟩, .slice none 0 0]) 7 112 Tryz.underlying51 hi hz0 hz1 hz2 rfl (by decide) _ _ _ (by simp [Act.eval]) (hGC.alloc _) ⟨W1.heap.size, 0, none⟩ 1 1 [.int .i64 y.kind, .string y.path, .slice a1 y.attrs.length m1, .string y.target, .int .i64 y.size, .string y.digest, .slice a2 y.exts.length m2] (by simp [Act.eval]) rfl (fun j x h => cell_new7 W1 _ _ _ _ _ _ _ _ j x h) (fun u hu => one7 y a1 a2 _ m1 _ m2 u hu) (by unfold maxLen; omega) (by omega) (by simp; omega) ?_; intro a4 c4 W3 own3 hg4 hgr; have bED := (bEC.below ((below_refl W1).alloc (Nat.le_refl _) _)).below' hg4.out (by omega); have e3c : W3.cell? ⟨R + 1, 3, none⟩ = some (.slice xa X.length xc) := bED.cell 3; have f3c := bED.frozen 3))
        all_goals
          have hba : Below W1.heap.size W1 (W1.alloc (.cells #[.int .i64 y.kind, .string y.path, .slice a1 y.attrs.length m1, .string y.target, .int .i64 y.size, .string y.digest, .slice a2 y.exts.length m2] 109)) := (below_refl W1).alloc (Nat.le_refl _) _
          have hstD := (hstC.keepE hba hstC.lt).keepE hg4.out (by omega)
          have kbD := (kbC.alloc kbC.size (.cells #[.int .i64 y.kind, .string y.path, .slice a1 y.attrs.length m1, .string y.target, .int .i64 y.size, .string y.digest, .slice a2 y.exts.length m2] 109)).trans (hg4.out.mono (by omega))
          have bDD := (bDC.below hba).below' hg4.out (by omega)
          have hND : N ≤ W3.heap.size := Nat.le_trans hNC (Nat.le_trans hba.size hg4.out.size)
          have ownD : OwnEn N W3 (.slice a4 (X.length + 1) c4) (X ++ [y]) := by
            refine ⟨LL ++ [⟨y, .slice a1 y.attrs.length m1, .slice a2 y.exts.length m2⟩], by rw [List.map_append, HLL.out]; rfl, ?_, fun x hx => ?_⟩
            · rw [OwnG, List.length_append, HLn.out, List.flatMap_append]; exact own3
            · rcases List.mem_append.1 hx with hx | hx
              · exact (((HAL.out x hx).below (below_drew0 (below_refl wr))).keep hkC (by omega) |>.below hba).grew hgr.out
              · rw [List.mem_singleton] at hx; subst hx
                exact ((hOy.mono hNd).below hba).grew hgr.out
          have hstF := hstD.setOther (E := R + 1) (j := 3) (by omega) (.slice a4 (X.length + 1) c4)
          have kbF := kbD.setCell (p := ⟨R + 1, 3, none⟩) (show w.heap.size ≤ R + 1 by omega) (.slice a4 (X.length + 1) c4)
          have bDF := bDD.setOther (j := 3) (E' := R + 1) (by omega) (.slice a4 (X.length + 1) c4)
          have bEF := bED.set (j := 3) (.slice a4 (X.length + 1) c4)
          have ownF := ownD.setLow (E := R + 1) (j := 3) (by omega) (.slice a4 (X.length + 1) c4)
          have hNF : N ≤ (W3.setCell ⟨R + 1, 3, none⟩ (.slice a4 (X.length + 1) c4)).heap.size := by simpa using hND
          simp only [List.set_cons_zero, List.set_cons_succ] at bEF
          clear hstC kbC bDC bEC hGC hNC e3b hEl own3 hg4 hgr bED e3c f3c hba hstD kbD bDD hND ownD bDd bEd kbd hNd hGd HC2 e3 hOy hkC HLL HAL HLn
          simp only [Exit.inBlock, Exit.then]
          go_wp2_with fail
          go_roundw
          case rel => exact ⟨X.length + 1, X ++ [y], st2, _, by omega, by go_num, by simp, HNX, hstF, bDF, bEF, kbF, hNF, ownF⟩
          case measure => simp [intOf]; omega
  case rest =>
  obtain ⟨X, v, st, hstG, bDG, bEG, kbG, ownG, HR8⟩ := hcut
  clear hstA bDA bEA kbA HR6 HC4 HV6
  obtain ⟨WG, rfl⟩ : ∃ WG, WG = wc := ⟨_, rfl⟩
  obtain ⟨xa, xc, rfl⟩ := ownG.form

  have HC := Lib.hid (dtxt_any s R st WG hstG hs (HE.out _ kbG))
  obtain ⟨r8, h8⟩ : ∃ r8, (st >>= txt s.data.toList) = r8 := ⟨_, rfl⟩
  rw [h8] at HC HR8
  clear h8 hstG
  have hEG : R + 1 < WG.heap.size := bEG.lt
  go_wp2_with fail
  refine HC.out.mono ?_
  rintro e WH ⟨rfl, hstH, hkH⟩
  have kbH := KB.out _ _ kbG hkH
  have bDH := KD.out _ _ bDG hkH
  have bEH := bEG.keep hkH (by omega)
  have ownH := ownG.keep hkH (by omega)
  obtain ⟨u, hu⟩ : ∃ u, stStr r8 = u := ⟨_, rfl⟩
  rw [hu]
  have Hu := Lib.hid hu; clear hu
  have ec : WH.cell? ⟨R + 1, 5, none⟩ = some (.string ⟨#[]⟩) := bEH.cell 5
  have ef := bEH.frozen 5
  clear HC kbG bDG bEG ownG hkH
  go_upto_region 27 with (fail)
  have hstI := hstH.setOther (E := R + 1) (j := 5) (by omega) (.string (bA' u))
  have bDI := bDH.setOther (E' := R + 1) (j := 5) (by omega) (.string (bA' u))
  have bEI := bEH.set (j := 5) (.string (bA' u))
  have kbI := kbH.setCell (p := ⟨R + 1, 5, none⟩) (show w.heap.size ≤ R + 1 by omega) (.string (bA' u))
  have ownI := ownH.setLow (E := R + 1) (j := 5) (by omega) (.string (bA' u))
  simp only [List.set_cons_zero, List.set_cons_succ] at bEI
  obtain ⟨WI, hWI⟩ : ∃ WI, WH.setCell ⟨R + 1, 5, none⟩ (.string (bA' u)) = WI := ⟨_, rfl⟩
  change Code.wp _ _ _ _ (WH.setCell ⟨R + 1, 5, none⟩ (.string (bA' u)))
  rw [hWI] at hstI bDI bEI kbI ownI ⊢
  clear hWI ec ef hstH bDH bEH kbH ownH
  obtain ⟨c2, f2⟩ := hstI.err
  rcases r8 with x | ⟨u', f⟩
  · have HRx : Hid (Q = .error x) := HR8
    have hx : x ≠ 0 := hstI.1
    change WI.cell? _ = some (.int .i64 x) at c2
    have q1 : (x == 0) = false := by rw [beq_eq_false_iff_ne]; exact hx
    have q2 : (x != 0) = true := by rw [bne_iff_ne]; exact hx
    clear hx
    go_upto_region 32 with (fail)
    go_cut [3, 4, 5] from 143 (fun t3 t4 t5 wc => t3 = .int .i64 0 ∧ t4 = .string ⟨#[]⟩ ∧ t5 = .int .i64 x ∧ Box wc w.heap.size [.int .i64 0, .int .i64 0, .string ⟨#[]⟩, .slice none 0 0, .string ⟨#[]⟩, .string ⟨#[]⟩] 53 ∧ Below w.heap.size w wc)
    case first =>
      go_wp2_with fail
      refine (none_any x WI).mono ?_
      rintro e Wz ⟨rfl, hbz⟩
      have kbz := step2 kbI hbz
      have bDz := Box.below bDI hbz
      try unfold zeroS at bDz
      obtain ⟨d0, d1, d2, d3, d4, d5⟩ := bDz.cells6
      obtain ⟨y0, y1, y2, y3, y4, y5⟩ := bDz.froz6
      go_wp2_with fail
      go_meet
      exact ⟨rfl, rfl, rfl, bDz.set6 (.int .i64 0) (.int .i64 0) (.string ⟨#[]⟩) (.slice none 0 0) (.string ⟨#[]⟩) (.string ⟨#[]⟩), below_set6 kbz (Nat.le_refl _) (.int .i64 0) (.int .i64 0) (.string ⟨#[]⟩) (.slice none 0 0) (.string ⟨#[]⟩) (.string ⟨#[]⟩)⟩
    case rest =>
      obtain ⟨rfl, rfl, rfl, zz, kz⟩ := hcut
      refine (‹∀ (a : Act) (w_1 : World), Code.wp Tryz.prog Code.ret _ a w_1 → _› _ _ ?_)
      refine wp_ret ?_
      refine bodyPost_ret (P := Tryz.prog) (v := .tuple #[.agg #[.int .i64 0, .int .i64 0, .string ⟨#[]⟩, .slice none 0 0, .string ⟨#[]⟩, .string ⟨#[]⟩], .int .i64 0, .string ⟨#[]⟩, .int .i64 x]) (resS _ _ _ _ zz rfl rfl rfl rfl) rfl ?_
      rw [HRx.out]
      exact ⟨rfl, kz⟩

  obtain rfl : u' = u := Hu.out
  have HR9 : Hid (Q = finR s.data.toList ⟨v1, v2, v3, v4, v5, X, u'⟩ f) := HR8
  change WI.cell? _ = some (.int .i64 0) at c2
  have c1 : WI.cell? ⟨R, 1, none⟩ = some (.int .i64 f) := Box.cell hstI 1
  have bRI : Box WI R [.string s, .int .i64 f, .int .i64 0] 157 := hstI
  clear HR8 Hu
  by_cases hf : f = (s.size : Int)
  case neg =>
    have HRx : Hid (Q = .error 3) := by rw [Hid, HR9.out, finR, hl, if_neg hf]
    have k1 : (f == (s.size : Int)) = false := by rw [beq_eq_false_iff_ne]; exact hf
    have k2 : (f != (s.size : Int)) = true := by rw [bne_iff_ne]; exact hf
    have Hf := Lib.hid hf; clear hf
    go_upto_region 29 with (fail)
    have kbJ := kbI.setCell (p := ⟨R, 2, none⟩) (Nat.le_of_lt hDR) (.int .i64 3)
    have bDJ := bDI.setOther (E' := R) (j := 2) (by omega) (.int .i64 3)
    have bRJ := bRI.set (j := 2) (.int .i64 3)
    simp only [List.set_cons_zero, List.set_cons_succ] at bRJ
    obtain ⟨WJ, hWJ⟩ : ∃ WJ, WI.setCell ⟨R, 2, none⟩ (.int .i64 3) = WJ := ⟨_, rfl⟩
    change Code.wp _ _ _ _ (WI.setCell ⟨R, 2, none⟩ (.int .i64 3))
    rw [hWJ] at kbJ bDJ bRJ ⊢
    clear hWJ c1 c2 f2
    have c2 : WJ.cell? ⟨R, 2, none⟩ = some (.int .i64 3) := bRJ.cell 2
    go_upto_region 32 with (fail)
    go_cut [3, 4, 5] from 143 (fun t3 t4 t5 wc => t3 = .int .i64 0 ∧ t4 = .string ⟨#[]⟩ ∧ t5 = .int .i64 3 ∧ Box wc w.heap.size [.int .i64 0, .int .i64 0, .string ⟨#[]⟩, .slice none 0 0, .string ⟨#[]⟩, .string ⟨#[]⟩] 53 ∧ Below w.heap.size w wc)
    case first =>
      go_wp2_with fail
      refine (none_any 3 WJ).mono ?_
      rintro e Wz ⟨rfl, hbz⟩
      have kbz := step2 kbJ hbz
      have bDz := Box.below bDJ hbz
      try unfold zeroS at bDz
      obtain ⟨d0, d1, d2, d3, d4, d5⟩ := bDz.cells6
      obtain ⟨y0, y1, y2, y3, y4, y5⟩ := bDz.froz6
      go_wp2_with fail
      go_meet
      exact ⟨rfl, rfl, rfl, bDz.set6 (.int .i64 0) (.int .i64 0) (.string ⟨#[]⟩) (.slice none 0 0) (.string ⟨#[]⟩) (.string ⟨#[]⟩), below_set6 kbz (Nat.le_refl _) (.int .i64 0) (.int .i64 0) (.string ⟨#[]⟩) (.slice none 0 0) (.string ⟨#[]⟩) (.string ⟨#[]⟩)⟩
    case rest =>
      obtain ⟨rfl, rfl, rfl, zz, kz⟩ := hcut
      refine (‹∀ (a : Act) (w_1 : World), Code.wp Tryz.prog Code.ret _ a w_1 → _› _ _ ?_)
      refine wp_ret ?_
      refine bodyPost_ret (P := Tryz.prog) (v := .tuple #[.agg #[.int .i64 0, .int .i64 0, .string ⟨#[]⟩, .slice none 0 0, .string ⟨#[]⟩, .string ⟨#[]⟩], .int .i64 0, .string ⟨#[]⟩, .int .i64 3]) (resS _ _ _ _ zz rfl rfl rfl rfl) rfl ?_
      rw [HRx.out]
      exact ⟨rfl, kz⟩

  have HR10 : Hid (Q = if aftE ⟨v1, v2, v3, v4, v5, X, u'⟩ = 0 then .ok ⟨v1, v2, v3, v4, v5, X, u'⟩ else .error (aftE ⟨v1, v2, v3, v4, v5, X, u'⟩)) := by rw [Hid, HR9.out, finR, hl, if_pos hf]
  have k1 : (f == (s.size : Int)) = true := by rw [beq_iff_eq]; exact hf
  have k2 : (f != (s.size : Int)) = false := by rw [bne_eq_false_iff_eq]; exact hf
  have Hf := Lib.hid hf
  have HCA := Lib.hid (aft_cases v1 v2 v3 v4 v5 X u')
  have Hb3 : (bA' v3).size = v3.length := rfl
  have Hb5 : (bA' v5).size = v5.length := rfl
  have Hbu : (bA' u').size = u'.length := rfl
  have HBa : Hid ((bA' v3).size ≤ 9223372036854775807) := HBD3
  have HF := Lib.hid (fields_any v1 v2 (bA' v3) xa X.length xc ⟨#[]⟩ (bA' u') WI HBa.out)
  obtain ⟨fe, hfe⟩ : ∃ fe, fieldsE v1 v2 v3.length = fe := ⟨_, rfl⟩
  rw [Hb3, hfe] at HF
  rw [hfe] at HCA
  obtain ⟨ae, hae⟩ : ∃ ae, aftE ⟨v1, v2, v3, v4, v5, X, u'⟩ = ae := ⟨_, rfl⟩
  rw [hae] at HCA HR10
  clear hfe hae HR9 hf HBa Hb3
  obtain ⟨e0, e1, e2, e3, e4, e5⟩ := bEI.cells6
  go_wp2_with fail
  refine HF.out.mono ?_
  rintro e WJ ⟨rfl, hbJ⟩
  have kbJ := step2 kbI hbJ
  have bDJ := bDI.below hbJ
  have bEJ := bEI.below hbJ
  have bRJ := bRI.below hbJ
  have ownJ := ownI.below hbJ
  clear kbI bDI bEI bRI ownI hbJ hstI c1 c2 f2 e0 e1 e2 e3 e4 e5 HF
  have c2 : WJ.cell? ⟨R, 2, none⟩ = some (.int .i64 0) := bRJ.cell 2
  have f2 := bRJ.frozen 2
  go_upto_block 4 with (fail)
  have kbK := kbJ.setCell (p := ⟨R, 2, none⟩) (Nat.le_of_lt hDR) (.int .i64 fe)
  have bDK := bDJ.setOther (E' := R) (j := 2) (by omega) (.int .i64 fe)
  have bEK := bEJ.setOther (E' := R) (j := 2) (by omega) (.int .i64 fe)
  have bRK := bRJ.set (j := 2) (.int .i64 fe)
  have ownK := ownJ.setLow (E := R) (j := 2) (by omega) (.int .i64 fe)
  simp only [List.set_cons_zero, List.set_cons_succ] at bRK
  obtain ⟨WK, hWK⟩ : ∃ WK, WJ.setCell ⟨R, 2, none⟩ (.int .i64 fe) = WK := ⟨_, rfl⟩
  change Code.wp _ _ _ _ (WJ.setCell ⟨R, 2, none⟩ (.int .i64 fe))
  rw [hWK] at kbK bDK bEK bRK ownK ⊢
  clear hWK c2 f2 kbJ bDJ bEJ bRJ ownJ
  have c2 : WK.cell? ⟨R, 2, none⟩ = some (.int .i64 fe) := bRK.cell 2
  obtain ⟨e0, e1, e2, e3, e4, e5⟩ := bEK.cells6
  rcases HCA.out with ⟨hfe, rfl⟩ | ⟨rfl, hcs⟩
  · have HRx : Hid (Q = .error ae) := by rw [Hid, HR10.out, if_neg hfe]
    have q2 : (ae != 0) = true := by rw [bne_iff_ne]; exact hfe
    clear hfe HCA HR10
    go_upto_region 32 with (fail)
    go_cut [3, 4, 5] from 143 (fun t3 t4 t5 wc => t3 = .int .i64 0 ∧ t4 = .string ⟨#[]⟩ ∧ t5 = .int .i64 ae ∧ Box wc w.heap.size [.int .i64 0, .int .i64 0, .string ⟨#[]⟩, .slice none 0 0, .string ⟨#[]⟩, .string ⟨#[]⟩] 53 ∧ Below w.heap.size w wc)
    case first =>
      go_wp2_with fail
      refine (none_any ae WK).mono ?_
      rintro e Wz ⟨rfl, hbz⟩
      have kbz := step2 kbK hbz
      have bDz := Box.below bDK hbz
      try unfold zeroS at bDz
      obtain ⟨d0, d1, d2, d3, d4, d5⟩ := bDz.cells6
      obtain ⟨y0, y1, y2, y3, y4, y5⟩ := bDz.froz6
      go_wp2_with fail
      go_meet
      exact ⟨rfl, rfl, rfl, bDz.set6 (.int .i64 0) (.int .i64 0) (.string ⟨#[]⟩) (.slice none 0 0) (.string ⟨#[]⟩) (.string ⟨#[]⟩), below_set6 kbz (Nat.le_refl _) (.int .i64 0) (.int .i64 0) (.string ⟨#[]⟩) (.slice none 0 0) (.string ⟨#[]⟩) (.string ⟨#[]⟩)⟩
    case rest =>
      obtain ⟨rfl, rfl, rfl, zz, kz⟩ := hcut
      refine (‹∀ (a : Act) (w_1 : World), Code.wp Tryz.prog Code.ret _ a w_1 → _› _ _ ?_)
      refine wp_ret ?_
      refine bodyPost_ret (P := Tryz.prog) (v := .tuple #[.agg #[.int .i64 0, .int .i64 0, .string ⟨#[]⟩, .slice none 0 0, .string ⟨#[]⟩, .string ⟨#[]⟩], .int .i64 0, .string ⟨#[]⟩, .int .i64 ae]) (resS _ _ _ _ zz rfl rfl rfl rfl) rfl ?_
      rw [HRx.out]
      exact ⟨rfl, kz⟩

  have HCS := Lib.hid hcs
  clear hcs HCA
  rcases HCS.out with ⟨rfl, g1⟩ | ⟨rfl, g1, g2⟩ | ⟨g1, g2, h3⟩
  · have HRx : Hid (Q = .error 2) := HR10
    clear HCS HR10
    go_upto_region 34 with (fail)
    go_cut [3, 4, 5] from 160 (fun t3 t4 t5 wc => t3 = .int .i64 0 ∧ t4 = .string ⟨#[]⟩ ∧ t5 = .int .i64 2 ∧ Box wc w.heap.size [.int .i64 0, .int .i64 0, .string ⟨#[]⟩, .slice none 0 0, .string ⟨#[]⟩, .string ⟨#[]⟩] 53 ∧ Below w.heap.size w wc)
    case first =>
      go_wp2_with fail
      refine (none_any 2 WK).mono ?_
      rintro e Wz ⟨rfl, hbz⟩
      have kbz := step2 kbK hbz
      have bDz := Box.below bDK hbz
      try unfold zeroS at bDz
      obtain ⟨d0, d1, d2, d3, d4, d5⟩ := bDz.cells6
      obtain ⟨y0, y1, y2, y3, y4, y5⟩ := bDz.froz6
      go_wp2_with fail
      go_meet
      exact ⟨rfl, rfl, rfl, bDz.set6 (.int .i64 0) (.int .i64 0) (.string ⟨#[]⟩) (.slice none 0 0) (.string ⟨#[]⟩) (.string ⟨#[]⟩), below_set6 kbz (Nat.le_refl _) (.int .i64 0) (.int .i64 0) (.string ⟨#[]⟩) (.slice none 0 0) (.string ⟨#[]⟩) (.string ⟨#[]⟩)⟩
    case rest =>
      obtain ⟨rfl, rfl, rfl, zz, kz⟩ := hcut
      refine (‹∀ (a : Act) (w_1 : World), Code.wp Tryz.prog Code.ret _ a w_1 → _› _ _ ?_)
      refine wp_ret ?_
      refine bodyPost_ret (P := Tryz.prog) (v := .tuple #[.agg #[.int .i64 0, .int .i64 0, .string ⟨#[]⟩, .slice none 0 0, .string ⟨#[]⟩, .string ⟨#[]⟩], .int .i64 0, .string ⟨#[]⟩, .int .i64 2]) (resS _ _ _ _ zz rfl rfl rfl rfl) rfl ?_
      rw [HRx.out]
      exact ⟨rfl, kz⟩

  · have HRx : Hid (Q = .error 2) := HR10
    clear HCS HR10
    go_upto_region 34 with (fail)
    go_cut [3, 4, 5] from 160 (fun t3 t4 t5 wc => t3 = .int .i64 0 ∧ t4 = .string ⟨#[]⟩ ∧ t5 = .int .i64 2 ∧ Box wc w.heap.size [.int .i64 0, .int .i64 0, .string ⟨#[]⟩, .slice none 0 0, .string ⟨#[]⟩, .string ⟨#[]⟩] 53 ∧ Below w.heap.size w wc)
    case first =>
      go_wp2_with fail
      refine (none_any 2 WK).mono ?_
      rintro e Wz ⟨rfl, hbz⟩
      have kbz := step2 kbK hbz
      have bDz := Box.below bDK hbz
      try unfold zeroS at bDz
      obtain ⟨d0, d1, d2, d3, d4, d5⟩ := bDz.cells6
      obtain ⟨y0, y1, y2, y3, y4, y5⟩ := bDz.froz6
      go_wp2_with fail
      go_meet
      exact ⟨rfl, rfl, rfl, bDz.set6 (.int .i64 0) (.int .i64 0) (.string ⟨#[]⟩) (.slice none 0 0) (.string ⟨#[]⟩) (.string ⟨#[]⟩), below_set6 kbz (Nat.le_refl _) (.int .i64 0) (.int .i64 0) (.string ⟨#[]⟩) (.slice none 0 0) (.string ⟨#[]⟩) (.string ⟨#[]⟩)⟩
    case rest =>
      obtain ⟨rfl, rfl, rfl, zz, kz⟩ := hcut
      refine (‹∀ (a : Act) (w_1 : World), Code.wp Tryz.prog Code.ret _ a w_1 → _› _ _ ?_)
      refine wp_ret ?_
      refine bodyPost_ret (P := Tryz.prog) (v := .tuple #[.agg #[.int .i64 0, .int .i64 0, .string ⟨#[]⟩, .slice none 0 0, .string ⟨#[]⟩, .string ⟨#[]⟩], .int .i64 0, .string ⟨#[]⟩, .int .i64 2]) (resS _ _ _ _ zz rfl rfl rfl rfl) rfl ?_
      rw [HRx.out]
      exact ⟨rfl, kz⟩

  have H3 := Lib.hid h3
  clear h3 HCS
  rcases H3.out with ⟨rfl, g3⟩ | ⟨g3, h4⟩
  · have HRx : Hid (Q = .error 1) := HR10
    have p1 : (((bA' v5).size : Int) == 32) = false := by rw [beq_eq_false_iff_ne]; omega
    have p2 : (((bA' v5).size : Int) != 32) = true := by rw [bne_iff_ne]; omega
    clear H3 HR10 g3 Hb5 Hbu
    go_upto_region 36 with (fail)
    go_cut [3, 4, 5] from 170 (fun t3 t4 t5 wc => t3 = .int .i64 0 ∧ t4 = .string ⟨#[]⟩ ∧ t5 = .int .i64 1 ∧ Box wc w.heap.size [.int .i64 0, .int .i64 0, .string ⟨#[]⟩, .slice none 0 0, .string ⟨#[]⟩, .string ⟨#[]⟩] 53 ∧ Below w.heap.size w wc)
    case first =>
      go_wp2_with fail
      refine (none_any 1 WK).mono ?_
      rintro e Wz ⟨rfl, hbz⟩
      have kbz := step2 kbK hbz
      have bDz := Box.below bDK hbz
      try unfold zeroS at bDz
      obtain ⟨d0, d1, d2, d3, d4, d5⟩ := bDz.cells6
      obtain ⟨y0, y1, y2, y3, y4, y5⟩ := bDz.froz6
      go_wp2_with fail
      go_meet
      exact ⟨rfl, rfl, rfl, bDz.set6 (.int .i64 0) (.int .i64 0) (.string ⟨#[]⟩) (.slice none 0 0) (.string ⟨#[]⟩) (.string ⟨#[]⟩), below_set6 kbz (Nat.le_refl _) (.int .i64 0) (.int .i64 0) (.string ⟨#[]⟩) (.slice none 0 0) (.string ⟨#[]⟩) (.string ⟨#[]⟩)⟩
    case rest =>
      obtain ⟨rfl, rfl, rfl, zz, kz⟩ := hcut
      refine (‹∀ (a : Act) (w_1 : World), Code.wp Tryz.prog Code.ret _ a w_1 → _› _ _ ?_)
      refine wp_ret ?_
      refine bodyPost_ret (P := Tryz.prog) (v := .tuple #[.agg #[.int .i64 0, .int .i64 0, .string ⟨#[]⟩, .slice none 0 0, .string ⟨#[]⟩, .string ⟨#[]⟩], .int .i64 0, .string ⟨#[]⟩, .int .i64 1]) (resS _ _ _ _ zz rfl rfl rfl rfl) rfl ?_
      rw [HRx.out]
      exact ⟨rfl, kz⟩

  have H4 := Lib.hid h4
  clear h4 H3
  have p1 : (((bA' v5).size : Int) == 32) = true := by rw [beq_iff_eq]; omega
  have p2 : (((bA' v5).size : Int) != 32) = false := by rw [bne_eq_false_iff_eq]; omega
  clear Hb5 g3
  rcases H4.out with ⟨rfl, g4⟩ | ⟨rfl, g4⟩
  · have HRx : Hid (Q = .error 6) := HR10
    have p3 : (2000 : Int) < ((bA' u').size : Int) := by omega
    clear H4 HR10 g4 Hbu
    go_upto_region 38 with (fail)
    go_cut [3, 4, 5] from 181 (fun t3 t4 t5 wc => t3 = .int .i64 0 ∧ t4 = .string ⟨#[]⟩ ∧ t5 = .int .i64 6 ∧ Box wc w.heap.size [.int .i64 0, .int .i64 0, .string ⟨#[]⟩, .slice none 0 0, .string ⟨#[]⟩, .string ⟨#[]⟩] 53 ∧ Below w.heap.size w wc)
    case first =>
      go_wp2_with fail
      refine (none_any 6 WK).mono ?_
      rintro e Wz ⟨rfl, hbz⟩
      have kbz := step2 kbK hbz
      have bDz := Box.below bDK hbz
      try unfold zeroS at bDz
      obtain ⟨d0, d1, d2, d3, d4, d5⟩ := bDz.cells6
      obtain ⟨y0, y1, y2, y3, y4, y5⟩ := bDz.froz6
      go_wp2_with fail
      go_meet
      exact ⟨rfl, rfl, rfl, bDz.set6 (.int .i64 0) (.int .i64 0) (.string ⟨#[]⟩) (.slice none 0 0) (.string ⟨#[]⟩) (.string ⟨#[]⟩), below_set6 kbz (Nat.le_refl _) (.int .i64 0) (.int .i64 0) (.string ⟨#[]⟩) (.slice none 0 0) (.string ⟨#[]⟩) (.string ⟨#[]⟩)⟩
    case rest =>
      obtain ⟨rfl, rfl, rfl, zz, kz⟩ := hcut
      refine (‹∀ (a : Act) (w_1 : World), Code.wp Tryz.prog Code.ret _ a w_1 → _› _ _ ?_)
      refine wp_ret ?_
      refine bodyPost_ret (P := Tryz.prog) (v := .tuple #[.agg #[.int .i64 0, .int .i64 0, .string ⟨#[]⟩, .slice none 0 0, .string ⟨#[]⟩, .string ⟨#[]⟩], .int .i64 0, .string ⟨#[]⟩, .int .i64 6]) (resS _ _ _ _ zz rfl rfl rfl rfl) rfl ?_
      rw [HRx.out]
      exact ⟨rfl, kz⟩

  have HRk : Hid (Q = .ok ⟨v1, v2, v3, v4, v5, X, u'⟩) := HR10
  have p3 : ¬ (2000 : Int) < ((bA' u').size : Int) := by omega
  clear H4 HR10 g4 Hbu
  unfold zeroS at bDK
  obtain ⟨d0, d1, d2, d3, d4, d5⟩ := bDK.cells6
  obtain ⟨y0, y1, y2, y3, y4, y5⟩ := bDK.froz6
  go_upto_region 39 with (fail)
  go_cut [3, 4, 5] from 187 (fun t3 t4 t5 wc => t3 = .int .i64 v4 ∧ t4 = .string (bA' v5) ∧ t5 = .int .i64 0 ∧ wc = ((((((WK.setCell ⟨w.heap.size, 0, none⟩ (.int .i64 v1)).setCell ⟨w.heap.size, 1, none⟩ (.int .i64 v2)).setCell ⟨w.heap.size, 2, none⟩ (.string (bA' v3))).setCell ⟨w.heap.size, 3, none⟩ (.slice xa X.length xc)).setCell ⟨w.heap.size, 4, none⟩ (.string ⟨#[]⟩)).setCell ⟨w.heap.size, 5, none⟩ (.string (bA' u'))))
  case first =>
    go_wp2_with fail
    go_meet
    exact ⟨rfl, rfl, rfl, rfl⟩
  case rest =>
  obtain ⟨rfl, rfl, rfl, rfl⟩ := hcut
  have zz := bDK.set6 (.int .i64 v1) (.int .i64 v2) (.string (bA' v3)) (.slice xa X.length xc) (.string ⟨#[]⟩) (.string (bA' u'))
  have kz := below_set6 kbK (Nat.le_refl _) (.int .i64 v1) (.int .i64 v2) (.string (bA' v3)) (.slice xa X.length xc) (.string ⟨#[]⟩) (.string (bA' u'))
  have oz := ownK.set6 (E := w.heap.size) (by omega) (.int .i64 v1) (.int .i64 v2) (.string (bA' v3)) (.slice xa X.length xc) (.string ⟨#[]⟩) (.string (bA' u'))
  refine (‹∀ (a : Act) (w_1 : World), Code.wp Tryz.prog Code.ret _ a w_1 → _› _ _ ?_)
  refine wp_ret ?_
  refine bodyPost_ret (P := Tryz.prog) (v := .tuple #[.agg #[.int .i64 v1, .int .i64 v2, .string (bA' v3), .slice xa X.length xc, .string ⟨#[]⟩, .string (bA' u')], .int .i64 v4, .string (bA' v5), .int .i64 0]) (resS _ _ _ _ zz rfl rfl rfl rfl) rfl ?_
  rw [HRk.out]
  exact ⟨_, rfl, oz.mono (by omega), kz⟩
end Go.Proofs.YtpkapcijgldhhaaGreatDoor
