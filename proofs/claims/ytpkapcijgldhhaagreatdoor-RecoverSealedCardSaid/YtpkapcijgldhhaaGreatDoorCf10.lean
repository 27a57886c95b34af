/-
  The walks of the reference's head, Head and Encode.
  The walks of the reference's Great and Same of chapter 40.
  The walks of the reference's digits, Check, Signed, Encode and Digest of chapter 40.
-/
import Derived.Test.YtpkapcijgldhhaaGreatDoorCf01
import Derived.Test.YtpkapcijgldhhaaGreatDoorCf02
import Derived.Test.YtpkapcijgldhhaaGreatDoorCf09
import Derived.Test.YtpkapcijgldhhaaGreatDoorCf03
import Derived.Test.YtpkapcijgldhhaaGreatDoorCf19
import Derived.Test.YtpkapcijgldhhaaGreatDoorCf04
import Derived.Test.YtpkapcijgldhhaaGreatDoorCf05
import Derived.Test.YtpkapcijgldhhaaGreatDoorCf06
import Derived.Test.YtpkapcijgldhhaaGreatDoorCf07
import Derived.Test.YtpkapcijgldhhaaGreatDoorCe27
import Derived.Test.YtpkapcijgldhhaaGreatDoorCe24
import Derived.Test.YtpkapcijgldhhaaGreatDoorCe13
import Derived.Deep.QuietTactic
import Derived.BigQuiet
import Derived.Deep.RegionHeld3
import Derived.Deep.Cut
import Derived.Deep.CutRange
import Derived.Deep.CutBlock
import Derived.Test.YtpkapcijgldhhaaGreatDoorCe17
namespace Go.Proofs.YtpkapcijgldhhaaGreatDoor
open Go.RowKit Go.Shelf

theorem refStringQ (s : ByteArray) (hs : s.size ≤ 1000000) : ∃ t : ByteArray, Hid (t.data.toList = strL s.data.toList) ∧ t.size ≤ s.size + 22 ∧ Hid (∀ W, Calls Tryz.prog 30 #[.string s] W fun e w' => e = .returned (.string t) ∧ w' = W) :=
  ⟨bA' (strL s.data.toList), rfl, strL_bd (u := s.data.toList) (Nat.le_refl _) hs, fun W => (refString_any s W (by omega)).mono fun e w' ⟨t, h1, h2, h3⟩ => ⟨by rw [h1, ← h2.out, bA'_of], h3.symm⟩⟩
theorem refNumberQ (n : Int) (h0 : -9223372036854775808 ≤ n) (h1 : n ≤ 9223372036854775807) : ∃ t : ByteArray, Hid (t.data.toList = numL n) ∧ t.size ≤ 21 ∧ Hid (∀ W, Calls Tryz.prog 51 #[.int .i64 n] W fun e w' => e = .returned (.string t) ∧ w' = W) :=
  ⟨bA' (numL n), rfl, numL_le h0 h1, fun W => (refNumber_any n W h0 h1).mono fun e w' ⟨t, h1, h2, h3⟩ => ⟨by rw [h1, ← h2.out, bA'_of], h3.symm⟩⟩
theorem refNameQ (k : Int) : ∃ t : ByteArray, Hid (t.data.toList = nameL k) ∧ t.size ≤ 7 ∧ Hid (∀ W, Calls Tryz.prog 129 #[.int .i64 k] W fun e w' => e = .returned (.string t) ∧ w' = W) :=
  ⟨bA' (nameL k), rfl, (by show (nameL k).length ≤ 7; unfold nameL; (repeat' split) <;> decide), fun W => (refName_any k W).mono fun e w' ⟨t, h1, h2, h3⟩ => ⟨by rw [h1, ← h2.out, bA'_of], h3.symm⟩⟩
theorem box1'' (w : World) (c1 : List Value) (T1 : TypeId) : Below w.heap.size w (w.alloc (.cells c1.toArray T1)) ∧ Box (w.alloc (.cells c1.toArray T1)) w.heap.size c1 T1 :=
  ⟨(below_refl w).alloc (Nat.le_refl _) _, Box.new w c1 T1⟩
theorem Box.drewN' {W : World} {E : Nat} {cs : List Value} {T : TypeId} (h : Box W E cs T) (n : Nat) : Box (W.drewN n) E cs T := h
theorem take_flatA (A : List At) (k : Nat) (h : k < A.length) : (A.take (k + 1)).flatMap atL = (A.take k).flatMap atL ++ atL (atAt A k) := by
  rw [List.take_succ_eq_append_getElem h, List.flatMap_append, atAt_get h]; simp
set_option maxRecDepth 100000 in
set_option maxHeartbeats 4000000 in
theorem refHead0_any (e : En) (va vx : Value) (w : World) (ha : AtRow w va e.attrs) (hs : SmallE e) :
    Calls Tryz.prog 85 #[.agg #[.int .i64 e.kind, .string e.path, va, .string e.target, .int .i64 e.size, .string e.digest, vx]] w (StrP (headL e) w) := by
  obtain ⟨xa, xc, rfl⟩ := ha.form
  obtain ⟨sp, st, _, _, sA, sAt⟩ := hs
  have hHA := ha.2
  have HA := Lib.hid hHA
  have HS := Lib.hid sAt
  have HL : Hid (headL e = strL (nameL e.kind) ++ strL e.path.data.toList ++ numL e.attrs.length ++ e.attrs.flatMap atL ++ strL e.target.data.toList) := rfl
  generalize headL e = R at *
  clear ha hHA sAt
  generalize e.kind = kd at *
  generalize e.path = pt at *
  generalize e.attrs = A at *
  generalize e.target = tg at *
  generalize e.size = sz at *
  generalize e.digest = dg at *
  obtain ⟨hb0, bB⟩ := box1'' w [.int .i64 kd, .string pt, .slice xa A.length xc, .string tg, .int .i64 sz, .string dg, vx] 109
  change Below _ _ (w.alloc (.cells #[.int .i64 kd, .string pt, .slice xa A.length xc, .string tg, .int .i64 sz, .string dg, vx] 109)) at hb0
  change Box (w.alloc (.cells #[.int .i64 kd, .string pt, .slice xa A.length xc, .string tg, .int .i64 sz, .string dg, vx] 109)) _ _ _ at bB
  obtain ⟨tn, htn, ztn, HNm⟩ := refNameQ kd
  obtain ⟨t1, ht1, z1, H1⟩ := refStringQ tn (by omega)
  obtain ⟨t2, ht2, z2, H2⟩ := refStringQ pt (by omega)
  obtain ⟨t3, ht3, z3, H3⟩ := refNumberQ (A.length : Int) (by omega) (by omega)
  obtain ⟨t5, ht5, z5, H5⟩ := refStringQ tg (by omega)
  go_enter Tryz.func85, Tryz.ntmps85
  go_upto_region 1 with (fail)
  obtain ⟨W0, hW0⟩ : ∃ W0, w.alloc (.cells #[.int .i64 kd, .string pt, .slice xa A.length xc, .string tg, .int .i64 sz, .string dg, vx] 109) = W0 := ⟨_, rfl⟩
  change Code.wp _ _ _ _ (w.alloc (.cells #[.int .i64 kd, .string pt, .slice xa A.length xc, .string tg, .int .i64 sz, .string dg, vx] 109))
  rw [hW0] at hb0 bB ⊢
  clear hW0
  obtain ⟨c0, c1, c2, c3, c4, c5, c6⟩ := bB.cells7
  go_quiet ((first | (go_at_call 129; exact Calls.quiet_of_same (HNm.out _)) | (go_at_call 30; with_reducible exact Calls.quiet_of_same (H1.out _)) | (go_at_call 30; with_reducible exact Calls.quiet_of_same (H2.out _)) | (go_at_call 51; exact Calls.quiet_of_same (H3.out _))))
  have hb1 : Below w.heap.size w (W0.drewN nq) := below_drewN hb0 nq
  have bB1 := bB.drewN' nq
  obtain ⟨W1, hW1⟩ : ∃ W1, W0.drewN nq = W1 := ⟨_, rfl⟩
  rw [hW1] at hb1 bB1 ⊢
  clear hW1 hb0 bB c0 c1 c2 c3 c4 c5 c6
  have hu0 : Hid ((t1 ++ t2 ++ t3).data.toList = strL (nameL kd) ++ strL pt.data.toList ++ numL A.length) := by
    rw [Hid, append_list, append_list, ht1.out, ht2.out, ht3.out, htn.out]
  have zu0 : (t1 ++ t2 ++ t3).size ≤ 1000 := by rw [ByteArray.size_append, ByteArray.size_append]; omega
  generalize t1 ++ t2 ++ t3 = u0 at *
  clear H1 H2 H3 HNm ht1 ht2 ht3 htn z1 z2 z3 ztn
  go_upto_block 0 with (fail)
  have hbW : w.heap.size < W1.heap.size := bB1.lt
  go_wp2_with fail
  go_loopw [3, 4] (fun u i wr => ∃ (k : Nat) (v : ByteArray), k ≤ A.length ∧ i = .int .i64 k ∧ u = .string v ∧ Hid (v.data.toList = u0.data.toList ++ (A.take k).flatMap atL) ∧ v.size ≤ 1000 + 300 * k ∧ Below W1.heap.size W1 wr) (fun _ i _ => A.length - (intOf i).toNat)
  case atStart => exact ⟨0, u0, by omega, rfl, rfl, by rw [Hid]; simp, by omega, below_refl _⟩
  case round =>
    obtain ⟨k, v, hk, rfl, rfl, hv, zv, hbr⟩ := hrel
    have bBr := bB1.below hbr
    obtain ⟨c0, c1, c2, c3, c4, c5, c6⟩ := bBr.cells7
    by_cases hlt : k < A.length
    · rcases HA.out with ⟨rfl, _⟩ | ⟨hpos, b, o, cc, ev, _, _, hb, hAA⟩
      · exact absurd hlt (Nat.not_lt_zero _)
      cases ev
      have hAA : AtAt w b o A := hAA
      obtain ⟨x0, x1⟩ := atCells (show AtAt wr b o A from hAA.below (step2 hb1 hbr) hb) hlt
      obtain ⟨s0, s1⟩ := HS.out k hlt
      have HT := Lib.hid (take_flatA A k hlt)
      have HAt : Hid (atL (atAt A k) = strL (atAt A k).key.data.toList ++ strL (atAt A k).value.data.toList) := rfl
      generalize (atAt A k).key = ka at *
      generalize (atAt A k).value = kv at *
      obtain ⟨ta, hta, za, Ha⟩ := refStringQ ka (by omega)
      obtain ⟨tb, htb, zb, Hb⟩ := refStringQ kv (by omega)
      clear hAA
      have z2 : v.size + ta.size ≤ 100000 := by omega
      have z3 : v.size + ta.size + tb.size ≤ 100000 := by omega
      go_upto_region 5 with (fail)
      go_quiet ((first | (go_at_call 30; with_reducible exact Calls.quiet_of_same (Ha.out _)) | (go_at_call 30; with_reducible exact Calls.quiet_of_same (Hb.out _))))
      have hv2 : Hid ((v ++ ta ++ tb).data.toList = u0.data.toList ++ (A.take (k + 1)).flatMap atL) := by
        rw [Hid, append_list, append_list, hv.out, hta.out, htb.out, HT.out, HAt.out]; simp only [List.append_assoc]
      have zv2 : (v ++ ta ++ tb).size ≤ 1000 + 300 * (k + 1) := by rw [ByteArray.size_append, ByteArray.size_append]; omega
      have hbr2 := below_drewN hbr nq
      clear Ha Hb hta htb za zb x0 x1 s0 s1 c0 c1 c2 c3 c4 c5 c6 z2 z3 bBr
      generalize v ++ ta ++ tb = v2 at *
      go_wp2_with fail
      go_roundw
      case rel => exact ⟨k + 1, v2, by omega, by go_num, rfl, hv2, zv2, hbr2⟩
      case measure => simp [intOf]; omega
    · obtain rfl : k = A.length := by omega
      have hte : A.take A.length = A := List.take_of_length_le (Nat.le_refl _)
      rw [hte] at hv
      clear hte
      have z2 : v.size + t5.size ≤ 100000 := by omega
      go_wp2_with fail
      refine (H5.out wr).mono ?_
      rintro e w8 ⟨rfl, rfl⟩
      have hR : Hid ((v ++ t5).data.toList = R) := by
        rw [Hid, append_list, hv.out, hu0.out, ht5.out, HL.out]
      go_wp2_with fail
      go_ret
      exact ⟨_, rfl, hR, step2 hb1 hbr⟩
end Go.Proofs.YtpkapcijgldhhaaGreatDoor

namespace Go.Proofs.YtpkapcijgldhhaaGreatDoor
open Go.RowKit Go.Shelf
set_option maxRecDepth 100000 in
set_option maxHeartbeats 4000000 in
theorem sgreat_any (s : Se) (a : Option Addr) (c : Nat) (w : World) (wf : SeWf s) (hr : EnRow w (.slice a s.entries.length c) s.entries) :
    Calls Tryz.prog 22 #[.agg #[.int .i64 s.number, .int .i64 s.date, .string s.prev, .slice a s.entries.length c, .string s.stream, .string s.sl]] w (GreatP (SmallS s) w) := by
  have HX := Lib.hid (show ∀ W, Below w.heap.size w W → EnRow W (.slice a s.entries.length c) s.entries from fun W hW => hr.below hW)
  have HW := Lib.hid wf.ents
  have hlen := hr.len
  have hp := wf.prev
  have hst := wf.stream
  have hsl := wf.sl
  have HS : Hid (SmallS s = (s.prev.size ≤ 100 ∧ s.stream.size ≤ 1000 ∧ s.sl.size ≤ 2100 ∧ (s.entries.length ≤ 12 ∨ s.entries.length = 401) ∧ ∀ i, i < s.entries.length → SmallE (enAt s.entries i))) := rfl
  clear hr wf
  generalize SmallS s = ps at *
  generalize s.number = n at *
  generalize s.date = d at *
  generalize s.prev = p at *
  generalize s.stream = st at *
  generalize s.sl = sl at *
  generalize s.entries = X at *
  obtain ⟨hb0, bB⟩ := box1'' w [.int .i64 n, .int .i64 d, .string p, .slice a X.length c, .string st, .string sl] 53
  change Below _ _ (w.alloc (.cells #[.int .i64 n, .int .i64 d, .string p, .slice a X.length c, .string st, .string sl] 53)) at hb0
  change Box (w.alloc (.cells #[.int .i64 n, .int .i64 d, .string p, .slice a X.length c, .string st, .string sl] 53)) _ _ _ at bB
  by_cases h1 : 100 < p.size
  · go_enter Tryz.func22, Tryz.ntmps22
    go_wp2_with fail
    go_ret
    exact ⟨1, rfl, .inr rfl, fun e => (by cases e), hb0⟩
  by_cases h2 : 1000 < st.size
  · go_enter Tryz.func22, Tryz.ntmps22
    go_wp2_with fail
    go_ret
    exact ⟨1, rfl, .inr rfl, fun e => (by cases e), hb0⟩
  by_cases h3 : 2100 < sl.size
  · go_enter Tryz.func22, Tryz.ntmps22
    go_wp2_with fail
    go_ret
    exact ⟨1, rfl, .inr rfl, fun e => (by cases e), hb0⟩
  by_cases h4 : 12 < X.length ∧ X.length ≠ 401
  · have q1 : ((X.length : Int) == 401) = false := by rw [beq_eq_false_iff_ne]; omega
    have q2 : ((X.length : Int) != 401) = true := by rw [bne_iff_ne]; omega
    obtain ⟨h4, _⟩ := h4
    go_enter Tryz.func22, Tryz.ntmps22
    go_wp2_with fail
    go_ret
    exact ⟨1, rfl, .inr rfl, fun e => (by cases e), hb0⟩
  go_enter Tryz.func22, Tryz.ntmps22
  go_upto_region 1 with (fail)
  obtain ⟨W0, hW0⟩ : ∃ W0, w.alloc (.cells #[.int .i64 n, .int .i64 d, .string p, .slice a X.length c, .string st, .string sl] 53) = W0 := ⟨_, rfl⟩
  change Code.wp _ _ _ _ (w.alloc (.cells #[.int .i64 n, .int .i64 d, .string p, .slice a X.length c, .string st, .string sl] 53))
  rw [hW0] at hb0 bB ⊢
  clear hW0
  obtain ⟨c0, c1, c2, c3, c4, c5⟩ := bB.cells6
  have p1 : decide (100 < (p.size : Int)) = false := decide_eq_false (by omega)
  have p2 : decide (1000 < (st.size : Int)) = false := decide_eq_false (by omega)
  have p3 : decide (2100 < (sl.size : Int)) = false := decide_eq_false (by omega)
  go_cut [31] from 4 (fun v wc => W0 = wc ∧ v = .bool false)
  case first =>
    rcases (by omega : X.length ≤ 12 ∨ (12 < X.length ∧ X.length = 401)) with h5 | ⟨h5, h6⟩
    · go_wp2_with fail
      go_meet
      exact ⟨rfl, congrArg Value.bool (by first | rfl | (rw [p1, p2, p3]; rfl))⟩
    · have q1 : ((X.length : Int) == 401) = true := by rw [beq_iff_eq]; omega
      have q2 : ((X.length : Int) != 401) = false := by rw [bne_eq_false_iff_eq]; omega
      clear h6
      go_wp2_with fail
      go_meet
      exact ⟨rfl, congrArg Value.bool (by first | rfl | (rw [p1, p2, p3]; rfl))⟩
  obtain ⟨rfl, rfl⟩ := hcut
  have hN : X.length ≤ 401 := by omega
  have HF : Hid ((∀ i, i < X.length → SmallE (enAt X i)) → ps) := Lib.hid fun h => by rw [HS.out]; exact ⟨by omega, by omega, by omega, by omega, h⟩
  clear HS h4 h1 h2 h3 hp hst hsl p1 p2 p3
  go_upto_block 0 with (fail)
  go_wp2_with fail
  go_loopw [3] (fun i wr => ∃ k : Nat, k ≤ X.length ∧ i = .int .i64 k ∧ Hid (∀ j, j < k → SmallE (enAt X j)) ∧ Below w.heap.size w wr ∧ Box wr w.heap.size [.int .i64 n, .int .i64 d, .string p, .slice a X.length c, .string st, .string sl] 53) (fun i _ => X.length - (intOf i).toNat)
  case atStart => exact ⟨0, by omega, rfl, fun j hj => absurd hj (Nat.not_lt_zero _), hb0, bB⟩
  case round =>
    obtain ⟨k, hk, rfl, hE, kb, bR⟩ := hrel
    clear hb0 bB c0 c1 c2 c3 c4 c5
    obtain ⟨c0, c1, c2, c3, c4, c5⟩ := bR.cells6
    by_cases hlt : k < X.length
    · obtain ⟨b, o, a1, m1, a2, m2, rfl, hA, hXx, x0, x1, x2, x3, x4, x5, x6⟩ := (HX.out _ kb).at' hlt
      have HG := Lib.hid (great_any (enAt X k) _ _ wr (HW.out k) hA hXx)
      have HN := Lib.hid (show SmallE (enAt X k) → ∀ j, j < k + 1 → SmallE (enAt X j) from fun h j hj => by
        by_cases e : j = k
        · rw [e]; exact h
        · exact hE.out j (by omega))
      clear hA hXx
      generalize enAt X k = ee at *
      go_wp2_with fail
      refine HG.out.mono ?_
      rintro e w2 ⟨g, rfl, hg, hs, hb⟩
      have kb2 := step2 kb hb
      have bR2 := bR.below hb
      clear kb bR hb c0 c1 c2 c3 c4 c5 x0 x1 x2 x3 x4 x5 x6 HG
      rcases hg.out with rfl | rfl
      · have HN2 := Lib.hid (HN.out (hs.out rfl))
        go_wp2_with fail
        go_roundw
        case rel => exact ⟨k + 1, by omega, by go_num, HN2, kb2, bR2⟩
        case measure => simp [intOf]; omega
      · go_wp2_with fail
        go_ret
        exact ⟨1, rfl, .inr rfl, fun e => (by cases e), kb2⟩
    · obtain rfl : k = X.length := by omega
      have HR := Lib.hid (HF.out hE.out)
      go_wp2_with fail
      go_ret
      exact ⟨0, rfl, .inl rfl, fun _ => HR.out, kb⟩
end Go.Proofs.YtpkapcijgldhhaaGreatDoor

namespace Go.Proofs.YtpkapcijgldhhaaGreatDoor
open Go.RowKit Go.Shelf

set_option maxHeartbeats 1000000 in
theorem rdigits_any (n : Nat) (w : World) (hn : n < 1000000000) : Calls Tryz.prog 49 #[.int .i64 n] w (StrS (dg 8 n) w) := by
  go_enter Tryz.func49, Tryz.ntmps49
  go_wp2_with fail
  go_loop [0, 3, 4] (fun m v i => ∃ (k q : Nat) (t : ByteArray), k ≤ 8 ∧ i = .int .i64 k ∧ m = .int .i64 q ∧ v = .string t ∧ q < 1000000000 ∧ Hid (dg 8 n = dg (8 - k) q ++ t.data.toList) ∧ t.size = k) (fun _ _ i => 8 - (intOf i).toNat)
  case atStart => exact ⟨0, n, ⟨#[]⟩, by omega, rfl, rfl, rfl, hn, by rw [Hid]; simp, rfl⟩
  case round =>
    obtain ⟨k, q, t, hk, rfl, rfl, rfl, hq, hE, hts⟩ := hrel
    by_cases hlt : k < 8
    · have Hd := Lib.hid (digit_at (q % 10) (Nat.mod_lt _ (by decide)))
      have HN := Lib.hid (show dg (8 - k) q = dg (8 - (k + 1)) (q / 10) ++ [UInt8.ofNat (48 + q % 10)] from by
        rw [show 8 - k = (8 - (k + 1)) + 1 from by omega]; rfl)
      have e1 : Int.tmod (q : Int) 10 = ((q % 10 : Nat) : Int) := by rw [Int.tmod_eq_emod_of_nonneg (by omega)]; omega
      have e2 : Int.tdiv (q : Int) 10 = ((q / 10 : Nat) : Int) := by rw [Int.tdiv_eq_ediv_of_nonneg (by omega)]; omega
      have b1 : q % 10 < 10 := Nat.mod_lt _ (by decide)
      have b2 : q / 10 < 1000000000 := by omega
      generalize q % 10 = r at *
      generalize q / 10 = q2 at *
      go_wp2_with fail
      go_round
      case rel => exact ⟨k + 1, q2, _, by omega, by go_num, rfl, rfl, b2, by rw [Hid, append_list, Hd.out, ← List.append_assoc, ← HN.out]; exact hE.out, by rw [ByteArray.size_append, ← toList_size, Hd.out, hts]; simp; omega⟩
      case measure => simp [intOf]; omega
    · obtain rfl : k = 8 := by omega
      go_wp2_with fail
      go_ret
      exact ⟨t, rfl, hE.out.symm, rfl⟩
def chkS (f : Int) (N : Nat) (e : Int) (l : Nat) : Int := if f = 0 then (if 400 < N then 6 else if e = 0 then (if 2000 < l then 6 else 0) else e) else f
theorem chkS_f {f : Int} {N : Nat} {e : Int} {l : Nat} (h : f ≠ 0) : chkS f N e l = f := by rw [chkS, if_neg h]
theorem chkS_n {N : Nat} {e : Int} {l : Nat} (h : 400 < N) : chkS 0 N e l = 6 := by rw [chkS, if_pos rfl, if_pos h]
theorem chkS_e {N : Nat} {e : Int} {l : Nat} (h : ¬ 400 < N) (he : e ≠ 0) : chkS 0 N e l = e := by rw [chkS, if_pos rfl, if_neg h, if_neg he]
theorem chkS_l {N : Nat} {l : Nat} (h : ¬ 400 < N) : chkS 0 N 0 l = if 2000 < l then 6 else 0 := by rw [chkS, if_pos rfl, if_neg h, if_pos rfl]
theorem numQ (n : Int) (h : -9223372036854775808 ≤ n ∧ n ≤ 9223372036854775807) : ∃ t : ByteArray, Hid (t.data.toList = numL n) ∧ t.size ≤ 21 ∧ Hid (∀ W, Calls Tryz.prog 51 #[.int .i64 n] W fun e w' => e = .returned (.string t) ∧ w' = W) := refNumberQ n h.1 h.2
end Go.Proofs.YtpkapcijgldhhaaGreatDoor
