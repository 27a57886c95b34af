/-
  The walks of the reference's head, Head and Encode.
  The walks of the length of a directory text and of the checks of a session's fields.
  The walks of the reference's Great and Same of chapter 40.
-/
import Derived.Test.YtpkapcijgldhhaaGreatDoorCa19
import Derived.Test.YtpkapcijgldhhaaGreatDoorCa31
import Derived.Deep.QuietTactic
import Derived.BigQuiet
import Derived.Deep.RegionHeld3
import Derived.Deep.Cut
import Derived.Deep.CutRange
import Derived.Deep.CutBlock
import Derived.Test.YtpkapcijgldhhaaGreatDoorCa22
namespace Go.Proofs.YtpkapcijgldhhaaGreatDoor
open Go.RowKit Go.Shelf

theorem refStringQ (s : ByteArray) (hs : s.size ≤ 1000000) : ∃ t : ByteArray, Hid (t.data.toList = strL s.data.toList) ∧ t.size ≤ s.size + 22 ∧ Hid (∀ W, Calls Tryz.prog 30 #[.string s] W fun e w' => e = .returned (.string t) ∧ w' = W) :=
  ⟨bA' (strL s.data.toList), rfl, strL_bd (u := s.data.toList) (Nat.le_refl _) hs, fun W => (refString_any s W (by omega)).mono fun e w' ⟨t, h1, h2, h3⟩ => ⟨by rw [h1, ← h2.out, bA'_of], h3.symm⟩⟩
theorem refNumberQ (n : Int) (h0 : -9223372036854775808 ≤ n) (h1 : n ≤ 9223372036854775807) : ∃ t : ByteArray, Hid (t.data.toList = numL n) ∧ t.size ≤ 21 ∧ Hid (∀ W, Calls Tryz.prog 51 #[.int .i64 n] W fun e w' => e = .returned (.string t) ∧ w' = W) :=
  ⟨bA' (numL n), rfl, numL_le h0 h1, fun W => (refNumber_any n W h0 h1).mono fun e w' ⟨t, h1, h2, h3⟩ => ⟨by rw [h1, ← h2.out, bA'_of], h3.symm⟩⟩
theorem refNameQ (k : Int) : ∃ t : ByteArray, Hid (t.data.toList = nameL k) ∧ t.size ≤ 7 ∧ Hid (∀ W, Calls Tryz.prog 129 #[.int .i64 k] W fun e w' => e = .returned (.string t) ∧ w' = W) :=
  ⟨bA' (nameL k), rfl, (by show (nameL k).length ≤ 7; unfold nameL; (repeat' split) <;> decide), fun W => (refName_any k W).mono fun e w' ⟨t, h1, h2, h3⟩ => ⟨by rw [h1, ← h2.out, bA'_of], h3.symm⟩⟩
theorem box1'' (w : World) (c1 : List Value) (T1 : TypeId) : Below w.heap.size w (w.alloc (.cells c1.toArray T1)) ∧ Box (w.alloc (.cells c1.toArray T1)) w.heap.size c1 T1 :=
  ⟨(below_refl w).alloc (Nat.le_refl _) _, Box.new w c1 T1⟩
theorem Box.drewN' {W : World} {E : Nat} {cs : List Value} {T : TypeId} (h : Box W E cs T) (n : Nat) : Box (W.drewN n) E cs T := h
theorem take_flatA (A : List At) (k : Nat) (h : k < A.length) : (A.take (k + 1)).flatMap atL = (A.take k).flatMap atL ++ atL (atAt A k) := by
  rw [List.take_succ_eq_append_getElem h, List.flatMap_append, atAt_get h]; simp
set_option maxRecDepth 100000 in
set_option maxHeartbeats 4000000 in
theorem refHead0_any (e : En) (va vx : Value) (w : World) (ha : AtRow w va e.attrs) (hs : SmallE e) :
    Calls Tryz.prog 85 #[.agg #[.int .i64 e.kind, .string e.path, va, .string e.target, .int .i64 e.size, .string e.digest, vx]] w (StrP (headL e) w) := by
  obtain ⟨xa, xc, rfl⟩ := ha.form
  obtain ⟨sp, st, _, _, sA, sAt⟩ := hs
  have hHA := ha.2
  have HA := Lib.hid hHA
  have HS := Lib.hid sAt
  have HL : Hid (headL e = strL (nameL e.kind) ++ strL e.path.data.toList ++ numL e.attrs.length ++ e.attrs.flatMap atL ++ strL e.target.data.toList) := rfl
  generalize headL e = R at *
  clear ha hHA sAt
  generalize e.kind = kd at *
  generalize e.path = pt at *
  generalize e.attrs = A at *
  generalize e.target = tg at *
  generalize e.size = sz at *
  generalize e.digest = dg at *
  obtain ⟨hb0, bB⟩ := box1'' w [.int .i64 kd, .string pt, .slice xa A.length xc, .string tg, .int .i64 sz, .string dg, vx] 109
  change Below _ _ (w.alloc (.cells #[.int .i64 kd, .string pt, .slice xa A.length xc, .string tg, .int .i64 sz, .string dg, vx] 109)) at hb0
  change Box (w.alloc (.cells #[.int .i64 kd, .string pt, .slice xa A.length xc, .string tg, .int .i64 sz, .string dg, vx] 109)) _ _ _ at bB
  obtain ⟨tn, htn, ztn, HNm⟩ := refNameQ kd
  obtain ⟨t1, ht1, z1, H1⟩ := refStringQ tn (by omega)
  obtain ⟨t2, ht2, z2, H2⟩ := refStringQ pt (by omega)
  obtain ⟨t3, ht3, z3, H3⟩ := refNumberQ (A.length : Int) (by omega) (by omega)
  obtain ⟨t5, ht5, z5, H5⟩ := refStringQ tg (by omega)
  go_enter Tryz.func85, Tryz.ntmps85
  go_upto_region 1 with (fail)
  obtain ⟨W0, hW0⟩ : ∃ W0, w.alloc (.cells #[.int .i64 kd, .string pt, .slice xa A.length xc, .string tg, .int .i64 sz, .string dg, vx] 109) = W0 := ⟨_, rfl⟩
  change Code.wp _ _ _ _ (w.alloc (.cells #[.int .i64 kd, .string pt, .slice xa A.length xc, .string tg, .int .i64 sz, .string dg, vx] 109))
  rw [hW0] at hb0 bB ⊢
  clear hW0
  obtain ⟨c0, c1, c2, c3, c4, c5, c6⟩ := bB.cells7
  go_quiet ((first | (go_at_call 129; exact Calls.quiet_of_same (HNm.out _)) | (go_at_call 30; with_reducible exact Calls.quiet_of_same (H1.out _)) | (go_at_call 30; with_reducible exact Calls.quiet_of_same (H2.out _)) | (go_at_call 51; exact Calls.quiet_of_same (H3.out _))))
  have hb1 : Below w.heap.size w (W0.drewN nq) := below_drewN hb0 nq
  have bB1 := bB.drewN' nq
  obtain ⟨W1, hW1⟩ : ∃ W1, W0.drewN nq = W1 := ⟨_, rfl⟩
  rw [hW1] at hb1 bB1 ⊢
  clear hW1 hb0 bB c0 c1 c2 c3 c4 c5 c6
  have hu0 : Hid ((t1 ++ t2 ++ t3).data.toList = strL (nameL kd) ++ strL pt.data.toList ++ numL A.length) := by
    rw [Hid, append_list, append_list, ht1.out, ht2.out, ht3.out, htn.out]
  have zu0 : (t1 ++ t2 ++ t3).size ≤ 1000 := by rw [ByteArray.size_append, ByteArray.size_append]; omega
  generalize t1 ++ t2 ++ t3 = u0 at *
  clear H1 H2 H3 HNm ht1 ht2 ht3 htn z1 z2 z3 ztn
  go_upto_block 0 with (fail)
  have hbW : w.heap.size < W1.heap.size := bB1.lt
  go_wp2_with fail
  go_loopw [3, 4] (fun u i wr => ∃ (k : Nat) (v : ByteArray), k ≤ A.length ∧ i = .int .i64 k ∧ u = .string v ∧ Hid (v.data.toList = u0.data.toList ++ (A.take k).flatMap atL) ∧ v.size ≤ 1000 + 300 * k ∧ Below W1.heap.size W1 wr) (fun _ i _ => A.length - (intOf i).toNat)
  case atStart => exact ⟨0, u0, by omega, rfl, rfl, by rw [Hid]; simp, by omega, below_refl _⟩
  case round =>
    obtain ⟨k, v, hk, rfl, rfl, hv, zv, hbr⟩ := hrel
    have bBr := bB1.below hbr
    obtain ⟨c0, c1, c2, c3, c4, c5, c6⟩ := bBr.cells7
    by_cases hlt : k < A.length
    · rcases HA.out with ⟨rfl, _⟩ | ⟨hpos, b, o, cc, ev, _, _, hb, hAA⟩
      · exact absurd hlt (Nat.not_lt_zero _)
      cases ev
      have hAA : AtAt w b o A := hAA
      obtain ⟨x0, x1⟩ := atCells (show AtAt wr b o A from hAA.below (step2 hb1 hbr) hb) hlt
      obtain ⟨s0, s1⟩ := HS.out k hlt
      have HT := Lib.hid (take_flatA A k hlt)
      have HAt : Hid (atL (atAt A k) = strL (atAt A k).key.data.toList ++ strL (atAt A k).value.data.toList) := rfl
      generalize (atAt A k).key = ka at *
      generalize (atAt A k).value = kv at *
      obtain ⟨ta, hta, za, Ha⟩ := refStringQ ka (by omega)
      obtain ⟨tb, htb, zb, Hb⟩ := refStringQ kv (by omega)
      clear hAA
      have z2 : v.size + ta.size ≤ 100000 := by omega
      have z3 : v.size + ta.size + tb.size ≤ 100000 := by omega
      go_upto_region 5 with (fail)
      go_quiet ((first | (go_at_call 30; with_reducible exact Calls.quiet_of_same (Ha.out _)) | (go_at_call 30; with_reducible exact Calls.quiet_of_same (Hb.out _))))
      have hv2 : Hid ((v ++ ta ++ tb).data.toList = u0.data.toList ++ (A.take (k + 1)).flatMap atL) := by
        rw [Hid, append_list, append_list, hv.out, hta.out, htb.out, HT.out, HAt.out]; simp only [List.append_assoc]
      have zv2 : (v ++ ta ++ tb).size ≤ 1000 + 300 * (k + 1) := by rw [ByteArray.size_append, ByteArray.size_append]; omega
      have hbr2 := below_drewN hbr nq
      clear Ha Hb hta htb za zb x0 x1 s0 s1 c0 c1 c2 c3 c4 c5 c6 z2 z3 bBr
      generalize v ++ ta ++ tb = v2 at *
      go_wp2_with fail
      go_roundw
      case rel => exact ⟨k + 1, v2, by omega, by go_num, rfl, hv2, zv2, hbr2⟩
      case measure => simp [intOf]; omega
    · obtain rfl : k = A.length := by omega
      have hte : A.take A.length = A := List.take_of_length_le (Nat.le_refl _)
      rw [hte] at hv
      clear hte
      have z2 : v.size + t5.size ≤ 100000 := by omega
      go_wp2_with fail
      refine (H5.out wr).mono ?_
      rintro e w8 ⟨rfl, rfl⟩
      have hR : Hid ((v ++ t5).data.toList = R) := by
        rw [Hid, append_list, hv.out, hu0.out, ht5.out, HL.out]
      go_wp2_with fail
      go_ret
      exact ⟨_, rfl, hR, step2 hb1 hbr⟩
end Go.Proofs.YtpkapcijgldhhaaGreatDoor

namespace Go.Proofs.YtpkapcijgldhhaaGreatDoor
open Go.RowKit Go.Shelf

def stInt : Except Int Int → Int
  | .ok n => n
  | .error _ => 0
def LenP (r : Except Int Int) (w : World) (e : Ending) (w' : World) : Prop := e = .returned (.tuple #[.int .i64 (stInt r), .int .i64 (errOf r)]) ∧ w = w'
theorem take_byte (s : ByteArray) (k : Nat) (h : k < s.size) : s.data.toList.take (k + 1) = s.data.toList.take k ++ [s[k]] := by
  rw [List.take_succ_eq_append_getElem (by simpa using h)]; rfl
theorem val_bd (l : List UInt8) (h : l.all isDig = true) : val l < 10 ^ l.length := (dg_of l.length l rfl h).2
theorem lenR_short {l : List UInt8} (h : l.length < 8) : lenR l = .error 4 := by unfold lenR; rw [if_pos h]
theorem lenR_bad {l : List UInt8} {k : Nat} (h : ¬ l.length < 8) (hk : k < 8) (hd : (l.take (k + 1)).all isDig = false) : lenR l = .error 3 := by
  unfold lenR
  rw [if_neg h, if_neg]
  intro h2
  have h3 : (l.take (k + 1)).all isDig = true := by
    rw [List.all_eq_true] at h2 ⊢
    intro x hx
    refine h2 x ?_
    have : l.take (k + 1) = (l.take 8).take (k + 1) := by rw [List.take_take, Nat.min_eq_left (by omega)]
    rw [this] at hx
    exact List.mem_of_mem_take hx
  rw [h3] at hd; cases hd
theorem lenR_good {l : List UInt8} (h : ¬ l.length < 8) (hd : (l.take 8).all isDig = true) : lenR l = .ok (val (l.take 8) + 8 : Nat) := by unfold lenR; rw [if_neg h, if_pos hd]
theorem byte_step {s : ByteArray} {k : Nat} (h : k < s.size) (hd : (s.data.toList.take k).all isDig = true) :
    (s.data.toList.take (k + 1)).all isDig = decide (48 ≤ s[k].toNat ∧ s[k].toNat ≤ 57) ∧ val (s.data.toList.take (k + 1)) = 10 * val (s.data.toList.take k) + (s[k].toNat - 48) := by
  rw [take_byte s k h]
  refine ⟨?_, by rw [val, valFrom_snoc]; rfl⟩
  rw [List.all_append, hd, Bool.true_and]; simp [isDig]
set_option maxHeartbeats 1000000 in
theorem length_any (s : ByteArray) (w : World) (hs : s.size ≤ 9223372036854775807) : Calls Tryz.prog 59 #[.string s] w (LenP (lenR s.data.toList) w) := by
  have hl : s.data.toList.length = s.size := rfl
  by_cases h8 : s.size < 8
  · have HR := Lib.hid (lenR_short (l := s.data.toList) h8)
    go_enter Tryz.func59, Tryz.ntmps59
    go_wp2_with fail
    go_ret2
    rw [HR.out]
    exact ⟨rfl, rfl⟩
  have HB := Lib.hid (fun (k : Nat) hk hd => lenR_bad (l := s.data.toList) (k := k) h8 hk hd)
  have HG := Lib.hid (lenR_good (l := s.data.toList) h8)
  go_enter Tryz.func59, Tryz.ntmps59
  go_wp2_with fail
  go_loop [4, 5, 9] (fun n _ i => ∃ (k m : Nat), k ≤ 8 ∧ i = .int .i64 k ∧ n = .int .i64 m ∧ m < 100000000 ∧ Hid (m = val (s.data.toList.take k)) ∧ Hid ((s.data.toList.take k).all isDig = true)) (fun _ _ i => 8 - (intOf i).toNat)
  case atStart => exact ⟨0, 0, by omega, rfl, rfl, by omega, rfl, rfl⟩
  case round =>
    obtain ⟨k, m, hk, rfl, rfl, hm8, hm, hd⟩ := hrel
    by_cases hlt : k < 8
    · have hks : k < s.size := by omega
      obtain ⟨b1, b2⟩ := byte_step hks hd.out
      have hcb : s[k].toNat < 256 := s[k].toNat_lt
      have B1 := Lib.hid b1
      have B2 := Lib.hid b2
      clear b1 b2
      by_cases g1 : (s[k].toNat : Int) < 48
      · have HR := Lib.hid (HB.out k hlt (by rw [B1.out]; exact decide_eq_false (by omega)))
        go_wp2_with fail
        go_ret2
        rw [HR.out]
        exact ⟨rfl, rfl⟩
      by_cases g2 : 57 < (s[k].toNat : Int)
      · have HR := Lib.hid (HB.out k hlt (by rw [B1.out]; exact decide_eq_false (by omega)))
        go_wp2_with fail
        go_ret2
        rw [HR.out]
        exact ⟨rfl, rfl⟩
      have hd2 : Hid ((s.data.toList.take (k + 1)).all isDig = true) := by rw [Hid, B1.out]; exact decide_eq_true (by omega)
      have hm2 : Hid (10 * m + (s[k].toNat - 48) = val (s.data.toList.take (k + 1))) := by rw [Hid, B2.out, hm.out]
      have hb2 : 10 * m + (s[k].toNat - 48) < 100000000 := by
        rw [hm2.out]
        have h1 := val_bd _ hd2.out
        rw [List.length_take] at h1
        have h2 : (10 : Nat) ^ min (k + 1) s.data.toList.length ≤ 10 ^ 8 := Nat.pow_le_pow_right (by decide) (by omega)
        omega
      go_wp2_with fail
      go_round
      case rel => exact ⟨k + 1, 10 * m + (s[k].toNat - 48), by omega, by go_num, by congr 1; omega, hb2, hm2, hd2⟩
      case measure => simp [intOf]; omega
    · obtain rfl : k = 8 := by omega
      have HR := Lib.hid (HG.out hd.out)
      rw [← hm.out] at HR
      go_wp2_with fail
      go_ret2
      rw [HR.out]
      exact ⟨by congr 2; simp [stInt, errOf]; omega, rfl⟩
/-- the zero session -/
def zeroS : List Value := [.int .i64 0, .int .i64 0, .string ⟨#[]⟩, .slice none 0 0, .string ⟨#[]⟩, .string ⟨#[]⟩]
theorem Box.cells6 {W : World} {D : Nat} {v0 v1 v2 v3 v4 v5 : Value} {T : TypeId} (h : Box W D [v0, v1, v2, v3, v4, v5] T) :
    W.cell? ⟨D, 0, none⟩ = some v0 ∧ W.cell? ⟨D, 1, none⟩ = some v1 ∧ W.cell? ⟨D, 2, none⟩ = some v2 ∧ W.cell? ⟨D, 3, none⟩ = some v3 ∧ W.cell? ⟨D, 4, none⟩ = some v4 ∧ W.cell? ⟨D, 5, none⟩ = some v5 :=
  ⟨h.cell 0, h.cell 1, h.cell 2, h.cell 3, h.cell 4, h.cell 5⟩
theorem Box.froz6 {W : World} {D : Nat} {cs : List Value} {T : TypeId} (h : Box W D cs T) : W.frozen? ⟨D, 0, none⟩ = false ∧ W.frozen? ⟨D, 1, none⟩ = false ∧ W.frozen? ⟨D, 2, none⟩ = false ∧ W.frozen? ⟨D, 3, none⟩ = false ∧ W.frozen? ⟨D, 4, none⟩ = false ∧ W.frozen? ⟨D, 5, none⟩ = false :=
  ⟨h.frozen 0, h.frozen 1, h.frozen 2, h.frozen 3, h.frozen 4, h.frozen 5⟩
theorem fields_cases (n d : Int) (p : Nat) : (fieldsE n d p = 2 ∧ (n < 1 ∨ (1 ≤ n ∧ 255 < n) ∨ (1 ≤ n ∧ n ≤ 255 ∧ d < 0) ∨ (1 ≤ n ∧ n ≤ 255 ∧ 0 ≤ d ∧ 1000000000 < d))) ∨ (1 ≤ n ∧ n ≤ 255 ∧ 0 ≤ d ∧ d ≤ 1000000000 ∧ ((fieldsE n d p = 1 ∧ p ≠ 0 ∧ p ≠ 32) ∨ (fieldsE n d p = 0 ∧ p = 0) ∨ (fieldsE n d p = 0 ∧ p = 32))) := by
  unfold fieldsE
  by_cases h : n < 1 ∨ 255 < n ∨ d < 0 ∨ 1000000000 < d
  · rw [if_pos h]; refine .inl ⟨rfl, by omega⟩
  · rw [if_neg h]
    refine .inr ⟨by omega, by omega, by omega, by omega, ?_⟩
    by_cases h2 : p ≠ 0 ∧ p ≠ 32
    · rw [if_pos h2]; exact .inl ⟨rfl, h2⟩
    · rw [if_neg h2]
      by_cases h3 : p = 0
      · exact .inr (.inl ⟨rfl, h3⟩)
      · exact .inr (.inr ⟨rfl, by omega⟩)
theorem empty_size (p : ByteArray) : p.toList.isEmpty = decide (p.size = 0) := by
  rw [isEmpty_list, Bool.eq_iff_iff, List.isEmpty_iff, decide_eq_true_iff]
  exact ⟨fun h => by have := congrArg List.length h; exact this, fun h => List.eq_nil_of_length_eq_zero h⟩
set_option maxRecDepth 100000 in
set_option maxHeartbeats 2000000 in
theorem fields_any (n d : Int) (p : ByteArray) (xa : Option Addr) (m c : Nat) (st sl : ByteArray) (w : World) (_hp : p.size ≤ 9223372036854775807) :
    Calls Tryz.prog 99 #[.agg #[.int .i64 n, .int .i64 d, .string p, .slice xa m c, .string st, .string sl]] w (IntP (fieldsE n d p.size) w) := by
  have hb0 : Below w.heap.size w (w.alloc (.cells #[.int .i64 n, .int .i64 d, .string p, .slice xa m c, .string st, .string sl] 53)) := (below_refl _).alloc (Nat.le_refl _) _
  have hC := Lib.hid (fields_cases n d p.size)
  have hE := empty_size p
  obtain ⟨r, hr⟩ : ∃ r, fieldsE n d p.size = r := ⟨_, rfl⟩
  rw [hr] at hC ⊢
  clear hr
  rcases hC.out with ⟨he, hc⟩ | ⟨g1, g2, g3, g4, hc⟩
  · subst he
    have HC := Lib.hid hc
    clear hC hc hE
    rcases HC.out with k1 | ⟨k1, k2⟩ | ⟨k1, k2, k3⟩ | ⟨k1, k2, k3, k4⟩
    all_goals
      clear HC
      go_enter Tryz.func99, Tryz.ntmps99
      go_wp2_with fail
      go_ret
      exact ⟨rfl, hb0⟩
  · have HC := Lib.hid hc
    clear hC hc
    rcases HC.out with ⟨he, h1, h2⟩ | ⟨he, h1⟩ | ⟨he, h1⟩
    · subst he
      rw [decide_eq_false h1] at hE
      have q1 : ((p.size : Int) == 32) = false := by rw [beq_eq_false_iff_ne]; omega
      have q2 : ((p.size : Int) != 32) = true := by rw [bne_iff_ne]; omega
      clear HC h1 h2
      go_enter Tryz.func99, Tryz.ntmps99
      go_wp2_with fail
      go_ret
      exact ⟨rfl, hb0⟩
    · subst he
      rw [decide_eq_true h1] at hE
      clear HC h1
      go_enter Tryz.func99, Tryz.ntmps99
      go_wp2_with fail
      go_ret
      exact ⟨rfl, hb0⟩
    · subst he
      rw [decide_eq_false (by omega)] at hE
      have q1 : ((p.size : Int) == 32) = true := by rw [beq_iff_eq]; omega
      have q2 : ((p.size : Int) != 32) = false := by rw [bne_eq_false_iff_eq]; omega
      clear HC h1
      go_enter Tryz.func99, Tryz.ntmps99
      go_wp2_with fail
      go_ret
      exact ⟨rfl, hb0⟩
theorem aft_cases (n d : Int) (p : List UInt8) (z : Int) (g : List UInt8) (X : List En) (s : List UInt8) : (fieldsE n d p.length ≠ 0 ∧ aftE ⟨n, d, p, z, g, X, s⟩ = fieldsE n d p.length) ∨ (fieldsE n d p.length = 0 ∧
    ((aftE ⟨n, d, p, z, g, X, s⟩ = 2 ∧ z < 0) ∨ (aftE ⟨n, d, p, z, g, X, s⟩ = 2 ∧ 0 ≤ z ∧ 14680064 < z) ∨ (0 ≤ z ∧ z ≤ 14680064 ∧ ((aftE ⟨n, d, p, z, g, X, s⟩ = 1 ∧ g.length ≠ 32) ∨ (g.length = 32 ∧ ((aftE ⟨n, d, p, z, g, X, s⟩ = 6 ∧ 2000 < s.length) ∨ (aftE ⟨n, d, p, z, g, X, s⟩ = 0 ∧ s.length ≤ 2000))))))) := by
  unfold aftE
  dsimp only
  by_cases h : fieldsE n d p.length = 0
  · rw [if_pos h]
    refine .inr ⟨h, ?_⟩
    by_cases h1 : z < 0
    · rw [if_pos (.inl h1)]; exact .inl ⟨rfl, h1⟩
    by_cases h2 : 14680064 < z
    · rw [if_pos (.inr h2)]; exact .inr (.inl ⟨rfl, by omega, h2⟩)
    rw [if_neg (by omega)]
    refine .inr (.inr ⟨by omega, by omega, ?_⟩)
    by_cases h3 : g.length ≠ 32
    · rw [if_pos h3]; exact .inl ⟨rfl, h3⟩
    rw [if_neg h3]
    refine .inr ⟨by omega, ?_⟩
    by_cases h4 : 2000 < s.length
    · rw [if_pos h4]; exact .inl ⟨rfl, h4⟩
    · rw [if_neg h4]; exact .inr ⟨rfl, by omega⟩
  · rw [if_neg h]; exact .inl ⟨h, rfl⟩
end Go.Proofs.YtpkapcijgldhhaaGreatDoor

namespace Go.Proofs.YtpkapcijgldhhaaGreatDoor
open Go.RowKit Go.Shelf

theorem EnRow.at' {w : World} {a : Option Addr} {c : Nat} {X : List En} (h : EnRow w (.slice a X.length c) X) {i : Nat} (hi : i < X.length) :
    ∃ b o a1 m1 a2 m2, a = some ⟨b, o, none⟩ ∧ AtRow w (.slice a1 (enAt X i).attrs.length m1) (enAt X i).attrs ∧ ExRow w (.slice a2 (enAt X i).exts.length m2) (enAt X i).exts ∧
      w.cell? ⟨b, o + i * 7, none⟩ = some (.int .i64 (enAt X i).kind) ∧ w.cell? ⟨b, o + i * 7 + 1, none⟩ = some (.string (enAt X i).path) ∧ w.cell? ⟨b, o + i * 7 + 2, none⟩ = some (.slice a1 (enAt X i).attrs.length m1) ∧ w.cell? ⟨b, o + i * 7 + 3, none⟩ = some (.string (enAt X i).target) ∧ w.cell? ⟨b, o + i * 7 + 4, none⟩ = some (.int .i64 (enAt X i).size) ∧ w.cell? ⟨b, o + i * 7 + 5, none⟩ = some (.string (enAt X i).digest) ∧ w.cell? ⟨b, o + i * 7 + 6, none⟩ = some (.slice a2 (enAt X i).exts.length m2) := by
  obtain ⟨b, o, va, vx, ha, _, hA, hX, hr⟩ := h.get hi
  obtain ⟨a1, m1, rfl⟩ := hA.form
  obtain ⟨a2, m2, rfl⟩ := hX.form
  exact ⟨b, o, a1, m1, a2, m2, ha, hA, hX, en_cells hr⟩
set_option maxRecDepth 100000 in
set_option maxHeartbeats 4000000 in
theorem sgreat_any (s : Se) (a : Option Addr) (c : Nat) (w : World) (wf : SeWf s) (hr : EnRow w (.slice a s.entries.length c) s.entries) :
    Calls Tryz.prog 22 #[.agg #[.int .i64 s.number, .int .i64 s.date, .string s.prev, .slice a s.entries.length c, .string s.stream, .string s.sl]] w (GreatP (SmallS s) w) := by
  have HX := Lib.hid (show ∀ W, Below w.heap.size w W → EnRow W (.slice a s.entries.length c) s.entries from fun W hW => hr.below hW)
  have HW := Lib.hid wf.ents
  have hlen := hr.len
  have hp := wf.prev
  have hst := wf.stream
  have hsl := wf.sl
  have HS : Hid (SmallS s = (s.prev.size ≤ 100 ∧ s.stream.size ≤ 1000 ∧ s.sl.size ≤ 2100 ∧ (s.entries.length ≤ 12 ∨ s.entries.length = 401) ∧ ∀ i, i < s.entries.length → SmallE (enAt s.entries i))) := rfl
  clear hr wf
  generalize SmallS s = ps at *
  generalize s.number = n at *
  generalize s.date = d at *
  generalize s.prev = p at *
  generalize s.stream = st at *
  generalize s.sl = sl at *
  generalize s.entries = X at *
  obtain ⟨hb0, bB⟩ := box1'' w [.int .i64 n, .int .i64 d, .string p, .slice a X.length c, .string st, .string sl] 53
  change Below _ _ (w.alloc (.cells #[.int .i64 n, .int .i64 d, .string p, .slice a X.length c, .string st, .string sl] 53)) at hb0
  change Box (w.alloc (.cells #[.int .i64 n, .int .i64 d, .string p, .slice a X.length c, .string st, .string sl] 53)) _ _ _ at bB
  by_cases h1 : 100 < p.size
  · go_enter Tryz.func22, Tryz.ntmps22
    go_wp2_with fail
    go_ret
    exact ⟨1, rfl, .inr rfl, fun e => (by cases e), hb0⟩
  by_cases h2 : 1000 < st.size
  · go_enter Tryz.func22, Tryz.ntmps22
    go_wp2_with fail
    go_ret
    exact ⟨1, rfl, .inr rfl, fun e => (by cases e), hb0⟩
  by_cases h3 : 2100 < sl.size
  · go_enter Tryz.func22, Tryz.ntmps22
    go_wp2_with fail
    go_ret
    exact ⟨1, rfl, .inr rfl, fun e => (by cases e), hb0⟩
  by_cases h4 : 12 < X.length ∧ X.length ≠ 401
  · have q1 : ((X.length : Int) == 401) = false := by rw [beq_eq_false_iff_ne]; omega
    have q2 : ((X.length : Int) != 401) = true := by rw [bne_iff_ne]; omega
    obtain ⟨h4, _⟩ := h4
    go_enter Tryz.func22, Tryz.ntmps22
    go_wp2_with fail
    go_ret
    exact ⟨1, rfl, .inr rfl, fun e => (by cases e), hb0⟩
  go_enter Tryz.func22, Tryz.ntmps22
  go_upto_region 1 with (fail)
  obtain ⟨W0, hW0⟩ : ∃ W0, w.alloc (.cells #[.int .i64 n, .int .i64 d, .string p, .slice a X.length c, .string st, .string sl] 53) = W0 := ⟨_, rfl⟩
  change Code.wp _ _ _ _ (w.alloc (.cells #[.int .i64 n, .int .i64 d, .string p, .slice a X.length c, .string st, .string sl] 53))
  rw [hW0] at hb0 bB ⊢
  clear hW0
  obtain ⟨c0, c1, c2, c3, c4, c5⟩ := bB.cells6
  have p1 : decide (100 < (p.size : Int)) = false := decide_eq_false (by omega)
  have p2 : decide (1000 < (st.size : Int)) = false := decide_eq_false (by omega)
  have p3 : decide (2100 < (sl.size : Int)) = false := decide_eq_false (by omega)
  go_cut [31] from 4 (fun v wc => W0 = wc ∧ v = .bool false)
  case first =>
    rcases (by omega : X.length ≤ 12 ∨ (12 < X.length ∧ X.length = 401)) with h5 | ⟨h5, h6⟩
    · go_wp2_with fail
      go_meet
      exact ⟨rfl, congrArg Value.bool (by first | rfl | (rw [p1, p2, p3]; rfl))⟩
    · have q1 : ((X.length : Int) == 401) = true := by rw [beq_iff_eq]; omega
      have q2 : ((X.length : Int) != 401) = false := by rw [bne_eq_false_iff_eq]; omega
      clear h6
      go_wp2_with fail
      go_meet
      exact ⟨rfl, congrArg Value.bool (by first | rfl | (rw [p1, p2, p3]; rfl))⟩
  obtain ⟨rfl, rfl⟩ := hcut
  have hN : X.length ≤ 401 := by omega
  have HF : Hid ((∀ i, i < X.length → SmallE (enAt X i)) → ps) := Lib.hid fun h => by rw [HS.out]; exact ⟨by omega, by omega, by omega, by omega, h⟩
  clear HS h4 h1 h2 h3 hp hst hsl p1 p2 p3
  go_upto_block 0 with (fail)
  go_wp2_with fail
  go_loopw [3] (fun i wr => ∃ k : Nat, k ≤ X.length ∧ i = .int .i64 k ∧ Hid (∀ j, j < k → SmallE (enAt X j)) ∧ Below w.heap.size w wr ∧ Box wr w.heap.size [.int .i64 n, .int .i64 d, .string p, .slice a X.length c, .string st, .string sl] 53) (fun i _ => X.length - (intOf i).toNat)
  case atStart => exact ⟨0, by omega, rfl, fun j hj => absurd hj (Nat.not_lt_zero _), hb0, bB⟩
  case round =>
    obtain ⟨k, hk, rfl, hE, kb, bR⟩ := hrel
    clear hb0 bB c0 c1 c2 c3 c4 c5
    obtain ⟨c0, c1, c2, c3, c4, c5⟩ := bR.cells6
    by_cases hlt : k < X.length
    · obtain ⟨b, o, a1, m1, a2, m2, rfl, hA, hXx, x0, x1, x2, x3, x4, x5, x6⟩ := (HX.out _ kb).at' hlt
      have HG := Lib.hid (great_any (enAt X k) _ _ wr (HW.out k) hA hXx)
      have HN := Lib.hid (show SmallE (enAt X k) → ∀ j, j < k + 1 → SmallE (enAt X j) from fun h j hj => by
        by_cases e : j = k
        · rw [e]; exact h
        · exact hE.out j (by omega))
      clear hA hXx
      generalize enAt X k = ee at *
      go_wp2_with fail
      refine HG.out.mono ?_
      rintro e w2 ⟨g, rfl, hg, hs, hb⟩
      have kb2 := step2 kb hb
      have bR2 := bR.below hb
      clear kb bR hb c0 c1 c2 c3 c4 c5 x0 x1 x2 x3 x4 x5 x6 HG
      rcases hg.out with rfl | rfl
      · have HN2 := Lib.hid (HN.out (hs.out rfl))
        go_wp2_with fail
        go_roundw
        case rel => exact ⟨k + 1, by omega, by go_num, HN2, kb2, bR2⟩
        case measure => simp [intOf]; omega
      · go_wp2_with fail
        go_ret
        exact ⟨1, rfl, .inr rfl, fun e => (by cases e), kb2⟩
    · obtain rfl : k = X.length := by omega
      have HR := Lib.hid (HF.out hE.out)
      go_wp2_with fail
      go_ret
      exact ⟨0, rfl, .inl rfl, fun _ => HR.out, kb⟩
end Go.Proofs.YtpkapcijgldhhaaGreatDoor
