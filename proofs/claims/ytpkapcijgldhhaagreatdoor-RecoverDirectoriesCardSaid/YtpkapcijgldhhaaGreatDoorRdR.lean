/-
  The walks of the reference's reader: numbers, texts and counts, up to the first error.
-/
import Derived.Test.YtpkapcijgldhhaaGreatDoorCatW
import Derived.Test.YtpkapcijgldhhaaGreatDoorDecP
import Derived.Deep.QuietTactic
import Derived.BigQuiet
namespace Go.Proofs.YtpkapcijgldhhaaGreatDoor
open Go.RowKit Go.Shelf

/-- a reader's state: the index, or the error -/
def RSt (W : World) (R : Nat) (s : ByteArray) : Except Int Int → Prop
  | .ok a => Box W R [.string s, .int .i64 a, .int .i64 0] 233
  | .error x => x ≠ 0 ∧ ∃ a : Int, Box W R [.string s, .int .i64 a, .int .i64 x] 233
def stAt {α : Type} : Except Int (α × Int) → Except Int Int
  | .ok p => .ok p.2
  | .error x => .error x
def stStr : Except Int (List UInt8 × Int) → List UInt8
  | .ok p => p.1
  | .error _ => []
def stNum : Except Int (Int × Int) → Int
  | .ok p => p.1
  | .error _ => 0
def TxtR (r : Except Int (List UInt8 × Int)) (s : ByteArray) (R : Nat) (W : World) (e : Ending) (W' : World) : Prop := e = .returned (.string (bA' (stStr r))) ∧ RSt W' R s (stAt r) ∧ Keep R W W'
def NumR (r : Except Int (Int × Int)) (s : ByteArray) (R : Nat) (W : World) (e : Ending) (W' : World) : Prop := e = .returned (.int .i64 (stNum r)) ∧ RSt W' R s (stAt r) ∧ Keep R W W'
theorem rdStr_err (l : List UInt8) (a : Int) (h : (rdStr l a).2.2 ≠ 0) : (rdStr l a).1 = [] ∧ (rdStr l a).2.1 = 0 := by
  unfold rdStr rdStr.rdTail at *
  repeat' split at *
  all_goals first | exact ⟨rfl, rfl⟩ | exact absurd rfl h
theorem rdNum_err (l : List UInt8) (a : Int) (h : (rdNum l a).2.2 ≠ 0) : (rdNum l a).1 = 0 ∧ (rdNum l a).2.1 = 0 := by
  unfold rdNum at *
  repeat' split at *
  all_goals first | exact ⟨rfl, rfl⟩ | exact absurd rfl h
theorem txt_err {l : List UInt8} {a x : Int} (h : txt l a = .error x) : rdStr l a = ([], 0, x) ∧ x ≠ 0 := by
  unfold txt at h
  split at h
  · cases h
  · rename_i h0
    simp only [Except.error.injEq] at h
    have := rdStr_err l a h0
    subst h
    exact ⟨Prod.ext this.1 (Prod.ext this.2 rfl), h0⟩
theorem nmb_err {l : List UInt8} {a x : Int} (h : nmb l a = .error x) : rdNum l a = (0, 0, x) ∧ x ≠ 0 := by
  unfold nmb at h
  split at h
  · cases h
  · rename_i h0
    simp only [Except.error.injEq] at h
    have := rdNum_err l a h0
    subst h
    exact ⟨Prod.ext this.1 (Prod.ext this.2 rfl), h0⟩
theorem txt_rd {l u : List UInt8} {a b : Int} (h : txt l a = .ok (u, b)) : rdStr l a = (u, b, 0) := by
  unfold txt at h
  split at h
  · rename_i h0
    simp only [Except.ok.injEq, Prod.mk.injEq] at h
    rw [← h.1, ← h.2, ← h0]
  · cases h
theorem nmb_rd {l : List UInt8} {a n b : Int} (h : nmb l a = .ok (n, b)) : rdNum l a = (n, b, 0) := by
  unfold nmb at h
  split at h
  · rename_i h0
    simp only [Except.ok.injEq, Prod.mk.injEq] at h
    rw [← h.1, ← h.2, ← h0]
  · cases h
theorem readS {s : ByteArray} {a x y : Int} {u : List UInt8} (h : rdStr s.data.toList a = (u, x, y)) (hs : s.size ≤ 1000000) (W : World) :
    Calls Tryz.prog 113 #[.string s, .int .i64 a] W fun e w' => e = .returned (.tuple #[.string (bA' u), .int .i64 x, .int .i64 y]) ∧ w' = W :=
  (refReadString_any s a W (by omega)).mono fun e w' ⟨v, x', y', h1, h2, h3⟩ => by
    have h4 := h2.out
    rw [h] at h4
    simp only [Prod.mk.injEq] at h4
    obtain ⟨rfl, rfl, rfl⟩ := h4
    exact ⟨by rw [h1, bA'_of], h3.symm⟩
theorem readN {s : ByteArray} {a x y n : Int} (h : rdNum s.data.toList a = (n, x, y)) (hs : s.size ≤ 1000000) (W : World) :
    Calls Tryz.prog 112 #[.string s, .int .i64 a] W fun e w' => e = .returned (.tuple #[.int .i64 n, .int .i64 x, .int .i64 y]) ∧ w' = W :=
  (refReadNumber_any s a W (by omega)).mono fun e w' ⟨v, x', y', h1, h2, h3⟩ => by
    have h4 := h2.out
    rw [h] at h4
    simp only [Prod.mk.injEq] at h4
    obtain ⟨rfl, rfl, rfl⟩ := h4
    exact ⟨h1, h3.symm⟩
theorem Box.drewN {W : World} {E : Nat} {cs : List Value} {T : TypeId} (h : Box W E cs T) (n : Nat) : Box (W.drewN n) E cs T := h
theorem keep_set {R j : Nat} {W W' : World} (h : Keep R W W') (v : Value) : Keep R W (W'.setCell ⟨R, j, none⟩ v) :=
  ⟨h.1.setCell (p := ⟨R, j, none⟩) (Nat.le_refl _) v, fun i h1 h2 => by
    rw [← h.2 i h1 h2]
    simp only [World.setCell, Array.getElem?_modify]
    rw [if_neg (by omega)]⟩
theorem keep_drewN (R : Nat) (W : World) (n : Nat) : Keep R W (W.drewN n) := ⟨below_drewN (Below.refl _ _) n, fun _ _ _ => rfl⟩
set_option maxHeartbeats 1000000 in
theorem rtext_walk (s : ByteArray) (R : Nat) (a x y : Int) (u : List UInt8) (W : World) (hb : Box W R [.string s, .int .i64 a, .int .i64 0] 233) (h : rdStr s.data.toList a = (u, x, y)) (hs : s.size ≤ 1000000) :
    Calls Tryz.prog 190 #[.pointer (some ⟨R, 0, none⟩)] W fun e W' => e = .returned (.string (bA' u)) ∧ Box W' R [.string s, .int .i64 x, .int .i64 y] 233 ∧ Keep R W W' := by
  have HC := Lib.hid (fun w => readS h hs w)
  have c0 : W.cell? ⟨R, 0, none⟩ = some (.string s) := hb.cell 0
  have c1 : W.cell? ⟨R, 1, none⟩ = some (.int .i64 a) := hb.cell 1
  have c2 : W.cell? ⟨R, 2, none⟩ = some (.int .i64 0) := hb.cell 2
  have f1 := hb.frozen 1
  have f2 := hb.frozen 2
  clear h
  go_enter Tryz.func190, Tryz.ntmps190
  go_upto_region 3 with (fail)
  go_quiet ((go_at_call 113; exact Calls.quiet_of_same (HC.out _)))
  go_wp2_with fail
  go_ret
  have b1 := ((hb.drewN nq).set (j := 1) (.int .i64 x)).set (j := 2) (.int .i64 y)
  exact ⟨rfl, b1, keep_set (keep_set (keep_drewN R W _) _) _⟩
set_option maxHeartbeats 1000000 in
theorem rnum_walk (s : ByteArray) (R : Nat) (a n x y : Int) (W : World) (hb : Box W R [.string s, .int .i64 a, .int .i64 0] 233) (h : rdNum s.data.toList a = (n, x, y)) (hs : s.size ≤ 1000000) :
    Calls Tryz.prog 192 #[.pointer (some ⟨R, 0, none⟩)] W fun e W' => e = .returned (.int .i64 n) ∧ Box W' R [.string s, .int .i64 x, .int .i64 y] 233 ∧ Keep R W W' := by
  have HC := Lib.hid (fun w => readN h hs w)
  have c0 : W.cell? ⟨R, 0, none⟩ = some (.string s) := hb.cell 0
  have c1 : W.cell? ⟨R, 1, none⟩ = some (.int .i64 a) := hb.cell 1
  have c2 : W.cell? ⟨R, 2, none⟩ = some (.int .i64 0) := hb.cell 2
  have f1 := hb.frozen 1
  have f2 := hb.frozen 2
  clear h
  go_enter Tryz.func192, Tryz.ntmps192
  go_upto_region 3 with (fail)
  go_quiet ((go_at_call 112; exact Calls.quiet_of_same (HC.out _)))
  go_wp2_with fail
  go_ret
  have b1 := ((hb.drewN nq).set (j := 1) (.int .i64 x)).set (j := 2) (.int .i64 y)
  exact ⟨rfl, b1, keep_set (keep_set (keep_drewN R W _) _) _⟩
theorem rtext_stop (s : ByteArray) (R : Nat) (a x : Int) (W : World) (hb : Box W R [.string s, .int .i64 a, .int .i64 x] 233) (hx : x ≠ 0) :
    Calls Tryz.prog 190 #[.pointer (some ⟨R, 0, none⟩)] W fun e W' => e = .returned (.string ⟨#[]⟩) ∧ W = W' := by
  have c2 : W.cell? ⟨R, 2, none⟩ = some (.int .i64 x) := hb.cell 2
  have q1 : (x != 0) = true := by rw [bne_iff_ne]; exact hx
  have Hx := Lib.hid hx; clear hx
  go_enter Tryz.func190, Tryz.ntmps190
  go_wp2_with fail
  go_ret
  exact ⟨rfl, rfl⟩
theorem rnum_stop (s : ByteArray) (R : Nat) (a x : Int) (W : World) (hb : Box W R [.string s, .int .i64 a, .int .i64 x] 233) (hx : x ≠ 0) :
    Calls Tryz.prog 192 #[.pointer (some ⟨R, 0, none⟩)] W fun e W' => e = .returned (.int .i64 0) ∧ W = W' := by
  have c2 : W.cell? ⟨R, 2, none⟩ = some (.int .i64 x) := hb.cell 2
  have q1 : (x != 0) = true := by rw [bne_iff_ne]; exact hx
  have Hx := Lib.hid hx; clear hx
  go_enter Tryz.func192, Tryz.ntmps192
  go_wp2_with fail
  go_ret
  exact ⟨rfl, rfl⟩
theorem rtext_any (s : ByteArray) (R : Nat) (st : Except Int Int) (W : World) (hr : RSt W R s st) (hs : s.size ≤ 1000000) :
    Calls Tryz.prog 190 #[.pointer (some ⟨R, 0, none⟩)] W (TxtR (st >>= txt s.data.toList) s R W) := by
  cases st with
  | error x =>
    obtain ⟨hx, a, hb⟩ := hr
    exact (rtext_stop s R a x W hb hx).mono fun e w' ⟨h1, h2⟩ => by subst h2; exact ⟨h1, ⟨hx, a, hb⟩, Keep.refl _ _⟩
  | ok a =>
    show Calls _ _ _ _ (TxtR (txt s.data.toList a) s R W)
    rcases h : txt s.data.toList a with x | ⟨u, b⟩
    · obtain ⟨h1, hx⟩ := txt_err h
      exact (rtext_walk s R a 0 x [] W hr h1 hs).mono fun e w' ⟨e1, e2, e3⟩ => ⟨e1, ⟨hx, 0, e2⟩, e3⟩
    · exact (rtext_walk s R a b 0 u W hr (txt_rd h) hs).mono fun e w' ⟨e1, e2, e3⟩ => ⟨e1, e2, e3⟩
theorem rnum_any (s : ByteArray) (R : Nat) (st : Except Int Int) (W : World) (hr : RSt W R s st) (hs : s.size ≤ 1000000) :
    Calls Tryz.prog 192 #[.pointer (some ⟨R, 0, none⟩)] W (NumR (st >>= nmb s.data.toList) s R W) := by
  cases st with
  | error x =>
    obtain ⟨hx, a, hb⟩ := hr
    exact (rnum_stop s R a x W hb hx).mono fun e w' ⟨h1, h2⟩ => by subst h2; exact ⟨h1, ⟨hx, a, hb⟩, Keep.refl _ _⟩
  | ok a =>
    show Calls _ _ _ _ (NumR (nmb s.data.toList a) s R W)
    rcases h : nmb s.data.toList a with x | ⟨n, b⟩
    · obtain ⟨h1, hx⟩ := nmb_err h
      exact (rnum_walk s R a 0 0 x W hr h1 hs).mono fun e w' ⟨e1, e2, e3⟩ => ⟨e1, ⟨hx, 0, e2⟩, e3⟩
    · exact (rnum_walk s R a n b 0 W hr (nmb_rd h) hs).mono fun e w' ⟨e1, e2, e3⟩ => ⟨e1, e2, e3⟩
theorem cnt_split (l : List UInt8) (most a : Int) : cnt most l a = (match nmb l a with | .error x => .error x | .ok p => if p.1 < 0 ∨ most < p.1 then .error 2 else .ok p) := by
  unfold cnt
  cases nmb l a with
  | error x => rfl
  | ok p => rfl
set_option maxHeartbeats 1000000 in
theorem rcnt_any (s : ByteArray) (R : Nat) (most : Int) (st : Except Int Int) (W : World) (hr : RSt W R s st) (hs : s.size ≤ 1000000) :
    Calls Tryz.prog 193 #[.pointer (some ⟨R, 0, none⟩), .int .i64 most] W (NumR (st >>= cnt most s.data.toList) s R W) := by
  have HN := Lib.hid (rnum_any s R st W hr hs)
  have HS : Hid ((st >>= cnt most s.data.toList) = (match st >>= nmb s.data.toList with | .error x => .error x | .ok p => if p.1 < 0 ∨ most < p.1 then .error 2 else .ok p)) := by
    rw [Hid]
    cases st with
    | error x => rfl
    | ok a => exact cnt_split _ _ _
  generalize (st >>= cnt most s.data.toList) = r at *
  generalize (st >>= nmb s.data.toList) = r1 at *
  rcases r1 with x | ⟨n, b⟩
  · obtain rfl : r = .error x := HS.out
    clear HS hr
    go_enter Tryz.func193, Tryz.ntmps193
    go_wp2_with fail
    refine HN.out.mono ?_
    rintro e w1 ⟨rfl, ⟨hx, a, hb⟩, hk⟩
    have c2 : w1.cell? ⟨R, 2, none⟩ = some (.int .i64 x) := hb.cell 2
    have q1 : (x != 0) = true := by rw [bne_iff_ne]; exact hx
    have q2 : (x == 0) = false := by rw [beq_eq_false_iff_ne]; exact hx
    have Hx := Lib.hid hx; clear hx
    go_wp2_with fail
    go_ret
    exact ⟨rfl, ⟨Hx.out, a, hb⟩, hk⟩
  · by_cases hn : n < 0
    · obtain rfl : r = .error 2 := HS.out.trans (if_pos (Or.inl hn))
      clear HS hr
      go_enter Tryz.func193, Tryz.ntmps193
      go_wp2_with fail
      refine HN.out.mono ?_
      rintro e w1 ⟨rfl, hb, hk⟩
      have c2 : w1.cell? ⟨R, 2, none⟩ = some (.int .i64 0) := Box.cell hb 2
      have f2 := Box.frozen hb 2
      have n' : stNum (.ok (n, b)) = n := rfl
      rw [n']
      go_wp2_with fail
      go_ret
      exact ⟨rfl, ⟨by decide, b, Box.set (j := 2) hb (.int .i64 2)⟩, keep_set hk _⟩
    by_cases hn2 : most < n
    · obtain rfl : r = .error 2 := HS.out.trans (if_pos (Or.inr hn2))
      clear HS hr
      go_enter Tryz.func193, Tryz.ntmps193
      go_wp2_with fail
      refine HN.out.mono ?_
      rintro e w1 ⟨rfl, hb, hk⟩
      have c2 : w1.cell? ⟨R, 2, none⟩ = some (.int .i64 0) := Box.cell hb 2
      have f2 := Box.frozen hb 2
      have n' : stNum (.ok (n, b)) = n := rfl
      rw [n']
      go_wp2_with fail
      go_ret
      exact ⟨rfl, ⟨by decide, b, Box.set (j := 2) hb (.int .i64 2)⟩, keep_set hk _⟩
    · obtain rfl : r = .ok (n, b) := HS.out.trans (if_neg (show ¬ (n < 0 ∨ most < n) by omega))
      clear HS hr
      go_enter Tryz.func193, Tryz.ntmps193
      go_wp2_with fail
      refine HN.out.mono ?_
      rintro e w1 ⟨rfl, hb, hk⟩
      have c2 : w1.cell? ⟨R, 2, none⟩ = some (.int .i64 0) := Box.cell hb 2
      have n' : stNum (.ok (n, b)) = n := rfl
      rw [n']
      go_wp2_with fail
      go_ret
      exact ⟨rfl, hb, hk⟩
end Go.Proofs.YtpkapcijgldhhaaGreatDoor
