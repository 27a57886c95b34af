/-
  The walks of the readers of directory texts: the program's, which takes the reading function, and the reference's.
  The walk of the program's reading of one entry.
  Entries appended to a row of the call's own; the reading of a directory text, step by step.
  The walk of the program's Decode of a directory text.
-/
import Derived.Test.YtpkapcijgldhhaaGreatDoorMe
import Derived.Deep.RegionHeld3
import Derived.Deep.QuietTactic
import Derived.BigQuiet
import Derived.Test.YtpkapcijgldhhaaGreatDoorDecW
import Derived.Deep.Cut
import Derived.Deep.CutRange
import Derived.Deep.RegionLaw
import Derived.Deep.CutBlock
import Derived.BigRegion
namespace Go.Proofs.YtpkapcijgldhhaaGreatDoor
open Go.RowKit Go.Shelf

set_option maxHeartbeats 1000000 in
theorem qtext_walk (s : ByteArray) (R : Nat) (a x y : Int) (u : List UInt8) (W : World) (hb : Box W R [.string s, .int .i64 a, .int .i64 0] 170) (h : rdStr s.data.toList a = (u, x, y)) (hs : s.size ≤ 1000000) :
    Calls Tryz.prog 109 #[.pointer (some ⟨R, 0, none⟩)] W fun e W' => e = .returned (.string (bA' u)) ∧ Box W' R [.string s, .int .i64 x, .int .i64 y] 170 ∧ Keep R W W' := by
  have HC := Lib.hid (fun w => readS h hs w)
  have c0 : W.cell? ⟨R, 0, none⟩ = some (.string s) := hb.cell 0
  have c1 : W.cell? ⟨R, 1, none⟩ = some (.int .i64 a) := hb.cell 1
  have c2 : W.cell? ⟨R, 2, none⟩ = some (.int .i64 0) := hb.cell 2
  have f1 := hb.frozen 1
  have f2 := hb.frozen 2
  clear h
  go_enter Tryz.func109, Tryz.ntmps109
  go_upto_region 3 with (fail)
  go_quiet ((go_at_call 113; exact Calls.quiet_of_same (HC.out _)))
  go_wp2_with fail
  go_ret
  have b1 := ((hb.drewN nq).set (j := 1) (.int .i64 x)).set (j := 2) (.int .i64 y)
  exact ⟨rfl, b1, keep_set (keep_set (keep_drewN R W _) _) _⟩
set_option maxHeartbeats 1000000 in
theorem qnum_walk (s : ByteArray) (R : Nat) (a n x y : Int) (W : World) (hb : Box W R [.string s, .int .i64 a, .int .i64 0] 170) (h : rdNum s.data.toList a = (n, x, y)) (hs : s.size ≤ 1000000) :
    Calls Tryz.prog 108 #[.pointer (some ⟨R, 0, none⟩)] W fun e W' => e = .returned (.int .i64 n) ∧ Box W' R [.string s, .int .i64 x, .int .i64 y] 170 ∧ Keep R W W' := by
  have HC := Lib.hid (fun w => readN h hs w)
  have c0 : W.cell? ⟨R, 0, none⟩ = some (.string s) := hb.cell 0
  have c1 : W.cell? ⟨R, 1, none⟩ = some (.int .i64 a) := hb.cell 1
  have c2 : W.cell? ⟨R, 2, none⟩ = some (.int .i64 0) := hb.cell 2
  have f1 := hb.frozen 1
  have f2 := hb.frozen 2
  clear h
  go_enter Tryz.func108, Tryz.ntmps108
  go_upto_region 3 with (fail)
  go_quiet ((go_at_call 112; exact Calls.quiet_of_same (HC.out _)))
  go_wp2_with fail
  go_ret
  have b1 := ((hb.drewN nq).set (j := 1) (.int .i64 x)).set (j := 2) (.int .i64 y)
  exact ⟨rfl, b1, keep_set (keep_set (keep_drewN R W _) _) _⟩
theorem qtext_stop (s : ByteArray) (R : Nat) (a x : Int) (W : World) (hb : Box W R [.string s, .int .i64 a, .int .i64 x] 170) (hx : x ≠ 0) :
    Calls Tryz.prog 109 #[.pointer (some ⟨R, 0, none⟩)] W fun e W' => e = .returned (.string ⟨#[]⟩) ∧ W = W' := by
  have c2 : W.cell? ⟨R, 2, none⟩ = some (.int .i64 x) := hb.cell 2
  have q1 : (x != 0) = true := by rw [bne_iff_ne]; exact hx
  have Hx := Lib.hid hx; clear hx
  go_enter Tryz.func109, Tryz.ntmps109
  go_wp2_with fail
  go_ret
  exact ⟨rfl, rfl⟩
theorem qnum_stop (s : ByteArray) (R : Nat) (a x : Int) (W : World) (hb : Box W R [.string s, .int .i64 a, .int .i64 x] 170) (hx : x ≠ 0) :
    Calls Tryz.prog 108 #[.pointer (some ⟨R, 0, none⟩)] W fun e W' => e = .returned (.int .i64 0) ∧ W = W' := by
  have c2 : W.cell? ⟨R, 2, none⟩ = some (.int .i64 x) := hb.cell 2
  have q1 : (x != 0) = true := by rw [bne_iff_ne]; exact hx
  have Hx := Lib.hid hx; clear hx
  go_enter Tryz.func108, Tryz.ntmps108
  go_wp2_with fail
  go_ret
  exact ⟨rfl, rfl⟩
theorem qtext_any (s : ByteArray) (R : Nat) (st : Except Int Int) (W : World) (hr : RS 170 W R s st) (hs : s.size ≤ 1000000) :
    Calls Tryz.prog 109 #[.pointer (some ⟨R, 0, none⟩)] W (TxtS 170 (st >>= txt s.data.toList) s R W) := by
  cases st with
  | error x =>
    obtain ⟨hx, a, hb⟩ := hr
    exact (qtext_stop s R a x W hb hx).mono fun e w' ⟨h1, h2⟩ => by subst h2; exact ⟨h1, ⟨hx, a, hb⟩, Keep.refl _ _⟩
  | ok a =>
    show Calls _ _ _ _ (TxtS 170 (txt s.data.toList a) s R W)
    rcases h : txt s.data.toList a with x | ⟨u, b⟩
    · obtain ⟨h1, hx⟩ := txt_err h
      exact (qtext_walk s R a 0 x [] W hr h1 hs).mono fun e w' ⟨e1, e2, e3⟩ => ⟨e1, ⟨hx, 0, e2⟩, e3⟩
    · exact (qtext_walk s R a b 0 u W hr (txt_rd h) hs).mono fun e w' ⟨e1, e2, e3⟩ => ⟨e1, e2, e3⟩
theorem qnum_any (s : ByteArray) (R : Nat) (st : Except Int Int) (W : World) (hr : RS 170 W R s st) (hs : s.size ≤ 1000000) :
    Calls Tryz.prog 108 #[.pointer (some ⟨R, 0, none⟩)] W (NumS 170 (st >>= nmb s.data.toList) s R W) := by
  cases st with
  | error x =>
    obtain ⟨hx, a, hb⟩ := hr
    exact (qnum_stop s R a x W hb hx).mono fun e w' ⟨h1, h2⟩ => by subst h2; exact ⟨h1, ⟨hx, a, hb⟩, Keep.refl _ _⟩
  | ok a =>
    show Calls _ _ _ _ (NumS 170 (nmb s.data.toList a) s R W)
    rcases h : nmb s.data.toList a with x | ⟨n, b⟩
    · obtain ⟨h1, hx⟩ := nmb_err h
      exact (qnum_walk s R a 0 0 x W hr h1 hs).mono fun e w' ⟨e1, e2, e3⟩ => ⟨e1, ⟨hx, 0, e2⟩, e3⟩
    · exact (qnum_walk s R a n b 0 W hr (nmb_rd h) hs).mono fun e w' ⟨e1, e2, e3⟩ => ⟨e1, e2, e3⟩

theorem dnum_call {s : ByteArray} {a x y : Int} {n : Int} (h : rdNum s.data.toList a = (n, x, y)) (hs : s.size ≤ 1000000) (W : World) (he : Env W) :
    Calls Tryz.prog 94 #[.string s, .int .i64 a] W fun e w' => e = .returned (.tuple #[.int .i64 n, .int .i64 x, .int .i64 y]) ∧ Hid (Below W.heap.size W w') :=
  (readNumber_any s a W (by omega) he).mono fun e w' ⟨n', x', y', h1, h2, h3⟩ => by
    have h4 := h2.out
    rw [h] at h4
    simp only [Prod.mk.injEq] at h4
    obtain ⟨h5, rfl, rfl⟩ := h4
    subst h5; exact ⟨h1, h3⟩
set_option maxRecDepth 100000 in
set_option maxHeartbeats 1000000 in
theorem dnum_walk (s : ByteArray) (R : Nat) (a x y : Int) (n : Int) (W : World) (hb : Box W R [.string s, .int .i64 a, .int .i64 0] 157) (h : rdNum s.data.toList a = (n, x, y)) (hy : y = 0) (hs : s.size ≤ 1000000) (he : Env W) :
    Calls Tryz.prog 93 #[.pointer (some ⟨R, 0, none⟩), .func (.func 94) #[] #[]] W fun e W' => e = .returned (.int .i64 n) ∧ Box W' R [.string s, .int .i64 x, .int .i64 0] 157 ∧ Keep R W W' := by
  subst hy
  have HC := Lib.hid (dnum_call h hs W.drew (he.below (below_drew0 (below_refl W))))
  have eg := enters_of Tryz.func94 (by kernel_rfl) rfl
  have c0 : W.cell? ⟨R, 0, none⟩ = some (.string s) := hb.cell 0
  have c1 : W.cell? ⟨R, 1, none⟩ = some (.int .i64 a) := hb.cell 1
  have c2 : W.cell? ⟨R, 2, none⟩ = some (.int .i64 0) := hb.cell 2
  have hbd : Box W.drew R [.string s, .int .i64 a, .int .i64 0] 157 := hb
  have hlt := hb.lt
  clear h he
  go_enter Tryz.func93, Tryz.ntmps93
  go_upto_region 4 with (fail)
  go_region_held3 (fun w => w.cell? ⟨R, 0, none⟩ = some (.string s) ∧ w.cell? ⟨R, 1, none⟩ = some (.int .i64 a))
    (first | exact ⟨c0, c1⟩ | exact SK)
    ((go_at_call 94; refine HC.out.mono ?_; rintro e w1 ⟨rfl, hb1⟩; have bR1 := hbd.below hb1.out; have SK := And.intro (bR1.cell 0) (bR1.cell 1)))
  have d1 : w1.cell? ⟨R, 1, none⟩ = some (.int .i64 a) := bR1.cell 1
  have f1 := bR1.frozen 1
  clear SK c0 c1 c2
  go_wp2_with fail
  go_ret
  have hk : Keep R W w1 := Keep.of_below ((below_drew0 (below_refl W)).trans hb1.out) (Nat.le_of_lt hlt)
  exact ⟨rfl, bR1.set (j := 1) (.int .i64 x), keep_set hk _⟩
set_option maxRecDepth 100000 in
set_option maxHeartbeats 1000000 in
theorem dnum_bad (s : ByteArray) (R : Nat) (a x y : Int) (n : Int) (W : World) (hb : Box W R [.string s, .int .i64 a, .int .i64 0] 157) (h : rdNum s.data.toList a = (n, x, y)) (hy : y ≠ 0) (hs : s.size ≤ 1000000) (he : Env W) :
    Calls Tryz.prog 93 #[.pointer (some ⟨R, 0, none⟩), .func (.func 94) #[] #[]] W fun e W' => e = .returned (.int .i64 0) ∧ Box W' R [.string s, .int .i64 a, .int .i64 y] 157 ∧ Keep R W W' := by
  have HC := Lib.hid (dnum_call h hs W.drew (he.below (below_drew0 (below_refl W))))
  have eg := enters_of Tryz.func94 (by kernel_rfl) rfl
  have c0 : W.cell? ⟨R, 0, none⟩ = some (.string s) := hb.cell 0
  have c1 : W.cell? ⟨R, 1, none⟩ = some (.int .i64 a) := hb.cell 1
  have c2 : W.cell? ⟨R, 2, none⟩ = some (.int .i64 0) := hb.cell 2
  have hbd : Box W.drew R [.string s, .int .i64 a, .int .i64 0] 157 := hb
  have hlt := hb.lt
  have q1 : (y != 0) = true := by rw [bne_iff_ne]; exact hy
  have Hy := Lib.hid hy
  clear h he hy
  go_enter Tryz.func93, Tryz.ntmps93
  go_upto_region 4 with (fail)
  go_region_held3 (fun w => w.cell? ⟨R, 0, none⟩ = some (.string s) ∧ w.cell? ⟨R, 1, none⟩ = some (.int .i64 a))
    (first | exact ⟨c0, c1⟩ | exact SK)
    ((go_at_call 94; refine HC.out.mono ?_; rintro e w1 ⟨rfl, hb1⟩; have bR1 := hbd.below hb1.out; have SK := And.intro (bR1.cell 0) (bR1.cell 1)))
  have d2 : w1.cell? ⟨R, 2, none⟩ = some (.int .i64 0) := bR1.cell 2
  have f2 := bR1.frozen 2
  clear SK c0 c1 c2
  go_wp2_with fail
  go_ret
  have hk : Keep R W w1 := Keep.of_below ((below_drew0 (below_refl W)).trans hb1.out) (Nat.le_of_lt hlt)
  exact ⟨rfl, bR1.set (j := 2) (.int .i64 y), keep_set hk _⟩
theorem dnum_stop (s : ByteArray) (R : Nat) (a x : Int) (W : World) (hb : Box W R [.string s, .int .i64 a, .int .i64 x] 157) (hx : x ≠ 0) :
    Calls Tryz.prog 93 #[.pointer (some ⟨R, 0, none⟩), .func (.func 94) #[] #[]] W fun e W' => e = .returned (.int .i64 0) ∧ W = W' := by
  have c2 : W.cell? ⟨R, 2, none⟩ = some (.int .i64 x) := hb.cell 2
  have q1 : (x != 0) = true := by rw [bne_iff_ne]; exact hx
  have Hx := Lib.hid hx; clear hx
  go_enter Tryz.func93, Tryz.ntmps93
  go_wp2_with fail
  go_ret
  exact ⟨rfl, rfl⟩
theorem dnum_any (s : ByteArray) (R : Nat) (st : Except Int Int) (W : World) (hr : RS 157 W R s st) (hs : s.size ≤ 1000000) (he : Env W) :
    Calls Tryz.prog 93 #[.pointer (some ⟨R, 0, none⟩), .func (.func 94) #[] #[]] W (NumS 157 (st >>= nmb s.data.toList) s R W) := by
  cases st with
  | error x =>
    obtain ⟨hx, a, hb⟩ := hr
    exact (dnum_stop s R a x W hb hx).mono fun e w' ⟨h1, h2⟩ => by subst h2; exact ⟨h1, ⟨hx, a, hb⟩, Keep.refl _ _⟩
  | ok a =>
    show Calls _ _ _ _ (NumS 157 (nmb s.data.toList a) s R W)
    rcases h : nmb s.data.toList a with x | ⟨n, b⟩
    · obtain ⟨h1, hx⟩ := nmb_err h
      exact (dnum_bad s R a 0 x 0 W hr h1 hx hs he).mono fun e w' ⟨e1, e2, e3⟩ => ⟨e1, ⟨hx, a, e2⟩, e3⟩
    · exact (dnum_walk s R a b 0 n W hr (nmb_rd h) rfl hs he).mono fun e w' ⟨e1, e2, e3⟩ => ⟨e1, e2, e3⟩

theorem dtxt_call {s : ByteArray} {a x y : Int} {n : List UInt8} (h : rdStr s.data.toList a = (n, x, y)) (hs : s.size ≤ 1000000) (W : World) (he : Env W) :
    Calls Tryz.prog 96 #[.string s, .int .i64 a] W fun e w' => e = .returned (.tuple #[.string (bA' n), .int .i64 x, .int .i64 y]) ∧ Hid (Below W.heap.size W w') :=
  (readString_any s a W (by omega) he).mono fun e w' ⟨n', x', y', h1, h2, h3⟩ => by
    have h4 := h2.out
    rw [h] at h4
    simp only [Prod.mk.injEq] at h4
    obtain ⟨h5, rfl, rfl⟩ := h4
    subst h5; exact ⟨by rw [h1, bA'_of], h3⟩
set_option maxRecDepth 100000 in
set_option maxHeartbeats 1000000 in
theorem dtxt_walk (s : ByteArray) (R : Nat) (a x y : Int) (n : List UInt8) (W : World) (hb : Box W R [.string s, .int .i64 a, .int .i64 0] 157) (h : rdStr s.data.toList a = (n, x, y)) (hy : y = 0) (hs : s.size ≤ 1000000) (he : Env W) :
    Calls Tryz.prog 95 #[.pointer (some ⟨R, 0, none⟩), .func (.func 96) #[] #[]] W fun e W' => e = .returned (.string (bA' n)) ∧ Box W' R [.string s, .int .i64 x, .int .i64 0] 157 ∧ Keep R W W' := by
  subst hy
  have HC := Lib.hid (dtxt_call h hs W.drew (he.below (below_drew0 (below_refl W))))
  have eg := enters_of Tryz.func96 (by kernel_rfl) rfl
  have c0 : W.cell? ⟨R, 0, none⟩ = some (.string s) := hb.cell 0
  have c1 : W.cell? ⟨R, 1, none⟩ = some (.int .i64 a) := hb.cell 1
  have c2 : W.cell? ⟨R, 2, none⟩ = some (.int .i64 0) := hb.cell 2
  have hbd : Box W.drew R [.string s, .int .i64 a, .int .i64 0] 157 := hb
  have hlt := hb.lt
  clear h he
  go_enter Tryz.func95, Tryz.ntmps95
  go_upto_region 4 with (fail)
  go_region_held3 (fun w => w.cell? ⟨R, 0, none⟩ = some (.string s) ∧ w.cell? ⟨R, 1, none⟩ = some (.int .i64 a))
    (first | exact ⟨c0, c1⟩ | exact SK)
    ((go_at_call 96; refine HC.out.mono ?_; rintro e w1 ⟨rfl, hb1⟩; have bR1 := hbd.below hb1.out; have SK := And.intro (bR1.cell 0) (bR1.cell 1)))
  have d1 : w1.cell? ⟨R, 1, none⟩ = some (.int .i64 a) := bR1.cell 1
  have f1 := bR1.frozen 1
  clear SK c0 c1 c2
  go_wp2_with fail
  go_ret
  have hk : Keep R W w1 := Keep.of_below ((below_drew0 (below_refl W)).trans hb1.out) (Nat.le_of_lt hlt)
  exact ⟨rfl, bR1.set (j := 1) (.int .i64 x), keep_set hk _⟩
set_option maxRecDepth 100000 in
set_option maxHeartbeats 1000000 in
theorem dtxt_bad (s : ByteArray) (R : Nat) (a x y : Int) (n : List UInt8) (W : World) (hb : Box W R [.string s, .int .i64 a, .int .i64 0] 157) (h : rdStr s.data.toList a = (n, x, y)) (hy : y ≠ 0) (hs : s.size ≤ 1000000) (he : Env W) :
    Calls Tryz.prog 95 #[.pointer (some ⟨R, 0, none⟩), .func (.func 96) #[] #[]] W fun e W' => e = .returned (.string ⟨#[]⟩) ∧ Box W' R [.string s, .int .i64 a, .int .i64 y] 157 ∧ Keep R W W' := by
  have HC := Lib.hid (dtxt_call h hs W.drew (he.below (below_drew0 (below_refl W))))
  have eg := enters_of Tryz.func96 (by kernel_rfl) rfl
  have c0 : W.cell? ⟨R, 0, none⟩ = some (.string s) := hb.cell 0
  have c1 : W.cell? ⟨R, 1, none⟩ = some (.int .i64 a) := hb.cell 1
  have c2 : W.cell? ⟨R, 2, none⟩ = some (.int .i64 0) := hb.cell 2
  have hbd : Box W.drew R [.string s, .int .i64 a, .int .i64 0] 157 := hb
  have hlt := hb.lt
  have q1 : (y != 0) = true := by rw [bne_iff_ne]; exact hy
  have Hy := Lib.hid hy
  clear h he hy
  go_enter Tryz.func95, Tryz.ntmps95
  go_upto_region 4 with (fail)
  go_region_held3 (fun w => w.cell? ⟨R, 0, none⟩ = some (.string s) ∧ w.cell? ⟨R, 1, none⟩ = some (.int .i64 a))
    (first | exact ⟨c0, c1⟩ | exact SK)
    ((go_at_call 96; refine HC.out.mono ?_; rintro e w1 ⟨rfl, hb1⟩; have bR1 := hbd.below hb1.out; have SK := And.intro (bR1.cell 0) (bR1.cell 1)))
  have d2 : w1.cell? ⟨R, 2, none⟩ = some (.int .i64 0) := bR1.cell 2
  have f2 := bR1.frozen 2
  clear SK c0 c1 c2
  go_wp2_with fail
  go_ret
  have hk : Keep R W w1 := Keep.of_below ((below_drew0 (below_refl W)).trans hb1.out) (Nat.le_of_lt hlt)
  exact ⟨rfl, bR1.set (j := 2) (.int .i64 y), keep_set hk _⟩
theorem dtxt_stop (s : ByteArray) (R : Nat) (a x : Int) (W : World) (hb : Box W R [.string s, .int .i64 a, .int .i64 x] 157) (hx : x ≠ 0) :
    Calls Tryz.prog 95 #[.pointer (some ⟨R, 0, none⟩), .func (.func 96) #[] #[]] W fun e W' => e = .returned (.string ⟨#[]⟩) ∧ W = W' := by
  have c2 : W.cell? ⟨R, 2, none⟩ = some (.int .i64 x) := hb.cell 2
  have q1 : (x != 0) = true := by rw [bne_iff_ne]; exact hx
  have Hx := Lib.hid hx; clear hx
  go_enter Tryz.func95, Tryz.ntmps95
  go_wp2_with fail
  go_ret
  exact ⟨rfl, rfl⟩
theorem dtxt_any (s : ByteArray) (R : Nat) (st : Except Int Int) (W : World) (hr : RS 157 W R s st) (hs : s.size ≤ 1000000) (he : Env W) :
    Calls Tryz.prog 95 #[.pointer (some ⟨R, 0, none⟩), .func (.func 96) #[] #[]] W (TxtS 157 (st >>= txt s.data.toList) s R W) := by
  cases st with
  | error x =>
    obtain ⟨hx, a, hb⟩ := hr
    exact (dtxt_stop s R a x W hb hx).mono fun e w' ⟨h1, h2⟩ => by subst h2; exact ⟨h1, ⟨hx, a, hb⟩, Keep.refl _ _⟩
  | ok a =>
    show Calls _ _ _ _ (TxtS 157 (txt s.data.toList a) s R W)
    rcases h : txt s.data.toList a with x | ⟨n, b⟩
    · obtain ⟨h1, hx⟩ := txt_err h
      exact (dtxt_bad s R a 0 x [] W hr h1 hx hs he).mono fun e w' ⟨e1, e2, e3⟩ => ⟨e1, ⟨hx, a, e2⟩, e3⟩
    · exact (dtxt_walk s R a b 0 n W hr (txt_rd h) rfl hs he).mono fun e w' ⟨e1, e2, e3⟩ => ⟨e1, e2, e3⟩
end Go.Proofs.YtpkapcijgldhhaaGreatDoor

namespace Go.Proofs.YtpkapcijgldhhaaGreatDoor
open Go.RowKit Go.Shelf

theorem keep_high {R j D : Nat} {W W' : World} (h : Keep R W W') (hD : W.heap.size ≤ D) (hR : R < W.heap.size) (v : Value) : Keep R W (W'.setCell ⟨D, j, none⟩ v) :=
  ⟨h.1.setCell (p := ⟨D, j, none⟩) (by show R ≤ D; omega) v, fun i h1 h2 => by
    rw [← h.2 i h1 h2]
    simp only [World.setCell, Array.getElem?_modify]
    rw [if_neg (by omega)]⟩
theorem keep_high7 {R D : Nat} {W W' : World} (h : Keep R W W') (hD : W.heap.size ≤ D) (hR : R < W.heap.size) (u0 u1 u2 u3 u4 u5 u6 : Value) : Keep R W (((((((W'.setCell ⟨D, 0, none⟩ u0).setCell ⟨D, 1, none⟩ u1).setCell ⟨D, 2, none⟩ u2).setCell ⟨D, 3, none⟩ u3).setCell ⟨D, 4, none⟩ u4).setCell ⟨D, 5, none⟩ u5).setCell ⟨D, 6, none⟩ u6) :=
  keep_high (j := 6) (keep_high (j := 5) (keep_high (j := 4) (keep_high (j := 3) (keep_high (j := 2) (keep_high (j := 1) (keep_high (j := 0) h hD hR u0) hD hR u1) hD hR u2) hD hR u3) hD hR u4) hD hR u5) hD hR u6
theorem owns_low7 {W : World} {base E : Nat} {e : TypeId} {size n : Nat} {v : Value} {xs : List Value} (h : W.ownsRow base e size v n xs) (hE : E < base) (u0 u1 u2 u3 u4 u5 u6 : Value) : (((((((W.setCell ⟨E, 0, none⟩ u0).setCell ⟨E, 1, none⟩ u1).setCell ⟨E, 2, none⟩ u2).setCell ⟨E, 3, none⟩ u3).setCell ⟨E, 4, none⟩ u4).setCell ⟨E, 5, none⟩ u5).setCell ⟨E, 6, none⟩ u6).ownsRow base e size v n xs :=
  owns_setLow (j := 6) (owns_setLow (j := 5) (owns_setLow (j := 4) (owns_setLow (j := 3) (owns_setLow (j := 2) (owns_setLow (j := 1) (owns_setLow (j := 0) h hE u0) hE u1) hE u2) hE u3) hE u4) hE u5) hE u6
theorem resE {W : World} {D : Nat} {v0 v1 v2 v3 v4 v5 v6 : Value} (tmps : Array Value) (b : Box W D [v0, v1, v2, v3, v4, v5, v6] 109) (h4 : tmps[4]?.getD undef = .pointer (some ⟨D, 0, none⟩)) :
    (results Tryz.f97 tmps).run Tryz.prog W = .ok (.agg #[v0, v1, v2, v3, v4, v5, v6]) W := by
  obtain ⟨c0, c1, c2, c3, c4, c5, c6⟩ := b.cells7
  simp [results, Tryz.results97, go_sem, h4, c0, c1, c2, c3, c4, c5, c6]
set_option maxRecDepth 100000 in
set_option maxHeartbeats 2000000 in
theorem dent_stop (s : ByteArray) (R : Nat) (a x : Int) (W : World) (hb : Box W R [.string s, .int .i64 a, .int .i64 x] 157) (hx : x ≠ 0) :
    Calls Tryz.prog 97 #[.pointer (some ⟨R, 0, none⟩), .func (.func 98) #[] #[]] W fun e W' => e = .returned (.agg #[.int .i64 0, .string ⟨#[]⟩, .slice none 0 0, .string ⟨#[]⟩, .int .i64 0, .string ⟨#[]⟩, .slice none 0 0]) ∧ Box W' R [.string s, .int .i64 a, .int .i64 x] 157 ∧ Keep R W W' := by
  obtain ⟨kb0, bD, bZ⟩ := boxes2' W zeroE zeroE 109 109
  change Below _ _ ((W.alloc (.cells #[.int .i64 0, .string ⟨#[]⟩, .slice none 0 0, .string ⟨#[]⟩, .int .i64 0, .string ⟨#[]⟩, .slice none 0 0] 109)).alloc (.cells #[.int .i64 0, .string ⟨#[]⟩, .slice none 0 0, .string ⟨#[]⟩, .int .i64 0, .string ⟨#[]⟩, .slice none 0 0] 109)) at kb0
  change Box ((W.alloc (.cells #[.int .i64 0, .string ⟨#[]⟩, .slice none 0 0, .string ⟨#[]⟩, .int .i64 0, .string ⟨#[]⟩, .slice none 0 0] 109)).alloc (.cells #[.int .i64 0, .string ⟨#[]⟩, .slice none 0 0, .string ⟨#[]⟩, .int .i64 0, .string ⟨#[]⟩, .slice none 0 0] 109)) _ _ _ at bD bZ
  have q1 : (x != 0) = true := by rw [bne_iff_ne]; exact hx
  have Hx := Lib.hid hx; clear hx
  go_enter Tryz.func97, Tryz.ntmps97
  go_upto_region 2 with (fail)
  have bR0 := hb.below kb0
  obtain ⟨W0, hW0⟩ : ∃ W0, (W.alloc (.cells #[.int .i64 0, .string ⟨#[]⟩, .slice none 0 0, .string ⟨#[]⟩, .int .i64 0, .string ⟨#[]⟩, .slice none 0 0] 109)).alloc (.cells #[.int .i64 0, .string ⟨#[]⟩, .slice none 0 0, .string ⟨#[]⟩, .int .i64 0, .string ⟨#[]⟩, .slice none 0 0] 109) = W0 := ⟨_, rfl⟩
  change Code.wp _ _ _ _ ((W.alloc (.cells #[.int .i64 0, .string ⟨#[]⟩, .slice none 0 0, .string ⟨#[]⟩, .int .i64 0, .string ⟨#[]⟩, .slice none 0 0] 109)).alloc (.cells #[.int .i64 0, .string ⟨#[]⟩, .slice none 0 0, .string ⟨#[]⟩, .int .i64 0, .string ⟨#[]⟩, .slice none 0 0] 109))
  rw [hW0] at kb0 bD bZ bR0 ⊢
  clear hW0
  have hRW := hb.lt
  unfold zeroE at bD bZ
  have r2 : W0.cell? ⟨R, 2, none⟩ = some (.int .i64 x) := bR0.cell 2
  obtain ⟨e0, e1, e2, e3, e4, e5, e6⟩ := bZ.cells7
  obtain ⟨d0, d1, d2, d3, d4, d5, d6⟩ := bD.cells7
  obtain ⟨z0, z1, z2, z3, z4, z5, z6⟩ := bD.froz7
  go_wp2_with fail
  have b1 := bD.set7 (.int .i64 0) (.string ⟨#[]⟩) (.slice none 0 0) (.string ⟨#[]⟩) (.int .i64 0) (.string ⟨#[]⟩) (.slice none 0 0)
  have b2 := bR0.other7 (E := W.heap.size) (by omega) (.int .i64 0) (.string ⟨#[]⟩) (.slice none 0 0) (.string ⟨#[]⟩) (.int .i64 0) (.string ⟨#[]⟩) (.slice none 0 0)
  have hk := keep_high7 (Keep.of_below kb0 (Nat.le_of_lt hRW)) (Nat.le_refl _) hRW (.int .i64 0) (.string ⟨#[]⟩) (.slice none 0 0) (.string ⟨#[]⟩) (.int .i64 0) (.string ⟨#[]⟩) (.slice none 0 0)
  exact bodyPost_ret (v := .agg #[.int .i64 0, .string ⟨#[]⟩, .slice none 0 0, .string ⟨#[]⟩, .int .i64 0, .string ⟨#[]⟩, .slice none 0 0]) (resE _ b1 rfl) rfl ⟨rfl, b2, hk⟩
set_option maxRecDepth 100000 in
set_option maxHeartbeats 2000000 in
theorem dent_bad (s : ByteArray) (R : Nat) (a x : Int) (W : World) (hb : Box W R [.string s, .int .i64 a, .int .i64 0] 157) (h : decR s.data.toList a = .error x) (hs : s.size ≤ 1000000) (he : Env W) (hm : HasMax W) (ha : -9223372036854775808 ≤ a ∧ a ≤ 9223372036854775807) :
    Calls Tryz.prog 97 #[.pointer (some ⟨R, 0, none⟩), .func (.func 98) #[] #[]] W fun e W' => e = .returned (.agg #[.int .i64 0, .string ⟨#[]⟩, .slice none 0 0, .string ⟨#[]⟩, .int .i64 0, .string ⟨#[]⟩, .slice none 0 0]) ∧ Box W' R [.string s, .int .i64 a, .int .i64 x] 157 ∧ Keep R W W' := by
  obtain ⟨kb0, bD, bZ⟩ := boxes2' W zeroE zeroE 109 109
  change Below _ _ ((W.alloc (.cells #[.int .i64 0, .string ⟨#[]⟩, .slice none 0 0, .string ⟨#[]⟩, .int .i64 0, .string ⟨#[]⟩, .slice none 0 0] 109)).alloc (.cells #[.int .i64 0, .string ⟨#[]⟩, .slice none 0 0, .string ⟨#[]⟩, .int .i64 0, .string ⟨#[]⟩, .slice none 0 0] 109)) at kb0
  change Box ((W.alloc (.cells #[.int .i64 0, .string ⟨#[]⟩, .slice none 0 0, .string ⟨#[]⟩, .int .i64 0, .string ⟨#[]⟩, .slice none 0 0] 109)).alloc (.cells #[.int .i64 0, .string ⟨#[]⟩, .slice none 0 0, .string ⟨#[]⟩, .int .i64 0, .string ⟨#[]⟩, .slice none 0 0] 109)) _ _ _ at bD bZ
  have hx : x ≠ 0 := nz_decR _ _ _ h
  have q1 : (x != 0) = true := by rw [bne_iff_ne]; exact hx
  have HC0 := fun W' hW => decode_walk s a W' (he.below hW) (hm.below hW) hs ha.1 ha.2
  rw [decA_dec, h] at HC0
  have HC : Hid (∀ W', Below W.heap.size W W' → Calls Tryz.prog 98 #[.string s, .int .i64 a] W' fun e w' => e = .returned (.tuple #[.agg #[.int .i64 0, .string ⟨#[]⟩, .slice none 0 0, .string ⟨#[]⟩, .int .i64 0, .string ⟨#[]⟩, .slice none 0 0], .int .i64 0, .int .i64 x]) ∧ Below W'.heap.size W' w') := Lib.hid fun W' hW => (HC0 W' hW).mono fun e w' ⟨h1, h2⟩ => ⟨h1, h2⟩
  have eg := enters_of Tryz.func98 (by kernel_rfl) rfl
  clear h he hm HC0 hx
  go_enter Tryz.func97, Tryz.ntmps97
  go_upto_region 2 with (fail)
  have bR0 := hb.below kb0
  obtain ⟨W0, hW0⟩ : ∃ W0, (W.alloc (.cells #[.int .i64 0, .string ⟨#[]⟩, .slice none 0 0, .string ⟨#[]⟩, .int .i64 0, .string ⟨#[]⟩, .slice none 0 0] 109)).alloc (.cells #[.int .i64 0, .string ⟨#[]⟩, .slice none 0 0, .string ⟨#[]⟩, .int .i64 0, .string ⟨#[]⟩, .slice none 0 0] 109) = W0 := ⟨_, rfl⟩
  change Code.wp _ _ _ _ ((W.alloc (.cells #[.int .i64 0, .string ⟨#[]⟩, .slice none 0 0, .string ⟨#[]⟩, .int .i64 0, .string ⟨#[]⟩, .slice none 0 0] 109)).alloc (.cells #[.int .i64 0, .string ⟨#[]⟩, .slice none 0 0, .string ⟨#[]⟩, .int .i64 0, .string ⟨#[]⟩, .slice none 0 0] 109))
  rw [hW0] at kb0 bD bZ bR0 ⊢
  clear hW0
  have hRW := hb.lt
  unfold zeroE at bD bZ
  have r0 : W0.cell? ⟨R, 0, none⟩ = some (.string s) := bR0.cell 0
  have r1 : W0.cell? ⟨R, 1, none⟩ = some (.int .i64 a) := bR0.cell 1
  have r2 : W0.cell? ⟨R, 2, none⟩ = some (.int .i64 0) := bR0.cell 2
  go_upto_region 4 with (fail)
  have kbd : Below W.heap.size W W0.drew := below_drew0 kb0
  have bRd : Box W0.drew R [.string s, .int .i64 a, .int .i64 0] 157 := bR0
  have bDd : Box W0.drew W.heap.size [.int .i64 0, .string ⟨#[]⟩, .slice none 0 0, .string ⟨#[]⟩, .int .i64 0, .string ⟨#[]⟩, .slice none 0 0] 109 := bD
  have bZd : Box W0.drew (W.heap.size + 1) [.int .i64 0, .string ⟨#[]⟩, .slice none 0 0, .string ⟨#[]⟩, .int .i64 0, .string ⟨#[]⟩, .slice none 0 0] 109 := bZ
  obtain ⟨hbF, bF0⟩ := box1' W0 [.int .i64 0, .string ⟨#[]⟩, .slice none 0 0, .string ⟨#[]⟩, .int .i64 0, .string ⟨#[]⟩, .slice none 0 0] 109
  change Below _ _ (W0.alloc (.cells #[.int .i64 0, .string ⟨#[]⟩, .slice none 0 0, .string ⟨#[]⟩, .int .i64 0, .string ⟨#[]⟩, .slice none 0 0] 109)) at hbF
  change Box (W0.alloc (.cells #[.int .i64 0, .string ⟨#[]⟩, .slice none 0 0, .string ⟨#[]⟩, .int .i64 0, .string ⟨#[]⟩, .slice none 0 0] 109)) _ _ _ at bF0
  have kbe : Below W.heap.size W (W0.alloc (.cells #[.int .i64 0, .string ⟨#[]⟩, .slice none 0 0, .string ⟨#[]⟩, .int .i64 0, .string ⟨#[]⟩, .slice none 0 0] 109)).drew := below_drew0 (step2 kb0 hbF)
  have bRe : Box (W0.alloc (.cells #[.int .i64 0, .string ⟨#[]⟩, .slice none 0 0, .string ⟨#[]⟩, .int .i64 0, .string ⟨#[]⟩, .slice none 0 0] 109)).drew R [.string s, .int .i64 a, .int .i64 0] 157 := bR0.below (below_drew0 hbF)
  have bDe : Box (W0.alloc (.cells #[.int .i64 0, .string ⟨#[]⟩, .slice none 0 0, .string ⟨#[]⟩, .int .i64 0, .string ⟨#[]⟩, .slice none 0 0] 109)).drew W.heap.size [.int .i64 0, .string ⟨#[]⟩, .slice none 0 0, .string ⟨#[]⟩, .int .i64 0, .string ⟨#[]⟩, .slice none 0 0] 109 := bD.below (below_drew0 hbF)
  have bZe : Box (W0.alloc (.cells #[.int .i64 0, .string ⟨#[]⟩, .slice none 0 0, .string ⟨#[]⟩, .int .i64 0, .string ⟨#[]⟩, .slice none 0 0] 109)).drew (W.heap.size + 1) [.int .i64 0, .string ⟨#[]⟩, .slice none 0 0, .string ⟨#[]⟩, .int .i64 0, .string ⟨#[]⟩, .slice none 0 0] 109 := bZ.below (below_drew0 hbF)
  have bFe : Box (W0.alloc (.cells #[.int .i64 0, .string ⟨#[]⟩, .slice none 0 0, .string ⟨#[]⟩, .int .i64 0, .string ⟨#[]⟩, .slice none 0 0] 109)).drew W0.heap.size [.int .i64 0, .string ⟨#[]⟩, .slice none 0 0, .string ⟨#[]⟩, .int .i64 0, .string ⟨#[]⟩, .slice none 0 0] 109 := bF0
  have hDl := bD.lt
  have hZl := bZ.lt
  have hRl := bR0.lt
  have hne0 : W0.heap.size ≠ R := by omega
  go_cut [6, 7, 8] from 15 to 28 (fun v6 v7 v8 wc => ∃ F, v6 = .pointer (some ⟨F, 0, none⟩) ∧ W0.heap.size ≤ F ∧ v7 = .int .i64 0 ∧ v8 = .int .i64 x ∧ Box wc F [.int .i64 0, .string ⟨#[]⟩, .slice none 0 0, .string ⟨#[]⟩, .int .i64 0, .string ⟨#[]⟩, .slice none 0 0] 109 ∧ Box wc R [.string s, .int .i64 a, .int .i64 0] 157 ∧ Box wc W.heap.size [.int .i64 0, .string ⟨#[]⟩, .slice none 0 0, .string ⟨#[]⟩, .int .i64 0, .string ⟨#[]⟩, .slice none 0 0] 109 ∧ Box wc (W.heap.size + 1) [.int .i64 0, .string ⟨#[]⟩, .slice none 0 0, .string ⟨#[]⟩, .int .i64 0, .string ⟨#[]⟩, .slice none 0 0] 109 ∧ Below W.heap.size W wc)
  case first =>
    go_region_held3 (fun w => w.cell? ⟨R, 0, none⟩ = some (.string s) ∧ w.cell? ⟨R, 1, none⟩ = some (.int .i64 a))
      (first | with_reducible exact ⟨r0, r1⟩ | with_reducible exact SK | go_keep | exact ⟨Box.cell (Box.other7 bR1 hne0 (.int .i64 0) (.string ⟨#[]⟩) (.slice none 0 0) (.string ⟨#[]⟩) (.int .i64 0) (.string ⟨#[]⟩) (.slice none 0 0)) 0, Box.cell (Box.other7 bR1 hne0 (.int .i64 0) (.string ⟨#[]⟩) (.slice none 0 0) (.string ⟨#[]⟩) (.int .i64 0) (.string ⟨#[]⟩) (.slice none 0 0)) 1⟩)
      (first
        | (go_at_call 98; (with_reducible refine (HC.out _ kbd).mono ?_); rintro e w1 ⟨rfl, hb1⟩; have bR1 := bRd.below hb1; have bD1 := bDd.below hb1; have bZ1 := bZd.below hb1; have kb1 := step2 kbd hb1; have SK : w1.cell? ⟨R, 0, none⟩ = some (.string s) ∧ w1.cell? ⟨R, 1, none⟩ = some (.int .i64 a) := ⟨bR1.cell 0, bR1.cell 1⟩; have hlR := bR1.lt; have way : True := trivial)
        | (go_at_call 98; (with_reducible refine (HC.out _ kbe).mono ?_); rintro e w1 ⟨rfl, hb1⟩; have bR1 := bRe.below hb1; have bD1 := bDe.below hb1; have bZ1 := bZe.below hb1; have kb1 := step2 kbe hb1; have SK : w1.cell? ⟨R, 0, none⟩ = some (.string s) ∧ w1.cell? ⟨R, 1, none⟩ = some (.int .i64 a) := ⟨bR1.cell 0, bR1.cell 1⟩; have hlR := bR1.lt; have bF1 := bFe.below hb1; obtain ⟨f0, f1, f2, f3, f4, f5, f6⟩ := bF1.cells7; obtain ⟨g0, g1, g2, g3, g4, g5, g6⟩ := bF1.froz7))
    all_goals
      go_wp2_with fail
      go_meet
      first
        | (have hway := way
           obtain ⟨hb2, bF⟩ := box1' w1 [.int .i64 0, .string ⟨#[]⟩, .slice none 0 0, .string ⟨#[]⟩, .int .i64 0, .string ⟨#[]⟩, .slice none 0 0] 109
           exact ⟨_, rfl, hb1.size, rfl, rfl, bF, bR1.below hb2, bD1.below hb2, bZ1.below hb2, step2 kb1 hb2⟩)
        | exact ⟨_, rfl, Nat.le_refl _, rfl, rfl, bF1.set7 (.int .i64 0) (.string ⟨#[]⟩) (.slice none 0 0) (.string ⟨#[]⟩) (.int .i64 0) (.string ⟨#[]⟩) (.slice none 0 0), bR1.other7 (E := W0.heap.size) (by omega) (.int .i64 0) (.string ⟨#[]⟩) (.slice none 0 0) (.string ⟨#[]⟩) (.int .i64 0) (.string ⟨#[]⟩) (.slice none 0 0), bD1.other7 (E := W0.heap.size) (by omega) (.int .i64 0) (.string ⟨#[]⟩) (.slice none 0 0) (.string ⟨#[]⟩) (.int .i64 0) (.string ⟨#[]⟩) (.slice none 0 0), bZ1.other7 (E := W0.heap.size) (by omega) (.int .i64 0) (.string ⟨#[]⟩) (.slice none 0 0) (.string ⟨#[]⟩) (.int .i64 0) (.string ⟨#[]⟩) (.slice none 0 0), below_set7 kb1 (show W.heap.size ≤ W0.heap.size by omega) (.int .i64 0) (.string ⟨#[]⟩) (.slice none 0 0) (.string ⟨#[]⟩) (.int .i64 0) (.string ⟨#[]⟩) (.slice none 0 0)⟩
  case rest =>
  obtain ⟨F, rfl, hF, rfl, rfl, bF, bR2, bD2, bZ2, kb2⟩ := hcut
  have hFR : F ≠ R := by omega
  clear r0 r1 r2 kbd bRd bDd bZd hbF bF0 kbe bRe bDe bZe bFe bD bZ bR0 kb0 HC
  obtain ⟨W2, rfl⟩ : ∃ W2, W2 = wc := ⟨_, rfl⟩
  have r2 : W2.cell? ⟨R, 2, none⟩ = some (.int .i64 0) := bR2.cell 2
  have y2 := bR2.frozen 2
  obtain ⟨e0, e1, e2, e3, e4, e5, e6⟩ := bZ2.cells7
  obtain ⟨d0, d1, d2, d3, d4, d5, d6⟩ := bD2.cells7
  obtain ⟨z0, z1, z2, z3, z4, z5, z6⟩ := bD2.froz7
  go_wp2_with fail
  have b1 := (bD2.setOther (E' := R) (j := 2) (by omega) (.int .i64 x)).set7 (.int .i64 0) (.string ⟨#[]⟩) (.slice none 0 0) (.string ⟨#[]⟩) (.int .i64 0) (.string ⟨#[]⟩) (.slice none 0 0)
  have b2 := (bR2.set (j := 2) (.int .i64 x)).other7 (E := W.heap.size) (by omega) (.int .i64 0) (.string ⟨#[]⟩) (.slice none 0 0) (.string ⟨#[]⟩) (.int .i64 0) (.string ⟨#[]⟩) (.slice none 0 0)
  have hk := keep_high7 (keep_set (j := 2) (Keep.of_below kb2 (Nat.le_of_lt hRW)) (.int .i64 x)) (Nat.le_refl _) hRW (.int .i64 0) (.string ⟨#[]⟩) (.slice none 0 0) (.string ⟨#[]⟩) (.int .i64 0) (.string ⟨#[]⟩) (.slice none 0 0)
  exact bodyPost_ret (v := .agg #[.int .i64 0, .string ⟨#[]⟩, .slice none 0 0, .string ⟨#[]⟩, .int .i64 0, .string ⟨#[]⟩, .slice none 0 0]) (resE _ b1 rfl) rfl ⟨rfl, b2, hk⟩
set_option maxRecDepth 100000 in
set_option maxHeartbeats 2000000 in
theorem dent_walk (s : ByteArray) (R : Nat) (a b : Int) (y : En) (W : World) (hb : Box W R [.string s, .int .i64 a, .int .i64 0] 157) (h : decR s.data.toList a = .ok (y, b)) (hs : s.size ≤ 1000000) (he : Env W) (hm : HasMax W) (ha : -9223372036854775808 ≤ a ∧ a ≤ 9223372036854775807) :
    Calls Tryz.prog 97 #[.pointer (some ⟨R, 0, none⟩), .func (.func 98) #[] #[]] W fun e W' => ∃ va vx, e = .returned (enV y va vx) ∧ OwnA W.heap.size W' ⟨y, va, vx⟩ ∧ Box W' R [.string s, .int .i64 b, .int .i64 0] 157 ∧ Keep R W W' := by
  obtain ⟨kb0, bD, bZ⟩ := boxes2' W zeroE zeroE 109 109
  change Below _ _ ((W.alloc (.cells #[.int .i64 0, .string ⟨#[]⟩, .slice none 0 0, .string ⟨#[]⟩, .int .i64 0, .string ⟨#[]⟩, .slice none 0 0] 109)).alloc (.cells #[.int .i64 0, .string ⟨#[]⟩, .slice none 0 0, .string ⟨#[]⟩, .int .i64 0, .string ⟨#[]⟩, .slice none 0 0] 109)) at kb0
  change Box ((W.alloc (.cells #[.int .i64 0, .string ⟨#[]⟩, .slice none 0 0, .string ⟨#[]⟩, .int .i64 0, .string ⟨#[]⟩, .slice none 0 0] 109)).alloc (.cells #[.int .i64 0, .string ⟨#[]⟩, .slice none 0 0, .string ⟨#[]⟩, .int .i64 0, .string ⟨#[]⟩, .slice none 0 0] 109)) _ _ _ at bD bZ
  have HC0 := fun W' hW => decode_walk s a W' (he.below hW) (hm.below hW) hs ha.1 ha.2
  rw [decA_dec, h] at HC0
  have HC : Hid (∀ W', Below W.heap.size W W' → Calls Tryz.prog 98 #[.string s, .int .i64 a] W' fun e w' => ∃ a1 m1 a2 m2, e = .returned (.tuple #[.agg #[.int .i64 y.kind, .string y.path, .slice a1 y.attrs.length m1, .string y.target, .int .i64 y.size, .string y.digest, .slice a2 y.exts.length m2], .int .i64 b, .int .i64 0]) ∧ OwnG W'.heap.size 192 2 At.vals w' (.slice a1 y.attrs.length m1) y.attrs ∧ OwnG W'.heap.size 34 3 Ex.vals w' (.slice a2 y.exts.length m2) y.exts ∧ Below W'.heap.size W' w') := Lib.hid fun W' hW => (HC0 W' hW).mono fun e w' ⟨va, vx, h1, h2, h3, h4⟩ => by
    obtain ⟨a1, m1, rfl⟩ := (OwnG.row (n := 2) (f := At.vals) (d := at0) (fun _ => rfl) h2).form
    obtain ⟨a2, m2, rfl⟩ := (OwnG.row (n := 3) (f := Ex.vals) (d := ex0) (fun _ => rfl) h3).form
    exact ⟨a1, m1, a2, m2, h1, h2, h3, h4⟩
  have eg := enters_of Tryz.func98 (by kernel_rfl) rfl
  clear h he hm HC0
  go_enter Tryz.func97, Tryz.ntmps97
  go_upto_region 2 with (fail)
  have bR0 := hb.below kb0
  obtain ⟨W0, hW0⟩ : ∃ W0, (W.alloc (.cells #[.int .i64 0, .string ⟨#[]⟩, .slice none 0 0, .string ⟨#[]⟩, .int .i64 0, .string ⟨#[]⟩, .slice none 0 0] 109)).alloc (.cells #[.int .i64 0, .string ⟨#[]⟩, .slice none 0 0, .string ⟨#[]⟩, .int .i64 0, .string ⟨#[]⟩, .slice none 0 0] 109) = W0 := ⟨_, rfl⟩
  change Code.wp _ _ _ _ ((W.alloc (.cells #[.int .i64 0, .string ⟨#[]⟩, .slice none 0 0, .string ⟨#[]⟩, .int .i64 0, .string ⟨#[]⟩, .slice none 0 0] 109)).alloc (.cells #[.int .i64 0, .string ⟨#[]⟩, .slice none 0 0, .string ⟨#[]⟩, .int .i64 0, .string ⟨#[]⟩, .slice none 0 0] 109))
  rw [hW0] at kb0 bD bZ bR0 ⊢
  clear hW0
  have hRW := hb.lt
  unfold zeroE at bD bZ
  have r0 : W0.cell? ⟨R, 0, none⟩ = some (.string s) := bR0.cell 0
  have r1 : W0.cell? ⟨R, 1, none⟩ = some (.int .i64 a) := bR0.cell 1
  have r2 : W0.cell? ⟨R, 2, none⟩ = some (.int .i64 0) := bR0.cell 2
  go_upto_region 4 with (fail)
  have kbd : Below W.heap.size W W0.drew := below_drew0 kb0
  have bRd : Box W0.drew R [.string s, .int .i64 a, .int .i64 0] 157 := bR0
  have bDd : Box W0.drew W.heap.size [.int .i64 0, .string ⟨#[]⟩, .slice none 0 0, .string ⟨#[]⟩, .int .i64 0, .string ⟨#[]⟩, .slice none 0 0] 109 := bD
  have bZd : Box W0.drew (W.heap.size + 1) [.int .i64 0, .string ⟨#[]⟩, .slice none 0 0, .string ⟨#[]⟩, .int .i64 0, .string ⟨#[]⟩, .slice none 0 0] 109 := bZ
  obtain ⟨hbF, bF0⟩ := box1' W0 [.int .i64 0, .string ⟨#[]⟩, .slice none 0 0, .string ⟨#[]⟩, .int .i64 0, .string ⟨#[]⟩, .slice none 0 0] 109
  change Below _ _ (W0.alloc (.cells #[.int .i64 0, .string ⟨#[]⟩, .slice none 0 0, .string ⟨#[]⟩, .int .i64 0, .string ⟨#[]⟩, .slice none 0 0] 109)) at hbF
  change Box (W0.alloc (.cells #[.int .i64 0, .string ⟨#[]⟩, .slice none 0 0, .string ⟨#[]⟩, .int .i64 0, .string ⟨#[]⟩, .slice none 0 0] 109)) _ _ _ at bF0
  have kbe : Below W.heap.size W (W0.alloc (.cells #[.int .i64 0, .string ⟨#[]⟩, .slice none 0 0, .string ⟨#[]⟩, .int .i64 0, .string ⟨#[]⟩, .slice none 0 0] 109)).drew := below_drew0 (step2 kb0 hbF)
  have bRe : Box (W0.alloc (.cells #[.int .i64 0, .string ⟨#[]⟩, .slice none 0 0, .string ⟨#[]⟩, .int .i64 0, .string ⟨#[]⟩, .slice none 0 0] 109)).drew R [.string s, .int .i64 a, .int .i64 0] 157 := bR0.below (below_drew0 hbF)
  have bDe : Box (W0.alloc (.cells #[.int .i64 0, .string ⟨#[]⟩, .slice none 0 0, .string ⟨#[]⟩, .int .i64 0, .string ⟨#[]⟩, .slice none 0 0] 109)).drew W.heap.size [.int .i64 0, .string ⟨#[]⟩, .slice none 0 0, .string ⟨#[]⟩, .int .i64 0, .string ⟨#[]⟩, .slice none 0 0] 109 := bD.below (below_drew0 hbF)
  have bZe : Box (W0.alloc (.cells #[.int .i64 0, .string ⟨#[]⟩, .slice none 0 0, .string ⟨#[]⟩, .int .i64 0, .string ⟨#[]⟩, .slice none 0 0] 109)).drew (W.heap.size + 1) [.int .i64 0, .string ⟨#[]⟩, .slice none 0 0, .string ⟨#[]⟩, .int .i64 0, .string ⟨#[]⟩, .slice none 0 0] 109 := bZ.below (below_drew0 hbF)
  have bFe : Box (W0.alloc (.cells #[.int .i64 0, .string ⟨#[]⟩, .slice none 0 0, .string ⟨#[]⟩, .int .i64 0, .string ⟨#[]⟩, .slice none 0 0] 109)).drew W0.heap.size [.int .i64 0, .string ⟨#[]⟩, .slice none 0 0, .string ⟨#[]⟩, .int .i64 0, .string ⟨#[]⟩, .slice none 0 0] 109 := bF0
  have hDl := bD.lt
  have hZl := bZ.lt
  have hRl := bR0.lt
  have hne0 : W0.heap.size ≠ R := by omega
  go_cut [6, 7, 8] from 15 to 28 (fun v6 v7 v8 wc => ∃ F a1 m1 a2 m2, v6 = .pointer (some ⟨F, 0, none⟩) ∧ W0.heap.size ≤ F ∧ v7 = .int .i64 b ∧ v8 = .int .i64 0 ∧ Box wc F [.int .i64 y.kind, .string y.path, .slice a1 y.attrs.length m1, .string y.target, .int .i64 y.size, .string y.digest, .slice a2 y.exts.length m2] 109 ∧ Box wc R [.string s, .int .i64 a, .int .i64 0] 157 ∧ Box wc W.heap.size [.int .i64 0, .string ⟨#[]⟩, .slice none 0 0, .string ⟨#[]⟩, .int .i64 0, .string ⟨#[]⟩, .slice none 0 0] 109 ∧ Box wc (W.heap.size + 1) [.int .i64 0, .string ⟨#[]⟩, .slice none 0 0, .string ⟨#[]⟩, .int .i64 0, .string ⟨#[]⟩, .slice none 0 0] 109 ∧ Below W.heap.size W wc ∧ OwnG W0.heap.size 192 2 At.vals wc (.slice a1 y.attrs.length m1) y.attrs ∧ OwnG W0.heap.size 34 3 Ex.vals wc (.slice a2 y.exts.length m2) y.exts)
  case first =>
    go_region_held3 (fun w => w.cell? ⟨R, 0, none⟩ = some (.string s) ∧ w.cell? ⟨R, 1, none⟩ = some (.int .i64 a))
      (first | with_reducible exact ⟨r0, r1⟩ | with_reducible exact SK | go_keep | exact ⟨Box.cell (Box.other7 bR1 hne0 (.int .i64 y.kind) (.string y.path) (.slice a1 y.attrs.length m1) (.string y.target) (.int .i64 y.size) (.string y.digest) (.slice a2 y.exts.length m2)) 0, Box.cell (Box.other7 bR1 hne0 (.int .i64 y.kind) (.string y.path) (.slice a1 y.attrs.length m1) (.string y.target) (.int .i64 y.size) (.string y.digest) (.slice a2 y.exts.length m2)) 1⟩)
      (first
        | (go_at_call 98; (with_reducible refine (HC.out _ kbd).mono ?_); rintro e w1 ⟨a1, m1, a2, m2, rfl, hA, hX, hb1⟩; have bR1 := bRd.below hb1; have bD1 := bDd.below hb1; have bZ1 := bZd.below hb1; have kb1 := step2 kbd hb1; have SK : w1.cell? ⟨R, 0, none⟩ = some (.string s) ∧ w1.cell? ⟨R, 1, none⟩ = some (.int .i64 a) := ⟨bR1.cell 0, bR1.cell 1⟩; have hlR := bR1.lt; have way : True := trivial)
        | (go_at_call 98; (with_reducible refine (HC.out _ kbe).mono ?_); rintro e w1 ⟨a1, m1, a2, m2, rfl, hA, hX, hb1⟩; have bR1 := bRe.below hb1; have bD1 := bDe.below hb1; have bZ1 := bZe.below hb1; have kb1 := step2 kbe hb1; have SK : w1.cell? ⟨R, 0, none⟩ = some (.string s) ∧ w1.cell? ⟨R, 1, none⟩ = some (.int .i64 a) := ⟨bR1.cell 0, bR1.cell 1⟩; have hlR := bR1.lt; have bF1 := bFe.below hb1; obtain ⟨f0, f1, f2, f3, f4, f5, f6⟩ := bF1.cells7; obtain ⟨g0, g1, g2, g3, g4, g5, g6⟩ := bF1.froz7))
    all_goals
      go_wp2_with fail
      go_meet
      first
        | (have hway := way
           obtain ⟨hb2, bF⟩ := box1' w1 [.int .i64 y.kind, .string y.path, .slice a1 y.attrs.length m1, .string y.target, .int .i64 y.size, .string y.digest, .slice a2 y.exts.length m2] 109
           exact ⟨_, _, _, _, _, rfl, hb1.size, rfl, rfl, bF, bR1.below hb2, bD1.below hb2, bZ1.below hb2, step2 kb1 hb2, owns_below hA hb2, owns_below hX hb2⟩)
        | exact ⟨_, _, _, _, _, rfl, Nat.le_refl _, rfl, rfl, bF1.set7 (.int .i64 y.kind) (.string y.path) (.slice a1 y.attrs.length m1) (.string y.target) (.int .i64 y.size) (.string y.digest) (.slice a2 y.exts.length m2), bR1.other7 (E := W0.heap.size) (by omega) (.int .i64 y.kind) (.string y.path) (.slice a1 y.attrs.length m1) (.string y.target) (.int .i64 y.size) (.string y.digest) (.slice a2 y.exts.length m2), bD1.other7 (E := W0.heap.size) (by omega) (.int .i64 y.kind) (.string y.path) (.slice a1 y.attrs.length m1) (.string y.target) (.int .i64 y.size) (.string y.digest) (.slice a2 y.exts.length m2), bZ1.other7 (E := W0.heap.size) (by omega) (.int .i64 y.kind) (.string y.path) (.slice a1 y.attrs.length m1) (.string y.target) (.int .i64 y.size) (.string y.digest) (.slice a2 y.exts.length m2), below_set7 kb1 (show W.heap.size ≤ W0.heap.size by omega) (.int .i64 y.kind) (.string y.path) (.slice a1 y.attrs.length m1) (.string y.target) (.int .i64 y.size) (.string y.digest) (.slice a2 y.exts.length m2), owns_mono (owns_low7 hA (by simp) (.int .i64 y.kind) (.string y.path) (.slice a1 y.attrs.length m1) (.string y.target) (.int .i64 y.size) (.string y.digest) (.slice a2 y.exts.length m2)) (by simp), owns_mono (owns_low7 hX (by simp) (.int .i64 y.kind) (.string y.path) (.slice a1 y.attrs.length m1) (.string y.target) (.int .i64 y.size) (.string y.digest) (.slice a2 y.exts.length m2)) (by simp)⟩
  case rest =>
  obtain ⟨F, a1, m1, a2, m2, rfl, hF, rfl, rfl, bF, bR2, bD2, bZ2, kb2, oA, oX⟩ := hcut
  have hFR : F ≠ R := by omega
  clear r0 r1 r2 kbd bRd bDd bZd hbF bF0 kbe bRe bDe bZe bFe bD bZ bR0 kb0 HC
  obtain ⟨W2, rfl⟩ : ∃ W2, W2 = wc := ⟨_, rfl⟩
  have hDd : W.heap.size < W0.heap.size := hDl
  have r1 : W2.cell? ⟨R, 1, none⟩ = some (.int .i64 a) := bR2.cell 1
  have y1 := bR2.frozen 1
  obtain ⟨f0, f1, f2, f3, f4, f5, f6⟩ := bF.cells7
  obtain ⟨d0, d1, d2, d3, d4, d5, d6⟩ := bD2.cells7
  obtain ⟨z0, z1, z2, z3, z4, z5, z6⟩ := bD2.froz7
  go_wp2_with fail
  have b1 := (bD2.setOther (E' := R) (j := 1) (by omega) (.int .i64 b)).set7 (.int .i64 y.kind) (.string y.path) (.slice a1 y.attrs.length m1) (.string y.target) (.int .i64 y.size) (.string y.digest) (.slice a2 y.exts.length m2)
  have b2 := (bR2.set (j := 1) (.int .i64 b)).other7 (E := W.heap.size) (by omega) (.int .i64 y.kind) (.string y.path) (.slice a1 y.attrs.length m1) (.string y.target) (.int .i64 y.size) (.string y.digest) (.slice a2 y.exts.length m2)
  have hk := keep_high7 (keep_set (j := 1) (Keep.of_below kb2 (Nat.le_of_lt hRW)) (.int .i64 b)) (Nat.le_refl _) hRW (.int .i64 y.kind) (.string y.path) (.slice a1 y.attrs.length m1) (.string y.target) (.int .i64 y.size) (.string y.digest) (.slice a2 y.exts.length m2)
  have qA := owns_mono (owns_low7 (owns_setLow (E := R) (j := 1) oA (by omega) (.int .i64 b)) hDd (.int .i64 y.kind) (.string y.path) (.slice a1 y.attrs.length m1) (.string y.target) (.int .i64 y.size) (.string y.digest) (.slice a2 y.exts.length m2)) (Nat.le_of_lt hDd)
  have qX := owns_mono (owns_low7 (owns_setLow (E := R) (j := 1) oX (by omega) (.int .i64 b)) hDd (.int .i64 y.kind) (.string y.path) (.slice a1 y.attrs.length m1) (.string y.target) (.int .i64 y.size) (.string y.digest) (.slice a2 y.exts.length m2)) (Nat.le_of_lt hDd)
  exact bodyPost_ret (v := .agg #[.int .i64 y.kind, .string y.path, .slice a1 y.attrs.length m1, .string y.target, .int .i64 y.size, .string y.digest, .slice a2 y.exts.length m2]) (resE _ b1 rfl) rfl ⟨_, _, rfl, ⟨qA, qX⟩, b2, hk⟩
theorem dent_any (s : ByteArray) (R : Nat) (st : Except Int Int) (W : World) (hr : RS 157 W R s st) (hs : s.size ≤ 1000000) (he : Env W) (hm : HasMax W) (hst : ∀ a, st = .ok a → -9223372036854775808 ≤ a ∧ a ≤ 9223372036854775807) :
    Calls Tryz.prog 97 #[.pointer (some ⟨R, 0, none⟩), .func (.func 98) #[] #[]] W (EntS 157 (st >>= decR s.data.toList) s R W) := by
  cases st with
  | error x =>
    obtain ⟨hx, a, hb⟩ := hr
    exact (dent_stop s R a x W hb hx).mono fun e w' ⟨e1, e2, e3⟩ => ⟨_, _, e1, ⟨World.ownsRow_nil _ _ _ _, World.ownsRow_nil _ _ _ _⟩, ⟨hx, a, e2⟩, e3⟩
  | ok a =>
    show Calls _ _ _ _ (EntS 157 (decR s.data.toList a) s R W)
    rcases h : decR s.data.toList a with x | ⟨y, b⟩
    · exact (dent_bad s R a x W hr h hs he hm (hst a rfl)).mono fun e w' ⟨e1, e2, e3⟩ => ⟨_, _, e1, ⟨World.ownsRow_nil _ _ _ _, World.ownsRow_nil _ _ _ _⟩, ⟨nz_decR _ _ _ h, a, e2⟩, e3⟩
    · exact (dent_walk s R a b y W hr h hs he hm (hst a rfl)).mono fun e w' ⟨va, vx, e1, e2, e3, e4⟩ => ⟨va, vx, e1, e2, e3, e4⟩
end Go.Proofs.YtpkapcijgldhhaaGreatDoor

namespace Go.Proofs.YtpkapcijgldhhaaGreatDoor
open Go.RowKit Go.Shelf

/-- w' is w with new blocks; blocks of another type than e are as they were -/
def Grew (w w' : World) (e : TypeId) : Prop := ∀ (k : Nat) (cs : Array Value) (T : TypeId) (f : Nat × Nat), w.heap[k]? = some (Obj.cells cs T f) → T ≠ e → w'.heap[k]? = w.heap[k]?
theorem grew_of {w w' : World} {base : Nat} {e : TypeId} {size : Nat} {v : Value} {n : Nat} {xs : List Value} (hown : w.ownsRow base e size v n xs) (hg : w.grownBy w' v.ownBlock) : Grew w w' e := by
  intro k cs T f hk hT
  refine hg.block k (Array.getElem?_eq_some_iff.1 hk).1 ?_
  intro hb
  rcases hown.2 with ⟨rfl, _⟩ | ⟨g, cap, cur, rfl, _, hh, _⟩
  · cases hb
  · cases hb
    rw [hh] at hk
    cases hk
    exact hT rfl
theorem owns_grew {w w' : World} {base : Nat} {e e' : TypeId} {size : Nat} {v : Value} {n : Nat} {xs : List Value} (h : w.ownsRow base e' size v n xs) (hg : Grew w w' e) (hne : e' ≠ e) : w'.ownsRow base e' size v n xs :=
  ⟨h.1, h.2.imp id fun ⟨g, cap, cur, e1, e2, hh, r⟩ => ⟨g, cap, cur, e1, e2, (hg g _ _ _ hh hne).trans hh, r⟩⟩
theorem Box.grew {w w' : World} {E : Nat} {cs : List Value} {T e : TypeId} (h : Box w E cs T) (hg : Grew w w' e) (hne : T ≠ e) : Box w' E cs T := (hg E _ _ _ h hne).trans h
theorem OwnA.grew {base : Nat} {w w' : World} {x : ER} (h : OwnA base w x) (hg : Grew w w' 109) : OwnA base w' x := ⟨owns_grew h.1 hg (by decide), owns_grew h.2 hg (by decide)⟩
theorem step_append_own2 {P : Program} {w : World} {ops : Array Oper} {o : Oper} {a : Act} {K : Act → World → Prop} {Q : Exit → Act → World → Prop} {E : Prop} (hgd : o.guard = none) (s x : Operand) (t : TypeId)
    (ho : o.op = .call { callee := .builtin .append, args := #[s, x], argTypes := #[t, t] })
    (base : Nat) (e : TypeId) (i : TypeInfo) (z : Value) (size bytes : Nat) (ht : P.underlying t = some (.slice e)) (hi : P.info? e = some i) (hz : i.zero = some z)
    (hsize : i.size = size) (hby : i.bytes = bytes) (hzs : z.cells.size = size) (hsz : 0 < size)
    (v : Value) (n : Nat) (xs : List Value) (hs : a.eval s = v) (hown : w.ownsRow base e size v n xs)
    (ad : Addr) (m c : Nat) (news : List Value) (hx : a.eval x = .slice (some ad) m c) (hl : news.length = m * size) (hnews : ∀ j u, news[j]? = some u → w.cell? (ad.add j) = some u) (h1 : ∀ u ∈ news, u.oneCell' = true)
    (h63 : n + m ≤ maxLen) (hbytes : (n + m) * bytes ≤ 140737488355328) (hbase : base ≤ w.heap.size)
    (h : ∀ a' c' w', w'.ownsRow base e size (.slice a' (n + m) c') (n + m) (xs ++ news) → Hid (Below base w w') → Hid (Grew w w' e) → K (a.put o.dst (.slice a' (n + m) c')) w') :
    if Region.wanted o (yielded ops a.tmps) = true then Oper.wp P o a w K Q else E := by
  have hw : Region.wanted o (yielded ops a.tmps) = true := by simp [Region.wanted, hgd]
  rw [if_pos hw]
  refine wp_append_own w s x t ho base e i z size bytes ht hi hz hsize hby hzs hsz v n xs hs hown ad m c news hx hl hnews h1 h63 hbytes hbase fun v' w' h2 h3 _ => ?_
  obtain ⟨a', c', rfl⟩ := own_form h2
  exact h a' c' w' h2 (below_grownBy (Below.refl _ _) hown h3 hbase) (grew_of hown h3)
theorem infoEn : (Tryz.prog.info? 109).map (fun i => (i.zero, i.size, i.bytes)) = some (some (.agg #[.int .i64 0, .string ⟨#[]⟩, .slice none 0 0, .string ⟨#[]⟩, .int .i64 0, .string ⟨#[]⟩, .slice none 0 0]), 7, 112) := by kernel_rfl
theorem cell_new7 (w : World) (v0 v1 v2 v3 v4 v5 v6 : Value) (T : TypeId) (j : Nat) (x : Value) (h : [v0, v1, v2, v3, v4, v5, v6][j]? = some x) : (w.alloc (.cells #[v0, v1, v2, v3, v4, v5, v6] T)).cell? ((⟨w.heap.size, 0, none⟩ : Addr).add j) = some x := by
  rw [Addr.add_mid, Nat.zero_add, alloc_new_cell]; simpa using h
theorem one7 (y : En) (a1 a2 : Option Addr) (n1 m1 n2 m2 : Nat) (u : Value) (hu : u ∈ [Value.int .i64 y.kind, .string y.path, .slice a1 n1 m1, .string y.target, .int .i64 y.size, .string y.digest, .slice a2 n2 m2]) : u.oneCell' = true := by
  simp only [List.mem_cons, List.not_mem_nil, or_false] at hu
  rcases hu with rfl | rfl | rfl | rfl | rfl | rfl | rfl <;> rfl

/-! ### step by step -/
def bs8 (l : List UInt8) (n d : Int) (p : List UInt8) (z : Int) (g : List UInt8) (X : List En) : Except Int (List UInt8 × Int) → Except Int De
  | .error x => .error x
  | .ok (s, a) => finR l ⟨n, d, p, z, g, X, s⟩ a
def bs7 (l : List UInt8) (n d : Int) (p : List UInt8) (z : Int) (g : List UInt8) : Except Int (List En × Int) → Except Int De
  | .error x => .error x
  | .ok (X, a) => bs8 l n d p z g X (txt l a)
def bs6 (l : List UInt8) (n d : Int) (p : List UInt8) (z : Int) (g : List UInt8) : Except Int (Int × Int) → Except Int De
  | .error x => .error x
  | .ok (c, a) => bs7 l n d p z g (rowR (decR l) a c.toNat)
def bs5 (l : List UInt8) (n d : Int) (p : List UInt8) (z : Int) : Except Int (List UInt8 × Int) → Except Int De
  | .error x => .error x
  | .ok (g, a) => bs6 l n d p z g (cnt4 l a)
def bs4 (l : List UInt8) (n d : Int) (p : List UInt8) : Except Int (Int × Int) → Except Int De
  | .error x => .error x
  | .ok (z, a) => bs5 l n d p z (txt l a)
def bs3 (l : List UInt8) (n d : Int) : Except Int (List UInt8 × Int) → Except Int De
  | .error x => .error x
  | .ok (p, a) => bs4 l n d p (nmb l a)
def bs2 (l : List UInt8) (n : Int) : Except Int (Int × Int) → Except Int De
  | .error x => .error x
  | .ok (d, a) => bs3 l n d (txt l a)
def bs1 (l : List UInt8) : Except Int (Int × Int) → Except Int De
  | .error x => .error x
  | .ok (n, a) => bs2 l n (nmb l a)
theorem except_bind {α β : Type} (r : Except Int α) (f : α → Except Int β) : (r >>= f) = (match r with | .error x => .error x | .ok a => f a) := by cases r <;> rfl
theorem bodyR_steps (l : List UInt8) : bodyR l = bs1 l ((.ok 8 : Except Int Int) >>= nmb l) := by
  unfold bodyR
  show (nmb l 8 >>= _) = bs1 l (nmb l 8)
  rcases nmb l 8 with x | ⟨n, a⟩
  · rfl
  show (nmb l a >>= _) = bs2 l n (nmb l a)
  rcases nmb l a with x | ⟨d, a⟩
  · rfl
  show (txt l a >>= _) = bs3 l n d (txt l a)
  rcases txt l a with x | ⟨p, a⟩
  · rfl
  show (nmb l a >>= _) = bs4 l n d p (nmb l a)
  rcases nmb l a with x | ⟨z, a⟩
  · rfl
  show (txt l a >>= _) = bs5 l n d p z (txt l a)
  rcases txt l a with x | ⟨g, a⟩
  · rfl
  show (cnt4 l a >>= _) = bs6 l n d p z g (cnt4 l a)
  rcases cnt4 l a with x | ⟨c, a⟩
  · rfl
  show (rowR (decR l) a c.toNat >>= _) = bs7 l n d p z g (rowR (decR l) a c.toNat)
  rcases rowR (decR l) a c.toNat with x | ⟨X, a⟩
  · rfl
  show (txt l a >>= _) = bs8 l n d p z g X (txt l a)
  rcases txt l a with x | ⟨s, a⟩ <;> rfl
theorem bs1_next (l : List UInt8) (r : Except Int (Int × Int)) : bs1 l r = bs2 l (stNum r) (stAt r >>= nmb l) := by cases r <;> rfl
theorem bs2_next (l : List UInt8) (n : Int) (r : Except Int (Int × Int)) : bs2 l n r = bs3 l n (stNum r) (stAt r >>= txt l) := by cases r <;> rfl
theorem bs3_next (l : List UInt8) (n d : Int) (r : Except Int (List UInt8 × Int)) : bs3 l n d r = bs4 l n d (stStr r) (stAt r >>= nmb l) := by cases r <;> rfl
theorem bs4_next (l : List UInt8) (n d : Int) (p : List UInt8) (r : Except Int (Int × Int)) : bs4 l n d p r = bs5 l n d p (stNum r) (stAt r >>= txt l) := by cases r <;> rfl
theorem bs5_next (l : List UInt8) (n d : Int) (p : List UInt8) (z : Int) (r : Except Int (List UInt8 × Int)) : bs5 l n d p z r = bs6 l n d p z (stStr r) (stAt r >>= cnt4 l) := by cases r <;> rfl
theorem cnt4_split (l : List UInt8) (st : Except Int Int) : (st >>= cnt4 l) = (match st >>= nmb l with | .error x => .error x | .ok p => if 400 < p.1 then .error 6 else if p.1 < 0 then .error 2 else .ok p) := by
  cases st with
  | error x => rfl
  | ok a =>
    show cnt4 l a = _
    unfold cnt4
    show (nmb l a >>= _) = (match nmb l a with | .error x => .error x | .ok p => if 400 < p.1 then .error 6 else if p.1 < 0 then .error 2 else .ok p)
    rcases nmb l a with x | ⟨n, b⟩ <;> rfl
theorem cnt4_pos {l : List UInt8} {st : Except Int Int} {c b : Int} (h : (st >>= cnt4 l) = .ok (c, b)) : (0 ≤ c ∧ c ≤ 400) ∧ 0 ≤ b ∧ b ≤ l.length := by
  cases st with
  | error x => cases h
  | ok a =>
    obtain ⟨h1, h2⟩ := cnt4_ok.1 (show cnt4 l a = .ok (c, b) from h)
    have := h2.nonneg
    exact ⟨h1, by omega, by omega⟩
theorem rowEn_next {l : List UInt8} {b0 b : Int} {k M : Nat} {X : List En} {r : Except Int (En × Int)} (h : rowR (decR l) b0 k = .ok (X, b)) (hk : k < M) (hr : decR l b = r) : RowSt (decR l) b0 M (k + 1) (X ++ [stEn r]) (stAt r) := by
  rcases r with x | ⟨y, c⟩
  · exact rowR_stop h hr M hk
  · exact rowR_next h hr
theorem bs7_end {l : List UInt8} {n d : Int} {p : List UInt8} {z : Int} {g : List UInt8} {b0 : Int} {M : Nat} {X : List En} {st : Except Int Int} (h : RowSt (decR l) b0 M M X st) : bs7 l n d p z g (rowR (decR l) b0 M) = bs8 l n d p z g X (st >>= txt l) := by
  cases st with
  | ok b => rw [show rowR (decR l) b0 M = .ok (X, b) from h]; rfl
  | error x => rw [show rowR (decR l) b0 M = .error x from h]; rfl
theorem rowSn_err {l : List UInt8} {b0 : Int} {M k : Nat} {X : List En} {x : Int} (h : RowSt (decR l) b0 M k X (.error x)) : RowSt (decR l) b0 M M X (.error x) := h
theorem rowSn_bd {l : List UInt8} {b0 b : Int} {M k : Nat} {X : List En} (h : RowSt (decR l) b0 M k X (.ok b)) (h0 : 0 ≤ b0 ∧ b0 ≤ l.length) : 0 ≤ b ∧ b ≤ l.length := by
  have h1 := ((rowR_ok (P := fun e => chkE e = 0) (enc := bodyL) (decR_ok' l) (a := b0) h0 k X b).1 h).2.2
  have := h1.nonneg
  omega
theorem stStr_le (l : List UInt8) (st : Except Int Int) : (stStr (st >>= txt l)).length ≤ l.length := by
  rcases h : (st >>= txt l) with x | ⟨u, b⟩
  · exact Nat.zero_le _
  · cases st with
    | error x => cases h
    | ok a => exact txt_len (show txt l a = .ok (u, b) from h)
def DirQ (r : Except Int De) (w : World) (e : Ending) (w' : World) : Prop := match r with
  | .ok x => ∃ v, e = .returned (.tuple #[.agg #[.int .i64 x.number, .int .i64 x.date, .string (bA' x.prev), v, .string ⟨#[]⟩, .string (bA' x.sl)], .int .i64 x.size, .string (bA' x.sum), .int .i64 0]) ∧ OwnEn w.heap.size w' v x.entries ∧ Below w.heap.size w w'
  | .error x => e = .returned (.tuple #[.agg #[.int .i64 0, .int .i64 0, .string ⟨#[]⟩, .slice none 0 0, .string ⟨#[]⟩, .string ⟨#[]⟩], .int .i64 0, .string ⟨#[]⟩, .int .i64 x]) ∧ Below w.heap.size w w'
theorem Box.set6 {W : World} {E : Nat} {v0 v1 v2 v3 v4 v5 : Value} {T : TypeId} (h : Box W E [v0, v1, v2, v3, v4, v5] T) (u0 u1 u2 u3 u4 u5 : Value) :
    Box ((((((W.setCell ⟨E, 0, none⟩ u0).setCell ⟨E, 1, none⟩ u1).setCell ⟨E, 2, none⟩ u2).setCell ⟨E, 3, none⟩ u3).setCell ⟨E, 4, none⟩ u4).setCell ⟨E, 5, none⟩ u5) E [u0, u1, u2, u3, u4, u5] T := (((((h.set (j := 0) u0).set (j := 1) u1).set (j := 2) u2).set (j := 3) u3).set (j := 4) u4).set (j := 5) u5
theorem below_set6 {W w : World} {E n : Nat} (h : Below n w W) (hn : n ≤ E) (u0 u1 u2 u3 u4 u5 : Value) :
    Below n w ((((((W.setCell ⟨E, 0, none⟩ u0).setCell ⟨E, 1, none⟩ u1).setCell ⟨E, 2, none⟩ u2).setCell ⟨E, 3, none⟩ u3).setCell ⟨E, 4, none⟩ u4).setCell ⟨E, 5, none⟩ u5) := (((((h.setCell (p := ⟨E, 0, none⟩) hn u0).setCell (p := ⟨E, 1, none⟩) hn u1).setCell (p := ⟨E, 2, none⟩) hn u2).setCell (p := ⟨E, 3, none⟩) hn u3).setCell (p := ⟨E, 4, none⟩) hn u4).setCell (p := ⟨E, 5, none⟩) hn u5
theorem OwnEn.set6 {base : Nat} {W : World} {v : Value} {X : List En} (h : OwnEn base W v X) {E : Nat} (hE : E < base) (u0 u1 u2 u3 u4 u5 : Value) :
    OwnEn base ((((((W.setCell ⟨E, 0, none⟩ u0).setCell ⟨E, 1, none⟩ u1).setCell ⟨E, 2, none⟩ u2).setCell ⟨E, 3, none⟩ u3).setCell ⟨E, 4, none⟩ u4).setCell ⟨E, 5, none⟩ u5) v X := (((((h.setLow (j := 0) hE u0).setLow (j := 1) hE u1).setLow (j := 2) hE u2).setLow (j := 3) hE u3).setLow (j := 4) hE u4).setLow (j := 5) hE u5
end Go.Proofs.YtpkapcijgldhhaaGreatDoor

namespace Go.Proofs.YtpkapcijgldhhaaGreatDoor
open Go.RowKit Go.Shelf

theorem resN {W : World} {D : Nat} {v0 v1 v2 v3 v4 v5 : Value} (tmps : Array Value) (n : Int) (t : ByteArray) (x : Int) (b : Box W D [v0, v1, v2, v3, v4, v5] 53) (h2 : tmps[2]?.getD undef = .pointer (some ⟨D, 0, none⟩)) (h3 : tmps[3]?.getD undef = .int .i64 n) (h4 : tmps[4]?.getD undef = .string t) (h5 : tmps[5]?.getD undef = .int .i64 x) :
    (results Tryz.f92 tmps).run Tryz.prog W = .ok (.tuple #[.agg #[v0, v1, v2, v3, v4, v5], .int .i64 n, .string t, .int .i64 x]) W := by
  obtain ⟨c0, c1, c2, c3, c4, c5⟩ := b.cells6
  simp [results, Tryz.results92, go_sem, h2, h3, h4, h5, c0, c1, c2, c3, c4, c5]
theorem resS {W : World} {D : Nat} {v0 v1 v2 v3 v4 v5 : Value} (tmps : Array Value) (n : Int) (t : ByteArray) (x : Int) (b : Box W D [v0, v1, v2, v3, v4, v5] 53) (h2 : tmps[2]?.getD undef = .pointer (some ⟨D, 0, none⟩)) (h3 : tmps[3]?.getD undef = .int .i64 n) (h4 : tmps[4]?.getD undef = .string t) (h5 : tmps[5]?.getD undef = .int .i64 x) :
    (results Tryz.f61 tmps).run Tryz.prog W = .ok (.tuple #[.agg #[v0, v1, v2, v3, v4, v5], .int .i64 n, .string t, .int .i64 x]) W := by
  obtain ⟨c0, c1, c2, c3, c4, c5⟩ := b.cells6
  simp [results, Tryz.results61, go_sem, h2, h3, h4, h5, c0, c1, c2, c3, c4, c5]
set_option maxHeartbeats 1000000 in
theorem none_any (x : Int) (w : World) : Calls Tryz.prog 92 #[.int .i64 x] w fun e w' => e = .returned (.tuple #[.agg #[.int .i64 0, .int .i64 0, .string ⟨#[]⟩, .slice none 0 0, .string ⟨#[]⟩, .string ⟨#[]⟩], .int .i64 0, .string ⟨#[]⟩, .int .i64 x]) ∧ Below w.heap.size w w' := by
  obtain ⟨kb, bD⟩ := box1' w [.int .i64 0, .int .i64 0, .string ⟨#[]⟩, .slice none 0 0, .string ⟨#[]⟩, .string ⟨#[]⟩] 53
  change Box (w.alloc (.cells #[.int .i64 0, .int .i64 0, .string ⟨#[]⟩, .slice none 0 0, .string ⟨#[]⟩, .string ⟨#[]⟩] 53)) _ _ _ at bD
  go_enter Tryz.func92, Tryz.ntmps92
  go_wp2_with fail
  exact bodyPost_ret (v := .tuple #[.agg #[.int .i64 0, .int .i64 0, .string ⟨#[]⟩, .slice none 0 0, .string ⟨#[]⟩, .string ⟨#[]⟩], .int .i64 0, .string ⟨#[]⟩, .int .i64 x]) (resN _ _ _ _ bD rfl rfl rfl rfl) rfl ⟨rfl, kb⟩
set_option maxRecDepth 100000 in
set_option maxHeartbeats 4000000 in
theorem ddecode_walk (s : ByteArray) (w : World) (hs : s.size ≤ 1000000) (he : Env w) (hm : HasMax w) : Calls Tryz.prog 61 #[.string s] w (DirQ (dirR s.data.toList) w) := by
  have HE := Lib.hid (show ∀ W, Below w.heap.size w W → Env W from fun W hW => he.below hW)
  have HM := Lib.hid (show ∀ W, Below w.heap.size w W → HasMax W from fun W hW => hm.below hW)
  clear he hm
  have eg := enters_of Tryz.func92 (by kernel_rfl) rfl
  obtain ⟨Q, hQ⟩ : ∃ Q, dirR s.data.toList = Q := ⟨_, rfl⟩
  rw [hQ]
  have HQ := Lib.hid hQ.symm; clear hQ
  obtain ⟨kb0, bD0⟩ := box1' w zeroS 53
  change Below _ _ (w.alloc (.cells #[.int .i64 0, .int .i64 0, .string ⟨#[]⟩, .slice none 0 0, .string ⟨#[]⟩, .string ⟨#[]⟩] 53)) at kb0
  change Box (w.alloc (.cells #[.int .i64 0, .int .i64 0, .string ⟨#[]⟩, .slice none 0 0, .string ⟨#[]⟩, .string ⟨#[]⟩] 53)) _ _ _ at bD0
  have HL := Lib.hid (fun W => length_any s W (by omega))
  go_enter Tryz.func61, Tryz.ntmps61
  go_upto_region 2 with (fail)
  obtain ⟨W0, hW0⟩ : ∃ W0, w.alloc (.cells #[.int .i64 0, .int .i64 0, .string ⟨#[]⟩, .slice none 0 0, .string ⟨#[]⟩, .string ⟨#[]⟩] 53) = W0 := ⟨_, rfl⟩
  change Code.wp _ _ _ _ (w.alloc (.cells #[.int .i64 0, .int .i64 0, .string ⟨#[]⟩, .slice none 0 0, .string ⟨#[]⟩, .string ⟨#[]⟩] 53))
  rw [hW0] at kb0 bD0 ⊢
  clear hW0
  have HS0 : Hid (Q = lenR s.data.toList >>= fun n => if (s.data.toList.length : Int) < n then .error 4 else if n < s.data.toList.length then .error 3 else bodyR s.data.toList) := HQ
  have hl : s.data.toList.length = s.size := rfl
  go_wp2_with fail
  refine (HL.out W0).mono ?_
  rintro e W1 ⟨rfl, rfl⟩
  clear HL HQ
  have HN : Hid (∀ n, lenR s.data.toList = .ok n → 8 ≤ n) := Lib.hid fun n h => by obtain ⟨_, _, rfl⟩ := lenR_ok.1 h; omega
  have HZ : Hid (∀ x, lenR s.data.toList = .error x → x ≠ 0) := Lib.hid fun x h => by
    unfold lenR at h
    split at h
    · cases h; decide
    split at h
    · cases h
    · cases h; decide
  rcases hr : lenR s.data.toList with x | n
  · have HRx : Hid (Q = .error x) := by rw [Hid, HS0.out, hr]; rfl
    have hx := HZ.out x hr
    have q1 : (x != 0) = true := by rw [bne_iff_ne]; exact hx
    have i1 : stInt (.error x) = 0 := rfl
    have i2 : errOf (.error x) = x := rfl
    rw [i1, i2]
    clear hr hx HS0 HN HZ
    go_wp2_with fail
    refine (none_any x W0).mono ?_
    rintro e Wz ⟨rfl, hbz⟩
    have kbz := step2 kb0 hbz
    have bDz := Box.below bD0 hbz
    unfold zeroS at bDz
    obtain ⟨d0, d1, d2, d3, d4, d5⟩ := bDz.cells6
    obtain ⟨y0, y1, y2, y3, y4, y5⟩ := bDz.froz6
    go_wp2_with fail
    have zz := bDz.set6 (.int .i64 0) (.int .i64 0) (.string ⟨#[]⟩) (.slice none 0 0) (.string ⟨#[]⟩) (.string ⟨#[]⟩)
    have kz := below_set6 kbz (Nat.le_refl _) (.int .i64 0) (.int .i64 0) (.string ⟨#[]⟩) (.slice none 0 0) (.string ⟨#[]⟩) (.string ⟨#[]⟩)
    refine bodyPost_ret (v := .tuple #[.agg #[.int .i64 0, .int .i64 0, .string ⟨#[]⟩, .slice none 0 0, .string ⟨#[]⟩, .string ⟨#[]⟩], .int .i64 0, .string ⟨#[]⟩, .int .i64 x]) (resS _ _ _ _ zz rfl rfl rfl rfl) rfl ?_
    rw [HRx.out]
    exact ⟨rfl, kz⟩
  have hn8 := HN.out n hr
  have HS1 : Hid (Q = if (s.data.toList.length : Int) < n then .error 4 else if n < s.data.toList.length then .error 3 else bodyR s.data.toList) := by rw [Hid, HS0.out, hr]; rfl
  have i1 : stInt (.ok n) = n := rfl
  have i2 : errOf (.ok n) = 0 := rfl
  rw [i1, i2]
  clear hr HS0 HN HZ
  by_cases hlt : (s.size : Int) < n
  · have HRx : Hid (Q = .error 4) := by rw [Hid, HS1.out, hl, if_pos hlt]
    go_wp2_with fail
    refine (none_any 4 W0).mono ?_
    rintro e Wz ⟨rfl, hbz⟩
    have kbz := step2 kb0 hbz
    have bDz := Box.below bD0 hbz
    unfold zeroS at bDz
    obtain ⟨d0, d1, d2, d3, d4, d5⟩ := bDz.cells6
    obtain ⟨y0, y1, y2, y3, y4, y5⟩ := bDz.froz6
    go_wp2_with fail
    have zz := bDz.set6 (.int .i64 0) (.int .i64 0) (.string ⟨#[]⟩) (.slice none 0 0) (.string ⟨#[]⟩) (.string ⟨#[]⟩)
    have kz := below_set6 kbz (Nat.le_refl _) (.int .i64 0) (.int .i64 0) (.string ⟨#[]⟩) (.slice none 0 0) (.string ⟨#[]⟩) (.string ⟨#[]⟩)
    refine bodyPost_ret (v := .tuple #[.agg #[.int .i64 0, .int .i64 0, .string ⟨#[]⟩, .slice none 0 0, .string ⟨#[]⟩, .string ⟨#[]⟩], .int .i64 0, .string ⟨#[]⟩, .int .i64 4]) (resS _ _ _ _ zz rfl rfl rfl rfl) rfl ?_
    rw [HRx.out]
    exact ⟨rfl, kz⟩
  by_cases hgt : n < (s.size : Int)
  · have HRx : Hid (Q = .error 3) := by rw [Hid, HS1.out, hl, if_neg hlt, if_pos hgt]
    go_wp2_with fail
    refine (none_any 3 W0).mono ?_
    rintro e Wz ⟨rfl, hbz⟩
    have kbz := step2 kb0 hbz
    have bDz := Box.below bD0 hbz
    unfold zeroS at bDz
    obtain ⟨d0, d1, d2, d3, d4, d5⟩ := bDz.cells6
    obtain ⟨y0, y1, y2, y3, y4, y5⟩ := bDz.froz6
    go_wp2_with fail
    have zz := bDz.set6 (.int .i64 0) (.int .i64 0) (.string ⟨#[]⟩) (.slice none 0 0) (.string ⟨#[]⟩) (.string ⟨#[]⟩)
    have kz := below_set6 kbz (Nat.le_refl _) (.int .i64 0) (.int .i64 0) (.string ⟨#[]⟩) (.slice none 0 0) (.string ⟨#[]⟩) (.string ⟨#[]⟩)
    refine bodyPost_ret (v := .tuple #[.agg #[.int .i64 0, .int .i64 0, .string ⟨#[]⟩, .slice none 0 0, .string ⟨#[]⟩, .string ⟨#[]⟩], .int .i64 0, .string ⟨#[]⟩, .int .i64 3]) (resS _ _ _ _ zz rfl rfl rfl rfl) rfl ?_
    rw [HRx.out]
    exact ⟨rfl, kz⟩
  have HR0 : Hid (Q = bs1 s.data.toList ((.ok 8 : Except Int Int) >>= nmb s.data.toList)) := by rw [Hid, HS1.out, hl, if_neg hlt, if_neg hgt]; exact bodyR_steps _
  obtain rfl : n = (s.size : Int) := by omega
  clear HS1 hlt hgt
  have hDR : w.heap.size < W0.heap.size := bD0.lt
  obtain ⟨kbx, bR, bE⟩ := boxes2' W0 [.string s, .int .i64 8, .int .i64 0] zeroS 157 53
  change Below _ _ ((W0.alloc (.cells #[.string s, .int .i64 8, .int .i64 0] 157)).alloc (.cells #[.int .i64 0, .int .i64 0, .string ⟨#[]⟩, .slice none 0 0, .string ⟨#[]⟩, .string ⟨#[]⟩] 53)) at kbx
  change Box ((W0.alloc (.cells #[.string s, .int .i64 8, .int .i64 0] 157)).alloc (.cells #[.int .i64 0, .int .i64 0, .string ⟨#[]⟩, .slice none 0 0, .string ⟨#[]⟩, .string ⟨#[]⟩] 53)) _ _ _ at bR bE
  go_upto_region 11 with (fail)
  have kb2 := step2 kb0 kbx
  have bD2 := bD0.below kbx
  obtain ⟨W2, hW2⟩ : ∃ W2, (W0.alloc (.cells #[.string s, .int .i64 8, .int .i64 0] 157)).alloc (.cells #[.int .i64 0, .int .i64 0, .string ⟨#[]⟩, .slice none 0 0, .string ⟨#[]⟩, .string ⟨#[]⟩] 53) = W2 := ⟨_, rfl⟩
  change Code.wp _ _ _ _ ((W0.alloc (.cells #[.string s, .int .i64 8, .int .i64 0] 157)).alloc (.cells #[.int .i64 0, .int .i64 0, .string ⟨#[]⟩, .slice none 0 0, .string ⟨#[]⟩, .string ⟨#[]⟩] 53))
  rw [hW2] at kb2 bD2 bR bE ⊢
  clear hW2 kb0 bD0 kbx
  generalize W0.heap.size = R at *
  have hst2 : RS 157 W2 R s (.ok 8) := bR
  have bE2 : Box W2 (R + 1) [.int .i64 0, .int .i64 0, .string ⟨#[]⟩, .slice none 0 0, .string ⟨#[]⟩, .string ⟨#[]⟩] 53 := bE
  clear bR bE
  have KB := Lib.hid (show ∀ W W', Below w.heap.size w W → Keep R W W' → Below w.heap.size w W' from fun W W' h1 h2 => h1.trans (h2.1.mono (Nat.le_of_lt hDR)))
  have KD := Lib.hid (show ∀ W W', Box W w.heap.size zeroS 53 → Keep R W W' → Box W' w.heap.size zeroS 53 from fun W W' h1 h2 => h1.below' h2.1 hDR)
  have HC := Lib.hid (dnum_any s (R) (.ok 8 : Except Int Int) W2 hst2 hs (HE.out _ kb2))
  obtain ⟨r1, hr1⟩ : ∃ r1, ((.ok 8 : Except Int Int) >>= nmb s.data.toList) = r1 := ⟨_, rfl⟩
  rw [hr1] at HC
  have HR1 := Lib.hid (HR0.out.trans (by rw [hr1, bs1_next]))

  clear hr1 HR0 hst2
  go_wp2_with fail
  refine HC.out.mono ?_
  rintro e W3 ⟨rfl, hst3, hk3⟩
  have kb3 := KB.out _ _ kb2 hk3
  have bD3 := KD.out _ _ bD2 hk3
  have bE3 := bE2.keep hk3 (by omega)
  obtain ⟨v1, hv1⟩ : ∃ v1, stNum r1 = v1 := ⟨_, rfl⟩
  rw [hv1]
  have HR1' := Lib.hid (by have h := HR1.out; rw [hv1] at h; exact h)
  have Hv1 := Lib.hid hv1
  clear HC kb2 bD2 bE2 hk3 hv1 HR1
  have HR1 := HR1'
  clear HR1'

  have ec : W3.cell? ⟨R + 1, 0, none⟩ = some (.int .i64 0) := bE3.cell 0
  have ef := bE3.frozen 0
  go_upto_region 12 with (fail)
  have hst4 := hst3.setOther (E := R + 1) (j := 0) (by omega) (.int .i64 v1)
  have bD4 := bD3.setOther (E' := R + 1) (j := 0) (by omega) (.int .i64 v1)
  have bE4 := bE3.set (j := 0) (.int .i64 v1)
  have kb4 := kb3.setCell (p := ⟨R + 1, 0, none⟩) (show w.heap.size ≤ R + 1 by omega) (.int .i64 v1)
  simp only [List.set_cons_zero] at bE4
  obtain ⟨W4, hW4⟩ : ∃ W4, W3.setCell ⟨R + 1, 0, none⟩ (.int .i64 v1) = W4 := ⟨_, rfl⟩
  change Code.wp _ _ _ _ (W3.setCell ⟨R + 1, 0, none⟩ (.int .i64 v1))
  rw [hW4] at hst4 bD4 bE4 kb4 ⊢
  clear hW4 ec ef hst3 bD3 bE3 kb3

  have HC := Lib.hid (dnum_any s (R) (stAt r1) W4 hst4 hs (HE.out _ kb4))
  obtain ⟨r2, hr2⟩ : ∃ r2, ((stAt r1) >>= nmb s.data.toList) = r2 := ⟨_, rfl⟩
  rw [hr2] at HC
  have HR2 := Lib.hid (HR1.out.trans (by rw [hr2, bs2_next]))

  clear hr2 HR1 hst4
  go_wp2_with fail
  refine HC.out.mono ?_
  rintro e W5 ⟨rfl, hst5, hk5⟩
  have kb5 := KB.out _ _ kb4 hk5
  have bD5 := KD.out _ _ bD4 hk5
  have bE5 := bE4.keep hk5 (by omega)
  obtain ⟨v2, hv2⟩ : ∃ v2, stNum r2 = v2 := ⟨_, rfl⟩
  rw [hv2]
  have HR2' := Lib.hid (by have h := HR2.out; rw [hv2] at h; exact h)
  have Hv2 := Lib.hid hv2
  clear HC kb4 bD4 bE4 hk5 hv2 HR2
  have HR2 := HR2'
  clear HR2'

  have ec : W5.cell? ⟨R + 1, 1, none⟩ = some (.int .i64 0) := bE5.cell 1
  have ef := bE5.frozen 1
  go_upto_region 13 with (fail)
  have hst6 := hst5.setOther (E := R + 1) (j := 1) (by omega) (.int .i64 v2)
  have bD6 := bD5.setOther (E' := R + 1) (j := 1) (by omega) (.int .i64 v2)
  have bE6 := bE5.set (j := 1) (.int .i64 v2)
  have kb6 := kb5.setCell (p := ⟨R + 1, 1, none⟩) (show w.heap.size ≤ R + 1 by omega) (.int .i64 v2)
  simp only [List.set_cons_zero, List.set_cons_succ] at bE6
  obtain ⟨W6, hW6⟩ : ∃ W6, W5.setCell ⟨R + 1, 1, none⟩ (.int .i64 v2) = W6 := ⟨_, rfl⟩
  change Code.wp _ _ _ _ (W5.setCell ⟨R + 1, 1, none⟩ (.int .i64 v2))
  rw [hW6] at hst6 bD6 bE6 kb6 ⊢
  clear hW6 ec ef hst5 bD5 bE5 kb5

  have HC := Lib.hid (dtxt_any s (R) (stAt r2) W6 hst6 hs (HE.out _ kb6))
  obtain ⟨r3, hr3⟩ : ∃ r3, ((stAt r2) >>= txt s.data.toList) = r3 := ⟨_, rfl⟩
  rw [hr3] at HC
  have HR3 := Lib.hid (HR2.out.trans (by rw [hr3, bs3_next]))
  have HBS3 := Lib.hid (show (stStr r3).length ≤ s.data.toList.length from by rw [← hr3]; exact stStr_le _ _)
  clear hr3 HR2 hst6
  go_wp2_with fail
  refine HC.out.mono ?_
  rintro e W7 ⟨rfl, hst7, hk7⟩
  have kb7 := KB.out _ _ kb6 hk7
  have bD7 := KD.out _ _ bD6 hk7
  have bE7 := bE6.keep hk7 (by omega)
  obtain ⟨v3, hv3⟩ : ∃ v3, stStr r3 = v3 := ⟨_, rfl⟩
  rw [hv3]
  have HR3' := Lib.hid (by have h := HR3.out; rw [hv3] at h; exact h)
  have Hv3 := Lib.hid hv3
  clear HC kb6 bD6 bE6 hk7 hv3 HR3
  have HR3 := HR3'
  clear HR3'

  have ec : W7.cell? ⟨R + 1, 2, none⟩ = some (.string ⟨#[]⟩) := bE7.cell 2
  have ef := bE7.frozen 2
  go_upto_region 14 with (fail)
  have hst8 := hst7.setOther (E := R + 1) (j := 2) (by omega) (.string (bA' v3))
  have bD8 := bD7.setOther (E' := R + 1) (j := 2) (by omega) (.string (bA' v3))
  have bE8 := bE7.set (j := 2) (.string (bA' v3))
  have kb8 := kb7.setCell (p := ⟨R + 1, 2, none⟩) (show w.heap.size ≤ R + 1 by omega) (.string (bA' v3))
  simp only [List.set_cons_zero, List.set_cons_succ] at bE8
  obtain ⟨W8, hW8⟩ : ∃ W8, W7.setCell ⟨R + 1, 2, none⟩ (.string (bA' v3)) = W8 := ⟨_, rfl⟩
  change Code.wp _ _ _ _ (W7.setCell ⟨R + 1, 2, none⟩ (.string (bA' v3)))
  rw [hW8] at hst8 bD8 bE8 kb8 ⊢
  clear hW8 ec ef hst7 bD7 bE7 kb7

  have HBD3 : Hid ((bA' v3).size ≤ 9223372036854775807) := Lib.hid (by
    show v3.length ≤ 9223372036854775807
    rw [← Hv3.out]
    have h := HBS3.out
    have hl : s.data.toList.length = s.size := rfl
    omega)

  have HC := Lib.hid (dnum_any s (R) (stAt r3) W8 hst8 hs (HE.out _ kb8))
  obtain ⟨r4, hr4⟩ : ∃ r4, ((stAt r3) >>= nmb s.data.toList) = r4 := ⟨_, rfl⟩
  rw [hr4] at HC
  have HR4 := Lib.hid (HR3.out.trans (by rw [hr4, bs4_next]))

  clear hr4 HR3 hst8
  go_wp2_with fail
  refine HC.out.mono ?_
  rintro e W9 ⟨rfl, hst9, hk9⟩
  have kb9 := KB.out _ _ kb8 hk9
  have bD9 := KD.out _ _ bD8 hk9
  have bE9 := bE8.keep hk9 (by omega)
  obtain ⟨v4, hv4⟩ : ∃ v4, stNum r4 = v4 := ⟨_, rfl⟩
  rw [hv4]
  have HR4' := Lib.hid (by have h := HR4.out; rw [hv4] at h; exact h)
  have Hv4 := Lib.hid hv4
  clear HC kb8 bD8 bE8 hk9 hv4 HR4
  have HR4 := HR4'
  clear HR4'

  have HC := Lib.hid (dtxt_any s (R) (stAt r4) W9 hst9 hs (HE.out _ kb9))
  obtain ⟨r5, hr5⟩ : ∃ r5, ((stAt r4) >>= txt s.data.toList) = r5 := ⟨_, rfl⟩
  rw [hr5] at HC
  have HR5 := Lib.hid (HR4.out.trans (by rw [hr5, bs5_next]))
  have HBS5 := Lib.hid (show (stStr r5).length ≤ s.data.toList.length from by rw [← hr5]; exact stStr_le _ _)
  clear hr5 HR4 hst9
  go_wp2_with fail
  refine HC.out.mono ?_
  rintro e W10 ⟨rfl, hst10, hk10⟩
  have kb10 := KB.out _ _ kb9 hk10
  have bD10 := KD.out _ _ bD9 hk10
  have bE10 := bE9.keep hk10 (by omega)
  obtain ⟨v5, hv5⟩ : ∃ v5, stStr r5 = v5 := ⟨_, rfl⟩
  rw [hv5]
  have HR5' := Lib.hid (by have h := HR5.out; rw [hv5] at h; exact h)
  have Hv5 := Lib.hid hv5
  clear HC kb9 bD9 bE9 hk10 hv5 HR5
  have HR5 := HR5'
  clear HR5'

  have HC := Lib.hid (dnum_any s R (stAt r5) W10 hst10 hs (HE.out _ kb10))
  obtain ⟨r7, hr7⟩ : ∃ r7, (stAt r5 >>= cnt4 s.data.toList) = r7 := ⟨_, rfl⟩
  have HR6 : Hid (Q = bs6 s.data.toList v1 v2 v3 v4 v5 r7) := by rw [Hid, HR5.out, hr7]
  have HC4 : Hid (∀ c b, r7 = .ok (c, b) → (0 ≤ c ∧ c ≤ 400) ∧ 0 ≤ b ∧ b ≤ s.data.toList.length) := Lib.hid fun c b h => cnt4_pos (hr7.trans h)
  have HS6 : Hid (r7 = (match stAt r5 >>= nmb s.data.toList with | .error x => .error x | .ok p => if 400 < p.1 then .error 6 else if p.1 < 0 then .error 2 else .ok p)) := by rw [Hid, ← hr7]; exact cnt4_split _ _
  obtain ⟨r6, hr6⟩ : ∃ r6, (stAt r5 >>= nmb s.data.toList) = r6 := ⟨_, rfl⟩
  rw [hr6] at HC HS6
  clear hr6 hr7 HR5 hst10
  go_wp2_with fail
  refine HC.out.mono ?_
  rintro e W11 ⟨rfl, hst11, hk11⟩
  have kb11 := KB.out _ _ kb10 hk11
  have bD11 := KD.out _ _ bD10 hk11
  have bE11 := bE10.keep hk11 (by omega)
  obtain ⟨v6, hv6⟩ : ∃ v6, stNum r6 = v6 := ⟨_, rfl⟩
  rw [hv6]
  have HV6 : Hid (∀ c b, r7 = .ok (c, b) → v6 = c) := Lib.hid fun c b h => by
    have h1 := HS6.out
    rw [h] at h1
    rcases r6 with x | p
    · cases h1
    · dsimp only at h1
      split at h1
      · cases h1
      split at h1
      · cases h1
      · cases h1; exact hv6.symm
  clear HC kb10 bD10 bE10 hk11
  obtain ⟨c2, f2⟩ := hst11.err

  go_upto_block 1 with (fail)
  go_cut [] from 70 (fun wc => RS 157 wc R s (stAt r7) ∧ Box wc w.heap.size zeroS 53 ∧ Box wc (R + 1) [.int .i64 v1, .int .i64 v2, .string (bA' v3), .slice none 0 0, .string ⟨#[]⟩, .string ⟨#[]⟩] 53 ∧ Below w.heap.size w wc)
  case first =>
    rcases r6 with x | ⟨c, b⟩
    · obtain rfl : r7 = .error x := HS6.out
      have hx : x ≠ 0 := hst11.1
      change W11.cell? _ = some (.int .i64 x) at c2
      have q1 : (x != 0) = true := by rw [bne_iff_ne]; exact hx
      clear hx
      go_wp2_with fail
      go_meet
      exact ⟨hst11, bD11, bE11, kb11⟩
    have hcv : c = v6 := hv6
    subst hcv
    change W11.cell? _ = some (.int .i64 0) at c2
    have bR : Box W11 R [.string s, .int .i64 b, .int .i64 0] 157 := hst11
    have HS7 : Hid (r7 = if 400 < c then .error 6 else if c < 0 then .error 2 else .ok (c, b)) := HS6.out
    by_cases h4 : 400 < c
    · obtain rfl : r7 = .error 6 := HS7.out.trans (if_pos h4)
      go_wp2_with fail
      go_meet
      exact ⟨⟨by decide, b, bR.set (j := 2) (.int .i64 6)⟩, bD11.setOther (by omega) _, bE11.setOther (by omega) _, kb11.setCell (p := ⟨R, 2, none⟩) (Nat.le_of_lt hDR) _⟩
    by_cases h0 : c < 0
    · obtain rfl : r7 = .error 2 := HS7.out.trans ((if_neg h4).trans (if_pos h0))
      go_wp2_with fail
      go_meet
      exact ⟨⟨by decide, b, bR.set (j := 2) (.int .i64 2)⟩, bD11.setOther (by omega) _, bE11.setOther (by omega) _, kb11.setCell (p := ⟨R, 2, none⟩) (Nat.le_of_lt hDR) _⟩
    · obtain rfl : r7 = .ok (c, b) := HS7.out.trans ((if_neg h4).trans (if_neg h0))
      go_wp2_with fail
      go_meet
      exact ⟨hst11, bD11, bE11, kb11⟩
  case rest =>
  obtain ⟨hstA, bDA, bEA, kbA⟩ := hcut
  clear hst11 bD11 bE11 kb11 c2 f2 HS6 hv6
  obtain ⟨WA, rfl⟩ : ∃ WA, WA = wc := ⟨_, rfl⟩

  have hEA : R + 1 < WA.heap.size := bEA.lt
  go_upto_block 2 with (fail)
  go_cut [14] from 88 (fun _ wc => ∃ X v st, RS 157 wc R s st ∧ Box wc w.heap.size zeroS 53 ∧ Box wc (R + 1) [.int .i64 v1, .int .i64 v2, .string (bA' v3), v, .string ⟨#[]⟩, .string ⟨#[]⟩] 53 ∧ Below w.heap.size w wc ∧ OwnEn (R + 2) wc v X ∧ Hid (Q = bs8 s.data.toList v1 v2 v3 v4 v5 X (st >>= txt s.data.toList)))
  case first =>
    obtain ⟨i0, hi, hz0, hz1, hz2⟩ := info_parts infoEn
    rcases r7 with x | ⟨c, b4⟩
    · have c2 : WA.cell? ⟨R, 2, none⟩ = some (.int .i64 x) := hstA.err.1
      have hx : x ≠ 0 := hstA.1
      have q1 : (x == 0) = false := by rw [beq_eq_false_iff_ne]; exact hx
      have HR8 : Hid (Q = bs8 s.data.toList v1 v2 v3 v4 v5 [] ((.error x : Except Int Int) >>= txt s.data.toList)) := HR6
      clear hx
      by_cases hc0 : 0 < v6
      · go_wp2_with fail
        refine wp_loop_rounds 1 ?_; rw [rounds_succ]
        go_wp2_with fail
        go_meet
        exact ⟨[], _, .error x, hstA, bDA, bEA, kbA, OwnEn.nil _ _, HR8⟩
      · go_wp2_with fail
        refine wp_loop_rounds 1 ?_; rw [rounds_succ]
        go_wp2_with fail
        go_meet
        exact ⟨[], _, .error x, hstA, bDA, bEA, kbA, OwnEn.nil _ _, HR8⟩
    obtain ⟨⟨hc0, hc4⟩, hb4⟩ := HC4.out c b4 rfl
    obtain rfl : v6 = c := HV6.out c b4 rfl
    obtain ⟨M, rfl⟩ := Int.eq_ofNat_of_zero_le hc0
    have HR7 : Hid (Q = bs7 s.data.toList v1 v2 v3 v4 v5 (rowR (decR s.data.toList) b4 M)) := by rw [Hid, HR6.out]; show bs7 _ _ _ _ _ _ (rowR (decR s.data.toList) b4 ((M : Int)).toNat) = _; rw [Int.toNat_natCast]
    have HB4 := Lib.hid hb4
    have hM : M ≤ 400 := by omega
    obtain ⟨N, hN⟩ : ∃ N, WA.heap.size = N := ⟨_, rfl⟩
    have hNE : R + 2 ≤ N := by omega
    have hNs : N ≤ WA.heap.size := by omega
    clear HR6 HC4 HV6 hb4 hc4 hc0 hN
    go_wp2_with fail
    go_loopw [14] (fun i wr => ∃ (k : Nat) (X : List En) (st : Except Int Int) (v : Value), k ≤ M ∧ i = .int .i64 k ∧ X.length = k ∧ Hid (RowSt (decR s.data.toList) b4 M k X st) ∧ RS 157 wr R s st ∧ Box wr w.heap.size zeroS 53 ∧
      Box wr (R + 1) [.int .i64 v1, .int .i64 v2, .string (bA' v3), v, .string ⟨#[]⟩, .string ⟨#[]⟩] 53 ∧ Below w.heap.size w wr ∧ N ≤ wr.heap.size ∧ OwnEn N wr v X) (fun i _ => M - (intOf i).toNat)
    case atStart => exact ⟨0, [], .ok b4, _, by omega, rfl, rfl, rfl, hstA, bDA, bEA, kbA, hNs, OwnEn.nil _ _⟩
    case round =>
      obtain ⟨k, X, st, v, hk, rfl, rfl, hrow, hstB, bDB, bEB, kbB, hNB, ownB⟩ := hrel
      clear hstA bDA bEA kbA hNs
      obtain ⟨xa, xc, rfl⟩ := ownB.form
      by_cases hlt : X.length < M
      case neg =>
        obtain rfl : M = X.length := by omega
        have HR8 := Lib.hid (HR7.out.trans (bs7_end hrow.out))
        go_wp2_with fail
        go_meet
        exact ⟨X, _, st, hstB, bDB, bEB, kbB, ownB.mono hNE, HR8⟩
      cases st with
      | error x =>
        have c2 : wr.cell? ⟨R, 2, none⟩ = some (.int .i64 x) := hstB.err.1
        have hx : x ≠ 0 := hstB.1
        have q1 : (x == 0) = false := by rw [beq_eq_false_iff_ne]; exact hx
        have HR8 := Lib.hid (HR7.out.trans (bs7_end (rowSn_err hrow.out)))
        clear hx
        go_wp2_with fail
        go_meet
        exact ⟨X, _, .error x, hstB, bDB, bEB, kbB, ownB.mono hNE, HR8⟩
      | ok b =>
        have c2 : wr.cell? ⟨R, 2, none⟩ = some (.int .i64 0) := hstB.err.1
        have hbb := rowSn_bd hrow.out HB4.out
        have HT := Lib.hid (fun r h => rowEn_next (r := r) hrow.out hlt h)
        have hd : Below wr.heap.size wr wr.drew := below_drew0 (below_refl wr)
        have HC := Lib.hid (dent_any s R (.ok b) wr.drew (hstB.keepE hd hstB.lt) hs (HE.out _ (step2 kbB hd)) (HM.out _ (step2 kbB hd)) (fun a ha => by cases ha; omega))
        change Hid (Calls _ _ _ _ (EntS _ (decR s.data.toList b) _ _ _)) at HC
        obtain ⟨r, hr⟩ : ∃ r, decR s.data.toList b = r := ⟨_, rfl⟩
        rw [hr] at HC
        have HNX := Lib.hid (HT.out r hr)
        clear hr HT hbb hrow
        have HC2 : Hid (Calls Tryz.prog 97 #[.pointer (some ⟨R, 0, none⟩), .func (.func 98) #[] #[]] wr.drew fun e w' => ∃ a1 m1 a2 m2, e = .returned (.agg #[.int .i64 (stEn r).kind, .string (stEn r).path, .slice a1 (stEn r).attrs.length m1, .string (stEn r).target, .int .i64 (stEn r).size, .string (stEn r).digest, .slice a2 (stEn r).exts.length m2]) ∧ OwnA wr.drew.heap.size w' ⟨stEn r, .slice a1 (stEn r).attrs.length m1, .slice a2 (stEn r).exts.length m2⟩ ∧ RS 157 w' R s (stAt r) ∧ Keep R wr.drew w') := Lib.hid (HC.out.mono fun e w' ⟨va, vx, h1, h2, h3, h4⟩ => by
          obtain ⟨a1, m1, e1⟩ := (OwnG.row (n := 2) (f := At.vals) (d := at0) (fun _ => rfl) h2.1).form
          obtain ⟨a2, m2, e2⟩ := (OwnG.row (n := 3) (f := Ex.vals) (d := ex0) (fun _ => rfl) h2.2).form
          simp only at e1 e2
          subst e1 e2
          exact ⟨a1, m1, a2, m2, h1, h2, h3, h4⟩)
        clear HC
        generalize stEn r = y at *
        generalize stAt r = st2 at *
        obtain ⟨LL, hLL, hG, hAll⟩ := ownB
        have hLn : LL.length = X.length := by rw [← hLL, List.length_map]
        rw [OwnG, hLn] at hG
        have HLL := Lib.hid hLL
        have HAL := Lib.hid hAll
        have hGd : wr.drew.ownsRow N 109 7 (.slice xa X.length xc) X.length (LL.flatMap ER.vals) := owns_drew hG
        have bDd := bDB.below hd
        have bEd := bEB.below hd
        have kbd := step2 kbB hd
        have e3 : wr.cell? ⟨R + 1, 3, none⟩ = some (.slice xa X.length xc) := bEB.cell 3
        have hNd : N ≤ wr.drew.heap.size := hNB
        have HLn := Lib.hid hLn
        clear hLL hAll hG bDB bEB kbB hstB hLn
        go_upto_region 25 with (fail)
        clear c2
        go_region_law (first
          | (go_simp; go_at_call 97; refine HC2.out.mono ?_; rintro e W1 ⟨a1, m1, a2, m2, rfl, hOy, hstC, hkC⟩; have kbC := KB.out _ _ kbd hkC; have bDC := KD.out _ _ bDd hkC; have bEC := bEd.keep hkC (by omega); have hGC := owns_keep hGd hkC (by omega); have hNC : N ≤ W1.heap.size := Nat.le_trans hNd hkC.1.size; have e3b : W1.cell? ⟨R + 1, 3, none⟩ = some (.slice xa X.length xc) := bEC.cell 3; have hEl := bEC.lt)
          | (refine step_append_own2 rfl (.tmp 101) (.tmp 104) 51 rfl N 109 i0 (.agg #[.int .i64 0, .string ⟨#[]⟩, .slice none 0 0, .string ⟨#[]⟩, .int .i64 0, .string ⟨#[]⟩, .slice none 0 0]) 7 112 Tryz.underlying51 hi hz0 hz1 hz2 rfl (by decide) _ _ _ (by simp [Act.eval]) (hGC.alloc _) ⟨W1.heap.size, 0, none⟩ 1 1 [.int .i64 y.kind, .string y.path, .slice a1 y.attrs.length m1, .string y.target, .int .i64 y.size, .string y.digest, .slice a2 y.exts.length m2] (by simp [Act.eval]) rfl (fun j x h => cell_new7 W1 _ _ _ _ _ _ _ _ j x h) (fun u hu => one7 y a1 a2 _ m1 _ m2 u hu) (by unfold maxLen; omega) (by omega) (by simp; omega) ?_; intro a4 c4 W3 own3 hg4 hgr; have bED := (bEC.below ((below_refl W1).alloc (Nat.le_refl _) _)).below' hg4.out (by omega); have e3c : W3.cell? ⟨R + 1, 3, none⟩ = some (.slice xa X.length xc) := bED.cell 3; have f3c := bED.frozen 3))
        all_goals
          have hba : Below W1.heap.size W1 (W1.alloc (.cells #[.int .i64 y.kind, .string y.path, .slice a1 y.attrs.length m1, .string y.target, .int .i64 y.size, .string y.digest, .slice a2 y.exts.length m2] 109)) := (below_refl W1).alloc (Nat.le_refl _) _
          have hstD := (hstC.keepE hba hstC.lt).keepE hg4.out (by omega)
          have kbD := (kbC.alloc kbC.size (.cells #[.int .i64 y.kind, .string y.path, .slice a1 y.attrs.length m1, .string y.target, .int .i64 y.size, .string y.digest, .slice a2 y.exts.length m2] 109)).trans (hg4.out.mono (by omega))
          have bDD := (bDC.below hba).below' hg4.out (by omega)
          have hND : N ≤ W3.heap.size := Nat.le_trans hNC (Nat.le_trans hba.size hg4.out.size)
          have ownD : OwnEn N W3 (.slice a4 (X.length + 1) c4) (X ++ [y]) := by
            refine ⟨LL ++ [⟨y, .slice a1 y.attrs.length m1, .slice a2 y.exts.length m2⟩], by rw [List.map_append, HLL.out]; rfl, ?_, fun x hx => ?_⟩
            · rw [OwnG, List.length_append, HLn.out, List.flatMap_append]; exact own3
            · rcases List.mem_append.1 hx with hx | hx
              · exact (((HAL.out x hx).below (below_drew0 (below_refl wr))).keep hkC (by omega) |>.below hba).grew hgr.out
              · rw [List.mem_singleton] at hx; subst hx
                exact ((hOy.mono hNd).below hba).grew hgr.out
          have hstF := hstD.setOther (E := R + 1) (j := 3) (by omega) (.slice a4 (X.length + 1) c4)
          have kbF := kbD.setCell (p := ⟨R + 1, 3, none⟩) (show w.heap.size ≤ R + 1 by omega) (.slice a4 (X.length + 1) c4)
          have bDF := bDD.setOther (j := 3) (E' := R + 1) (by omega) (.slice a4 (X.length + 1) c4)
          have bEF := bED.set (j := 3) (.slice a4 (X.length + 1) c4)
          have ownF := ownD.setLow (E := R + 1) (j := 3) (by omega) (.slice a4 (X.length + 1) c4)
          have hNF : N ≤ (W3.setCell ⟨R + 1, 3, none⟩ (.slice a4 (X.length + 1) c4)).heap.size := by simpa using hND
          simp only [List.set_cons_zero, List.set_cons_succ] at bEF
          clear hstC kbC bDC bEC hGC hNC e3b hEl own3 hg4 hgr bED e3c f3c hba hstD kbD bDD hND ownD bDd bEd kbd hNd hGd HC2 e3 hOy hkC HLL HAL HLn
          simp only [Exit.inBlock, Exit.then]
          go_wp2_with fail
          go_roundw
          case rel => exact ⟨X.length + 1, X ++ [y], st2, _, by omega, by go_num, by simp, HNX, hstF, bDF, bEF, kbF, hNF, ownF⟩
          case measure => simp [intOf]; omega
  case rest =>
  obtain ⟨X, v, st, hstG, bDG, bEG, kbG, ownG, HR8⟩ := hcut
  clear hstA bDA bEA kbA HR6 HC4 HV6
  obtain ⟨WG, rfl⟩ : ∃ WG, WG = wc := ⟨_, rfl⟩
  obtain ⟨xa, xc, rfl⟩ := ownG.form

  have HC := Lib.hid (dtxt_any s R st WG hstG hs (HE.out _ kbG))
  obtain ⟨r8, h8⟩ : ∃ r8, (st >>= txt s.data.toList) = r8 := ⟨_, rfl⟩
  rw [h8] at HC HR8
  clear h8 hstG
  have hEG : R + 1 < WG.heap.size := bEG.lt
  go_wp2_with fail
  refine HC.out.mono ?_
  rintro e WH ⟨rfl, hstH, hkH⟩
  have kbH := KB.out _ _ kbG hkH
  have bDH := KD.out _ _ bDG hkH
  have bEH := bEG.keep hkH (by omega)
  have ownH := ownG.keep hkH (by omega)
  obtain ⟨u, hu⟩ : ∃ u, stStr r8 = u := ⟨_, rfl⟩
  rw [hu]
  have Hu := Lib.hid hu; clear hu
  have ec : WH.cell? ⟨R + 1, 5, none⟩ = some (.string ⟨#[]⟩) := bEH.cell 5
  have ef := bEH.frozen 5
  clear HC kbG bDG bEG ownG hkH
  go_upto_region 27 with (fail)
  have hstI := hstH.setOther (E := R + 1) (j := 5) (by omega) (.string (bA' u))
  have bDI := bDH.setOther (E' := R + 1) (j := 5) (by omega) (.string (bA' u))
  have bEI := bEH.set (j := 5) (.string (bA' u))
  have kbI := kbH.setCell (p := ⟨R + 1, 5, none⟩) (show w.heap.size ≤ R + 1 by omega) (.string (bA' u))
  have ownI := ownH.setLow (E := R + 1) (j := 5) (by omega) (.string (bA' u))
  simp only [List.set_cons_zero, List.set_cons_succ] at bEI
  obtain ⟨WI, hWI⟩ : ∃ WI, WH.setCell ⟨R + 1, 5, none⟩ (.string (bA' u)) = WI := ⟨_, rfl⟩
  change Code.wp _ _ _ _ (WH.setCell ⟨R + 1, 5, none⟩ (.string (bA' u)))
  rw [hWI] at hstI bDI bEI kbI ownI ⊢
  clear hWI ec ef hstH bDH bEH kbH ownH
  obtain ⟨c2, f2⟩ := hstI.err
  rcases r8 with x | ⟨u', f⟩
  · have HRx : Hid (Q = .error x) := HR8
    have hx : x ≠ 0 := hstI.1
    change WI.cell? _ = some (.int .i64 x) at c2
    have q1 : (x == 0) = false := by rw [beq_eq_false_iff_ne]; exact hx
    have q2 : (x != 0) = true := by rw [bne_iff_ne]; exact hx
    clear hx
    go_upto_region 32 with (fail)
    go_cut [3, 4, 5] from 143 (fun t3 t4 t5 wc => t3 = .int .i64 0 ∧ t4 = .string ⟨#[]⟩ ∧ t5 = .int .i64 x ∧ Box wc w.heap.size [.int .i64 0, .int .i64 0, .string ⟨#[]⟩, .slice none 0 0, .string ⟨#[]⟩, .string ⟨#[]⟩] 53 ∧ Below w.heap.size w wc)
    case first =>
      go_wp2_with fail
      refine (none_any x WI).mono ?_
      rintro e Wz ⟨rfl, hbz⟩
      have kbz := step2 kbI hbz
      have bDz := Box.below bDI hbz
      try unfold zeroS at bDz
      obtain ⟨d0, d1, d2, d3, d4, d5⟩ := bDz.cells6
      obtain ⟨y0, y1, y2, y3, y4, y5⟩ := bDz.froz6
      go_wp2_with fail
      go_meet
      exact ⟨rfl, rfl, rfl, bDz.set6 (.int .i64 0) (.int .i64 0) (.string ⟨#[]⟩) (.slice none 0 0) (.string ⟨#[]⟩) (.string ⟨#[]⟩), below_set6 kbz (Nat.le_refl _) (.int .i64 0) (.int .i64 0) (.string ⟨#[]⟩) (.slice none 0 0) (.string ⟨#[]⟩) (.string ⟨#[]⟩)⟩
    case rest =>
      obtain ⟨rfl, rfl, rfl, zz, kz⟩ := hcut
      refine (‹∀ (a : Act) (w_1 : World), Code.wp Tryz.prog Code.ret _ a w_1 → _› _ _ ?_)
      refine wp_ret ?_
      refine bodyPost_ret (P := Tryz.prog) (v := .tuple #[.agg #[.int .i64 0, .int .i64 0, .string ⟨#[]⟩, .slice none 0 0, .string ⟨#[]⟩, .string ⟨#[]⟩], .int .i64 0, .string ⟨#[]⟩, .int .i64 x]) (resS _ _ _ _ zz rfl rfl rfl rfl) rfl ?_
      rw [HRx.out]
      exact ⟨rfl, kz⟩

  obtain rfl : u' = u := Hu.out
  have HR9 : Hid (Q = finR s.data.toList ⟨v1, v2, v3, v4, v5, X, u'⟩ f) := HR8
  change WI.cell? _ = some (.int .i64 0) at c2
  have c1 : WI.cell? ⟨R, 1, none⟩ = some (.int .i64 f) := Box.cell hstI 1
  have bRI : Box WI R [.string s, .int .i64 f, .int .i64 0] 157 := hstI
  clear HR8 Hu
  by_cases hf : f = (s.size : Int)
  case neg =>
    have HRx : Hid (Q = .error 3) := by rw [Hid, HR9.out, finR, hl, if_neg hf]
    have k1 : (f == (s.size : Int)) = false := by rw [beq_eq_false_iff_ne]; exact hf
    have k2 : (f != (s.size : Int)) = true := by rw [bne_iff_ne]; exact hf
    have Hf := Lib.hid hf; clear hf
    go_upto_region 29 with (fail)
    have kbJ := kbI.setCell (p := ⟨R, 2, none⟩) (Nat.le_of_lt hDR) (.int .i64 3)
    have bDJ := bDI.setOther (E' := R) (j := 2) (by omega) (.int .i64 3)
    have bRJ := bRI.set (j := 2) (.int .i64 3)
    simp only [List.set_cons_zero, List.set_cons_succ] at bRJ
    obtain ⟨WJ, hWJ⟩ : ∃ WJ, WI.setCell ⟨R, 2, none⟩ (.int .i64 3) = WJ := ⟨_, rfl⟩
    change Code.wp _ _ _ _ (WI.setCell ⟨R, 2, none⟩ (.int .i64 3))
    rw [hWJ] at kbJ bDJ bRJ ⊢
    clear hWJ c1 c2 f2
    have c2 : WJ.cell? ⟨R, 2, none⟩ = some (.int .i64 3) := bRJ.cell 2
    go_upto_region 32 with (fail)
    go_cut [3, 4, 5] from 143 (fun t3 t4 t5 wc => t3 = .int .i64 0 ∧ t4 = .string ⟨#[]⟩ ∧ t5 = .int .i64 3 ∧ Box wc w.heap.size [.int .i64 0, .int .i64 0, .string ⟨#[]⟩, .slice none 0 0, .string ⟨#[]⟩, .string ⟨#[]⟩] 53 ∧ Below w.heap.size w wc)
    case first =>
      go_wp2_with fail
      refine (none_any 3 WJ).mono ?_
      rintro e Wz ⟨rfl, hbz⟩
      have kbz := step2 kbJ hbz
      have bDz := Box.below bDJ hbz
      try unfold zeroS at bDz
      obtain ⟨d0, d1, d2, d3, d4, d5⟩ := bDz.cells6
      obtain ⟨y0, y1, y2, y3, y4, y5⟩ := bDz.froz6
      go_wp2_with fail
      go_meet
      exact ⟨rfl, rfl, rfl, bDz.set6 (.int .i64 0) (.int .i64 0) (.string ⟨#[]⟩) (.slice none 0 0) (.string ⟨#[]⟩) (.string ⟨#[]⟩), below_set6 kbz (Nat.le_refl _) (.int .i64 0) (.int .i64 0) (.string ⟨#[]⟩) (.slice none 0 0) (.string ⟨#[]⟩) (.string ⟨#[]⟩)⟩
    case rest =>
      obtain ⟨rfl, rfl, rfl, zz, kz⟩ := hcut
      refine (‹∀ (a : Act) (w_1 : World), Code.wp Tryz.prog Code.ret _ a w_1 → _› _ _ ?_)
      refine wp_ret ?_
      refine bodyPost_ret (P := Tryz.prog) (v := .tuple #[.agg #[.int .i64 0, .int .i64 0, .string ⟨#[]⟩, .slice none 0 0, .string ⟨#[]⟩, .string ⟨#[]⟩], .int .i64 0, .string ⟨#[]⟩, .int .i64 3]) (resS _ _ _ _ zz rfl rfl rfl rfl) rfl ?_
      rw [HRx.out]
      exact ⟨rfl, kz⟩

  have HR10 : Hid (Q = if aftE ⟨v1, v2, v3, v4, v5, X, u'⟩ = 0 then .ok ⟨v1, v2, v3, v4, v5, X, u'⟩ else .error (aftE ⟨v1, v2, v3, v4, v5, X, u'⟩)) := by rw [Hid, HR9.out, finR, hl, if_pos hf]
  have k1 : (f == (s.size : Int)) = true := by rw [beq_iff_eq]; exact hf
  have k2 : (f != (s.size : Int)) = false := by rw [bne_eq_false_iff_eq]; exact hf
  have Hf := Lib.hid hf
  have HCA := Lib.hid (aft_cases v1 v2 v3 v4 v5 X u')
  have Hb3 : (bA' v3).size = v3.length := rfl
  have Hb5 : (bA' v5).size = v5.length := rfl
  have Hbu : (bA' u').size = u'.length := rfl
  have HBa : Hid ((bA' v3).size ≤ 9223372036854775807) := HBD3
  have HF := Lib.hid (fields_any v1 v2 (bA' v3) xa X.length xc ⟨#[]⟩ (bA' u') WI HBa.out)
  obtain ⟨fe, hfe⟩ : ∃ fe, fieldsE v1 v2 v3.length = fe := ⟨_, rfl⟩
  rw [Hb3, hfe] at HF
  rw [hfe] at HCA
  obtain ⟨ae, hae⟩ : ∃ ae, aftE ⟨v1, v2, v3, v4, v5, X, u'⟩ = ae := ⟨_, rfl⟩
  rw [hae] at HCA HR10
  clear hfe hae HR9 hf HBa Hb3
  obtain ⟨e0, e1, e2, e3, e4, e5⟩ := bEI.cells6
  go_wp2_with fail
  refine HF.out.mono ?_
  rintro e WJ ⟨rfl, hbJ⟩
  have kbJ := step2 kbI hbJ
  have bDJ := bDI.below hbJ
  have bEJ := bEI.below hbJ
  have bRJ := bRI.below hbJ
  have ownJ := ownI.below hbJ
  clear kbI bDI bEI bRI ownI hbJ hstI c1 c2 f2 e0 e1 e2 e3 e4 e5 HF
  have c2 : WJ.cell? ⟨R, 2, none⟩ = some (.int .i64 0) := bRJ.cell 2
  have f2 := bRJ.frozen 2
  go_upto_block 4 with (fail)
  have kbK := kbJ.setCell (p := ⟨R, 2, none⟩) (Nat.le_of_lt hDR) (.int .i64 fe)
  have bDK := bDJ.setOther (E' := R) (j := 2) (by omega) (.int .i64 fe)
  have bEK := bEJ.setOther (E' := R) (j := 2) (by omega) (.int .i64 fe)
  have bRK := bRJ.set (j := 2) (.int .i64 fe)
  have ownK := ownJ.setLow (E := R) (j := 2) (by omega) (.int .i64 fe)
  simp only [List.set_cons_zero, List.set_cons_succ] at bRK
  obtain ⟨WK, hWK⟩ : ∃ WK, WJ.setCell ⟨R, 2, none⟩ (.int .i64 fe) = WK := ⟨_, rfl⟩
  change Code.wp _ _ _ _ (WJ.setCell ⟨R, 2, none⟩ (.int .i64 fe))
  rw [hWK] at kbK bDK bEK bRK ownK ⊢
  clear hWK c2 f2 kbJ bDJ bEJ bRJ ownJ
  have c2 : WK.cell? ⟨R, 2, none⟩ = some (.int .i64 fe) := bRK.cell 2
  obtain ⟨e0, e1, e2, e3, e4, e5⟩ := bEK.cells6
  rcases HCA.out with ⟨hfe, rfl⟩ | ⟨rfl, hcs⟩
  · have HRx : Hid (Q = .error ae) := by rw [Hid, HR10.out, if_neg hfe]
    have q2 : (ae != 0) = true := by rw [bne_iff_ne]; exact hfe
    clear hfe HCA HR10
    go_upto_region 32 with (fail)
    go_cut [3, 4, 5] from 143 (fun t3 t4 t5 wc => t3 = .int .i64 0 ∧ t4 = .string ⟨#[]⟩ ∧ t5 = .int .i64 ae ∧ Box wc w.heap.size [.int .i64 0, .int .i64 0, .string ⟨#[]⟩, .slice none 0 0, .string ⟨#[]⟩, .string ⟨#[]⟩] 53 ∧ Below w.heap.size w wc)
    case first =>
      go_wp2_with fail
      refine (none_any ae WK).mono ?_
      rintro e Wz ⟨rfl, hbz⟩
      have kbz := step2 kbK hbz
      have bDz := Box.below bDK hbz
      try unfold zeroS at bDz
      obtain ⟨d0, d1, d2, d3, d4, d5⟩ := bDz.cells6
      obtain ⟨y0, y1, y2, y3, y4, y5⟩ := bDz.froz6
      go_wp2_with fail
      go_meet
      exact ⟨rfl, rfl, rfl, bDz.set6 (.int .i64 0) (.int .i64 0) (.string ⟨#[]⟩) (.slice none 0 0) (.string ⟨#[]⟩) (.string ⟨#[]⟩), below_set6 kbz (Nat.le_refl _) (.int .i64 0) (.int .i64 0) (.string ⟨#[]⟩) (.slice none 0 0) (.string ⟨#[]⟩) (.string ⟨#[]⟩)⟩
    case rest =>
      obtain ⟨rfl, rfl, rfl, zz, kz⟩ := hcut
      refine (‹∀ (a : Act) (w_1 : World), Code.wp Tryz.prog Code.ret _ a w_1 → _› _ _ ?_)
      refine wp_ret ?_
      refine bodyPost_ret (P := Tryz.prog) (v := .tuple #[.agg #[.int .i64 0, .int .i64 0, .string ⟨#[]⟩, .slice none 0 0, .string ⟨#[]⟩, .string ⟨#[]⟩], .int .i64 0, .string ⟨#[]⟩, .int .i64 ae]) (resS _ _ _ _ zz rfl rfl rfl rfl) rfl ?_
      rw [HRx.out]
      exact ⟨rfl, kz⟩

  have HCS := Lib.hid hcs
  clear hcs HCA
  rcases HCS.out with ⟨rfl, g1⟩ | ⟨rfl, g1, g2⟩ | ⟨g1, g2, h3⟩
  · have HRx : Hid (Q = .error 2) := HR10
    clear HCS HR10
    go_upto_region 34 with (fail)
    go_cut [3, 4, 5] from 160 (fun t3 t4 t5 wc => t3 = .int .i64 0 ∧ t4 = .string ⟨#[]⟩ ∧ t5 = .int .i64 2 ∧ Box wc w.heap.size [.int .i64 0, .int .i64 0, .string ⟨#[]⟩, .slice none 0 0, .string ⟨#[]⟩, .string ⟨#[]⟩] 53 ∧ Below w.heap.size w wc)
    case first =>
      go_wp2_with fail
      refine (none_any 2 WK).mono ?_
      rintro e Wz ⟨rfl, hbz⟩
      have kbz := step2 kbK hbz
      have bDz := Box.below bDK hbz
      try unfold zeroS at bDz
      obtain ⟨d0, d1, d2, d3, d4, d5⟩ := bDz.cells6
      obtain ⟨y0, y1, y2, y3, y4, y5⟩ := bDz.froz6
      go_wp2_with fail
      go_meet
      exact ⟨rfl, rfl, rfl, bDz.set6 (.int .i64 0) (.int .i64 0) (.string ⟨#[]⟩) (.slice none 0 0) (.string ⟨#[]⟩) (.string ⟨#[]⟩), below_set6 kbz (Nat.le_refl _) (.int .i64 0) (.int .i64 0) (.string ⟨#[]⟩) (.slice none 0 0) (.string ⟨#[]⟩) (.string ⟨#[]⟩)⟩
    case rest =>
      obtain ⟨rfl, rfl, rfl, zz, kz⟩ := hcut
      refine (‹∀ (a : Act) (w_1 : World), Code.wp Tryz.prog Code.ret _ a w_1 → _› _ _ ?_)
      refine wp_ret ?_
      refine bodyPost_ret (P := Tryz.prog) (v := .tuple #[.agg #[.int .i64 0, .int .i64 0, .string ⟨#[]⟩, .slice none 0 0, .string ⟨#[]⟩, .string ⟨#[]⟩], .int .i64 0, .string ⟨#[]⟩, .int .i64 2]) (resS _ _ _ _ zz rfl rfl rfl rfl) rfl ?_
      rw [HRx.out]
      exact ⟨rfl, kz⟩

  · have HRx : Hid (Q = .error 2) := HR10
    clear HCS HR10
    go_upto_region 34 with (fail)
    go_cut [3, 4, 5] from 160 (fun t3 t4 t5 wc => t3 = .int .i64 0 ∧ t4 = .string ⟨#[]⟩ ∧ t5 = .int .i64 2 ∧ Box wc w.heap.size [.int .i64 0, .int .i64 0, .string ⟨#[]⟩, .slice none 0 0, .string ⟨#[]⟩, .string ⟨#[]⟩] 53 ∧ Below w.heap.size w wc)
    case first =>
      go_wp2_with fail
      refine (none_any 2 WK).mono ?_
      rintro e Wz ⟨rfl, hbz⟩
      have kbz := step2 kbK hbz
      have bDz := Box.below bDK hbz
      try unfold zeroS at bDz
      obtain ⟨d0, d1, d2, d3, d4, d5⟩ := bDz.cells6
      obtain ⟨y0, y1, y2, y3, y4, y5⟩ := bDz.froz6
      go_wp2_with fail
      go_meet
      exact ⟨rfl, rfl, rfl, bDz.set6 (.int .i64 0) (.int .i64 0) (.string ⟨#[]⟩) (.slice none 0 0) (.string ⟨#[]⟩) (.string ⟨#[]⟩), below_set6 kbz (Nat.le_refl _) (.int .i64 0) (.int .i64 0) (.string ⟨#[]⟩) (.slice none 0 0) (.string ⟨#[]⟩) (.string ⟨#[]⟩)⟩
    case rest =>
      obtain ⟨rfl, rfl, rfl, zz, kz⟩ := hcut
      refine (‹∀ (a : Act) (w_1 : World), Code.wp Tryz.prog Code.ret _ a w_1 → _› _ _ ?_)
      refine wp_ret ?_
      refine bodyPost_ret (P := Tryz.prog) (v := .tuple #[.agg #[.int .i64 0, .int .i64 0, .string ⟨#[]⟩, .slice none 0 0, .string ⟨#[]⟩, .string ⟨#[]⟩], .int .i64 0, .string ⟨#[]⟩, .int .i64 2]) (resS _ _ _ _ zz rfl rfl rfl rfl) rfl ?_
      rw [HRx.out]
      exact ⟨rfl, kz⟩

  have H3 := Lib.hid h3
  clear h3 HCS
  rcases H3.out with ⟨rfl, g3⟩ | ⟨g3, h4⟩
  · have HRx : Hid (Q = .error 1) := HR10
    have p1 : (((bA' v5).size : Int) == 32) = false := by rw [beq_eq_false_iff_ne]; omega
    have p2 : (((bA' v5).size : Int) != 32) = true := by rw [bne_iff_ne]; omega
    clear H3 HR10 g3 Hb5 Hbu
    go_upto_region 36 with (fail)
    go_cut [3, 4, 5] from 170 (fun t3 t4 t5 wc => t3 = .int .i64 0 ∧ t4 = .string ⟨#[]⟩ ∧ t5 = .int .i64 1 ∧ Box wc w.heap.size [.int .i64 0, .int .i64 0, .string ⟨#[]⟩, .slice none 0 0, .string ⟨#[]⟩, .string ⟨#[]⟩] 53 ∧ Below w.heap.size w wc)
    case first =>
      go_wp2_with fail
      refine (none_any 1 WK).mono ?_
      rintro e Wz ⟨rfl, hbz⟩
      have kbz := step2 kbK hbz
      have bDz := Box.below bDK hbz
      try unfold zeroS at bDz
      obtain ⟨d0, d1, d2, d3, d4, d5⟩ := bDz.cells6
      obtain ⟨y0, y1, y2, y3, y4, y5⟩ := bDz.froz6
      go_wp2_with fail
      go_meet
      exact ⟨rfl, rfl, rfl, bDz.set6 (.int .i64 0) (.int .i64 0) (.string ⟨#[]⟩) (.slice none 0 0) (.string ⟨#[]⟩) (.string ⟨#[]⟩), below_set6 kbz (Nat.le_refl _) (.int .i64 0) (.int .i64 0) (.string ⟨#[]⟩) (.slice none 0 0) (.string ⟨#[]⟩) (.string ⟨#[]⟩)⟩
    case rest =>
      obtain ⟨rfl, rfl, rfl, zz, kz⟩ := hcut
      refine (‹∀ (a : Act) (w_1 : World), Code.wp Tryz.prog Code.ret _ a w_1 → _› _ _ ?_)
      refine wp_ret ?_
      refine bodyPost_ret (P := Tryz.prog) (v := .tuple #[.agg #[.int .i64 0, .int .i64 0, .string ⟨#[]⟩, .slice none 0 0, .string ⟨#[]⟩, .string ⟨#[]⟩], .int .i64 0, .string ⟨#[]⟩, .int .i64 1]) (resS _ _ _ _ zz rfl rfl rfl rfl) rfl ?_
      rw [HRx.out]
      exact ⟨rfl, kz⟩

  have H4 := Lib.hid h4
  clear h4 H3
  have p1 : (((bA' v5).size : Int) == 32) = true := by rw [beq_iff_eq]; omega
  have p2 : (((bA' v5).size : Int) != 32) = false := by rw [bne_eq_false_iff_eq]; omega
  clear Hb5 g3
  rcases H4.out with ⟨rfl, g4⟩ | ⟨rfl, g4⟩
  · have HRx : Hid (Q = .error 6) := HR10
    have p3 : (2000 : Int) < ((bA' u').size : Int) := by omega
    clear H4 HR10 g4 Hbu
    go_upto_region 38 with (fail)
    go_cut [3, 4, 5] from 181 (fun t3 t4 t5 wc => t3 = .int .i64 0 ∧ t4 = .string ⟨#[]⟩ ∧ t5 = .int .i64 6 ∧ Box wc w.heap.size [.int .i64 0, .int .i64 0, .string ⟨#[]⟩, .slice none 0 0, .string ⟨#[]⟩, .string ⟨#[]⟩] 53 ∧ Below w.heap.size w wc)
    case first =>
      go_wp2_with fail
      refine (none_any 6 WK).mono ?_
      rintro e Wz ⟨rfl, hbz⟩
      have kbz := step2 kbK hbz
      have bDz := Box.below bDK hbz
      try unfold zeroS at bDz
      obtain ⟨d0, d1, d2, d3, d4, d5⟩ := bDz.cells6
      obtain ⟨y0, y1, y2, y3, y4, y5⟩ := bDz.froz6
      go_wp2_with fail
      go_meet
      exact ⟨rfl, rfl, rfl, bDz.set6 (.int .i64 0) (.int .i64 0) (.string ⟨#[]⟩) (.slice none 0 0) (.string ⟨#[]⟩) (.string ⟨#[]⟩), below_set6 kbz (Nat.le_refl _) (.int .i64 0) (.int .i64 0) (.string ⟨#[]⟩) (.slice none 0 0) (.string ⟨#[]⟩) (.string ⟨#[]⟩)⟩
    case rest =>
      obtain ⟨rfl, rfl, rfl, zz, kz⟩ := hcut
      refine (‹∀ (a : Act) (w_1 : World), Code.wp Tryz.prog Code.ret _ a w_1 → _› _ _ ?_)
      refine wp_ret ?_
      refine bodyPost_ret (P := Tryz.prog) (v := .tuple #[.agg #[.int .i64 0, .int .i64 0, .string ⟨#[]⟩, .slice none 0 0, .string ⟨#[]⟩, .string ⟨#[]⟩], .int .i64 0, .string ⟨#[]⟩, .int .i64 6]) (resS _ _ _ _ zz rfl rfl rfl rfl) rfl ?_
      rw [HRx.out]
      exact ⟨rfl, kz⟩

  have HRk : Hid (Q = .ok ⟨v1, v2, v3, v4, v5, X, u'⟩) := HR10
  have p3 : ¬ (2000 : Int) < ((bA' u').size : Int) := by omega
  clear H4 HR10 g4 Hbu
  unfold zeroS at bDK
  obtain ⟨d0, d1, d2, d3, d4, d5⟩ := bDK.cells6
  obtain ⟨y0, y1, y2, y3, y4, y5⟩ := bDK.froz6
  go_upto_region 39 with (fail)
  go_cut [3, 4, 5] from 187 (fun t3 t4 t5 wc => t3 = .int .i64 v4 ∧ t4 = .string (bA' v5) ∧ t5 = .int .i64 0 ∧ wc = ((((((WK.setCell ⟨w.heap.size, 0, none⟩ (.int .i64 v1)).setCell ⟨w.heap.size, 1, none⟩ (.int .i64 v2)).setCell ⟨w.heap.size, 2, none⟩ (.string (bA' v3))).setCell ⟨w.heap.size, 3, none⟩ (.slice xa X.length xc)).setCell ⟨w.heap.size, 4, none⟩ (.string ⟨#[]⟩)).setCell ⟨w.heap.size, 5, none⟩ (.string (bA' u'))))
  case first =>
    go_wp2_with fail
    go_meet
    exact ⟨rfl, rfl, rfl, rfl⟩
  case rest =>
  obtain ⟨rfl, rfl, rfl, rfl⟩ := hcut
  have zz := bDK.set6 (.int .i64 v1) (.int .i64 v2) (.string (bA' v3)) (.slice xa X.length xc) (.string ⟨#[]⟩) (.string (bA' u'))
  have kz := below_set6 kbK (Nat.le_refl _) (.int .i64 v1) (.int .i64 v2) (.string (bA' v3)) (.slice xa X.length xc) (.string ⟨#[]⟩) (.string (bA' u'))
  have oz := ownK.set6 (E := w.heap.size) (by omega) (.int .i64 v1) (.int .i64 v2) (.string (bA' v3)) (.slice xa X.length xc) (.string ⟨#[]⟩) (.string (bA' u'))
  refine (‹∀ (a : Act) (w_1 : World), Code.wp Tryz.prog Code.ret _ a w_1 → _› _ _ ?_)
  refine wp_ret ?_
  refine bodyPost_ret (P := Tryz.prog) (v := .tuple #[.agg #[.int .i64 v1, .int .i64 v2, .string (bA' v3), .slice xa X.length xc, .string ⟨#[]⟩, .string (bA' u')], .int .i64 v4, .string (bA' v5), .int .i64 0]) (resS _ _ _ _ zz rfl rfl rfl rfl) rfl ?_
  rw [HRk.out]
  exact ⟨_, rfl, oz.mono (by omega), kz⟩
end Go.Proofs.YtpkapcijgldhhaaGreatDoor
