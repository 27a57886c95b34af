/-
  The walk of the reference's Equal.
-/
import Derived.Test.YtjlfjchcmkkebaaGreatDoorEnEq
namespace Go.Proofs.YtjlfjchcmkkebaaGreatDoor
open Go.RowKit Go.Shelf

theorem two_cells {w w3 : World} {cs ds : Array Value} {T : TypeId} (hb3 : Below ((w.alloc (.cells cs T)).alloc (.cells ds T)).heap.size ((w.alloc (.cells cs T)).alloc (.cells ds T)) w3) :
    (∀ j, w3.cell? ⟨w.heap.size, j, none⟩ = cs[j]?) ∧ (∀ j, w3.cell? ⟨w.heap.size + 1, j, none⟩ = ds[j]?) := by
  refine ⟨fun j => ?_, fun j => ?_⟩
  · rw [hb3.cell (p := ⟨w.heap.size, j, none⟩) (by simp; omega), ((below_refl (w.alloc (.cells cs T))).alloc (Nat.le_refl _) _).cell (p := ⟨w.heap.size, j, none⟩) (by simp)]
    exact alloc_new_cell _ _ _ j
  · rw [hb3.cell (p := ⟨w.heap.size + 1, j, none⟩) (by simp), ← size_one w (.cells cs T)]
    exact alloc_new_cell _ _ _ j
set_option maxRecDepth 100000 in
set_option maxHeartbeats 4000000 in
theorem refEqual_any (x y : En) (va vx ua ux : Value) (w : World) (ha : AtRow w va x.attrs) (hx : ExRow w vx x.exts) (ha2 : AtRow w ua y.attrs) (hx2 : ExRow w ux y.exts) :
    Calls Tryz.prog 38 #[.agg #[.int .i64 x.kind, .string x.path, va, .string x.target, .int .i64 x.size, .string x.digest, vx], .agg #[.int .i64 y.kind, .string y.path, ua, .string y.target, .int .i64 y.size, .string y.digest, ux]] w (BoolP (isB (x = y)) w) := by
  have HA := Lib.hid (show ∀ W, Below w.heap.size w W → Calls Tryz.prog 64 #[va, ua] W (BoolP (isB (x.attrs = y.attrs)) W) from fun W hW => same_any va ua _ _ W (ha.below hW) (ha2.below hW))
  have HX1 := Lib.hid (show ∀ W, Below w.heap.size w W → ExRow W vx x.exts from fun W hW => hx.below hW)
  have HX2 := Lib.hid (show ∀ W, Below w.heap.size w W → ExRow W ux y.exts from fun W hW => hx2.below hW)
  have hlx := hx.1
  have hly := hx2.1
  unfold maxLen at hlx hly
  obtain ⟨xa, xc, rfl⟩ := hx.form
  obtain ⟨ya, yc, rfl⟩ := hx2.form
  have hb0 : Below w.heap.size w ((w.alloc (.cells #[.int .i64 x.kind, .string x.path, va, .string x.target, .int .i64 x.size, .string x.digest, .slice xa x.exts.length xc] 55)).alloc (.cells #[.int .i64 y.kind, .string y.path, ua, .string y.target, .int .i64 y.size, .string y.digest, .slice ya y.exts.length yc] 55)) :=
    ((below_refl _).alloc (Nat.le_refl _) _).alloc (by simp) _
  have F1 := Lib.hid (show x.kind ≠ y.kind → isB (x = y) = false from fun h => isB_no fun e => h (by rw [e]))
  have F2 := Lib.hid (show x.path ≠ y.path → isB (x = y) = false from fun h => isB_no fun e => h (by rw [e]))
  have F3 := Lib.hid (show x.attrs ≠ y.attrs → isB (x = y) = false from fun h => isB_no fun e => h (by rw [e]))
  have F4 := Lib.hid (show x.target ≠ y.target → isB (x = y) = false from fun h => isB_no fun e => h (by rw [e]))
  have F5 := Lib.hid (show x.size ≠ y.size → isB (x = y) = false from fun h => isB_no fun e => h (by rw [e]))
  have F6 := Lib.hid (show x.digest ≠ y.digest → isB (x = y) = false from fun h => isB_no fun e => h (by rw [e]))
  have F7 := Lib.hid (show x.exts ≠ y.exts → isB (x = y) = false from fun h => isB_no fun e => h (by rw [e]))
  have FY := Lib.hid (show x.kind = y.kind → x.path = y.path → x.attrs = y.attrs → x.target = y.target → x.size = y.size → x.digest = y.digest → x.exts = y.exts → isB (x = y) = true from fun h1 h2 h3 h4 h5 h6 h7 => isB_yes (en_ext h1 h2 h3 h4 h5 h6 h7))
  generalize isB (x = y) = r at *
  generalize x.kind = k1 at *
  generalize x.path = p1 at *
  generalize x.target = t1 at *
  generalize x.size = s1 at *
  generalize x.digest = d1 at *
  generalize y.kind = k2 at *
  generalize y.path = p2 at *
  generalize y.target = t2 at *
  generalize y.size = s2 at *
  generalize y.digest = d2 at *
  generalize x.attrs = A1 at *
  generalize y.attrs = A2 at *
  generalize x.exts = X1 at *
  generalize y.exts = X2 at *
  clear ha hx ha2 hx2
  by_cases e1 : k1 = k2
  case neg =>
    obtain rfl := F1.out e1
    have q1 : (k1 != k2) = true := by simpa using e1
    clear e1 FY F1 F2 F3 F4 F5 F6 F7 HA HX1 HX2
    go_enter Tryz.func38, Tryz.ntmps38
    go_wp2_with fail
    go_ret
    exact ⟨rfl, hb0⟩
  have q1 : (k1 != k2) = false := by simpa using e1
  by_cases e2 : p1.data.toList = p2.data.toList
  case neg =>
    obtain rfl := F2.out fun h => e2 (by rw [h])
    have q2 : (p1.toList == p2.toList) = false := by rw [str_eq]; exact decide_eq_false e2
    clear e1 e2 FY F1 F2 F3 F4 F5 F6 F7 HA HX1 HX2
    go_enter Tryz.func38, Tryz.ntmps38
    go_wp2_with fail
    go_ret
    exact ⟨rfl, hb0⟩
  have q2 : (p1.toList == p2.toList) = true := by rw [str_eq]; exact decide_eq_true e2
  by_cases e3 : A1 = A2
  case neg =>
    obtain rfl := F3.out e3
    rw [isB_no e3] at HA
    clear e1 e2 e3 FY F1 F2 F3 F4 F5 F6 F7 HX1 HX2
    go_enter Tryz.func38, Tryz.ntmps38
    go_wp2_with fail
    refine (HA.out _ hb0).mono ?_
    rintro e w3 ⟨rfl, hb3⟩
    go_wp2_with fail
    go_ret
    exact ⟨rfl, step2 hb0 hb3⟩
  rw [isB_yes e3] at HA
  have HE3 := Lib.hid e3; clear e3
  by_cases e4 : t1.data.toList = t2.data.toList
  case neg =>
    obtain rfl := F4.out fun h => e4 (by rw [h])
    have q4 : (t1.toList == t2.toList) = false := by rw [str_eq]; exact decide_eq_false e4
    clear e1 e2 e4 FY F1 F2 F3 F4 F5 F6 F7 HX1 HX2
    go_enter Tryz.func38, Tryz.ntmps38
    go_wp2_with fail
    refine (HA.out _ hb0).mono ?_
    rintro e w3 ⟨rfl, hb3⟩
    obtain ⟨C, D⟩ := two_cells hb3
    have c3 : w3.cell? ⟨w.heap.size, 3, none⟩ = some (.string t1) := C 3
    have d3 : w3.cell? ⟨w.heap.size + 1, 3, none⟩ = some (.string t2) := D 3
    have c4 : w3.cell? ⟨w.heap.size, 4, none⟩ = some (.int .i64 s1) := C 4
    have d4 : w3.cell? ⟨w.heap.size + 1, 4, none⟩ = some (.int .i64 s2) := D 4
    have c5 : w3.cell? ⟨w.heap.size, 5, none⟩ = some (.string d1) := C 5
    have d5 : w3.cell? ⟨w.heap.size + 1, 5, none⟩ = some (.string d2) := D 5
    have c6 : w3.cell? ⟨w.heap.size, 6, none⟩ = some (.slice xa X1.length xc) := C 6
    have d6 : w3.cell? ⟨w.heap.size + 1, 6, none⟩ = some (.slice ya X2.length yc) := D 6
    clear C D
    go_wp2_with fail
    go_ret
    exact ⟨rfl, step2 hb0 hb3⟩
  have q4 : (t1.toList == t2.toList) = true := by rw [str_eq]; exact decide_eq_true e4
  by_cases e5 : s1 = s2
  case neg =>
    obtain rfl := F5.out e5
    have q5 : (s1 != s2) = true := by simpa using e5
    clear e1 e2 e4 e5 FY F1 F2 F3 F4 F5 F6 F7 HX1 HX2
    go_enter Tryz.func38, Tryz.ntmps38
    go_wp2_with fail
    refine (HA.out _ hb0).mono ?_
    rintro e w3 ⟨rfl, hb3⟩
    obtain ⟨C, D⟩ := two_cells hb3
    have c3 : w3.cell? ⟨w.heap.size, 3, none⟩ = some (.string t1) := C 3
    have d3 : w3.cell? ⟨w.heap.size + 1, 3, none⟩ = some (.string t2) := D 3
    have c4 : w3.cell? ⟨w.heap.size, 4, none⟩ = some (.int .i64 s1) := C 4
    have d4 : w3.cell? ⟨w.heap.size + 1, 4, none⟩ = some (.int .i64 s2) := D 4
    have c5 : w3.cell? ⟨w.heap.size, 5, none⟩ = some (.string d1) := C 5
    have d5 : w3.cell? ⟨w.heap.size + 1, 5, none⟩ = some (.string d2) := D 5
    have c6 : w3.cell? ⟨w.heap.size, 6, none⟩ = some (.slice xa X1.length xc) := C 6
    have d6 : w3.cell? ⟨w.heap.size + 1, 6, none⟩ = some (.slice ya X2.length yc) := D 6
    clear C D
    go_wp2_with fail
    go_ret
    exact ⟨rfl, step2 hb0 hb3⟩
  have q5 : (s1 != s2) = false := by simpa using e5
  by_cases e6 : d1.data.toList = d2.data.toList
  case neg =>
    obtain rfl := F6.out fun h => e6 (by rw [h])
    have q6 : (d1.toList == d2.toList) = false := by rw [str_eq]; exact decide_eq_false e6
    clear e1 e2 e4 e5 e6 FY F1 F2 F3 F4 F5 F6 F7 HX1 HX2
    go_enter Tryz.func38, Tryz.ntmps38
    go_wp2_with fail
    refine (HA.out _ hb0).mono ?_
    rintro e w3 ⟨rfl, hb3⟩
    obtain ⟨C, D⟩ := two_cells hb3
    have c3 : w3.cell? ⟨w.heap.size, 3, none⟩ = some (.string t1) := C 3
    have d3 : w3.cell? ⟨w.heap.size + 1, 3, none⟩ = some (.string t2) := D 3
    have c4 : w3.cell? ⟨w.heap.size, 4, none⟩ = some (.int .i64 s1) := C 4
    have d4 : w3.cell? ⟨w.heap.size + 1, 4, none⟩ = some (.int .i64 s2) := D 4
    have c5 : w3.cell? ⟨w.heap.size, 5, none⟩ = some (.string d1) := C 5
    have d5 : w3.cell? ⟨w.heap.size + 1, 5, none⟩ = some (.string d2) := D 5
    have c6 : w3.cell? ⟨w.heap.size, 6, none⟩ = some (.slice xa X1.length xc) := C 6
    have d6 : w3.cell? ⟨w.heap.size + 1, 6, none⟩ = some (.slice ya X2.length yc) := D 6
    clear C D
    go_wp2_with fail
    go_ret
    exact ⟨rfl, step2 hb0 hb3⟩
  have q6 : (d1.toList == d2.toList) = true := by rw [str_eq]; exact decide_eq_true e6
  by_cases e7 : X1.length = X2.length
  case neg =>
    obtain rfl := F7.out fun h => e7 (by rw [h])
    have q7 : ((X1.length : Int) == (X2.length : Int)) = false := by simp; exact fun e => e7 (by omega)
    have q8 : ((X1.length : Int) != (X2.length : Int)) = true := by simp; exact fun e => e7 (by omega)
    clear e1 e2 e4 e5 e6 e7 FY F1 F2 F3 F4 F5 F6 F7 HX1 HX2
    go_enter Tryz.func38, Tryz.ntmps38
    go_wp2_with fail
    refine (HA.out _ hb0).mono ?_
    rintro e w3 ⟨rfl, hb3⟩
    obtain ⟨C, D⟩ := two_cells hb3
    have c3 : w3.cell? ⟨w.heap.size, 3, none⟩ = some (.string t1) := C 3
    have d3 : w3.cell? ⟨w.heap.size + 1, 3, none⟩ = some (.string t2) := D 3
    have c4 : w3.cell? ⟨w.heap.size, 4, none⟩ = some (.int .i64 s1) := C 4
    have d4 : w3.cell? ⟨w.heap.size + 1, 4, none⟩ = some (.int .i64 s2) := D 4
    have c5 : w3.cell? ⟨w.heap.size, 5, none⟩ = some (.string d1) := C 5
    have d5 : w3.cell? ⟨w.heap.size + 1, 5, none⟩ = some (.string d2) := D 5
    have c6 : w3.cell? ⟨w.heap.size, 6, none⟩ = some (.slice xa X1.length xc) := C 6
    have d6 : w3.cell? ⟨w.heap.size + 1, 6, none⟩ = some (.slice ya X2.length yc) := D 6
    clear C D
    go_wp2_with fail
    go_ret
    exact ⟨rfl, step2 hb0 hb3⟩
  have q7 : ((X1.length : Int) == (X2.length : Int)) = true := by simp; omega
  have q8 : ((X1.length : Int) != (X2.length : Int)) = false := by simp; omega
  have HL := Lib.hid e7
  have FZ := Lib.hid (show isB (X1 = X2) = r from by
    by_cases e7 : X1 = X2
    · rw [isB_yes e7, FY.out e1 (list_inj e2) HE3.out (list_inj e4) e5 (list_inj e6) e7]
    · rw [isB_no e7, F7.out e7])
  clear e1 e2 e4 e5 e6 e7 FY F1 F2 F3 F4 F5 F6 F7
  go_enter Tryz.func38, Tryz.ntmps38
  go_wp2_with fail
  refine (HA.out _ hb0).mono ?_
  rintro e w3 ⟨rfl, hb3⟩
  obtain ⟨C, D⟩ := two_cells hb3
  have c3 : w3.cell? ⟨w.heap.size, 3, none⟩ = some (.string t1) := C 3
  have d3 : w3.cell? ⟨w.heap.size + 1, 3, none⟩ = some (.string t2) := D 3
  have c4 : w3.cell? ⟨w.heap.size, 4, none⟩ = some (.int .i64 s1) := C 4
  have d4 : w3.cell? ⟨w.heap.size + 1, 4, none⟩ = some (.int .i64 s2) := D 4
  have c5 : w3.cell? ⟨w.heap.size, 5, none⟩ = some (.string d1) := C 5
  have d5 : w3.cell? ⟨w.heap.size + 1, 5, none⟩ = some (.string d2) := D 5
  have c6 : w3.cell? ⟨w.heap.size, 6, none⟩ = some (.slice xa X1.length xc) := C 6
  have d6 : w3.cell? ⟨w.heap.size + 1, 6, none⟩ = some (.slice ya X2.length yc) := D 6
  have hb4 := step2 hb0 hb3
  have hsz : w.heap.size + 1 < w3.heap.size := by have := hb3.size; simp at this; omega
  clear C D hb3
  go_upto_block 0 with (fail)
  clear c3 d3 c4 d4 c5 d5 q1 q2 q4 q5 q6
  go_wp2_with fail
  go_loopw [5] (fun i wr => ∃ k : Nat, k ≤ X1.length ∧ i = .int .i64 k ∧ Hid (∀ j, j < k → exAt X1 j = exAt X2 j) ∧ Below w3.heap.size w3 wr) (fun i _ => X1.length - (intOf i).toNat)
  case atStart => exact ⟨0, by omega, rfl, fun j hj => absurd hj (Nat.not_lt_zero _), below_refl _⟩
  case round =>
    obtain ⟨k, hk, rfl, hE, hbw⟩ := hrel
    have c6' : wr.cell? ⟨w.heap.size, 6, none⟩ = some (.slice xa X1.length xc) := (hbw.cell (p := ⟨w.heap.size, 6, none⟩) (show w.heap.size < _ by omega)).trans c6
    have d6' : wr.cell? ⟨w.heap.size + 1, 6, none⟩ = some (.slice ya X2.length yc) := (hbw.cell (p := ⟨w.heap.size + 1, 6, none⟩) (show w.heap.size + 1 < _ by omega)).trans d6
    by_cases hlt : k < X1.length
    · have hR1 := HX1.out _ hb4
      have hR2 := HX2.out _ hb4
      rcases hR1.2 with ⟨h, _⟩ | ⟨_, b1, o1, cc1, ev1, _, _, hbb1, hX1⟩
      · rw [h] at hlt; exact absurd hlt (Nat.not_lt_zero _)
      rcases hR2.2 with ⟨h, _⟩ | ⟨_, b2, o2, cc2, ev2, _, _, hbb2, hX2⟩
      · have := HL.out; rw [h] at this; rw [this] at hlt; exact absurd hlt (Nat.not_lt_zero _)
      cases ev1
      cases ev2
      obtain ⟨c0, c1, c2⟩ := exCells (show ExAt wr b1 o1 X1 from hX1.below hbw hbb1) hlt
      obtain ⟨d0, d1, d2⟩ := exCells (show ExAt wr b2 o2 X2 from hX2.below hbw hbb2) (i := k) (by have := HL.out; omega)
      have hl2 : (k : Int) < X2.length := by have := HL.out; omega
      have HN := Lib.hid (show exAt X1 k ≠ exAt X2 k → isB (X1 = X2) = false from fun h => isB_no fun e => h (by rw [e]))
      have HY := Lib.hid (show exAt X1 k = exAt X2 k → ∀ j, j < k + 1 → exAt X1 j = exAt X2 j from fun h j hj => by
        by_cases e : j = k
        · rw [e]; exact h
        · exact hE.out j (by omega))
      rw [FZ.out] at HN
      have HX := Lib.hid (@ex_ext (exAt X1 k) (exAt X2 k))
      have HW := Lib.hid (show exAt X1 k = exAt X2 k → (exAt X1 k).s = (exAt X2 k).s ∧ (exAt X1 k).o = (exAt X2 k).o ∧ (exAt X1 k).l = (exAt X2 k).l from fun h => by rw [h]; exact ⟨rfl, rfl, rfl⟩)
      generalize (exAt X1 k).s = sa at *
      generalize (exAt X1 k).o = oa at *
      generalize (exAt X1 k).l = la at *
      generalize (exAt X2 k).s = sb at *
      generalize (exAt X2 k).o = ob at *
      generalize (exAt X2 k).l = lb at *
      clear hR1 hR2 hX1 hX2
      go_upto_region 6 with (fail)
      by_cases e1 : sa = sb
      case neg =>
        have q1 : (sa == sb) = false := by simpa using e1
        have HE2 := Lib.hid (HN.out fun h => e1 (HW.out h).1)
        clear HN HY HX HW e1
        go_quiet (fail)
        go_wp2_with fail
        go_ret
        exact ⟨ret_bool HE2.out.symm, below_drewN (step2 hb4 hbw) _⟩
      by_cases e2 : oa = ob
      case neg =>
        have q1 : (sa == sb) = true := by simpa using e1
        have q2 : (oa == ob) = false := by simpa using e2
        have HE2 := Lib.hid (HN.out fun h => e2 (HW.out h).2.1)
        clear HN HY HX HW e1 e2
        go_quiet (fail)
        go_wp2_with fail
        go_ret
        exact ⟨ret_bool HE2.out.symm, below_drewN (step2 hb4 hbw) _⟩
      by_cases e3 : la = lb
      case neg =>
        have q1 : (sa == sb) = true := by simpa using e1
        have q2 : (oa == ob) = true := by simpa using e2
        have q3 : (la == lb) = false := by simpa using e3
        have HE2 := Lib.hid (HN.out fun h => e3 (HW.out h).2.2)
        clear HN HY HX HW e1 e2 e3
        go_quiet (fail)
        go_wp2_with fail
        go_ret
        exact ⟨ret_bool HE2.out.symm, below_drewN (step2 hb4 hbw) _⟩
      have q1 : (sa == sb) = true := by simpa using e1
      have q2 : (oa == ob) = true := by simpa using e2
      have q3 : (la == lb) = true := by simpa using e3
      have HE2 := Lib.hid (HY.out (HX.out e1 e2 e3))
      clear HN HY HX HW e1 e2 e3
      go_quiet (fail)
      go_wp2_with fail
      go_roundw
      case rel => exact ⟨k + 1, by omega, by go_num, HE2, below_drewN hbw _⟩
      case measure => simp [intOf]; omega
    · obtain rfl : k = X1.length := by omega
      have HR := Lib.hid (isB_yes (list_ext_ex HL.out hE.out))
      rw [FZ.out] at HR
      go_wp2_with fail
      go_ret
      exact ⟨ret_bool HR.out.symm, step2 hb4 hbw⟩
end Go.Proofs.YtjlfjchcmkkebaaGreatDoor
