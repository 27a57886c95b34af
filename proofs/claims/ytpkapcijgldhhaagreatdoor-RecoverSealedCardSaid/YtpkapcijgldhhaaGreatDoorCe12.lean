/-
  The walks of entry.Check and of its reference.
  The walk of entry.Decode: the deferred function that catches the panic of an error.
-/
import Derived.Test.YtpkapcijgldhhaaGreatDoorCe11
import Derived.Test.YtpkapcijgldhhaaGreatDoorCe10
import Derived.Defers
import Derived.Recover
import Derived.Laws.Pointers
namespace Go.Proofs.YtpkapcijgldhhaaGreatDoor
open Go.RowKit Go.Shelf

theorem box_cells {w w2 : World} {cs : Array Value} {T : TypeId} (hb : Below (w.alloc (.cells cs T)).heap.size (w.alloc (.cells cs T)) w2) (j : Nat) : w2.cell? ⟨w.heap.size, j, none⟩ = cs[j]? := by
  rw [hb.cell (p := ⟨w.heap.size, j, none⟩) (by simp)]
  exact alloc_new_cell _ _ _ j
/-- the check by its parts -/
def chkP (kd : Int) (empty : Bool) (n : Nat) (pe ae ce : Int) (tb : Bool) : Int :=
  if kd < 1 ∨ 6 < kd then 10 else if pe = 0 then (if empty = true ∧ kd < 5 then 1 else if ae = 0 then (if (0 < n ∧ 3 < kd) ∨ tb = false then 1 else ce) else ae) else pe
theorem chkE_parts (e : En) : chkE e = chkP e.kind e.path.data.toList.isEmpty e.attrs.length (pathE e.path.data.toList) (attrsE e.attrs) (contE e.kind e.size e.digest.size e.exts) (targetB e.kind e.target.data.toList) := by
  unfold chkE chkP
  simp only [List.isEmpty_iff]
set_option maxRecDepth 100000 in
set_option maxHeartbeats 4000000 in
theorem check_walk (kd : Int) (pt tg dg : ByteArray) (sz : Int) (xa : Option Addr) (n xc : Nat) (vx : Value) (w : World) (pe ae ce : Int) (tb : Bool) (hn : n ≤ 1000000)
    (HP : Hid (∀ W, Below w.heap.size w W → Calls Tryz.prog 182 #[.string pt] W (IntP pe W)))
    (HA : Hid (∀ W, Below w.heap.size w W → Calls Tryz.prog 183 #[.slice xa n xc] W (IntP ae W)))
    (HT : Hid (∀ W, Below w.heap.size w W → Calls Tryz.prog 184 #[.agg #[.int .i64 kd, .string pt, .slice xa n xc, .string tg, .int .i64 sz, .string dg, vx]] W (BoolP tb W)))
    (HC : Hid (∀ W, Below w.heap.size w W → Calls Tryz.prog 185 #[.agg #[.int .i64 kd, .string pt, .slice xa n xc, .string tg, .int .i64 sz, .string dg, vx]] W (IntP ce W))) :
    Calls Tryz.prog 144 #[.agg #[.int .i64 kd, .string pt, .slice xa n xc, .string tg, .int .i64 sz, .string dg, vx]] w (IntP (chkP kd pt.data.toList.isEmpty n pe ae ce tb) w) := by
  have hb0 : Below w.heap.size w (w.alloc (.cells #[.int .i64 kd, .string pt, .slice xa n xc, .string tg, .int .i64 sz, .string dg, vx] 109)) := (below_refl _).alloc (Nat.le_refl _) _
  obtain ⟨R, hRR⟩ : ∃ R, chkP kd pt.data.toList.isEmpty n pe ae ce tb = R := ⟨_, rfl⟩
  rw [hRR]
  have HR : Hid (R = if kd < 1 ∨ 6 < kd then 10 else if pe = 0 then (if pt.data.toList.isEmpty = true ∧ kd < 5 then 1 else if ae = 0 then (if (0 < n ∧ 3 < kd) ∨ tb = false then 1 else ce) else ae) else pe) := hRR.symm
  clear hRR
  by_cases k1 : kd < 1
  · rw [if_pos (.inl k1)] at HR
    go_enter Tryz.func144, Tryz.ntmps144
    go_wp2_with fail
    go_ret
    exact ⟨ret_int HR.out.symm, hb0⟩
  by_cases k2 : 6 < kd
  · rw [if_pos (.inr k2)] at HR
    go_enter Tryz.func144, Tryz.ntmps144
    go_wp2_with fail
    go_ret
    exact ⟨ret_int HR.out.symm, hb0⟩
  rw [if_neg (by omega)] at HR
  by_cases hp : pe = 0
  case neg =>
    rw [if_neg hp] at HR
    obtain ⟨q1, q2⟩ := neq0 hp
    have Hp := Lib.hid hp; clear hp
    go_enter Tryz.func144, Tryz.ntmps144
    go_wp2_with fail
    refine (HP.out _ hb0).mono ?_
    rintro e w2 ⟨rfl, hb2⟩
    go_wp2_with fail
    go_ret
    exact ⟨ret_int HR.out.symm, step2 hb0 hb2⟩
  subst hp
  rw [if_pos rfl] at HR
  have hem : pt.toList.isEmpty = pt.data.toList.isEmpty := isEmpty_list pt
  by_cases he : pt.data.toList.isEmpty = true ∧ kd < 5
  · obtain ⟨he1, he2⟩ := he
    rw [if_pos ⟨he1, he2⟩] at HR
    rw [he1] at hem
    have q5 : (kd == 5) = false := by rw [beq_eq_false_iff_ne]; omega
    have q5' : (kd != 5) = true := by rw [bne_iff_ne]; omega
    have q6 : (kd == 6) = false := by rw [beq_eq_false_iff_ne]; omega
    have q6' : (kd != 6) = true := by rw [bne_iff_ne]; omega
    clear he1
    go_enter Tryz.func144, Tryz.ntmps144
    go_wp2_with fail
    refine (HP.out _ hb0).mono ?_
    rintro e w2 ⟨rfl, hb2⟩
    have c0 : w2.cell? ⟨w.heap.size, 0, none⟩ = some (.int .i64 kd) := box_cells hb2 0
    have c1 : w2.cell? ⟨w.heap.size, 1, none⟩ = some (.string pt) := box_cells hb2 1
    go_wp2_with fail
    go_ret
    exact ⟨ret_int HR.out.symm, step2 hb0 hb2⟩
  rw [if_neg he] at HR
  have HW : Hid ((pt.toList.isEmpty = false) ∨ (pt.toList.isEmpty = true ∧ kd = 5) ∨ (pt.toList.isEmpty = true ∧ kd = 6)) := by
    rw [Hid, hem]
    cases hx : pt.data.toList.isEmpty
    · exact .inl rfl
    · have : ¬ kd < 5 := fun h => he ⟨hx, h⟩
      rcases (show kd = 5 ∨ kd = 6 by omega) with h | h
      · exact .inr (.inl ⟨rfl, h⟩)
      · exact .inr (.inr ⟨rfl, h⟩)
  clear he hem
  rcases HW.out with he | ⟨he, h5⟩ | ⟨he, h5⟩
  case inr.inl =>
    have q5 : (kd == 5) = true := by rw [beq_iff_eq]; exact h5
    have q5' : (kd != 5) = false := by rw [bne_eq_false_iff_eq]; exact h5
    have H5 := Lib.hid h5; clear h5
    clear HW
    by_cases ha : ae = 0
    case neg =>
      rw [if_neg ha] at HR
      obtain ⟨q1, q2⟩ := neq0 ha
      have Ha := Lib.hid ha; clear ha
      go_enter Tryz.func144, Tryz.ntmps144
      go_wp2_with fail
      refine (HP.out _ hb0).mono ?_
      rintro e w2 ⟨rfl, hb2⟩
      have c0 := box_cells hb2 0
      have c1 := box_cells hb2 1
      have c2 := box_cells hb2 2
      simp only [List.getElem?_toArray, List.getElem?_cons_zero, List.getElem?_cons_succ] at c0 c1 c2
      have hb3 := step2 hb0 hb2
      clear hb2
      go_wp2_with fail
      refine (HA.out _ hb3).mono ?_
      rintro e w4 ⟨rfl, hb4⟩
      go_wp2_with fail
      go_ret
      exact ⟨ret_int HR.out.symm, step2 hb3 hb4⟩
    subst ha
    rw [if_pos rfl] at HR
    by_cases h3 : 0 < n ∧ 3 < kd
    · obtain ⟨h3, h4⟩ := h3
      rw [if_pos (.inl ⟨h3, h4⟩)] at HR
      go_enter Tryz.func144, Tryz.ntmps144
      go_wp2_with fail
      refine (HP.out _ hb0).mono ?_
      rintro e w2 ⟨rfl, hb2⟩
      have c0 := box_cells hb2 0
      have c1 := box_cells hb2 1
      have c2 := box_cells hb2 2
      simp only [List.getElem?_toArray, List.getElem?_cons_zero, List.getElem?_cons_succ] at c0 c1 c2
      have hb3 := step2 hb0 hb2
      have HB2 := Lib.hid hb2
      clear hb2
      go_wp2_with fail
      refine (HA.out _ hb3).mono ?_
      rintro e w4 ⟨rfl, hb4⟩
      have d0 := box_cells (step2 HB2.out hb4) 0
      have d2 := box_cells (step2 HB2.out hb4) 2
      simp only [List.getElem?_toArray, List.getElem?_cons_zero, List.getElem?_cons_succ] at d0 d2
      go_wp2_with fail
      go_ret
      exact ⟨ret_int HR.out.symm, step2 hb3 hb4⟩
    have HN : Hid (n = 0 ∨ (0 < n ∧ kd ≤ 3)) := by rw [Hid]; omega
    cases tb
    all_goals
      rcases HN.out with rfl | ⟨hn0, hk3⟩
      all_goals
        first | rw [if_pos (.inr rfl)] at HR | rw [if_neg (by rintro (h | h); exact h3 h; cases h)] at HR
        clear h3 HN
        go_enter Tryz.func144, Tryz.ntmps144
        go_wp2_with fail
        refine (HP.out _ hb0).mono ?_
        rintro e w2 ⟨rfl, hb2⟩
        have c0 := box_cells hb2 0
        have c1 := box_cells hb2 1
        have c2 := box_cells hb2 2
        simp only [List.getElem?_toArray, List.getElem?_cons_zero, List.getElem?_cons_succ] at c0 c1 c2
        have hb3 := step2 hb0 hb2
        have HB2 := Lib.hid hb2
        clear hb2
        go_wp2_with fail
        refine (HA.out _ hb3).mono ?_
        rintro e w4 ⟨rfl, hb4⟩
        have HB4 := Lib.hid (step2 HB2.out hb4)
        have hb5 := step2 hb3 hb4
        clear c0 c1 c2 hb4 hb3 HB2
        have d0 := box_cells HB4.out 0
        have d1 := box_cells HB4.out 1
        have d2 := box_cells HB4.out 2
        have d3 := box_cells HB4.out 3
        have d4 := box_cells HB4.out 4
        have d5 := box_cells HB4.out 5
        have d6 := box_cells HB4.out 6
        simp only [List.getElem?_toArray, List.getElem?_cons_zero, List.getElem?_cons_succ] at d0 d1 d2 d3 d4 d5 d6
        go_wp2_with fail
        refine (HT.out _ hb5).mono ?_
        rintro e w6 ⟨rfl, hb6⟩
        have HB6 := Lib.hid (step2 HB4.out hb6)
        have hb7 := step2 hb5 hb6
        clear d0 d1 d2 d3 d4 d5 d6 hb6 hb5 HB4
        have e0 := box_cells HB6.out 0
        have e1 := box_cells HB6.out 1
        have e2 := box_cells HB6.out 2
        have e3 := box_cells HB6.out 3
        have e4 := box_cells HB6.out 4
        have e5 := box_cells HB6.out 5
        have e6 := box_cells HB6.out 6
        simp only [List.getElem?_toArray, List.getElem?_cons_zero, List.getElem?_cons_succ] at e0 e1 e2 e3 e4 e5 e6
        go_wp2_with fail
        first
          | (go_ret
             exact ⟨ret_int HR.out.symm, hb7⟩)
          | (refine (HC.out _ hb7).mono ?_
             rintro e w8 ⟨rfl, hb8⟩
             go_wp2_with fail
             go_ret
             exact ⟨ret_int HR.out.symm, step2 hb7 hb8⟩)
  case inr.inr =>
    have q5 : (kd == 5) = false := by rw [beq_eq_false_iff_ne]; omega
    have q5' : (kd != 5) = true := by rw [bne_iff_ne]; omega
    have q6 : (kd == 6) = true := by rw [beq_iff_eq]; exact h5
    have q6' : (kd != 6) = false := by rw [bne_eq_false_iff_eq]; exact h5
    have H5 := Lib.hid h5; clear h5
    clear HW
    by_cases ha : ae = 0
    case neg =>
      rw [if_neg ha] at HR
      obtain ⟨q1, q2⟩ := neq0 ha
      have Ha := Lib.hid ha; clear ha
      go_enter Tryz.func144, Tryz.ntmps144
      go_wp2_with fail
      refine (HP.out _ hb0).mono ?_
      rintro e w2 ⟨rfl, hb2⟩
      have c0 := box_cells hb2 0
      have c1 := box_cells hb2 1
      have c2 := box_cells hb2 2
      simp only [List.getElem?_toArray, List.getElem?_cons_zero, List.getElem?_cons_succ] at c0 c1 c2
      have hb3 := step2 hb0 hb2
      clear hb2
      go_wp2_with fail
      refine (HA.out _ hb3).mono ?_
      rintro e w4 ⟨rfl, hb4⟩
      go_wp2_with fail
      go_ret
      exact ⟨ret_int HR.out.symm, step2 hb3 hb4⟩
    subst ha
    rw [if_pos rfl] at HR
    by_cases h3 : 0 < n ∧ 3 < kd
    · obtain ⟨h3, h4⟩ := h3
      rw [if_pos (.inl ⟨h3, h4⟩)] at HR
      go_enter Tryz.func144, Tryz.ntmps144
      go_wp2_with fail
      refine (HP.out _ hb0).mono ?_
      rintro e w2 ⟨rfl, hb2⟩
      have c0 := box_cells hb2 0
      have c1 := box_cells hb2 1
      have c2 := box_cells hb2 2
      simp only [List.getElem?_toArray, List.getElem?_cons_zero, List.getElem?_cons_succ] at c0 c1 c2
      have hb3 := step2 hb0 hb2
      have HB2 := Lib.hid hb2
      clear hb2
      go_wp2_with fail
      refine (HA.out _ hb3).mono ?_
      rintro e w4 ⟨rfl, hb4⟩
      have d0 := box_cells (step2 HB2.out hb4) 0
      have d2 := box_cells (step2 HB2.out hb4) 2
      simp only [List.getElem?_toArray, List.getElem?_cons_zero, List.getElem?_cons_succ] at d0 d2
      go_wp2_with fail
      go_ret
      exact ⟨ret_int HR.out.symm, step2 hb3 hb4⟩
    have HN : Hid (n = 0 ∨ (0 < n ∧ kd ≤ 3)) := by rw [Hid]; omega
    cases tb
    all_goals
      rcases HN.out with rfl | ⟨hn0, hk3⟩
      all_goals
        first | rw [if_pos (.inr rfl)] at HR | rw [if_neg (by rintro (h | h); exact h3 h; cases h)] at HR
        clear h3 HN
        go_enter Tryz.func144, Tryz.ntmps144
        go_wp2_with fail
        refine (HP.out _ hb0).mono ?_
        rintro e w2 ⟨rfl, hb2⟩
        have c0 := box_cells hb2 0
        have c1 := box_cells hb2 1
        have c2 := box_cells hb2 2
        simp only [List.getElem?_toArray, List.getElem?_cons_zero, List.getElem?_cons_succ] at c0 c1 c2
        have hb3 := step2 hb0 hb2
        have HB2 := Lib.hid hb2
        clear hb2
        go_wp2_with fail
        refine (HA.out _ hb3).mono ?_
        rintro e w4 ⟨rfl, hb4⟩
        have HB4 := Lib.hid (step2 HB2.out hb4)
        have hb5 := step2 hb3 hb4
        clear c0 c1 c2 hb4 hb3 HB2
        have d0 := box_cells HB4.out 0
        have d1 := box_cells HB4.out 1
        have d2 := box_cells HB4.out 2
        have d3 := box_cells HB4.out 3
        have d4 := box_cells HB4.out 4
        have d5 := box_cells HB4.out 5
        have d6 := box_cells HB4.out 6
        simp only [List.getElem?_toArray, List.getElem?_cons_zero, List.getElem?_cons_succ] at d0 d1 d2 d3 d4 d5 d6
        go_wp2_with fail
        refine (HT.out _ hb5).mono ?_
        rintro e w6 ⟨rfl, hb6⟩
        have HB6 := Lib.hid (step2 HB4.out hb6)
        have hb7 := step2 hb5 hb6
        clear d0 d1 d2 d3 d4 d5 d6 hb6 hb5 HB4
        have e0 := box_cells HB6.out 0
        have e1 := box_cells HB6.out 1
        have e2 := box_cells HB6.out 2
        have e3 := box_cells HB6.out 3
        have e4 := box_cells HB6.out 4
        have e5 := box_cells HB6.out 5
        have e6 := box_cells HB6.out 6
        simp only [List.getElem?_toArray, List.getElem?_cons_zero, List.getElem?_cons_succ] at e0 e1 e2 e3 e4 e5 e6
        go_wp2_with fail
        first
          | (go_ret
             exact ⟨ret_int HR.out.symm, hb7⟩)
          | (refine (HC.out _ hb7).mono ?_
             rintro e w8 ⟨rfl, hb8⟩
             go_wp2_with fail
             go_ret
             exact ⟨ret_int HR.out.symm, step2 hb7 hb8⟩)
  case inl =>
    clear HW
    by_cases ha : ae = 0
    case neg =>
      rw [if_neg ha] at HR
      obtain ⟨q1, q2⟩ := neq0 ha
      have Ha := Lib.hid ha; clear ha
      go_enter Tryz.func144, Tryz.ntmps144
      go_wp2_with fail
      refine (HP.out _ hb0).mono ?_
      rintro e w2 ⟨rfl, hb2⟩
      have c0 := box_cells hb2 0
      have c1 := box_cells hb2 1
      have c2 := box_cells hb2 2
      simp only [List.getElem?_toArray, List.getElem?_cons_zero, List.getElem?_cons_succ] at c0 c1 c2
      have hb3 := step2 hb0 hb2
      clear hb2
      go_wp2_with fail
      refine (HA.out _ hb3).mono ?_
      rintro e w4 ⟨rfl, hb4⟩
      go_wp2_with fail
      go_ret
      exact ⟨ret_int HR.out.symm, step2 hb3 hb4⟩
    subst ha
    rw [if_pos rfl] at HR
    by_cases h3 : 0 < n ∧ 3 < kd
    · obtain ⟨h3, h4⟩ := h3
      rw [if_pos (.inl ⟨h3, h4⟩)] at HR
      go_enter Tryz.func144, Tryz.ntmps144
      go_wp2_with fail
      refine (HP.out _ hb0).mono ?_
      rintro e w2 ⟨rfl, hb2⟩
      have c0 := box_cells hb2 0
      have c1 := box_cells hb2 1
      have c2 := box_cells hb2 2
      simp only [List.getElem?_toArray, List.getElem?_cons_zero, List.getElem?_cons_succ] at c0 c1 c2
      have hb3 := step2 hb0 hb2
      have HB2 := Lib.hid hb2
      clear hb2
      go_wp2_with fail
      refine (HA.out _ hb3).mono ?_
      rintro e w4 ⟨rfl, hb4⟩
      have d0 := box_cells (step2 HB2.out hb4) 0
      have d2 := box_cells (step2 HB2.out hb4) 2
      simp only [List.getElem?_toArray, List.getElem?_cons_zero, List.getElem?_cons_succ] at d0 d2
      go_wp2_with fail
      go_ret
      exact ⟨ret_int HR.out.symm, step2 hb3 hb4⟩
    have HN : Hid (n = 0 ∨ (0 < n ∧ kd ≤ 3)) := by rw [Hid]; omega
    cases tb
    all_goals
      rcases HN.out with rfl | ⟨hn0, hk3⟩
      all_goals
        first | rw [if_pos (.inr rfl)] at HR | rw [if_neg (by rintro (h | h); exact h3 h; cases h)] at HR
        clear h3 HN
        go_enter Tryz.func144, Tryz.ntmps144
        go_wp2_with fail
        refine (HP.out _ hb0).mono ?_
        rintro e w2 ⟨rfl, hb2⟩
        have c0 := box_cells hb2 0
        have c1 := box_cells hb2 1
        have c2 := box_cells hb2 2
        simp only [List.getElem?_toArray, List.getElem?_cons_zero, List.getElem?_cons_succ] at c0 c1 c2
        have hb3 := step2 hb0 hb2
        have HB2 := Lib.hid hb2
        clear hb2
        go_wp2_with fail
        refine (HA.out _ hb3).mono ?_
        rintro e w4 ⟨rfl, hb4⟩
        have HB4 := Lib.hid (step2 HB2.out hb4)
        have hb5 := step2 hb3 hb4
        clear c0 c1 c2 hb4 hb3 HB2
        have d0 := box_cells HB4.out 0
        have d1 := box_cells HB4.out 1
        have d2 := box_cells HB4.out 2
        have d3 := box_cells HB4.out 3
        have d4 := box_cells HB4.out 4
        have d5 := box_cells HB4.out 5
        have d6 := box_cells HB4.out 6
        simp only [List.getElem?_toArray, List.getElem?_cons_zero, List.getElem?_cons_succ] at d0 d1 d2 d3 d4 d5 d6
        go_wp2_with fail
        refine (HT.out _ hb5).mono ?_
        rintro e w6 ⟨rfl, hb6⟩
        have HB6 := Lib.hid (step2 HB4.out hb6)
        have hb7 := step2 hb5 hb6
        clear d0 d1 d2 d3 d4 d5 d6 hb6 hb5 HB4
        have e0 := box_cells HB6.out 0
        have e1 := box_cells HB6.out 1
        have e2 := box_cells HB6.out 2
        have e3 := box_cells HB6.out 3
        have e4 := box_cells HB6.out 4
        have e5 := box_cells HB6.out 5
        have e6 := box_cells HB6.out 6
        simp only [List.getElem?_toArray, List.getElem?_cons_zero, List.getElem?_cons_succ] at e0 e1 e2 e3 e4 e5 e6
        go_wp2_with fail
        first
          | (go_ret
             exact ⟨ret_int HR.out.symm, hb7⟩)
          | (refine (HC.out _ hb7).mono ?_
             rintro e w8 ⟨rfl, hb8⟩
             go_wp2_with fail
             go_ret
             exact ⟨ret_int HR.out.symm, step2 hb7 hb8⟩)
theorem check_any (e : En) (va vx : Value) (w : World) (he : Env w) (hm : HasMax w) (ha : AtRow w va e.attrs) (hx : ExRow w vx e.exts) (hok : EnOk e) :
    Calls Tryz.prog 144 #[.agg #[.int .i64 e.kind, .string e.path, va, .string e.target, .int .i64 e.size, .string e.digest, vx]] w (IntP (chkE e) w) := by
  obtain ⟨xa, xc, rfl⟩ := ha.form
  rw [chkE_parts]
  exact check_walk e.kind e.path e.target e.digest e.size xa e.attrs.length xc vx w _ _ _ _ hok.attrs.1
    (fun W hW => pathCheck_any e.path W (hm.below hW) hok.path)
    (fun W hW => attrCheck_any _ e.attrs W (ha.below hW) hok.attrs.2)
    (fun W hW => target_any e.kind e.path e.target e.digest e.size _ vx W (he.below hW) hok.target)
    (fun W hW => content_any e.kind e.path e.target e.digest e.size _ vx e.exts W (hx.below hW) hok.exts.2 hok.exts.1 hok.digest)
end Go.Proofs.YtpkapcijgldhhaaGreatDoor

namespace Go.Proofs.YtpkapcijgldhhaaGreatDoor
open Go.RowKit Go.Shelf

def zeroE : List Value := [.int .i64 0, .string ⟨#[]⟩, .slice none 0 0, .string ⟨#[]⟩, .int .i64 0, .string ⟨#[]⟩, .slice none 0 0]
theorem wp_tmps {P : Program} {c : Code} {Q : Exit → Act → World → Prop} {ts ts' : Array Value} {ds : List Deferred} {w : World} (h : ts = ts') (k : c.wp P Q { tmps := ts', defers := ds } w) : c.wp P Q { tmps := ts, defers := ds } w := h ▸ k
theorem Box.drew {W : World} {E : Nat} {cs : List Value} {T : TypeId} (h : Box W E cs T) : Box W.drew E cs T := h
theorem Box.set7 {W : World} {E : Nat} {v0 v1 v2 v3 v4 v5 v6 : Value} {T : TypeId} (h : Box W E [v0, v1, v2, v3, v4, v5, v6] T) (u0 u1 u2 u3 u4 u5 u6 : Value) :
    Box (((((((W.setCell ⟨E, 0, none⟩ u0).setCell ⟨E, 1, none⟩ u1).setCell ⟨E, 2, none⟩ u2).setCell ⟨E, 3, none⟩ u3).setCell ⟨E, 4, none⟩ u4).setCell ⟨E, 5, none⟩ u5).setCell ⟨E, 6, none⟩ u6) E [u0, u1, u2, u3, u4, u5, u6] T := ((((((h.set (j := 0) u0).set (j := 1) u1).set (j := 2) u2).set (j := 3) u3).set (j := 4) u4).set (j := 5) u5).set (j := 6) u6
theorem Box.other7 {W : World} {E F : Nat} {cs : List Value} {T : TypeId} (h : Box W F cs T) (hn : E ≠ F) (u0 u1 u2 u3 u4 u5 u6 : Value) :
    Box (((((((W.setCell ⟨E, 0, none⟩ u0).setCell ⟨E, 1, none⟩ u1).setCell ⟨E, 2, none⟩ u2).setCell ⟨E, 3, none⟩ u3).setCell ⟨E, 4, none⟩ u4).setCell ⟨E, 5, none⟩ u5).setCell ⟨E, 6, none⟩ u6) F cs T := ((((((h.setOther (j := 0) hn u0).setOther (j := 1) hn u1).setOther (j := 2) hn u2).setOther (j := 3) hn u3).setOther (j := 4) hn u4).setOther (j := 5) hn u5).setOther (j := 6) hn u6
theorem below_set7 {W w : World} {E n : Nat} (h : Below n w W) (hn : n ≤ E) (u0 u1 u2 u3 u4 u5 u6 : Value) :
    Below n w (((((((W.setCell ⟨E, 0, none⟩ u0).setCell ⟨E, 1, none⟩ u1).setCell ⟨E, 2, none⟩ u2).setCell ⟨E, 3, none⟩ u3).setCell ⟨E, 4, none⟩ u4).setCell ⟨E, 5, none⟩ u5).setCell ⟨E, 6, none⟩ u6) := ((((((h.setCell (p := ⟨E, 0, none⟩) hn u0).setCell (p := ⟨E, 1, none⟩) hn u1).setCell (p := ⟨E, 2, none⟩) hn u2).setCell (p := ⟨E, 3, none⟩) hn u3).setCell (p := ⟨E, 4, none⟩) hn u4).setCell (p := ⟨E, 5, none⟩) hn u5).setCell (p := ⟨E, 6, none⟩) hn u6
def CatchQ (x : Int) (D1 D2 D3 : Nat) (w0 : World) : Exit → Act → World → Prop := fun e a w => e = .normal ∧ a.defers = [] ∧ Box w D1 zeroE 109 ∧ Box w D2 [.int .i64 0] 3 ∧ Box w D3 [.int .i64 x] 28 ∧ Below D1 w0 w

set_option maxRecDepth 100000 in
set_option maxHeartbeats 1000000 in
theorem catch_idle (D1 D2 D3 : Nat) (w : World) :
    CallsD Tryz.prog 141 #[.pointer (some ⟨D1, 0, none⟩), .pointer (some ⟨D2, 0, none⟩), .pointer (some ⟨D3, 0, none⟩)] .returning w fun e u' w' => e = .returned (.tuple #[]) ∧ u' = .returning ∧ w' = w := by
  refine callsD_of_wpS Tryz.func141 rfl fun c₀ cs hu => ?_
  apply wpS_seq
  apply wpS_region
  simp [wpOpsS, go_sem, recoverD, hu, Tryz.ntmps141, Exit.thenS]
  apply wpS_seq
  apply wpS_region
  simp [wpOpsS, go_sem, Exit.thenS]
  refine wpS_cond (t := false) (by simp [Act.eval]) ?_
  simp only [Bool.false_eq_true, if_false]
  refine wpS_of_wp (wp_skip ?_)
  cases c₀
  simp_all [bodyPostS, results, Tryz.results141]
set_option maxRecDepth 100000 in
set_option maxHeartbeats 1000000 in
theorem catch_pan (x : Int) (D1 D2 D3 : Nat) (cs1 : List Value) (o2 o3 : Int) (w : World) (b1 : Box w D1 cs1 109) (hl : cs1.length = 7) (b2 : Box w D2 [.int .i64 o2] 3) (b3 : Box w D3 [.int .i64 o3] 28) (h12 : D1 < D2) (h23 : D2 < D3) :
    CallsD Tryz.prog 141 #[.pointer (some ⟨D1, 0, none⟩), .pointer (some ⟨D2, 0, none⟩), .pointer (some ⟨D3, 0, none⟩)] (.panicking (failP x)) w fun e u' w' =>
      e = .returned (.tuple #[]) ∧ u' = .panicking [{ v := .iface 202 (.agg #[.int .i64 x]), recovered := true }] ∧ Box w' D1 zeroE 109 ∧ Box w' D2 [.int .i64 0] 3 ∧ Box w' D3 [.int .i64 x] 28 ∧ Below D1 w w' := by
  have hta : ∀ W : World, (Instr.typeAssert (.iface 202 (.agg #[.int .i64 x])) 20 202 true).run Tryz.prog W = .ok (.tuple #[.agg #[.int .i64 x], .bool true]) W := fun _ => by kernel_rfl
  refine callsD_of_wpS Tryz.func141 rfl fun c₀ cs hu => ?_
  apply wpS_seq
  apply wpS_region
  simp [wpOpsS, go_sem, recoverD, hu, failP, Tryz.ntmps141, Exit.thenS]
  apply wpS_seq
  apply wpS_region
  simp [wpOpsS, go_sem, Exit.thenS]
  refine wpS_cond (t := true) (by simp [Act.eval]) ?_
  simp only [if_true]
  refine wpS_of_wp ?_
  refine wp_mono (Q := CatchQ x D1 D2 D3 w) ?_ ?_
  rotate_left
  · rintro e a w1 ⟨rfl, hd, q1, q2, q3, q4⟩
    cases c₀
    simp_all [bodyPostS, results, Tryz.results141]
  match cs1, hl with
  | [v0, v1, v2, v3, v4, v5, v6], _ =>
  refine wp_tmps (ts' := #[.pointer (some ⟨D1, 0, none⟩), .pointer (some ⟨D2, 0, none⟩), .pointer (some ⟨D3, 0, none⟩), .iface 202 (.agg #[.int .i64 x]), undef, undef, .iface 202 (.agg #[.int .i64 x]), .iface 202 (.agg #[.int .i64 x]), .bool true, undef, undef, undef, undef, undef, undef, undef, undef, undef, undef, undef]) (by kernel_rfl) ?_
  go_upto_region 5 with (fail)
  have l3 := b3.lt
  have hb0 : Below w.heap.size w (w.alloc (.cells #[.int .i64 x] 202)) := (below_refl w).alloc (Nat.le_refl _) _
  have hb1 : Below D1 w (w.alloc (.cells #[.int .i64 x] 202)) := hb0.mono (by omega)
  have c1 := b1.below hb0
  have c2 := b2.below hb0
  have c3 := b3.below hb0
  have bf := Box.new w [.int .i64 x] 202
  change Box (w.alloc (.cells #[.int .i64 x] 202)) _ _ _ at bf
  obtain ⟨W1, hW1⟩ : ∃ W1, w.alloc (.cells #[.int .i64 x] 202) = W1 := ⟨_, rfl⟩
  change Code.wp _ _ _ _ (w.alloc (.cells #[.int .i64 x] 202))
  rw [hW1] at c1 c2 c3 bf hb0 hb1 ⊢
  clear hW1 hb0
  obtain ⟨N, hN⟩ : ∃ N, w.heap.size = N := ⟨_, rfl⟩
  rw [hN] at bf l3 ⊢
  have n12 : D1 ≠ D2 := by omega
  have n13 : D1 ≠ D3 := by omega
  have n23 : D2 ≠ D3 := by omega
  have n1 : D1 ≠ N := by omega
  have n2 : D2 ≠ N := by omega
  have n3 : D3 ≠ N := by omega
  have a0 : W1.cell? ⟨D1, 0, none⟩ = some v0 := c1.cell 0
  have a1 : W1.cell? ⟨D1, 1, none⟩ = some v1 := c1.cell 1
  have a2 : W1.cell? ⟨D1, 2, none⟩ = some v2 := c1.cell 2
  have a3 : W1.cell? ⟨D1, 3, none⟩ = some v3 := c1.cell 3
  have a4 : W1.cell? ⟨D1, 4, none⟩ = some v4 := c1.cell 4
  have a5 : W1.cell? ⟨D1, 5, none⟩ = some v5 := c1.cell 5
  have a6 : W1.cell? ⟨D1, 6, none⟩ = some v6 := c1.cell 6
  have f0 := c1.frozen 0
  have f1 := c1.frozen 1
  have f2 := c1.frozen 2
  have f3 := c1.frozen 3
  have f4 := c1.frozen 4
  have f5 := c1.frozen 5
  have f6 := c1.frozen 6
  have e2 : W1.cell? ⟨D2, 0, none⟩ = some (.int .i64 o2) := c2.cell 0
  have g2 := c2.frozen 0
  have e3 : W1.cell? ⟨D3, 0, none⟩ = some (.int .i64 o3) := c3.cell 0
  have g3 := c3.frozen 0
  have ef : W1.cell? ⟨N, 0, none⟩ = some (.int .i64 x) := bf.cell 0
  have gf := bf.frozen 0
  clear b1 b2 b3 hN
  go_region
  refine ⟨rfl, rfl, ?_, ?_, ?_, ?_⟩
  · exact (((c1.set7 _ _ _ _ _ _ _).setOther (by omega) _).setOther (by omega) _).drew
  · exact (((c2.other7 n12 _ _ _ _ _ _ _).set (j := 0) _).setOther (by omega) _).drew
  · exact (((c3.other7 n13 _ _ _ _ _ _ _).setOther (by omega) _).set (j := 0) _).drew
  · exact below_drew0 (((below_set7 hb1 (Nat.le_refl _) _ _ _ _ _ _ _).setCell (p := ⟨D2, 0, none⟩) (by show D1 ≤ D2; omega) _).setCell (p := ⟨D3, 0, none⟩) (by show D1 ≤ D3; omega) _)
end Go.Proofs.YtpkapcijgldhhaaGreatDoor
