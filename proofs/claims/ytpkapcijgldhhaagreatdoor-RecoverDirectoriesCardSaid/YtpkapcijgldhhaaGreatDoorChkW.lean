/-
  The walks of entry.Check and of its reference.
-/
import Derived.Test.YtpkapcijgldhhaaGreatDoorContW
namespace Go.Proofs.YtpkapcijgldhhaaGreatDoor
open Go.RowKit Go.Shelf

theorem box_cells {w w2 : World} {cs : Array Value} {T : TypeId} (hb : Below (w.alloc (.cells cs T)).heap.size (w.alloc (.cells cs T)) w2) (j : Nat) : w2.cell? ⟨w.heap.size, j, none⟩ = cs[j]? := by
  rw [hb.cell (p := ⟨w.heap.size, j, none⟩) (by simp)]
  exact alloc_new_cell _ _ _ j
/-- the check by its parts -/
def chkP (kd : Int) (empty : Bool) (n : Nat) (pe ae ce : Int) (tb : Bool) : Int :=
  if kd < 1 ∨ 6 < kd then 10 else if pe = 0 then (if empty = true ∧ kd < 5 then 1 else if ae = 0 then (if (0 < n ∧ 3 < kd) ∨ tb = false then 1 else ce) else ae) else pe
theorem chkE_parts (e : En) : chkE e = chkP e.kind e.path.data.toList.isEmpty e.attrs.length (pathE e.path.data.toList) (attrsE e.attrs) (contE e.kind e.size e.digest.size e.exts) (targetB e.kind e.target.data.toList) := by
  unfold chkE chkP
  simp only [List.isEmpty_iff]
set_option maxRecDepth 100000 in
set_option maxHeartbeats 4000000 in
theorem check_walk (kd : Int) (pt tg dg : ByteArray) (sz : Int) (xa : Option Addr) (n xc : Nat) (vx : Value) (w : World) (pe ae ce : Int) (tb : Bool) (hn : n ≤ 1000000)
    (HP : Hid (∀ W, Below w.heap.size w W → Calls Tryz.prog 182 #[.string pt] W (IntP pe W)))
    (HA : Hid (∀ W, Below w.heap.size w W → Calls Tryz.prog 183 #[.slice xa n xc] W (IntP ae W)))
    (HT : Hid (∀ W, Below w.heap.size w W → Calls Tryz.prog 184 #[.agg #[.int .i64 kd, .string pt, .slice xa n xc, .string tg, .int .i64 sz, .string dg, vx]] W (BoolP tb W)))
    (HC : Hid (∀ W, Below w.heap.size w W → Calls Tryz.prog 185 #[.agg #[.int .i64 kd, .string pt, .slice xa n xc, .string tg, .int .i64 sz, .string dg, vx]] W (IntP ce W))) :
    Calls Tryz.prog 144 #[.agg #[.int .i64 kd, .string pt, .slice xa n xc, .string tg, .int .i64 sz, .string dg, vx]] w (IntP (chkP kd pt.data.toList.isEmpty n pe ae ce tb) w) := by
  have hb0 : Below w.heap.size w (w.alloc (.cells #[.int .i64 kd, .string pt, .slice xa n xc, .string tg, .int .i64 sz, .string dg, vx] 109)) := (below_refl _).alloc (Nat.le_refl _) _
  obtain ⟨R, hRR⟩ : ∃ R, chkP kd pt.data.toList.isEmpty n pe ae ce tb = R := ⟨_, rfl⟩
  rw [hRR]
  have HR : Hid (R = if kd < 1 ∨ 6 < kd then 10 else if pe = 0 then (if pt.data.toList.isEmpty = true ∧ kd < 5 then 1 else if ae = 0 then (if (0 < n ∧ 3 < kd) ∨ tb = false then 1 else ce) else ae) else pe) := hRR.symm
  clear hRR
  by_cases k1 : kd < 1
  · rw [if_pos (.inl k1)] at HR
    go_enter Tryz.func144, Tryz.ntmps144
    go_wp2_with fail
    go_ret
    exact ⟨ret_int HR.out.symm, hb0⟩
  by_cases k2 : 6 < kd
  · rw [if_pos (.inr k2)] at HR
    go_enter Tryz.func144, Tryz.ntmps144
    go_wp2_with fail
    go_ret
    exact ⟨ret_int HR.out.symm, hb0⟩
  rw [if_neg (by omega)] at HR
  by_cases hp : pe = 0
  case neg =>
    rw [if_neg hp] at HR
    obtain ⟨q1, q2⟩ := neq0 hp
    have Hp := Lib.hid hp; clear hp
    go_enter Tryz.func144, Tryz.ntmps144
    go_wp2_with fail
    refine (HP.out _ hb0).mono ?_
    rintro e w2 ⟨rfl, hb2⟩
    go_wp2_with fail
    go_ret
    exact ⟨ret_int HR.out.symm, step2 hb0 hb2⟩
  subst hp
  rw [if_pos rfl] at HR
  have hem : pt.toList.isEmpty = pt.data.toList.isEmpty := isEmpty_list pt
  by_cases he : pt.data.toList.isEmpty = true ∧ kd < 5
  · obtain ⟨he1, he2⟩ := he
    rw [if_pos ⟨he1, he2⟩] at HR
    rw [he1] at hem
    have q5 : (kd == 5) = false := by rw [beq_eq_false_iff_ne]; omega
    have q5' : (kd != 5) = true := by rw [bne_iff_ne]; omega
    have q6 : (kd == 6) = false := by rw [beq_eq_false_iff_ne]; omega
    have q6' : (kd != 6) = true := by rw [bne_iff_ne]; omega
    clear he1
    go_enter Tryz.func144, Tryz.ntmps144
    go_wp2_with fail
    refine (HP.out _ hb0).mono ?_
    rintro e w2 ⟨rfl, hb2⟩
    have c0 : w2.cell? ⟨w.heap.size, 0, none⟩ = some (.int .i64 kd) := box_cells hb2 0
    have c1 : w2.cell? ⟨w.heap.size, 1, none⟩ = some (.string pt) := box_cells hb2 1
    go_wp2_with fail
    go_ret
    exact ⟨ret_int HR.out.symm, step2 hb0 hb2⟩
  rw [if_neg he] at HR
  have HW : Hid ((pt.toList.isEmpty = false) ∨ (pt.toList.isEmpty = true ∧ kd = 5) ∨ (pt.toList.isEmpty = true ∧ kd = 6)) := by
    rw [Hid, hem]
    cases hx : pt.data.toList.isEmpty
    · exact .inl rfl
    · have : ¬ kd < 5 := fun h => he ⟨hx, h⟩
      rcases (show kd = 5 ∨ kd = 6 by omega) with h | h
      · exact .inr (.inl ⟨rfl, h⟩)
      · exact .inr (.inr ⟨rfl, h⟩)
  clear he hem
  rcases HW.out with he | ⟨he, h5⟩ | ⟨he, h5⟩
  case inr.inl =>
    have q5 : (kd == 5) = true := by rw [beq_iff_eq]; exact h5
    have q5' : (kd != 5) = false := by rw [bne_eq_false_iff_eq]; exact h5
    have H5 := Lib.hid h5; clear h5
    clear HW
    by_cases ha : ae = 0
    case neg =>
      rw [if_neg ha] at HR
      obtain ⟨q1, q2⟩ := neq0 ha
      have Ha := Lib.hid ha; clear ha
      go_enter Tryz.func144, Tryz.ntmps144
      go_wp2_with fail
      refine (HP.out _ hb0).mono ?_
      rintro e w2 ⟨rfl, hb2⟩
      have c0 := box_cells hb2 0
      have c1 := box_cells hb2 1
      have c2 := box_cells hb2 2
      simp only [List.getElem?_toArray, List.getElem?_cons_zero, List.getElem?_cons_succ] at c0 c1 c2
      have hb3 := step2 hb0 hb2
      clear hb2
      go_wp2_with fail
      refine (HA.out _ hb3).mono ?_
      rintro e w4 ⟨rfl, hb4⟩
      go_wp2_with fail
      go_ret
      exact ⟨ret_int HR.out.symm, step2 hb3 hb4⟩
    subst ha
    rw [if_pos rfl] at HR
    by_cases h3 : 0 < n ∧ 3 < kd
    · obtain ⟨h3, h4⟩ := h3
      rw [if_pos (.inl ⟨h3, h4⟩)] at HR
      go_enter Tryz.func144, Tryz.ntmps144
      go_wp2_with fail
      refine (HP.out _ hb0).mono ?_
      rintro e w2 ⟨rfl, hb2⟩
      have c0 := box_cells hb2 0
      have c1 := box_cells hb2 1
      have c2 := box_cells hb2 2
      simp only [List.getElem?_toArray, List.getElem?_cons_zero, List.getElem?_cons_succ] at c0 c1 c2
      have hb3 := step2 hb0 hb2
      have HB2 := Lib.hid hb2
      clear hb2
      go_wp2_with fail
      refine (HA.out _ hb3).mono ?_
      rintro e w4 ⟨rfl, hb4⟩
      have d0 := box_cells (step2 HB2.out hb4) 0
      have d2 := box_cells (step2 HB2.out hb4) 2
      simp only [List.getElem?_toArray, List.getElem?_cons_zero, List.getElem?_cons_succ] at d0 d2
      go_wp2_with fail
      go_ret
      exact ⟨ret_int HR.out.symm, step2 hb3 hb4⟩
    have HN : Hid (n = 0 ∨ (0 < n ∧ kd ≤ 3)) := by rw [Hid]; omega
    cases tb
    all_goals
      rcases HN.out with rfl | ⟨hn0, hk3⟩
      all_goals
        first | rw [if_pos (.inr rfl)] at HR | rw [if_neg (by rintro (h | h); exact h3 h; cases h)] at HR
        clear h3 HN
        go_enter Tryz.func144, Tryz.ntmps144
        go_wp2_with fail
        refine (HP.out _ hb0).mono ?_
        rintro e w2 ⟨rfl, hb2⟩
        have c0 := box_cells hb2 0
        have c1 := box_cells hb2 1
        have c2 := box_cells hb2 2
        simp only [List.getElem?_toArray, List.getElem?_cons_zero, List.getElem?_cons_succ] at c0 c1 c2
        have hb3 := step2 hb0 hb2
        have HB2 := Lib.hid hb2
        clear hb2
        go_wp2_with fail
        refine (HA.out _ hb3).mono ?_
        rintro e w4 ⟨rfl, hb4⟩
        have HB4 := Lib.hid (step2 HB2.out hb4)
        have hb5 := step2 hb3 hb4
        clear c0 c1 c2 hb4 hb3 HB2
        have d0 := box_cells HB4.out 0
        have d1 := box_cells HB4.out 1
        have d2 := box_cells HB4.out 2
        have d3 := box_cells HB4.out 3
        have d4 := box_cells HB4.out 4
        have d5 := box_cells HB4.out 5
        have d6 := box_cells HB4.out 6
        simp only [List.getElem?_toArray, List.getElem?_cons_zero, List.getElem?_cons_succ] at d0 d1 d2 d3 d4 d5 d6
        go_wp2_with fail
        refine (HT.out _ hb5).mono ?_
        rintro e w6 ⟨rfl, hb6⟩
        have HB6 := Lib.hid (step2 HB4.out hb6)
        have hb7 := step2 hb5 hb6
        clear d0 d1 d2 d3 d4 d5 d6 hb6 hb5 HB4
        have e0 := box_cells HB6.out 0
        have e1 := box_cells HB6.out 1
        have e2 := box_cells HB6.out 2
        have e3 := box_cells HB6.out 3
        have e4 := box_cells HB6.out 4
        have e5 := box_cells HB6.out 5
        have e6 := box_cells HB6.out 6
        simp only [List.getElem?_toArray, List.getElem?_cons_zero, List.getElem?_cons_succ] at e0 e1 e2 e3 e4 e5 e6
        go_wp2_with fail
        first
          | (go_ret
             exact ⟨ret_int HR.out.symm, hb7⟩)
          | (refine (HC.out _ hb7).mono ?_
             rintro e w8 ⟨rfl, hb8⟩
             go_wp2_with fail
             go_ret
             exact ⟨ret_int HR.out.symm, step2 hb7 hb8⟩)
  case inr.inr =>
    have q5 : (kd == 5) = false := by rw [beq_eq_false_iff_ne]; omega
    have q5' : (kd != 5) = true := by rw [bne_iff_ne]; omega
    have q6 : (kd == 6) = true := by rw [beq_iff_eq]; exact h5
    have q6' : (kd != 6) = false := by rw [bne_eq_false_iff_eq]; exact h5
    have H5 := Lib.hid h5; clear h5
    clear HW
    by_cases ha : ae = 0
    case neg =>
      rw [if_neg ha] at HR
      obtain ⟨q1, q2⟩ := neq0 ha
      have Ha := Lib.hid ha; clear ha
      go_enter Tryz.func144, Tryz.ntmps144
      go_wp2_with fail
      refine (HP.out _ hb0).mono ?_
      rintro e w2 ⟨rfl, hb2⟩
      have c0 := box_cells hb2 0
      have c1 := box_cells hb2 1
      have c2 := box_cells hb2 2
      simp only [List.getElem?_toArray, List.getElem?_cons_zero, List.getElem?_cons_succ] at c0 c1 c2
      have hb3 := step2 hb0 hb2
      clear hb2
      go_wp2_with fail
      refine (HA.out _ hb3).mono ?_
      rintro e w4 ⟨rfl, hb4⟩
      go_wp2_with fail
      go_ret
      exact ⟨ret_int HR.out.symm, step2 hb3 hb4⟩
    subst ha
    rw [if_pos rfl] at HR
    by_cases h3 : 0 < n ∧ 3 < kd
    · obtain ⟨h3, h4⟩ := h3
      rw [if_pos (.inl ⟨h3, h4⟩)] at HR
      go_enter Tryz.func144, Tryz.ntmps144
      go_wp2_with fail
      refine (HP.out _ hb0).mono ?_
      rintro e w2 ⟨rfl, hb2⟩
      have c0 := box_cells hb2 0
      have c1 := box_cells hb2 1
      have c2 := box_cells hb2 2
      simp only [List.getElem?_toArray, List.getElem?_cons_zero, List.getElem?_cons_succ] at c0 c1 c2
      have hb3 := step2 hb0 hb2
      have HB2 := Lib.hid hb2
      clear hb2
      go_wp2_with fail
      refine (HA.out _ hb3).mono ?_
      rintro e w4 ⟨rfl, hb4⟩
      have d0 := box_cells (step2 HB2.out hb4) 0
      have d2 := box_cells (step2 HB2.out hb4) 2
      simp only [List.getElem?_toArray, List.getElem?_cons_zero, List.getElem?_cons_succ] at d0 d2
      go_wp2_with fail
      go_ret
      exact ⟨ret_int HR.out.symm, step2 hb3 hb4⟩
    have HN : Hid (n = 0 ∨ (0 < n ∧ kd ≤ 3)) := by rw [Hid]; omega
    cases tb
    all_goals
      rcases HN.out with rfl | ⟨hn0, hk3⟩
      all_goals
        first | rw [if_pos (.inr rfl)] at HR | rw [if_neg (by rintro (h | h); exact h3 h; cases h)] at HR
        clear h3 HN
        go_enter Tryz.func144, Tryz.ntmps144
        go_wp2_with fail
        refine (HP.out _ hb0).mono ?_
        rintro e w2 ⟨rfl, hb2⟩
        have c0 := box_cells hb2 0
        have c1 := box_cells hb2 1
        have c2 := box_cells hb2 2
        simp only [List.getElem?_toArray, List.getElem?_cons_zero, List.getElem?_cons_succ] at c0 c1 c2
        have hb3 := step2 hb0 hb2
        have HB2 := Lib.hid hb2
        clear hb2
        go_wp2_with fail
        refine (HA.out _ hb3).mono ?_
        rintro e w4 ⟨rfl, hb4⟩
        have HB4 := Lib.hid (step2 HB2.out hb4)
        have hb5 := step2 hb3 hb4
        clear c0 c1 c2 hb4 hb3 HB2
        have d0 := box_cells HB4.out 0
        have d1 := box_cells HB4.out 1
        have d2 := box_cells HB4.out 2
        have d3 := box_cells HB4.out 3
        have d4 := box_cells HB4.out 4
        have d5 := box_cells HB4.out 5
        have d6 := box_cells HB4.out 6
        simp only [List.getElem?_toArray, List.getElem?_cons_zero, List.getElem?_cons_succ] at d0 d1 d2 d3 d4 d5 d6
        go_wp2_with fail
        refine (HT.out _ hb5).mono ?_
        rintro e w6 ⟨rfl, hb6⟩
        have HB6 := Lib.hid (step2 HB4.out hb6)
        have hb7 := step2 hb5 hb6
        clear d0 d1 d2 d3 d4 d5 d6 hb6 hb5 HB4
        have e0 := box_cells HB6.out 0
        have e1 := box_cells HB6.out 1
        have e2 := box_cells HB6.out 2
        have e3 := box_cells HB6.out 3
        have e4 := box_cells HB6.out 4
        have e5 := box_cells HB6.out 5
        have e6 := box_cells HB6.out 6
        simp only [List.getElem?_toArray, List.getElem?_cons_zero, List.getElem?_cons_succ] at e0 e1 e2 e3 e4 e5 e6
        go_wp2_with fail
        first
          | (go_ret
             exact ⟨ret_int HR.out.symm, hb7⟩)
          | (refine (HC.out _ hb7).mono ?_
             rintro e w8 ⟨rfl, hb8⟩
             go_wp2_with fail
             go_ret
             exact ⟨ret_int HR.out.symm, step2 hb7 hb8⟩)
  case inl =>
    clear HW
    by_cases ha : ae = 0
    case neg =>
      rw [if_neg ha] at HR
      obtain ⟨q1, q2⟩ := neq0 ha
      have Ha := Lib.hid ha; clear ha
      go_enter Tryz.func144, Tryz.ntmps144
      go_wp2_with fail
      refine (HP.out _ hb0).mono ?_
      rintro e w2 ⟨rfl, hb2⟩
      have c0 := box_cells hb2 0
      have c1 := box_cells hb2 1
      have c2 := box_cells hb2 2
      simp only [List.getElem?_toArray, List.getElem?_cons_zero, List.getElem?_cons_succ] at c0 c1 c2
      have hb3 := step2 hb0 hb2
      clear hb2
      go_wp2_with fail
      refine (HA.out _ hb3).mono ?_
      rintro e w4 ⟨rfl, hb4⟩
      go_wp2_with fail
      go_ret
      exact ⟨ret_int HR.out.symm, step2 hb3 hb4⟩
    subst ha
    rw [if_pos rfl] at HR
    by_cases h3 : 0 < n ∧ 3 < kd
    · obtain ⟨h3, h4⟩ := h3
      rw [if_pos (.inl ⟨h3, h4⟩)] at HR
      go_enter Tryz.func144, Tryz.ntmps144
      go_wp2_with fail
      refine (HP.out _ hb0).mono ?_
      rintro e w2 ⟨rfl, hb2⟩
      have c0 := box_cells hb2 0
      have c1 := box_cells hb2 1
      have c2 := box_cells hb2 2
      simp only [List.getElem?_toArray, List.getElem?_cons_zero, List.getElem?_cons_succ] at c0 c1 c2
      have hb3 := step2 hb0 hb2
      have HB2 := Lib.hid hb2
      clear hb2
      go_wp2_with fail
      refine (HA.out _ hb3).mono ?_
      rintro e w4 ⟨rfl, hb4⟩
      have d0 := box_cells (step2 HB2.out hb4) 0
      have d2 := box_cells (step2 HB2.out hb4) 2
      simp only [List.getElem?_toArray, List.getElem?_cons_zero, List.getElem?_cons_succ] at d0 d2
      go_wp2_with fail
      go_ret
      exact ⟨ret_int HR.out.symm, step2 hb3 hb4⟩
    have HN : Hid (n = 0 ∨ (0 < n ∧ kd ≤ 3)) := by rw [Hid]; omega
    cases tb
    all_goals
      rcases HN.out with rfl | ⟨hn0, hk3⟩
      all_goals
        first | rw [if_pos (.inr rfl)] at HR | rw [if_neg (by rintro (h | h); exact h3 h; cases h)] at HR
        clear h3 HN
        go_enter Tryz.func144, Tryz.ntmps144
        go_wp2_with fail
        refine (HP.out _ hb0).mono ?_
        rintro e w2 ⟨rfl, hb2⟩
        have c0 := box_cells hb2 0
        have c1 := box_cells hb2 1
        have c2 := box_cells hb2 2
        simp only [List.getElem?_toArray, List.getElem?_cons_zero, List.getElem?_cons_succ] at c0 c1 c2
        have hb3 := step2 hb0 hb2
        have HB2 := Lib.hid hb2
        clear hb2
        go_wp2_with fail
        refine (HA.out _ hb3).mono ?_
        rintro e w4 ⟨rfl, hb4⟩
        have HB4 := Lib.hid (step2 HB2.out hb4)
        have hb5 := step2 hb3 hb4
        clear c0 c1 c2 hb4 hb3 HB2
        have d0 := box_cells HB4.out 0
        have d1 := box_cells HB4.out 1
        have d2 := box_cells HB4.out 2
        have d3 := box_cells HB4.out 3
        have d4 := box_cells HB4.out 4
        have d5 := box_cells HB4.out 5
        have d6 := box_cells HB4.out 6
        simp only [List.getElem?_toArray, List.getElem?_cons_zero, List.getElem?_cons_succ] at d0 d1 d2 d3 d4 d5 d6
        go_wp2_with fail
        refine (HT.out _ hb5).mono ?_
        rintro e w6 ⟨rfl, hb6⟩
        have HB6 := Lib.hid (step2 HB4.out hb6)
        have hb7 := step2 hb5 hb6
        clear d0 d1 d2 d3 d4 d5 d6 hb6 hb5 HB4
        have e0 := box_cells HB6.out 0
        have e1 := box_cells HB6.out 1
        have e2 := box_cells HB6.out 2
        have e3 := box_cells HB6.out 3
        have e4 := box_cells HB6.out 4
        have e5 := box_cells HB6.out 5
        have e6 := box_cells HB6.out 6
        simp only [List.getElem?_toArray, List.getElem?_cons_zero, List.getElem?_cons_succ] at e0 e1 e2 e3 e4 e5 e6
        go_wp2_with fail
        first
          | (go_ret
             exact ⟨ret_int HR.out.symm, hb7⟩)
          | (refine (HC.out _ hb7).mono ?_
             rintro e w8 ⟨rfl, hb8⟩
             go_wp2_with fail
             go_ret
             exact ⟨ret_int HR.out.symm, step2 hb7 hb8⟩)
theorem check_any (e : En) (va vx : Value) (w : World) (he : Env w) (hm : HasMax w) (ha : AtRow w va e.attrs) (hx : ExRow w vx e.exts) (hok : EnOk e) :
    Calls Tryz.prog 144 #[.agg #[.int .i64 e.kind, .string e.path, va, .string e.target, .int .i64 e.size, .string e.digest, vx]] w (IntP (chkE e) w) := by
  obtain ⟨xa, xc, rfl⟩ := ha.form
  rw [chkE_parts]
  exact check_walk e.kind e.path e.target e.digest e.size xa e.attrs.length xc vx w _ _ _ _ hok.attrs.1
    (fun W hW => pathCheck_any e.path W (hm.below hW) hok.path)
    (fun W hW => attrCheck_any _ e.attrs W (ha.below hW) hok.attrs.2)
    (fun W hW => target_any e.kind e.path e.target e.digest e.size _ vx W (he.below hW) hok.target)
    (fun W hW => content_any e.kind e.path e.target e.digest e.size _ vx e.exts W (hx.below hW) hok.exts.2 hok.exts.1 hok.digest)
end Go.Proofs.YtpkapcijgldhhaaGreatDoor
