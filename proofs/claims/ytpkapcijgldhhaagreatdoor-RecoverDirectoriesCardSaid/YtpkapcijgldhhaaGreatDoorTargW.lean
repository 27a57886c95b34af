/-
  The walks of names of kinds and of targets.
-/
import Derived.Test.YtpkapcijgldhhaaGreatDoorDateW
namespace Go.Proofs.YtpkapcijgldhhaaGreatDoor
open Go.RowKit Go.Shelf

theorem refName_any (k : Int) (w : World) : Calls Tryz.prog 129 #[.int .i64 k] w (StrS (nameL k) w) := by
  by_cases h : 1 ≤ k ∧ k ≤ 6
  · have : k = 1 ∨ k = 2 ∨ k = 3 ∨ k = 4 ∨ k = 5 ∨ k = 6 := by omega
    rcases this with rfl | rfl | rfl | rfl | rfl | rfl
    all_goals
      clear h
      go_enter Tryz.func129, Tryz.ntmps129
      go_wp2_with fail
      go_ret
      exact ⟨_, rfl, rfl, rfl⟩
  · have HN : Hid (nameL k = []) := by
      rw [Hid, nameL, if_neg (by omega), if_neg (by omega), if_neg (by omega), if_neg (by omega), if_neg (by omega), if_neg (by omega)]
    have q1 : (k == 1) = false := by simp; omega
    have q2 : (k == 2) = false := by simp; omega
    have q3 : (k == 3) = false := by simp; omega
    have q4 : (k == 4) = false := by simp; omega
    have q5 : (k == 5) = false := by simp; omega
    have q6 : (k == 6) = false := by simp; omega
    clear h
    go_enter Tryz.func129, Tryz.ntmps129
    go_wp2_with fail
    go_ret
    exact ⟨_, rfl, HN.out.symm, rfl⟩
theorem isEmpty_size (s : ByteArray) : s.data.toList.isEmpty = decide (s.size = 0) := by
  rw [Bool.eq_iff_iff, List.isEmpty_iff, decide_eq_true_eq]
  exact ⟨fun h => by rw [← toList_size, h]; rfl, fun h => List.eq_nil_of_length_eq_zero h⟩
set_option maxHeartbeats 1000000 in
theorem target_any (kd : Int) (pt tg dg : ByteArray) (sz : Int) (va vx : Value) (w : World) (he : Env w) (hs : tg.size ≤ 1000000) :
    Calls Tryz.prog 184 #[.agg #[.int .i64 kd, .string pt, va, .string tg, .int .i64 sz, .string dg, vx]] w (BoolP (targetB kd tg.data.toList) w) := by
  have hb0 : Below w.heap.size w (w.alloc (.cells #[.int .i64 kd, .string pt, va, .string tg, .int .i64 sz, .string dg, vx] 109)) := (below_refl _).alloc (Nat.le_refl _) _
  by_cases h3 : kd = 3
  · subst h3
    have HT : Hid (targetB 3 tg.data.toList = (decide (1 ≤ tg.size) && decide (tg.size ≤ 200))) := rfl
    by_cases h0 : tg.size = 0
    · have HR : Hid (targetB 3 tg.data.toList = false) := by rw [Hid, HT.out, decide_eq_false (show ¬ 1 ≤ tg.size by omega)]; rfl
      have he0 : tg.toList.isEmpty = true := by rw [isEmpty_list, isEmpty_size]; exact decide_eq_true h0
      clear HT h0
      go_enter Tryz.func184, Tryz.ntmps184
      go_wp2_with fail
      go_ret
      exact ⟨ret_bool HR.out.symm, hb0⟩
    · have he0 : tg.toList.isEmpty = false := by rw [isEmpty_list, isEmpty_size]; exact decide_eq_false h0
      have HR : Hid (targetB 3 tg.data.toList = decide ((tg.size : Int) ≤ 200)) := by
        rw [Hid, HT.out, decide_eq_true (show 1 ≤ tg.size by omega), Bool.true_and, decide_eq_decide]; omega
      clear HT h0
      go_enter Tryz.func184, Tryz.ntmps184
      go_wp2_with fail
      go_ret
      exact ⟨ret_bool HR.out.symm, hb0⟩
  have q3 : (kd == 3) = false := by simpa using h3
  by_cases h5 : kd = 5
  · subst h5
    have HT : Hid (targetB 5 tg.data.toList = dateB tg.data.toList) := rfl
    have HD := Lib.hid (fun w he => isDate_any tg w he hs)
    have HE := Lib.hid (he.below hb0)
    rw [← HT.out] at HD
    generalize targetB 5 tg.data.toList = r at *
    clear HT he h3
    go_enter Tryz.func184, Tryz.ntmps184
    go_wp2_with fail
    refine (HD.out _ HE.out).mono ?_
    rintro e w1 ⟨rfl, hb⟩
    go_wp2_with fail
    go_ret
    exact ⟨rfl, step2 hb0 hb⟩
  have q5 : (kd == 5) = false := by simpa using h5
  have HT : Hid (targetB kd tg.data.toList = tg.toList.isEmpty) := by rw [Hid, targetB, if_neg h3, if_neg h5, isEmpty_list]
  clear h3 h5
  go_enter Tryz.func184, Tryz.ntmps184
  go_wp2_with fail
  go_ret
  exact ⟨ret_bool HT.out.symm, hb0⟩
set_option maxHeartbeats 1000000 in
theorem refTarget_any (kd : Int) (pt tg dg : ByteArray) (sz : Int) (va vx : Value) (w : World) (hs : tg.size ≤ 1000000) :
    Calls Tryz.prog 132 #[.agg #[.int .i64 kd, .string pt, va, .string tg, .int .i64 sz, .string dg, vx]] w (BoolP (targetB kd tg.data.toList) w) := by
  have hb0 : Below w.heap.size w (w.alloc (.cells #[.int .i64 kd, .string pt, va, .string tg, .int .i64 sz, .string dg, vx] 109)) := (below_refl _).alloc (Nat.le_refl _) _
  by_cases h3 : kd = 3
  · subst h3
    have HT : Hid (targetB 3 tg.data.toList = (decide (1 ≤ tg.size) && decide (tg.size ≤ 200))) := rfl
    by_cases h0 : tg.size < 1
    · have HR : Hid (targetB 3 tg.data.toList = false) := by rw [Hid, HT.out, decide_eq_false (show ¬ 1 ≤ tg.size by omega)]; rfl
      clear HT
      go_enter Tryz.func132, Tryz.ntmps132
      go_wp2_with fail
      go_ret
      exact ⟨ret_bool HR.out.symm, hb0⟩
    · have HR : Hid (targetB 3 tg.data.toList = decide ((tg.size : Int) ≤ 200)) := by
        rw [Hid, HT.out, decide_eq_true (show 1 ≤ tg.size by omega), Bool.true_and, decide_eq_decide]; omega
      clear HT
      go_enter Tryz.func132, Tryz.ntmps132
      go_wp2_with fail
      go_ret
      exact ⟨ret_bool HR.out.symm, hb0⟩
  have q3 : (kd == 3) = false := by simpa using h3
  by_cases h5 : kd = 5
  · subst h5
    have HT : Hid (targetB 5 tg.data.toList = dateB tg.data.toList) := rfl
    have HD := Lib.hid (fun w => refDate_any tg w hs)
    rw [← HT.out] at HD
    generalize targetB 5 tg.data.toList = r at *
    clear HT h3
    go_enter Tryz.func132, Tryz.ntmps132
    go_wp2_with fail
    refine (HD.out _).mono ?_
    rintro e w1 ⟨n, rfl, rfl⟩
    go_wp2_with fail
    go_ret
    exact ⟨rfl, hb0⟩
  have q5 : (kd == 5) = false := by simpa using h5
  have HT : Hid (targetB kd tg.data.toList = tg.toList.isEmpty) := by rw [Hid, targetB, if_neg h3, if_neg h5, isEmpty_list]
  clear h3 h5
  go_enter Tryz.func132, Tryz.ntmps132
  go_wp2_with fail
  go_ret
  exact ⟨ret_bool HT.out.symm, hb0⟩
end Go.Proofs.YtpkapcijgldhhaaGreatDoor
