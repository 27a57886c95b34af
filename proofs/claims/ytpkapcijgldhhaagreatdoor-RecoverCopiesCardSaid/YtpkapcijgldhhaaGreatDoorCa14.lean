/-
  The walks of dates, names of kinds and targets.
  The walks of names of kinds and of targets.
-/
import Derived.Test.YtpkapcijgldhhaaGreatDoorCa09
import Derived.Test.YtpkapcijgldhhaaGreatDoorCa10
namespace Go.Proofs.YtpkapcijgldhhaaGreatDoor
open Go.RowKit Go.Shelf

theorem dateB_iff (l : List UInt8) : dateB l = true ↔ ∃ v : Int, Lib.atoiAll l = .ok v ∧ 0 ≤ v ∧ v ≤ 1000000000 ∧ Lib.itoa v = l := by
  unfold dateB
  simp only [Bool.and_eq_true, Bool.or_eq_true, decide_eq_true_eq]
  constructor
  · rintro ⟨⟨⟨⟨h1, h2⟩, h3⟩, h4⟩, h5⟩
    have h45 : l.head? ≠ some 45 := by
      intro e
      match l, h4, e with
      | c :: r, h4, e =>
        simp only [List.head?_cons, Option.some.injEq] at e
        subst e
        simp [isDig] at h4
    have hd : decB l = true := by
      rw [← natOk_pos h45, natOk_iff]
      exact ⟨by intro e; rw [e] at h1; exact absurd h1 (by decide), h4, h3⟩
    have hv := pos_dec h45
    have hi := itoa_val hd
    rcases atoi_dec hd with ⟨_, _, h⟩ | ⟨h, _⟩
    · exact ⟨_, h, by omega, by omega, hi⟩
    · omega
  · rintro ⟨v, h1, h2, h3, h4⟩
    obtain ⟨n, rfl⟩ := Int.eq_ofNat_of_zero_le h2
    have hn : n ≤ 1000000000 := by omega
    rw [Lib.itoa, if_neg (by omega), Int.toNat_natCast] at h4
    subst h4
    obtain ⟨f1, f2, f3, f4⟩ := dd_facts n
    refine ⟨⟨⟨⟨List.length_pos_iff.2 f3, decDigits_len 9 n (by omega)⟩, ?_⟩, f1⟩, by rw [f2]; exact hn⟩
    by_cases h0 : n = 0
    · left; subst h0; rw [dd_zero]; decide
    · right; exact f4 (by omega)
theorem atoi_bad (s : ByteArray) (w : World) (he : Env w) (hs : s.size ≤ 140737488355328) (h : ∀ v, Lib.atoiAll s.data.toList ≠ .ok v) :
    Calls Tryz.prog 140 #[.string s] w fun e w' => ∃ (n : Int) (N : Nat), e = .returned (.tuple #[.int .i64 n, .iface 248 (.pointer (some ⟨N, 0, none⟩))]) ∧ Below w.heap.size w w' := by
  cases hc : Lib.atoiAll s.data.toList with
  | ok v => exact absurd hc (h v)
  | range =>
    obtain ⟨tp, p, hp⟩ := he.rng
    refine (Tryz.strconv_Atoi_range_var s (by omega) hc tp p w hp).mono ?_
    rintro e w' ⟨N, rfl, _, _, hb⟩
    exact ⟨_, N, rfl, hb⟩
  | _ =>
    obtain ⟨tp, p, hp⟩ := he.syn
    refine (Any.strconv_Atoi_syntax_var Tryz.laysC172 s (by omega) hc tp p w hp).mono ?_
    rintro e w' ⟨N, rfl, _, _, hb⟩
    exact ⟨_, N, rfl, hb⟩
set_option maxHeartbeats 1000000 in
theorem isDate_any (s : ByteArray) (w : World) (he : Env w) (hs : s.size ≤ 1000000) : Calls Tryz.prog 216 #[.string s] w (BoolP (dateB s.data.toList) w) := by
  have HI := Lib.hid (dateB_iff s.data.toList)
  by_cases hx : ∃ v, Lib.atoiAll s.data.toList = .ok v
  · obtain ⟨v, hv⟩ := hx
    have HA := Lib.hid (fun w => Tryz.strconv_Atoi_ok s (by omega) v hv w)
    have HF := Lib.hid (show (v < 0 ∨ 1000000000 < v) → dateB s.data.toList = false from fun h => by
      cases hd : dateB s.data.toList
      · rfl
      · obtain ⟨u, h1, h2, h3, _⟩ := HI.out.1 hd
        rw [hv] at h1
        cases h1
        omega)
    have HG := Lib.hid (show 0 ≤ v → v ≤ 1000000000 → decide (Lib.itoa v = s.data.toList) = dateB s.data.toList from fun h1 h2 => by
      rw [Bool.eq_iff_iff, decide_eq_true_eq, HI.out]
      constructor
      · intro h; exact ⟨v, hv, h1, h2, h⟩
      · rintro ⟨u, g1, _, _, g4⟩
        rw [hv] at g1
        cases g1; exact g4)
    have HV := Lib.hid hv
    clear hv HI
    generalize dateB s.data.toList = r at *
    by_cases h1 : v < 0
    · have HR := Lib.hid (HF.out (.inl h1))
      clear HF HG
      go_enter Tryz.func216, Tryz.ntmps216
      go_wp2_with fail
      refine (HA.out _).mono ?_
      rintro e w1 ⟨rfl, hw1⟩
      have hb : Below w.heap.size w w1 := by
        rcases hw1 with rfl | ⟨t, rfl⟩
        · exact below_refl _
        · exact below_bytes _ _ _
      clear hw1
      go_wp2_with fail
      go_ret
      exact ⟨ret_bool HR.out.symm, hb⟩
    by_cases h2 : 1000000000 < v
    · have HR := Lib.hid (HF.out (.inr h2))
      clear HF HG
      go_enter Tryz.func216, Tryz.ntmps216
      go_wp2_with fail
      refine (HA.out _).mono ?_
      rintro e w1 ⟨rfl, hw1⟩
      have hb : Below w.heap.size w w1 := by
        rcases hw1 with rfl | ⟨t, rfl⟩
        · exact below_refl _
        · exact below_bytes _ _ _
      clear hw1
      go_wp2_with fail
      go_ret
      exact ⟨ret_bool HR.out.symm, hb⟩
    have HR := Lib.hid (HG.out (by omega) (by omega))
    have HE := Lib.hid he
    clear HF HG he
    go_enter Tryz.func216, Tryz.ntmps216
    go_wp2_with fail
    refine (HA.out _).mono ?_
    rintro e w1 ⟨rfl, hw1⟩
    have hb : Below w.heap.size w w1 := by
      rcases hw1 with rfl | ⟨t, rfl⟩
      · exact below_refl _
      · exact below_bytes _ _ _
    clear hw1
    go_wp2_with fail
    refine (itoa_any v _ (HE.out.below hb) (by omega) (by omega)).mono ?_
    rintro e w2 ⟨t, rfl, ht, hb2⟩
    have HT : Hid ((t.toList == s.toList) = r) := by rw [Hid, str_eq, ht.out]; exact HR.out
    go_wp2_with fail
    go_ret
    exact ⟨ret_bool HT.out, step2 hb hb2⟩
  · have hx' : ∀ v, Lib.atoiAll s.data.toList ≠ .ok v := fun v e => hx ⟨v, e⟩
    have HR : Hid (dateB s.data.toList = false) := by
      rw [Hid]
      cases hd : dateB s.data.toList
      · rfl
      · obtain ⟨v, h, _⟩ := HI.out.1 hd; exact absurd h (hx' v)
    have HA := Lib.hid (atoi_bad s w he (by omega) hx')
    clear hx hx' HI
    go_enter Tryz.func216, Tryz.ntmps216
    go_wp2_with fail
    refine HA.out.mono ?_
    rintro e w1 ⟨n, N, rfl, hb⟩
    go_wp2_with fail
    go_ret
    exact ⟨ret_bool HR.out.symm, hb⟩
def DateP (b : Bool) (w : World) (e : Ending) (w' : World) : Prop := ∃ n : Int, e = .returned (.tuple #[.int .i64 n, .bool b]) ∧ w = w'
theorem val_lt : ∀ l : List UInt8, l.all isDig = true → val l < 10 ^ l.length := by
  suffices h : ∀ n, ∀ l : List UInt8, l.length = n → l.all isDig = true → val l < 10 ^ l.length from fun l => h _ l rfl
  intro n
  induction n with
  | zero => intro l h _; rw [List.eq_nil_of_length_eq_zero h]; decide
  | succ n ih =>
    intro l h hd
    rcases List.eq_nil_or_concat l with rfl | ⟨l', c, rfl⟩
    · cases h
    rw [List.concat_eq_append] at *
    rw [List.all_append, Bool.and_eq_true] at hd
    have h1 := ih l' (by simpa using h) hd.1
    have h2 : val (l' ++ [c]) = 10 * val l' + (c.toNat - 48) := valFrom_snoc l' c 0
    have h3 := hd.2
    simp only [List.all_cons, List.all_nil, Bool.and_true, isDig, decide_eq_true_eq] at h3
    rw [h2, List.length_append, List.length_singleton, Nat.pow_succ]
    omega
theorem val_snoc (s : ByteArray) (k : Nat) (h : k < s.size) : val (s.data.toList.take (k + 1)) = 10 * val (s.data.toList.take k) + (s[k].toNat - 48) := by
  rw [take_snoc s k h]; exact valFrom_snoc _ _ 0
theorem dig_take (s : ByteArray) (k : Nat) (h : k < s.size) : (s.data.toList.take (k + 1)).all isDig = ((s.data.toList.take k).all isDig && isDig s[k]) := by
  rw [take_snoc s k h, List.all_append]; simp
theorem dig_hit (s : ByteArray) (k : Nat) (h : k < s.size) (hb : ¬ (48 ≤ s[k].toNat ∧ s[k].toNat ≤ 57)) : s.data.toList.all isDig = false := by
  rw [List.all_eq_false]
  exact ⟨s[k], List.mem_of_getElem? (get_list s k h), by simpa [isDig] using hb⟩
theorem dateB_of (s : ByteArray) : dateB s.data.toList = (decide (1 ≤ s.size) && decide (s.size ≤ 10) && (decide (s.size ≤ 1) || decide (s.data.toList.head? ≠ some 48)) && s.data.toList.all isDig && decide (val s.data.toList ≤ 1000000000)) := rfl
end Go.Proofs.YtpkapcijgldhhaaGreatDoor

namespace Go.Proofs.YtpkapcijgldhhaaGreatDoor
open Go.RowKit Go.Shelf

theorem refName_any (k : Int) (w : World) : Calls Tryz.prog 129 #[.int .i64 k] w (StrS (nameL k) w) := by
  by_cases h : 1 ≤ k ∧ k ≤ 6
  · have : k = 1 ∨ k = 2 ∨ k = 3 ∨ k = 4 ∨ k = 5 ∨ k = 6 := by omega
    rcases this with rfl | rfl | rfl | rfl | rfl | rfl
    all_goals
      clear h
      go_enter Tryz.func129, Tryz.ntmps129
      go_wp2_with fail
      go_ret
      exact ⟨_, rfl, rfl, rfl⟩
  · have HN : Hid (nameL k = []) := by
      rw [Hid, nameL, if_neg (by omega), if_neg (by omega), if_neg (by omega), if_neg (by omega), if_neg (by omega), if_neg (by omega)]
    have q1 : (k == 1) = false := by simp; omega
    have q2 : (k == 2) = false := by simp; omega
    have q3 : (k == 3) = false := by simp; omega
    have q4 : (k == 4) = false := by simp; omega
    have q5 : (k == 5) = false := by simp; omega
    have q6 : (k == 6) = false := by simp; omega
    clear h
    go_enter Tryz.func129, Tryz.ntmps129
    go_wp2_with fail
    go_ret
    exact ⟨_, rfl, HN.out.symm, rfl⟩
theorem isEmpty_size (s : ByteArray) : s.data.toList.isEmpty = decide (s.size = 0) := by
  rw [Bool.eq_iff_iff, List.isEmpty_iff, decide_eq_true_eq]
  exact ⟨fun h => by rw [← toList_size, h]; rfl, fun h => List.eq_nil_of_length_eq_zero h⟩
set_option maxHeartbeats 1000000 in
theorem target_any (kd : Int) (pt tg dg : ByteArray) (sz : Int) (va vx : Value) (w : World) (he : Env w) (hs : tg.size ≤ 1000000) :
    Calls Tryz.prog 184 #[.agg #[.int .i64 kd, .string pt, va, .string tg, .int .i64 sz, .string dg, vx]] w (BoolP (targetB kd tg.data.toList) w) := by
  have hb0 : Below w.heap.size w (w.alloc (.cells #[.int .i64 kd, .string pt, va, .string tg, .int .i64 sz, .string dg, vx] 109)) := (below_refl _).alloc (Nat.le_refl _) _
  by_cases h3 : kd = 3
  · subst h3
    have HT : Hid (targetB 3 tg.data.toList = (decide (1 ≤ tg.size) && decide (tg.size ≤ 200))) := rfl
    by_cases h0 : tg.size = 0
    · have HR : Hid (targetB 3 tg.data.toList = false) := by rw [Hid, HT.out, decide_eq_false (show ¬ 1 ≤ tg.size by omega)]; rfl
      have he0 : tg.toList.isEmpty = true := by rw [isEmpty_list, isEmpty_size]; exact decide_eq_true h0
      clear HT h0
      go_enter Tryz.func184, Tryz.ntmps184
      go_wp2_with fail
      go_ret
      exact ⟨ret_bool HR.out.symm, hb0⟩
    · have he0 : tg.toList.isEmpty = false := by rw [isEmpty_list, isEmpty_size]; exact decide_eq_false h0
      have HR : Hid (targetB 3 tg.data.toList = decide ((tg.size : Int) ≤ 200)) := by
        rw [Hid, HT.out, decide_eq_true (show 1 ≤ tg.size by omega), Bool.true_and, decide_eq_decide]; omega
      clear HT h0
      go_enter Tryz.func184, Tryz.ntmps184
      go_wp2_with fail
      go_ret
      exact ⟨ret_bool HR.out.symm, hb0⟩
  have q3 : (kd == 3) = false := by simpa using h3
  by_cases h5 : kd = 5
  · subst h5
    have HT : Hid (targetB 5 tg.data.toList = dateB tg.data.toList) := rfl
    have HD := Lib.hid (fun w he => isDate_any tg w he hs)
    have HE := Lib.hid (he.below hb0)
    rw [← HT.out] at HD
    generalize targetB 5 tg.data.toList = r at *
    clear HT he h3
    go_enter Tryz.func184, Tryz.ntmps184
    go_wp2_with fail
    refine (HD.out _ HE.out).mono ?_
    rintro e w1 ⟨rfl, hb⟩
    go_wp2_with fail
    go_ret
    exact ⟨rfl, step2 hb0 hb⟩
  have q5 : (kd == 5) = false := by simpa using h5
  have HT : Hid (targetB kd tg.data.toList = tg.toList.isEmpty) := by rw [Hid, targetB, if_neg h3, if_neg h5, isEmpty_list]
  clear h3 h5
  go_enter Tryz.func184, Tryz.ntmps184
  go_wp2_with fail
  go_ret
  exact ⟨ret_bool HT.out.symm, hb0⟩
end Go.Proofs.YtpkapcijgldhhaaGreatDoor
