/-
  The walks of dates, names of kinds and targets.
-/
import Derived.Test.YtpkapcijgldhhaaGreatDoorMc
import Derived.Test.YtpkapcijgldhhaaGreatDoorEntLaw
namespace Go.Proofs.YtpkapcijgldhhaaGreatDoor
open Go.RowKit Go.Shelf

theorem dateB_iff (l : List UInt8) : dateB l = true ↔ ∃ v : Int, Lib.atoiAll l = .ok v ∧ 0 ≤ v ∧ v ≤ 1000000000 ∧ Lib.itoa v = l := by
  unfold dateB
  simp only [Bool.and_eq_true, Bool.or_eq_true, decide_eq_true_eq]
  constructor
  · rintro ⟨⟨⟨⟨h1, h2⟩, h3⟩, h4⟩, h5⟩
    have h45 : l.head? ≠ some 45 := by
      intro e
      match l, h4, e with
      | c :: r, h4, e =>
        simp only [List.head?_cons, Option.some.injEq] at e
        subst e
        simp [isDig] at h4
    have hd : decB l = true := by
      rw [← natOk_pos h45, natOk_iff]
      exact ⟨by intro e; rw [e] at h1; exact absurd h1 (by decide), h4, h3⟩
    have hv := pos_dec h45
    have hi := itoa_val hd
    rcases atoi_dec hd with ⟨_, _, h⟩ | ⟨h, _⟩
    · exact ⟨_, h, by omega, by omega, hi⟩
    · omega
  · rintro ⟨v, h1, h2, h3, h4⟩
    obtain ⟨n, rfl⟩ := Int.eq_ofNat_of_zero_le h2
    have hn : n ≤ 1000000000 := by omega
    rw [Lib.itoa, if_neg (by omega), Int.toNat_natCast] at h4
    subst h4
    obtain ⟨f1, f2, f3, f4⟩ := dd_facts n
    refine ⟨⟨⟨⟨List.length_pos_iff.2 f3, decDigits_len 9 n (by omega)⟩, ?_⟩, f1⟩, by rw [f2]; exact hn⟩
    by_cases h0 : n = 0
    · left; subst h0; rw [dd_zero]; decide
    · right; exact f4 (by omega)
theorem atoi_bad (s : ByteArray) (w : World) (he : Env w) (hs : s.size ≤ 140737488355328) (h : ∀ v, Lib.atoiAll s.data.toList ≠ .ok v) :
    Calls Tryz.prog 140 #[.string s] w fun e w' => ∃ (n : Int) (N : Nat), e = .returned (.tuple #[.int .i64 n, .iface 248 (.pointer (some ⟨N, 0, none⟩))]) ∧ Below w.heap.size w w' := by
  cases hc : Lib.atoiAll s.data.toList with
  | ok v => exact absurd hc (h v)
  | range =>
    obtain ⟨tp, p, hp⟩ := he.rng
    refine (Tryz.strconv_Atoi_range_var s (by omega) hc tp p w hp).mono ?_
    rintro e w' ⟨N, rfl, _, _, hb⟩
    exact ⟨_, N, rfl, hb⟩
  | _ =>
    obtain ⟨tp, p, hp⟩ := he.syn
    refine (Any.strconv_Atoi_syntax_var Tryz.laysC172 s (by omega) hc tp p w hp).mono ?_
    rintro e w' ⟨N, rfl, _, _, hb⟩
    exact ⟨_, N, rfl, hb⟩
set_option maxHeartbeats 1000000 in
theorem isDate_any (s : ByteArray) (w : World) (he : Env w) (hs : s.size ≤ 1000000) : Calls Tryz.prog 216 #[.string s] w (BoolP (dateB s.data.toList) w) := by
  have HI := Lib.hid (dateB_iff s.data.toList)
  by_cases hx : ∃ v, Lib.atoiAll s.data.toList = .ok v
  · obtain ⟨v, hv⟩ := hx
    have HA := Lib.hid (fun w => Tryz.strconv_Atoi_ok s (by omega) v hv w)
    have HF := Lib.hid (show (v < 0 ∨ 1000000000 < v) → dateB s.data.toList = false from fun h => by
      cases hd : dateB s.data.toList
      · rfl
      · obtain ⟨u, h1, h2, h3, _⟩ := HI.out.1 hd
        rw [hv] at h1
        cases h1
        omega)
    have HG := Lib.hid (show 0 ≤ v → v ≤ 1000000000 → decide (Lib.itoa v = s.data.toList) = dateB s.data.toList from fun h1 h2 => by
      rw [Bool.eq_iff_iff, decide_eq_true_eq, HI.out]
      constructor
      · intro h; exact ⟨v, hv, h1, h2, h⟩
      · rintro ⟨u, g1, _, _, g4⟩
        rw [hv] at g1
        cases g1; exact g4)
    have HV := Lib.hid hv
    clear hv HI
    generalize dateB s.data.toList = r at *
    by_cases h1 : v < 0
    · have HR := Lib.hid (HF.out (.inl h1))
      clear HF HG
      go_enter Tryz.func216, Tryz.ntmps216
      go_wp2_with fail
      refine (HA.out _).mono ?_
      rintro e w1 ⟨rfl, hw1⟩
      have hb : Below w.heap.size w w1 := by
        rcases hw1 with rfl | ⟨t, rfl⟩
        · exact below_refl _
        · exact below_bytes _ _ _
      clear hw1
      go_wp2_with fail
      go_ret
      exact ⟨ret_bool HR.out.symm, hb⟩
    by_cases h2 : 1000000000 < v
    · have HR := Lib.hid (HF.out (.inr h2))
      clear HF HG
      go_enter Tryz.func216, Tryz.ntmps216
      go_wp2_with fail
      refine (HA.out _).mono ?_
      rintro e w1 ⟨rfl, hw1⟩
      have hb : Below w.heap.size w w1 := by
        rcases hw1 with rfl | ⟨t, rfl⟩
        · exact below_refl _
        · exact below_bytes _ _ _
      clear hw1
      go_wp2_with fail
      go_ret
      exact ⟨ret_bool HR.out.symm, hb⟩
    have HR := Lib.hid (HG.out (by omega) (by omega))
    have HE := Lib.hid he
    clear HF HG he
    go_enter Tryz.func216, Tryz.ntmps216
    go_wp2_with fail
    refine (HA.out _).mono ?_
    rintro e w1 ⟨rfl, hw1⟩
    have hb : Below w.heap.size w w1 := by
      rcases hw1 with rfl | ⟨t, rfl⟩
      · exact below_refl _
      · exact below_bytes _ _ _
    clear hw1
    go_wp2_with fail
    refine (itoa_any v _ (HE.out.below hb) (by omega) (by omega)).mono ?_
    rintro e w2 ⟨t, rfl, ht, hb2⟩
    have HT : Hid ((t.toList == s.toList) = r) := by rw [Hid, str_eq, ht.out]; exact HR.out
    go_wp2_with fail
    go_ret
    exact ⟨ret_bool HT.out, step2 hb hb2⟩
  · have hx' : ∀ v, Lib.atoiAll s.data.toList ≠ .ok v := fun v e => hx ⟨v, e⟩
    have HR : Hid (dateB s.data.toList = false) := by
      rw [Hid]
      cases hd : dateB s.data.toList
      · rfl
      · obtain ⟨v, h, _⟩ := HI.out.1 hd; exact absurd h (hx' v)
    have HA := Lib.hid (atoi_bad s w he (by omega) hx')
    clear hx hx' HI
    go_enter Tryz.func216, Tryz.ntmps216
    go_wp2_with fail
    refine HA.out.mono ?_
    rintro e w1 ⟨n, N, rfl, hb⟩
    go_wp2_with fail
    go_ret
    exact ⟨ret_bool HR.out.symm, hb⟩
def DateP (b : Bool) (w : World) (e : Ending) (w' : World) : Prop := ∃ n : Int, e = .returned (.tuple #[.int .i64 n, .bool b]) ∧ w = w'
theorem val_lt : ∀ l : List UInt8, l.all isDig = true → val l < 10 ^ l.length := by
  suffices h : ∀ n, ∀ l : List UInt8, l.length = n → l.all isDig = true → val l < 10 ^ l.length from fun l => h _ l rfl
  intro n
  induction n with
  | zero => intro l h _; rw [List.eq_nil_of_length_eq_zero h]; decide
  | succ n ih =>
    intro l h hd
    rcases List.eq_nil_or_concat l with rfl | ⟨l', c, rfl⟩
    · cases h
    rw [List.concat_eq_append] at *
    rw [List.all_append, Bool.and_eq_true] at hd
    have h1 := ih l' (by simpa using h) hd.1
    have h2 : val (l' ++ [c]) = 10 * val l' + (c.toNat - 48) := valFrom_snoc l' c 0
    have h3 := hd.2
    simp only [List.all_cons, List.all_nil, Bool.and_true, isDig, decide_eq_true_eq] at h3
    rw [h2, List.length_append, List.length_singleton, Nat.pow_succ]
    omega
theorem val_snoc (s : ByteArray) (k : Nat) (h : k < s.size) : val (s.data.toList.take (k + 1)) = 10 * val (s.data.toList.take k) + (s[k].toNat - 48) := by
  rw [take_snoc s k h]; exact valFrom_snoc _ _ 0
theorem dig_take (s : ByteArray) (k : Nat) (h : k < s.size) : (s.data.toList.take (k + 1)).all isDig = ((s.data.toList.take k).all isDig && isDig s[k]) := by
  rw [take_snoc s k h, List.all_append]; simp
theorem dig_hit (s : ByteArray) (k : Nat) (h : k < s.size) (hb : ¬ (48 ≤ s[k].toNat ∧ s[k].toNat ≤ 57)) : s.data.toList.all isDig = false := by
  rw [List.all_eq_false]
  exact ⟨s[k], List.mem_of_getElem? (get_list s k h), by simpa [isDig] using hb⟩
theorem dateB_of (s : ByteArray) : dateB s.data.toList = (decide (1 ≤ s.size) && decide (s.size ≤ 10) && (decide (s.size ≤ 1) || decide (s.data.toList.head? ≠ some 48)) && s.data.toList.all isDig && decide (val s.data.toList ≤ 1000000000)) := rfl
set_option maxHeartbeats 1000000 in
theorem refDate_any (s : ByteArray) (w : World) (hs : s.size ≤ 1000000) : Calls Tryz.prog 168 #[.string s] w (DateP (dateB s.data.toList) w) := by
  have HD := Lib.hid (dateB_of s)
  by_cases h1 : s.size < 1
  · rw [decide_eq_false (show ¬ 1 ≤ s.size by omega)] at HD
    simp only [Bool.false_and] at HD
    go_enter Tryz.func168, Tryz.ntmps168
    go_wp2_with fail
    go_ret2
    exact ⟨_, by rw [HD.out]; rfl, rfl⟩
  by_cases h2 : 10 < s.size
  · rw [decide_eq_false (show ¬ s.size ≤ 10 by omega)] at HD
    simp only [Bool.false_and, Bool.and_false] at HD
    go_enter Tryz.func168, Tryz.ntmps168
    go_wp2_with fail
    go_ret2
    exact ⟨_, by rw [HD.out]; rfl, rfl⟩
  have hpos : 0 < s.size := by omega
  have hh : s.data.toList.head? = some s[0] := by rw [List.head?_eq_getElem?]; exact get_list s 0 hpos
  by_cases h3 : 1 < s.size ∧ s[0] = 48
  · obtain ⟨h3, h48⟩ := h3
    have e1 : (decide (s.size ≤ 1) || decide (s.data.toList.head? ≠ some 48)) = false := by rw [decide_eq_false (show ¬ s.size ≤ 1 by omega), hh, h48]; rfl
    rw [e1] at HD
    simp only [Bool.false_and, Bool.and_false] at HD
    obtain ⟨q1, q2⟩ := byte_is h48 (n := 48) rfl
    clear e1 hh h48
    go_enter Tryz.func168, Tryz.ntmps168
    go_wp2_with fail
    go_ret2
    exact ⟨_, by rw [HD.out]; rfl, rfl⟩
  have e1 : (decide (s.size ≤ 1) || decide (s.data.toList.head? ≠ some 48)) = true := by
    by_cases h : s.size ≤ 1
    · rw [decide_eq_true h]; rfl
    · have h4 : ¬ s[0] = 48 := fun e => h3 ⟨by omega, e⟩
      rw [hh, decide_eq_true (show some s[0] ≠ some 48 from fun e => h4 (Option.some.inj e))]; simp
  rw [e1, decide_eq_true (show 1 ≤ s.size by omega), decide_eq_true (show s.size ≤ 10 by omega)] at HD
  simp only [Bool.true_and] at HD
  have HQ : Hid (s.size ≤ 1 ∨ (1 < s.size ∧ ((s[0].toNat : Int) == 48) = false)) := by
    by_cases h : s.size ≤ 1
    · exact .inl h
    · exact .inr ⟨by omega, (byte_not (k := 48) (fun e => h3 ⟨by omega, e⟩) rfl).1⟩
  clear e1 hh h3
  rcases HQ.out with h5 | ⟨h5, q1⟩
  all_goals
    go_enter Tryz.func168, Tryz.ntmps168
    go_wp2_with fail
    go_loop [4, 5] (fun n i => ∃ k : Nat, k ≤ s.size ∧ i = .int .i64 k ∧ n = .int .i64 ((val (s.data.toList.take k) : Nat) : Int) ∧ Hid ((s.data.toList.take k).all isDig = true)) (fun _ i => s.size - (intOf i).toNat)
    case atStart => exact ⟨0, by omega, rfl, rfl, rfl⟩
    case round =>
      obtain ⟨k, hk, rfl, rfl, hA⟩ := hrel
      have hv := val_lt _ hA.out
      have hlk : (s.data.toList.take k).length = k := by rw [List.length_take, toList_size]; omega
      rw [hlk] at hv
      clear hlk
      by_cases hlt : k < s.size
      · have hv9 : val (s.data.toList.take k) < 1000000000 := Nat.lt_of_lt_of_le hv (Nat.le_trans (Nat.pow_le_pow_right (by decide) (show k ≤ 9 by omega)) (by decide))
        have HS := Lib.hid (val_snoc s k hlt)
        have HT := Lib.hid (dig_take s k hlt)
        have HB := Lib.hid (dig_hit s k hlt)
        have hb : s[k].toNat < 256 := s[k].toNat_lt
        have HC : Hid (isDig s[k] = decide (48 ≤ s[k].toNat ∧ s[k].toNat ≤ 57)) := rfl
        clear hv
        by_cases h48 : s[k].toNat < 48
        · have HR := Lib.hid (HB.out (by omega))
          rw [HR.out] at HD
          simp only [Bool.false_and] at HD
          clear HS HT HB HC HR
          go_wp2_with fail
          go_ret2
          exact ⟨_, by rw [HD.out]; rfl, rfl⟩
        by_cases h57 : 57 < s[k].toNat
        · have HR := Lib.hid (HB.out (by omega))
          rw [HR.out] at HD
          simp only [Bool.false_and] at HD
          clear HS HT HB HC HR
          go_wp2_with fail
          go_ret2
          exact ⟨_, by rw [HD.out]; rfl, rfl⟩
        have HE2 : Hid ((s.data.toList.take (k + 1)).all isDig = true) := by rw [Hid, HT.out, hA.out, HC.out, decide_eq_true (show 48 ≤ s[k].toNat ∧ s[k].toNat ≤ 57 by omega)]; rfl
        clear HT HB HC
        generalize val (s.data.toList.take k) = v at *
        go_wp2_with fail
        go_round
        case rel => exact ⟨k + 1, by omega, by go_num, by rw [HS.out]; congr 1; omega, HE2⟩
        case measure => simp [intOf]; omega
      · have ht : s.data.toList.take k = s.data.toList := List.take_of_length_le (by rw [toList_size]; omega)
        rw [ht] at hA hv ⊢
        rw [hA.out, Bool.true_and] at HD
        have hv10 : val s.data.toList < 10000000000 := Nat.lt_of_lt_of_le hv (Nat.le_trans (Nat.pow_le_pow_right (by decide) (show k ≤ 10 by omega)) (by decide))
        clear ht hv
        generalize val s.data.toList = v at *
        have HD2 : Hid (dateB s.data.toList = decide ((v : Int) ≤ 1000000000)) := by rw [Hid, HD.out, decide_eq_decide]; omega
        go_wp2_with fail
        go_ret2
        exact ⟨_, by rw [HD2.out]; rfl, rfl⟩
end Go.Proofs.YtpkapcijgldhhaaGreatDoor
