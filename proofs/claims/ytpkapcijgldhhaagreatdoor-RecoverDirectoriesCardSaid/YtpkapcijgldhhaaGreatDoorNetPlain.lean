/-
  Plain laws of netstrings: lists of bytes, no program.
-/
import Derived.Lib.AtoiAll
import Derived.Lib.ItoaNum
import Derived.Lib.Bytealg
import Derived.Lib.SlTrimSet
namespace Go.Proofs.YtpkapcijgldhhaaGreatDoor

def isDig (c : UInt8) : Bool := decide (48 ≤ c.toNat ∧ c.toNat ≤ 57)
/-- the value of decimal digits behind a number -/
def valFrom (n : Nat) : List UInt8 → Nat
  | [] => n
  | c :: l => valFrom (10 * n + (c.toNat - 48)) l
def val (l : List UInt8) : Nat := valFrom 0 l
def strip (l : List UInt8) : List UInt8 := if l.head? = some 45 then l.tail else l
/-- the decimal representation of an integer -/
def decB (l : List UInt8) : Bool := !(strip l).isEmpty && (strip l).all isDig && (decide ((strip l).head? ≠ some 48) || decide (l = [48]))
def decVal (l : List UInt8) : Int := if l.head? = some 45 then -(val l.tail : Int) else val l
def digitSet : List UInt8 := [48, 49, 50, 51, 52, 53, 54, 55, 56, 57]

theorem isDig_iff (c : UInt8) : digitSet.contains c = isDig c := by
  have h : ∀ n : Fin 256, digitSet.contains (UInt8.ofNat n.val) = isDig (UInt8.ofNat n.val) := by decide +kernel
  have := h ⟨c.toNat, c.toNat_lt⟩
  simpa using this

theorem dropWhile_nil {p : UInt8 → Bool} : ∀ {l : List UInt8}, l.dropWhile p = [] → l.all p = true
  | [], _ => rfl
  | a :: l, h => by
    rw [List.dropWhile_cons] at h
    split at h
    · rename_i ha; simp [ha, dropWhile_nil h]
    · cases h
theorem dropWhile_all {p : UInt8 → Bool} : ∀ {l : List UInt8}, l.all p = true → l.dropWhile p = []
  | [], _ => rfl
  | a :: l, h => by
    simp only [List.all_cons, Bool.and_eq_true] at h
    rw [List.dropWhile_cons, if_pos h.1, dropWhile_all h.2]

theorem trim_digits (l : List UInt8) : (Lib.trimS l digitSet = []) ↔ l.all isDig = true := by
  have e : (fun x => digitSet.contains x) = isDig := funext isDig_iff
  unfold Lib.trimS Lib.trimLeftS Lib.trimRightS
  rw [e]
  constructor
  · intro h
    have h1 := dropWhile_nil h
    rw [List.all_reverse] at h1
    have h2 := List.takeWhile_append_dropWhile (p := isDig) (l := l.reverse)
    have : (l.reverse).all isDig = true := by
      rw [← h2, List.all_append, h1]
      simp
    simpa using this
  · intro h
    have h1 : (l.reverse).all isDig = true := by simpa using h
    rw [dropWhile_all h1]
    rfl

theorem valFrom_ge (l : List UInt8) : ∀ n, n ≤ valFrom n l := by
  induction l with
  | nil => intro n; exact Nat.le_refl _
  | cons c l ih => intro n; exact Nat.le_trans (by omega) (ih (10 * n + (c.toNat - 48)))
theorem valFrom_mono (l : List UInt8) : ∀ n m, n ≤ m → valFrom n l ≤ valFrom m l := by
  induction l with
  | nil => intro n m h; exact h
  | cons c l ih => intro n m h; exact ih _ _ (by omega)

/-- what strconv.Atoi makes of digits -/
theorem parse_digits (l : List UInt8) : ∀ n, l.all isDig = true → n < 18446744073709551616 →
    (valFrom n l < 18446744073709551616 ∧ Lib.parseUint10 n l = .ok (valFrom n l)) ∨ (18446744073709551616 ≤ valFrom n l ∧ Lib.parseUint10 n l = .range) := by
  induction l with
  | nil => intro n _ hn; exact .inl ⟨hn, rfl⟩
  | cons c l ih =>
    intro n h hn
    simp only [List.all_cons, Bool.and_eq_true, isDig, decide_eq_true_eq] at h
    have hm : n * 10 = 10 * n := Nat.mul_comm _ _
    rw [Lib.parseUint10, if_pos h.1]
    show (valFrom (10 * n + (c.toNat - 48)) l < 18446744073709551616 ∧ _ = Lib.NumEnd.ok (valFrom (10 * n + (c.toNat - 48)) l)) ∨ (18446744073709551616 ≤ valFrom (10 * n + (c.toNat - 48)) l ∧ _)
    by_cases h1 : 1844674407370955162 ≤ n
    · rw [if_pos h1]
      have := valFrom_ge l (10 * n + (c.toNat - 48))
      exact .inr ⟨by omega, rfl⟩
    · rw [if_neg h1, hm]
      by_cases h2 : 18446744073709551616 ≤ 10 * n + (c.toNat - 48)
      · rw [if_pos h2]
        have := valFrom_ge l (10 * n + (c.toNat - 48))
        exact .inr ⟨by omega, rfl⟩
      · rw [if_neg h2]
        exact ih _ (by simpa [isDig] using h.2) (by omega)

theorem strip_dec {l : List UInt8} (h : decB l = true) : strip l ≠ [] ∧ (strip l).all isDig = true ∧ ((strip l).head? ≠ some 48 ∨ l = [48]) := by
  unfold decB at h
  simp only [Bool.and_eq_true, Bool.or_eq_true, decide_eq_true_eq] at h
  refine ⟨fun e => ?_, h.1.2, h.2⟩
  rw [e] at h
  simp at h

theorem head_of_strip {l : List UInt8} (h : l.head? = some 45) : l = 45 :: strip l := by
  cases l with
  | nil => cases h
  | cons c l => simp only [List.head?_cons, Option.some.injEq] at h; subst h; simp [strip]

theorem not43 {l : List UInt8} (h : (strip l).all isDig = true) : ∀ c r, l = c :: r → c.toNat ≠ 43 := by
  intro c r e hc
  subst e
  have : c ≠ 45 := by intro e; subst e; cases hc
  simp [strip, this, isDig] at h
  omega

/-- strconv.Atoi at a decimal representation -/
theorem atoi_dec {l : List UInt8} (h : decB l = true) :
    (-9223372036854775808 ≤ decVal l ∧ decVal l ≤ 9223372036854775807 ∧ Lib.atoiAll l = .ok (decVal l)) ∨
    ((decVal l < -9223372036854775808 ∨ 9223372036854775807 < decVal l) ∧ Lib.atoiAll l = .range) := by
  obtain ⟨h0, h1, _⟩ := strip_dec h
  have h43 := not43 h1
  cases l with
  | nil => exact absurd rfl h0
  | cons c r =>
    have hc43 := h43 c r rfl
    by_cases hc : c = 45
    · subst hc
      have es : strip (45 :: r) = r := by simp [strip]
      rw [es] at h0 h1
      have hv : decVal (45 :: r) = -(val r : Int) := by simp [decVal]
      rw [hv]
      have hp := parse_digits r 0 h1 (by omega)
      simp only [Lib.atoiAll]
      rw [if_pos (Or.inr (by decide))]
      unfold Lib.parseMag
      rw [if_neg h0]
      unfold val
      rcases hp with ⟨a, b⟩ | ⟨a, b⟩
      · rw [b]
        simp only []
        have e45 : UInt8.toNat 45 = 45 := rfl
        rw [if_neg (fun e => e.1 e45)]
        by_cases hg : 9223372036854775808 < valFrom 0 r
        · rw [if_pos ⟨e45, hg⟩]; exact .inr ⟨by omega, rfl⟩
        · rw [if_neg (fun e => hg e.2), if_pos e45]; exact .inl ⟨by omega, by omega, rfl⟩
      · rw [b]; exact .inr ⟨by omega, rfl⟩
    · have hn : c.toNat ≠ 45 := by intro e; exact hc (UInt8.toNat_inj.1 (by rw [e]; rfl))
      have es : strip (c :: r) = c :: r := by simp [strip, hc]
      rw [es] at h0 h1
      have hv : decVal (c :: r) = (val (c :: r) : Int) := by simp [decVal, hc]
      rw [hv]
      have hp := parse_digits (c :: r) 0 h1 (by omega)
      simp only [Lib.atoiAll]
      rw [if_neg (by omega)]
      unfold Lib.parseMag
      rw [if_neg h0]
      unfold val
      rcases hp with ⟨a, b⟩ | ⟨a, b⟩
      · rw [b]
        simp only []
        by_cases hg : 9223372036854775808 ≤ valFrom 0 (c :: r)
        · rw [if_pos ⟨hn, hg⟩]; exact .inr ⟨by omega, rfl⟩
        · rw [if_neg (fun e => hg e.2), if_neg (fun e => hn e.1), if_neg hn]; exact .inl ⟨by omega, by omega, rfl⟩
      · rw [b]; exact .inr ⟨by omega, rfl⟩

theorem trimPrefix_strip (l : List UInt8) : Lib.trimPrefix l [45] = strip l := by
  unfold Lib.trimPrefix strip Lib.hasPrefix
  cases l with
  | nil => rfl
  | cons c r =>
    by_cases h : c = 45
    · subst h; simp
    · have h' : ¬ 45 = c := fun e => h e.symm
      simp [h, h']
theorem decB_nil {l : List UInt8} (h : strip l = []) : decB l = false := by simp [decB, h]
theorem decB_other {l : List UInt8} (h : ¬ (strip l).all isDig = true) : decB l = false := by
  have : (strip l).all isDig = false := by simpa using h
  simp [decB, this]
theorem decB_ok {l : List UInt8} (h0 : strip l ≠ []) (h : (strip l).all isDig = true) (h1 : (strip l).head? ≠ some 48) : decB l = true := by
  have h2 : (strip l).isEmpty = false := by simpa using h0
  simp [decB, h, h1, h2]
theorem decB_zero {l : List UInt8} (h0 : strip l ≠ []) (h : (strip l).all isDig = true) (h1 : (strip l).head? = some 48) : decB l = (l == [48]) := by
  have h2 : (strip l).isEmpty = false := by simpa using h0
  simp only [decB, h, h1, h2]
  by_cases hl : l = [48] <;> simp [hl]

/-! ### the readers -/
def rdNum (l : List UInt8) (at_ : Int) : Int × Int × Int :=
  if at_ < 0 ∨ (l.length : Int) < at_ then (0, 0, 1)
  else if Lib.indexByte (l.drop at_.toNat) 32 < 0 then (0, 0, 4)
  else if decB ((l.drop at_.toNat).take (Lib.indexByte (l.drop at_.toNat) 32).toNat) = false then (0, 0, 3)
  else if decVal ((l.drop at_.toNat).take (Lib.indexByte (l.drop at_.toNat) 32).toNat) < -2147483648 ∨ 2147483647 < decVal ((l.drop at_.toNat).take (Lib.indexByte (l.drop at_.toNat) 32).toNat) then (0, 0, 2)
  else (decVal ((l.drop at_.toNat).take (Lib.indexByte (l.drop at_.toNat) 32).toNat), at_ + Lib.indexByte (l.drop at_.toNat) 32 + 1, 0)

theorem rdNum_arg {l : List UInt8} {a : Int} (h : a < 0 ∨ (l.length : Int) < a) : rdNum l a = (0, 0, 1) := by unfold rdNum; rw [if_pos h]
theorem rdNum_short {l : List UInt8} {a : Nat} (h : a ≤ l.length) (hk : Lib.indexByte (l.drop a) 32 < 0) : rdNum l a = (0, 0, 4) := by
  unfold rdNum; rw [if_neg (by omega), Int.toNat_natCast, if_pos hk]
theorem rdNum_syntax {l : List UInt8} {a k : Nat} (h : a ≤ l.length) (hk : Lib.indexByte (l.drop a) 32 = k) (hd : decB ((l.drop a).take k) = false) : rdNum l a = (0, 0, 3) := by
  unfold rdNum; rw [if_neg (by omega), Int.toNat_natCast, hk, if_neg (by omega), Int.toNat_natCast, if_pos hd]
theorem rdNum_range {l : List UInt8} {a k : Nat} (h : a ≤ l.length) (hk : Lib.indexByte (l.drop a) 32 = k) (hd : decB ((l.drop a).take k) = true)
    (hr : decVal ((l.drop a).take k) < -2147483648 ∨ 2147483647 < decVal ((l.drop a).take k)) : rdNum l a = (0, 0, 2) := by
  unfold rdNum; rw [if_neg (by omega), Int.toNat_natCast, hk, if_neg (by omega), Int.toNat_natCast, if_neg (by rw [hd]; decide), if_pos hr]
theorem rdNum_ok {l : List UInt8} {a k : Nat} (h : a ≤ l.length) (hk : Lib.indexByte (l.drop a) 32 = k) (hd : decB ((l.drop a).take k) = true)
    (h1 : -2147483648 ≤ decVal ((l.drop a).take k)) (h2 : decVal ((l.drop a).take k) ≤ 2147483647) : rdNum l a = (decVal ((l.drop a).take k), (a : Int) + k + 1, 0) := by
  unfold rdNum; rw [if_neg (by omega), Int.toNat_natCast, hk, if_neg (by omega), Int.toNat_natCast, if_neg (by rw [hd]; decide), if_neg (by omega)]

def rdStr (l : List UInt8) (at_ : Int) : List UInt8 × Int × Int :=
  if at_ < 0 ∨ (l.length : Int) < at_ then ([], 0, 1)
  else if Lib.indexByte (l.drop at_.toNat) 58 < 0 then ([], 0, 4)
  else rdTail l (at_.toNat + (Lib.indexByte (l.drop at_.toNat) 58).toNat + 1) ((l.drop at_.toNat).take (Lib.indexByte (l.drop at_.toNat) 58).toNat)
  where
  rdTail (l : List UInt8) (nx : Nat) (t : List UInt8) : List UInt8 × Int × Int :=
    if decB t = false ∨ t.head? = some 45 then ([], 0, 3)
    else if l.length ≤ nx + val t then ([], 0, 4)
    else if l.getD (nx + val t) 0 ≠ 44 then ([], 0, 3)
    else ((l.drop nx).take (val t), ((nx + val t + 1 : Nat) : Int), 0)
theorem rdStr_arg {l : List UInt8} {a : Int} (h : a < 0 ∨ (l.length : Int) < a) : rdStr l a = ([], 0, 1) := by unfold rdStr; rw [if_pos h]
theorem rdStr_short {l : List UInt8} {a : Nat} (h : a ≤ l.length) (hk : Lib.indexByte (l.drop a) 58 < 0) : rdStr l a = ([], 0, 4) := by
  unfold rdStr; rw [if_neg (by omega), Int.toNat_natCast, if_pos hk]
theorem rdStr_tail {l : List UInt8} {a k : Nat} (h : a ≤ l.length) (hk : Lib.indexByte (l.drop a) 58 = k) : rdStr l a = rdStr.rdTail l (a + k + 1) ((l.drop a).take k) := by
  unfold rdStr; rw [if_neg (by omega), Int.toNat_natCast, hk, if_neg (by omega), Int.toNat_natCast]

/-- where a byte first occurs -/
theorem indexByte_cases (l : List UInt8) (c : UInt8) : (Lib.indexByte l c = -1 ∧ c ∉ l) ∨ ∃ k : Nat, Lib.indexByte l c = k ∧ k < l.length ∧ l.getD k 0 = c ∧ c ∉ l.take k := by
  induction l with
  | nil => exact .inl ⟨rfl, by simp⟩
  | cons b l ih =>
    unfold Lib.indexByte
    by_cases hb : b = c
    · subst hb; exact .inr ⟨0, by simp, by simp, by simp, by simp⟩
    · have hb' : (b == c) = false := by simpa using hb
      rw [if_neg (by simp [hb'])]
      rcases ih with ⟨h, hn⟩ | ⟨k, h, hk, hc, hn⟩
      · refine .inl ⟨by rw [h]; rfl, ?_⟩
        simp only [List.mem_cons, not_or]
        exact ⟨fun e => hb e.symm, hn⟩
      · refine .inr ⟨k + 1, ?_, by simpa using hk, by simpa using hc, ?_⟩
        · rw [h, if_neg (by simp only [beq_iff_eq]; omega)]; omega
        · simp only [List.take_succ_cons, List.mem_cons, not_or]
          exact ⟨fun e => hb e.symm, hn⟩
theorem indexByte_at {l : List UInt8} {c : UInt8} {k : Nat} (hk : k < l.length) (hc : l.getD k 0 = c) (hn : c ∉ l.take k) : Lib.indexByte l c = k := by
  rcases indexByte_cases l c with ⟨_, h⟩ | ⟨j, h, hj, hcj, hnj⟩
  · exfalso; apply h
    rw [← hc, List.getD_eq_getElem?_getD, List.getElem?_eq_getElem hk]
    exact List.getElem_mem _
  · have hjk : ¬ j < k := fun hlt => hn (by
      have : l.getD j 0 ∈ l.take k := by
        rw [List.getD_eq_getElem?_getD, List.getElem?_eq_getElem hj]
        simp only [Option.getD_some]
        exact List.mem_take_iff_getElem.2 ⟨j, by omega, rfl⟩
      rwa [hcj] at this)
    have hkj : ¬ k < j := fun hlt => hnj (by
      have : l.getD k 0 ∈ l.take j := by
        rw [List.getD_eq_getElem?_getD, List.getElem?_eq_getElem hk]
        simp only [Option.getD_some]
        exact List.mem_take_iff_getElem.2 ⟨k, by omega, rfl⟩
      rwa [hc] at this)
    rw [h]; omega

/-! ### the reference's 'decimal' -/
def natOk (l : List UInt8) : Bool := !l.isEmpty && l.all isDig && (decide (l.length ≤ 1) || decide (l.head? ≠ some 48))
def capStep (n : Nat) (c : UInt8) : Nat := if 1099511627776 < 10 * n + (c.toNat - 48) then 1099511627776 else 10 * n + (c.toNat - 48)
def capVal (l : List UInt8) : Nat := l.foldl capStep 0
theorem capVal_snoc (l : List UInt8) (c : UInt8) : capVal (l ++ [c]) = capStep (capVal l) c := by simp [capVal]
theorem capStep_le (n : Nat) (c : UInt8) : capStep n c ≤ 1099511627776 := by unfold capStep; split <;> omega
theorem capVal_le (l : List UInt8) : capVal l ≤ 1099511627776 := by
  rcases List.eq_nil_or_concat l with rfl | ⟨l', c, rfl⟩
  · simp [capVal]
  · rw [List.concat_eq_append, capVal_snoc]; exact capStep_le _ _
theorem valFrom_snoc (l : List UInt8) (c : UInt8) : ∀ n, valFrom n (l ++ [c]) = 10 * valFrom n l + (c.toNat - 48) := by
  induction l with
  | nil => intro n; rfl
  | cons b l ih => intro n; exact ih _
theorem capVal_eq (l : List UInt8) : capVal l = min (val l) 1099511627776 := by
  suffices h : ∀ n, ∀ l : List UInt8, l.length = n → capVal l = min (val l) 1099511627776 from h _ l rfl
  intro n
  induction n with
  | zero => intro l h; rw [List.eq_nil_of_length_eq_zero h]; rfl
  | succ n ih =>
    intro l h
    rcases List.eq_nil_or_concat l with rfl | ⟨l', c, rfl⟩
    · cases h
    · rw [List.concat_eq_append] at h ⊢
      have hl : l'.length = n := by simpa using h
      have hi := ih l' hl
      have hv : val (l' ++ [c]) = 10 * val l' + (c.toNat - 48) := valFrom_snoc l' c 0
      rw [capVal_snoc, hi, hv]
      unfold capStep
      generalize val l' = v
      generalize c.toNat - 48 = d
      split <;> omega
theorem natOk_nil : natOk [] = false := rfl
theorem natOk_no {l : List UInt8} (h : ¬ l.all isDig = true) : natOk l = false := by
  have : l.all isDig = false := by simpa using h
  simp [natOk, this]
theorem natOk_zero {l : List UInt8} (h1 : 1 < l.length) (h : l.head? = some 48) : natOk l = false := by
  have : ¬ l.length ≤ 1 := by omega
  simp [natOk, h, this]
theorem natOk_yes {l : List UInt8} (h0 : l ≠ []) (h : l.all isDig = true) (h1 : l.length ≤ 1 ∨ l.head? ≠ some 48) : natOk l = true := by
  have h2 : l.isEmpty = false := by simpa using h0
  simp only [natOk, h, h2]
  simpa using h1
theorem natOk_iff (l : List UInt8) : natOk l = true ↔ l ≠ [] ∧ l.all isDig = true ∧ (l.length ≤ 1 ∨ l.head? ≠ some 48) := by
  simp only [natOk, Bool.and_eq_true, Bool.or_eq_true, decide_eq_true_eq, Bool.not_eq_true']
  constructor
  · rintro ⟨⟨h0, h1⟩, h2⟩; exact ⟨by intro e; simp [e] at h0, h1, h2⟩
  · rintro ⟨h0, h1, h2⟩; exact ⟨⟨by simpa using h0, h1⟩, h2⟩
theorem decB_iff (l : List UInt8) : decB l = true ↔ strip l ≠ [] ∧ (strip l).all isDig = true ∧ ((strip l).head? ≠ some 48 ∨ l = [48]) := by
  constructor
  · exact strip_dec
  · rintro ⟨h0, h1, h2⟩
    by_cases h : (strip l).head? = some 48
    · rw [decB_zero h0 h1 h]
      rcases h2 with h2 | h2
      · exact absurd h h2
      · simp [h2]
    · exact decB_ok h0 h1 h
theorem strip_pos {l : List UInt8} (h : l.head? ≠ some 45) : strip l = l := by simp [strip, h]
theorem val_pos {c : UInt8} {r : List UInt8} (h : isDig c = true) (h0 : c ≠ 48) : 0 < val (c :: r) := by
  simp only [isDig, decide_eq_true_eq] at h
  have hc : c.toNat ≠ 48 := fun e => h0 (UInt8.toNat_inj.1 (by rw [e]; rfl))
  have := valFrom_ge r (10 * 0 + (c.toNat - 48))
  show 0 < valFrom (10 * 0 + (c.toNat - 48)) r
  exact Nat.lt_of_lt_of_le (by omega) this
/-- the reference's test is the package's -/
theorem natOk_pos {l : List UInt8} (h : l.head? ≠ some 45) : natOk l = decB l := by
  rw [Bool.eq_iff_iff, natOk_iff, decB_iff, strip_pos h]
  constructor
  · rintro ⟨h0, h1, h2⟩
    refine ⟨h0, h1, ?_⟩
    rcases h2 with h2 | h2
    · match l, h0, h2 with
      | [c], _, _ =>
        by_cases hc : c = 48
        · exact .inr (by rw [hc])
        · exact .inl (by simpa using hc)
    · exact .inl h2
  · rintro ⟨h0, h1, h2⟩
    refine ⟨h0, h1, ?_⟩
    rcases h2 with h2 | h2
    · exact .inr h2
    · exact .inl (by rw [h2]; simp)
theorem natOk_neg {l : List UInt8} (h : l.head? = some 45) : (natOk (strip l) = true ∧ val (strip l) ≠ 0) ↔ decB l = true := by
  rw [natOk_iff, decB_iff]
  have hl := head_of_strip h
  constructor
  · rintro ⟨⟨h0, h1, h2⟩, h3⟩
    refine ⟨h0, h1, .inl fun e => ?_⟩
    rcases h2 with h2 | h2
    · have h4 : strip l = [48] := by
        match hd : strip l, h0, h2, e with
        | [c], _, _, e =>
          have hc : c = 48 := by simpa using e
          rw [hc]
      rw [h4] at h3; exact h3 rfl
    · exact h2 e
  · rintro ⟨h0, h1, h2⟩
    have hne : (strip l).head? ≠ some 48 := by
      rcases h2 with h2 | h2
      · exact h2
      · rw [h2] at h; cases h
    refine ⟨⟨h0, h1, .inr hne⟩, ?_⟩
    revert h0 h1 hne
    generalize strip l = d
    intro h0 h1 hne
    match d, h0, h1, hne with
    | c :: r, _, h1, hne =>
      simp only [List.all_cons, Bool.and_eq_true] at h1
      have := val_pos (r := r) h1.1 (by simpa using hne)
      omega
theorem neg_dec {l : List UInt8} (h : l.head? = some 45) : decVal l = -(val (strip l) : Int) := by simp [decVal, strip, h]
theorem pos_dec {l : List UInt8} (h : l.head? ≠ some 45) : decVal l = (val l : Int) := by simp [decVal, h]

/-! ### lengths of numerals; encodings -/
theorem decDigits_len : ∀ (k u : Nat), u < 10 ^ (k + 1) → (Lib.decDigits u).length ≤ k + 1
  | 0, u, h => by rw [Lib.decDigits, dif_pos (by simpa using h)]; simp
  | k + 1, u, h => by
    rw [Lib.decDigits]
    split
    · simp
    · have := decDigits_len k (u / 10) (by rw [Nat.pow_succ] at h; omega)
      simp only [List.length_append, List.length_cons, List.length_nil]; omega
theorem itoa_len {n : Int} (h0 : -9223372036854775808 ≤ n) (h1 : n ≤ 9223372036854775807) : (Lib.itoa n).length ≤ 20 := by
  unfold Lib.itoa
  split
  · have := decDigits_len 18 n.natAbs (by omega)
    simp only [List.length_cons]; omega
  · have := decDigits_len 18 n.toNat (by omega)
    omega
def numL (n : Int) : List UInt8 := Lib.itoa n ++ [32]
def strL (l : List UInt8) : List UInt8 := Lib.itoa l.length ++ [58] ++ l ++ [44]

/-! ### numerals are read back -/
theorem isDig_ofNat (u : Nat) (h : u < 10) : isDig (UInt8.ofNat (48 + u)) = true ∧ (UInt8.ofNat (48 + u)).toNat = 48 + u := by
  have : ∀ v : Fin 10, isDig (UInt8.ofNat (48 + v.val)) = true ∧ (UInt8.ofNat (48 + v.val)).toNat = 48 + v.val := by decide
  exact this ⟨u, h⟩
theorem dd_facts (u : Nat) : (Lib.decDigits u).all isDig = true ∧ val (Lib.decDigits u) = u ∧ Lib.decDigits u ≠ [] ∧ (1 ≤ u → (Lib.decDigits u).head? ≠ some 48) := by
  induction u using Nat.strongRecOn with
  | _ u ih =>
    rw [Lib.decDigits]
    by_cases h : u < 10
    · rw [dif_pos h]
      obtain ⟨h1, h2⟩ := isDig_ofNat u h
      refine ⟨by simp only [List.all_cons, List.all_nil, h1, Bool.and_true], ?_, by simp, fun hu => ?_⟩
      · show 10 * 0 + ((UInt8.ofNat (48 + u)).toNat - 48) = u
        omega
      · simp only [List.head?_cons, Ne, Option.some.injEq]
        intro e
        rw [e] at h2
        have : (48 : UInt8).toNat = 48 := rfl
        omega
    · rw [dif_neg h]
      obtain ⟨h1, h2⟩ := isDig_ofNat (u % 10) (by omega)
      obtain ⟨i1, i2, i3, i4⟩ := ih (u / 10) (by omega)
      refine ⟨by rw [List.all_append, i1]; simp only [List.all_cons, List.all_nil, h1, Bool.and_true], ?_, by simp, fun _ => ?_⟩
      · have := valFrom_snoc (Lib.decDigits (u / 10)) (UInt8.ofNat (48 + u % 10)) 0
        unfold val at i2 ⊢
        rw [this, i2]
        omega
      · have := i4 (by omega)
        cases hd : Lib.decDigits (u / 10) with
        | nil => exact absurd hd i3
        | cons c r => rw [hd] at this; simpa using this
theorem dd_zero : Lib.decDigits 0 = [48] := by rw [Lib.decDigits]; rfl
theorem dd_head45 (u : Nat) : (Lib.decDigits u).head? ≠ some 45 := by
  obtain ⟨h, _, _, _⟩ := dd_facts u
  cases hd : Lib.decDigits u with
  | nil => simp
  | cons c r =>
    rw [hd] at h
    simp only [List.all_cons, Bool.and_eq_true, isDig, decide_eq_true_eq] at h
    simp only [List.head?_cons, Ne, Option.some.injEq]
    intro e; subst e
    have : (45 : UInt8).toNat = 45 := rfl
    omega
theorem itoa_dec (n : Int) : decB (Lib.itoa n) = true ∧ decVal (Lib.itoa n) = n := by
  unfold Lib.itoa
  by_cases h : n < 0
  · rw [if_pos h]
    obtain ⟨h1, h2, h3, h4⟩ := dd_facts n.natAbs
    have hs : strip (45 :: Lib.decDigits n.natAbs) = Lib.decDigits n.natAbs := by simp [strip]
    refine ⟨(decB_iff _).2 ⟨by rw [hs]; exact h3, by rw [hs]; exact h1, .inl (by rw [hs]; exact h4 (by omega))⟩, ?_⟩
    simp only [decVal, List.head?_cons, if_pos, List.tail_cons, h2]
    omega
  · rw [if_neg h]
    obtain ⟨h1, h2, h3, h4⟩ := dd_facts n.toNat
    have hs : strip (Lib.decDigits n.toNat) = Lib.decDigits n.toNat := strip_pos (dd_head45 _)
    refine ⟨(decB_iff _).2 ⟨by rw [hs]; exact h3, by rw [hs]; exact h1, ?_⟩, ?_⟩
    · by_cases h0 : n.toNat = 0
      · right; rw [h0, dd_zero]
      · left; rw [hs]; exact h4 (by omega)
    · rw [pos_dec (dd_head45 _), h2]; omega
theorem itoa_mem {n : Int} {c : UInt8} (h : c ∈ Lib.itoa n) : c = 45 ∨ isDig c = true := by
  unfold Lib.itoa at h
  split at h
  · rcases List.mem_cons.1 h with h | h
    · exact .inl h
    · exact .inr (List.all_eq_true.1 (dd_facts _).1 c h)
  · exact .inr (List.all_eq_true.1 (dd_facts _).1 c h)
theorem itoa_no {n : Int} {c : UInt8} (h1 : c ≠ 45) (h2 : isDig c = false) : c ∉ Lib.itoa n := fun h => by
  rcases itoa_mem h with h | h
  · exact h1 h
  · rw [h2] at h; cases h
theorem indexByte_append {a r : List UInt8} {c : UInt8} (h : c ∉ a) : Lib.indexByte (a ++ c :: r) c = a.length :=
  indexByte_at (by simp) (by rw [List.getD_eq_getElem?_getD]; simp) (by simpa using h)
theorem indexByte_none {l : List UInt8} {c : UInt8} (h : c ∉ l) : Lib.indexByte l c < 0 := by
  rcases indexByte_cases l c with ⟨e, _⟩ | ⟨k, _, hk, hc, _⟩
  · rw [e]; decide
  · exfalso; apply h; rw [← hc, List.getD_eq_getElem?_getD, List.getElem?_eq_getElem hk]; exact List.getElem_mem _

theorem rdNum_numL (f r : List UInt8) (n : Int) (h1 : -2147483648 ≤ n) (h2 : n ≤ 2147483647) :
    rdNum (f ++ numL n ++ r) f.length = (n, ((f.length + (numL n).length : Nat) : Int), 0) := by
  have hd : (f ++ numL n ++ r).drop f.length = Lib.itoa n ++ 32 :: r := by simp [numL]
  have hk : Lib.indexByte ((f ++ numL n ++ r).drop f.length) 32 = (Lib.itoa n).length := by
    rw [hd]; exact indexByte_append (itoa_no (by decide) (by decide))
  have ht : ((f ++ numL n ++ r).drop f.length).take (Lib.itoa n).length = Lib.itoa n := by rw [hd]; simp
  obtain ⟨d1, d2⟩ := itoa_dec n
  rw [rdNum_ok (by simp) hk (by rw [ht]; exact d1) (by rw [ht, d2]; exact h1) (by rw [ht, d2]; exact h2), ht, d2]
  simp [numL]
  omega
theorem rdNum_far (f r : List UInt8) (n : Int) (h : n < -2147483648 ∨ 2147483647 < n) : rdNum (f ++ numL n ++ r) f.length = (0, 0, 2) := by
  have hd : (f ++ numL n ++ r).drop f.length = Lib.itoa n ++ 32 :: r := by simp [numL]
  have hk : Lib.indexByte ((f ++ numL n ++ r).drop f.length) 32 = (Lib.itoa n).length := by
    rw [hd]; exact indexByte_append (itoa_no (by decide) (by decide))
  have ht : ((f ++ numL n ++ r).drop f.length).take (Lib.itoa n).length = Lib.itoa n := by rw [hd]; simp
  obtain ⟨d1, d2⟩ := itoa_dec n
  exact rdNum_range (by simp) hk (by rw [ht]; exact d1) (by rw [ht, d2]; exact h)

theorem itoa_nat_head (n : Nat) : (Lib.itoa (n : Int)).head? ≠ some 45 := by
  unfold Lib.itoa; rw [if_neg (by omega)]; exact dd_head45 _
theorem itoa_nat_val (n : Nat) : val (Lib.itoa (n : Int)) = n := by
  have := (itoa_dec n).2
  rw [pos_dec (itoa_nat_head n)] at this
  omega
theorem strL_length (s : List UInt8) : (strL s).length = (Lib.itoa s.length).length + 1 + s.length + 1 := by simp [strL]; omega
theorem numL_length (n : Int) : (numL n).length = (Lib.itoa n).length + 1 := by simp [numL]
theorem rdStr_strL (f s r : List UInt8) : rdStr (f ++ strL s ++ r) f.length = (s, ((f.length + (strL s).length : Nat) : Int), 0) := by
  have hd : (f ++ strL s ++ r).drop f.length = Lib.itoa s.length ++ 58 :: (s ++ 44 :: r) := by simp [strL]
  have hk : Lib.indexByte ((f ++ strL s ++ r).drop f.length) 58 = (Lib.itoa s.length).length := by
    rw [hd]; exact indexByte_append (itoa_no (by decide) (by decide))
  have ht : ((f ++ strL s ++ r).drop f.length).take (Lib.itoa s.length).length = Lib.itoa s.length := by rw [hd]; simp
  have hrest : (f ++ strL s ++ r).drop (f.length + (Lib.itoa s.length).length + 1) = s ++ 44 :: r := by
    rw [Nat.add_assoc, ← List.drop_drop, hd, ← List.drop_drop]; simp
  rw [rdStr_tail (by simp) hk, ht, rdStr.rdTail, if_neg (by rw [(itoa_dec _).1]; simp [itoa_nat_head]), itoa_nat_val]
  have hl : (f ++ strL s ++ r).length = f.length + ((Lib.itoa s.length).length + 1 + s.length + 1) + r.length := by simp [strL]; omega
  rw [if_neg (by omega)]
  have hg : (f ++ strL s ++ r).getD (f.length + (Lib.itoa s.length).length + 1 + s.length) 0 = 44 := by
    have : (f ++ strL s ++ r)[f.length + (Lib.itoa s.length).length + 1 + s.length]? = ((f ++ strL s ++ r).drop (f.length + (Lib.itoa s.length).length + 1))[s.length]? := by
      rw [List.getElem?_drop]
    rw [List.getD_eq_getElem?_getD, this, hrest]
    simp
  rw [hg, if_neg (by simp), hrest, strL_length]
  simp only [List.take_left', Prod.mk.injEq, true_and, and_true]
  omega
/-- a proper prefix of a netstring is too short -/
theorem rdStr_prefix (s : List UInt8) (n : Nat) (h : n < (strL s).length) : rdStr ((strL s).take n) 0 = ([], 0, 4) := by
  have h0 : (0 : Int) = ((0 : Nat) : Int) := rfl
  rw [h0]
  by_cases hn : n ≤ (Lib.itoa s.length).length
  · refine rdStr_short (Nat.zero_le _) (indexByte_none fun hm => ?_)
    rw [List.drop_zero, strL, List.append_assoc, List.append_assoc, List.take_append_of_le_length hn] at hm
    exact itoa_no (by decide) (by decide) (List.mem_of_mem_take hm)
  · have hd : (strL s).take n = Lib.itoa s.length ++ 58 :: (s ++ [44]).take (n - (Lib.itoa s.length).length - 1) := by
      have : strL s = Lib.itoa s.length ++ 58 :: (s ++ [44]) := by simp [strL]
      rw [this, List.take_append, List.take_of_length_le (by omega)]
      congr 1
      obtain ⟨m, hm⟩ : ∃ m, n - (Lib.itoa s.length).length = m + 1 := ⟨n - (Lib.itoa s.length).length - 1, by omega⟩
      rw [hm]
      simp
    have hk : Lib.indexByte (((strL s).take n).drop 0) 58 = (Lib.itoa s.length).length := by
      rw [List.drop_zero, hd]; exact indexByte_append (itoa_no (by decide) (by decide))
    have ht : (((strL s).take n).drop 0).take (Lib.itoa s.length).length = Lib.itoa s.length := by rw [List.drop_zero, hd]; simp
    have hl : ((strL s).take n).length = n := by rw [List.length_take]; omega
    rw [rdStr_tail (Nat.zero_le _) hk, ht, rdStr.rdTail, if_neg (by rw [(itoa_dec _).1]; simp [itoa_nat_head]), itoa_nat_val]
    rw [if_pos (by rw [hl]; rw [strL_length] at h; omega)]
    rfl
end Go.Proofs.YtpkapcijgldhhaaGreatDoor
