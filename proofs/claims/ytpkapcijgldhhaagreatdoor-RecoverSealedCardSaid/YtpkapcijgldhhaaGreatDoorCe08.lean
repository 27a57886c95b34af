/-
  Entries: reading and writing are inverse to each other: plain laws.
-/
import Derived.Test.YtpkapcijgldhhaaGreatDoorCe06
namespace Go.Proofs.YtpkapcijgldhhaaGreatDoor

/-! ### decimal representations are unique -/
theorem dd_val : ∀ (n : Nat) (d : List UInt8), d.length ≤ n → d ≠ [] → d.all isDig = true → (d.head? ≠ some 48 ∨ d = [48]) → Lib.decDigits (val d) = d := by
  intro n
  induction n with
  | zero => intro d h h0; exact absurd (List.eq_nil_of_length_eq_zero (by omega)) h0
  | succ n ih =>
    intro d h h0 h1 h2
    rcases List.eq_nil_or_concat d with rfl | ⟨d', c, rfl⟩
    · exact absurd rfl h0
    rw [List.concat_eq_append] at *
    rw [List.all_append, Bool.and_eq_true] at h1
    obtain ⟨h1, hc⟩ := h1
    simp only [List.all_cons, List.all_nil, Bool.and_true, isDig, decide_eq_true_eq] at hc
    have hv : val (d' ++ [c]) = 10 * val d' + (c.toNat - 48) := valFrom_snoc d' c 0
    have hcc : UInt8.ofNat (48 + (c.toNat - 48)) = c := by
      rw [show 48 + (c.toNat - 48) = c.toNat from by omega]; simp
    by_cases hd : d' = []
    · subst hd
      have : val ([] ++ [c]) = c.toNat - 48 := by rw [hv]; show 10 * 0 + _ = _; omega
      rw [this, Lib.decDigits, dif_pos (by omega), hcc]; rfl
    · have hh : d'.head? ≠ some 48 := by
        rcases h2 with h2 | h2
        · intro e; apply h2; rw [List.head?_append, e]; rfl
        · exfalso
          have := congrArg List.length h2
          simp at this
          exact hd this
      have h9 : 0 < val d' := by
        match d', hd, h1, hh with
        | a :: r, _, h1, hh =>
          simp only [List.all_cons, Bool.and_eq_true] at h1
          exact val_pos h1.1 (by simpa using hh)
      rw [hv, Lib.decDigits, dif_neg (by omega), show (10 * val d' + (c.toNat - 48)) / 10 = val d' from by omega, show (10 * val d' + (c.toNat - 48)) % 10 = c.toNat - 48 from by omega, hcc]
      rw [ih d' (by simp at h; omega) hd h1 (.inl hh)]
theorem itoa_val {t : List UInt8} (h : decB t = true) : Lib.itoa (decVal t) = t := by
  obtain ⟨h0, h1, h2⟩ := strip_dec h
  by_cases hn : t.head? = some 45
  · have ht := head_of_strip hn
    have hv : 0 < val (strip t) := by
      have h3 : (strip t).head? ≠ some 48 := by
        rcases h2 with h2 | h2
        · exact h2
        · rw [h2] at hn; cases hn
      match hd : strip t, h0, h1, h3 with
      | a :: r, _, h1, h3 =>
        simp only [List.all_cons, Bool.and_eq_true] at h1
        exact val_pos h1.1 (by simpa using h3)
    rw [neg_dec hn, Lib.itoa, if_pos (by omega), show (-(val (strip t) : Int)).natAbs = val (strip t) from by omega, dd_val _ _ (Nat.le_refl _) h0 h1 (.inl ?_)]
    · exact ht.symm
    · rcases h2 with h2 | h2
      · exact h2
      · rw [h2] at hn; cases hn
  · have hs := strip_pos hn
    rw [hs] at h0 h1 h2
    rw [pos_dec hn, Lib.itoa, if_neg (by omega), Int.toNat_natCast, dd_val _ _ (Nat.le_refl _) h0 h1 h2]

/-- from a to b the text holds e -/
def Reads (l : List UInt8) (a : Int) (e : List UInt8) (b : Int) : Prop := ∃ A : Nat, a = A ∧ b = ((A + e.length : Nat) : Int) ∧ A + e.length ≤ l.length ∧ l.drop A = e ++ l.drop (A + e.length)
theorem Reads.trans {l e f : List UInt8} {a b c : Int} (h : Reads l a e b) (k : Reads l b f c) : Reads l a (e ++ f) c := by
  obtain ⟨A, rfl, rfl, h1, h2⟩ := h
  obtain ⟨B, hB, rfl, h3, h4⟩ := k
  have hB' : A + e.length = B := by omega
  subst hB'
  refine ⟨A, rfl, ?_, ?_, ?_⟩
  · rw [List.length_append]; congr 1; omega
  · rw [List.length_append]; omega
  · rw [h2, h4, List.append_assoc, List.length_append, Nat.add_assoc]
theorem Reads.nil {l : List UInt8} {a : Nat} (h : a ≤ l.length) : Reads l a [] a := ⟨a, rfl, by simp, by simpa using h, by simp⟩
theorem reads_of_eq {l e r : List UInt8} {A : Nat} (h : l.drop A = e ++ r) (hA : A ≤ l.length) : Reads l A e ((A + e.length : Nat) : Int) := by
  have hl := congrArg List.length h
  simp only [List.length_drop, List.length_append] at hl
  refine ⟨A, rfl, rfl, by omega, ?_⟩
  rw [h, ← List.drop_drop, h]; simp
theorem Reads.split {l e f : List UInt8} {a c : Int} (h : Reads l a (e ++ f) c) : ∃ b, Reads l a e b ∧ Reads l b f c := by
  obtain ⟨A, rfl, rfl, h1, h2⟩ := h
  rw [List.length_append] at h1
  have h3 : l.drop A = e ++ (f ++ l.drop (A + (e ++ f).length)) := by rw [h2]; simp
  have r1 := reads_of_eq h3 (by omega)
  refine ⟨_, r1, ?_⟩
  have h4 : l.drop (A + e.length) = f ++ l.drop (A + (e ++ f).length) := by
    rw [← List.drop_drop, h3]; simp
  have := reads_of_eq h4 (by omega)
  rwa [show ((A + e.length + f.length : Nat) : Int) = ((A + (e ++ f).length : Nat) : Int) from by rw [List.length_append, Nat.add_assoc]] at this
/-- the text around -/
theorem Reads.around {l e : List UInt8} {a b : Int} (h : Reads l a e b) : ∃ f r, l = f ++ e ++ r ∧ a = f.length ∧ b = ((f.length + e.length : Nat) : Int) := by
  obtain ⟨A, rfl, rfl, h1, h2⟩ := h
  have hA : (l.take A).length = A := by rw [List.length_take]; omega
  refine ⟨l.take A, l.drop (A + e.length), ?_, by rw [hA], by rw [hA]⟩
  rw [List.append_assoc, ← h2, List.take_append_drop]
theorem Reads.nonneg {l e : List UInt8} {a b : Int} (h : Reads l a e b) : 0 ≤ a ∧ a ≤ b ∧ b ≤ l.length := by
  obtain ⟨A, rfl, rfl, h1, h2⟩ := h; omega

theorem rdNum_iff {l : List UInt8} {a n m : Int} : rdNum l a = (n, m, 0) ↔ (-2147483648 ≤ n ∧ n ≤ 2147483647) ∧ Reads l a (numL n) m := by
  constructor
  · intro h
    by_cases ha : a < 0 ∨ (l.length : Int) < a
    · rw [rdNum_arg ha] at h; cases h
    obtain ⟨A, rfl⟩ := Int.eq_ofNat_of_zero_le (show 0 ≤ a by omega)
    have hA : A ≤ l.length := by omega
    rcases indexByte_cases (l.drop A) 32 with ⟨hk, _⟩ | ⟨k, hk, hlt, hc, _⟩
    · rw [rdNum_short hA (by rw [hk]; decide)] at h; cases h
    by_cases hd : decB ((l.drop A).take k) = true
    · by_cases hr : decVal ((l.drop A).take k) < -2147483648 ∨ 2147483647 < decVal ((l.drop A).take k)
      · rw [rdNum_range hA hk hd hr] at h; cases h
      · rw [rdNum_ok hA hk hd (by omega) (by omega)] at h
        simp only [Prod.mk.injEq, and_true] at h
        obtain ⟨h1, h2⟩ := h
        have hi := itoa_val hd
        rw [h1] at hi
        refine ⟨by omega, ?_⟩
        have hdrop : l.drop A = numL n ++ (l.drop A).drop (k + 1) := by
          have e1 : (l.drop A).drop k = 32 :: (l.drop A).drop (k + 1) := by
            rw [List.drop_eq_getElem_cons hlt]
            congr 1
            rw [List.getD_eq_getElem?_getD, List.getElem?_eq_getElem hlt] at hc
            exact hc
          conv => lhs; rw [← List.take_append_drop k (l.drop A), e1]
          rw [numL, hi]; simp
        have hkl : (numL n).length = k + 1 := by
          rw [numL, hi, List.length_append, List.length_take]
          simp at hlt ⊢; omega
        have := reads_of_eq hdrop hA
        rw [hkl] at this
        rw [← h2]
        exact this
    · have hd' : decB ((l.drop A).take k) = false := by simpa using hd
      rw [rdNum_syntax hA hk hd'] at h; cases h
  · rintro ⟨⟨h1, h2⟩, h⟩
    obtain ⟨f, r, rfl, rfl, rfl⟩ := h.around
    exact rdNum_numL f r n h1 h2
theorem rdStr_iff {l : List UInt8} {a m : Int} {x : List UInt8} : rdStr l a = (x, m, 0) ↔ Reads l a (strL x) m := by
  constructor
  · intro h
    by_cases ha : a < 0 ∨ (l.length : Int) < a
    · rw [rdStr_arg ha] at h; cases h
    obtain ⟨A, rfl⟩ := Int.eq_ofNat_of_zero_le (show 0 ≤ a by omega)
    have hA : A ≤ l.length := by omega
    rcases indexByte_cases (l.drop A) 58 with ⟨hk, _⟩ | ⟨k, hk, hlt, hc, _⟩
    · rw [rdStr_short hA (by rw [hk]; decide)] at h; cases h
    rw [rdStr_tail hA hk, rdStr.rdTail] at h
    have e1 : l.drop A = (l.drop A).take k ++ 58 :: l.drop (A + k + 1) := by
      conv => lhs; rw [← List.take_append_drop k (l.drop A)]
      congr 1
      rw [List.drop_eq_getElem_cons hlt]
      rw [List.getD_eq_getElem?_getD, List.getElem?_eq_getElem hlt] at hc
      congr 1
      rw [List.drop_drop]; congr 1
    generalize ht : (l.drop A).take k = t at h e1
    have hlt2 : t.length = k := by rw [← ht, List.length_take]; simp at hlt ⊢; omega
    split at h
    · cases h
    rename_i hd
    split at h
    · cases h
    rename_i hlen
    split at h
    · cases h
    rename_i h44
    simp only [Prod.mk.injEq, and_true] at h
    obtain ⟨h1, h2⟩ := h
    have hd1 : decB t = true := by
      cases e : decB t
      · exact absurd (.inl e) hd
      · rfl
    have hd2 : t.head? ≠ some 45 := fun e => hd (.inr e)
    have hi := itoa_val hd1
    rw [pos_dec hd2] at hi
    have hxl : x.length = val t := by rw [← h1, List.length_take, List.length_drop]; omega
    have e2 : l.drop (A + k + 1) = x ++ 44 :: l.drop (A + k + 1 + val t + 1) := by
      conv => lhs; rw [← List.take_append_drop (val t) (l.drop (A + k + 1)), h1]
      congr 1
      have hlt3 : A + k + 1 + val t < l.length := by omega
      rw [List.drop_drop, List.drop_eq_getElem_cons hlt3]
      congr 1
      rw [List.getD_eq_getElem?_getD, List.getElem?_eq_getElem hlt3] at h44
      simpa using h44
    have e3 : l.drop A = strL x ++ l.drop (A + k + 1 + val t + 1) := by
      rw [e1, e2, strL, hxl, hi]; simp
    have := reads_of_eq e3 hA
    have hsl : (strL x).length = k + 1 + val t + 1 := by rw [strL_length, hxl, hi, hlt2]
    rw [hsl] at this
    rw [← h2]
    rwa [show A + k + 1 + val t + 1 = A + (k + 1 + val t + 1) from by omega]
  · intro h
    obtain ⟨f, r, rfl, rfl, rfl⟩ := h.around
    exact rdStr_strL f x r

theorem txt_ok {l u : List UInt8} {a b : Int} : txt l a = .ok (u, b) ↔ Reads l a (strL u) b := by
  unfold txt
  constructor
  · intro h
    split at h
    · rename_i h0
      simp only [Except.ok.injEq, Prod.mk.injEq] at h
      exact rdStr_iff.1 (by rw [← h.1, ← h.2, ← h0])
    · cases h
  · intro h
    have := rdStr_iff.2 h
    rw [this]; rfl
theorem nmb_ok {l : List UInt8} {a n b : Int} : nmb l a = .ok (n, b) ↔ (-2147483648 ≤ n ∧ n ≤ 2147483647) ∧ Reads l a (numL n) b := by
  unfold nmb
  constructor
  · intro h
    split at h
    · rename_i h0
      simp only [Except.ok.injEq, Prod.mk.injEq] at h
      exact rdNum_iff.1 (by rw [← h.1, ← h.2, ← h0])
    · cases h
  · intro h
    have := rdNum_iff.2 h
    rw [this]; rfl
theorem bind_ok {α β : Type} {x : Except Int α} {f : α → Except Int β} {z : β} : (x >>= f) = .ok z ↔ ∃ y, x = .ok y ∧ f y = .ok z := by
  cases x with
  | error e => constructor
               · intro h; cases h
               · rintro ⟨y, h, _⟩; cases h
  | ok y => constructor
            · intro h; exact ⟨y, rfl, h⟩
            · rintro ⟨y', h, h2⟩; cases h; exact h2
theorem cnt_ok {most : Int} {l : List UInt8} {a n b : Int} (hm : most ≤ 2147483647) : cnt most l a = .ok (n, b) ↔ (0 ≤ n ∧ n ≤ most) ∧ Reads l a (numL n) b := by
  unfold cnt
  rw [bind_ok]
  constructor
  · rintro ⟨⟨n', b'⟩, h1, h2⟩
    simp only at h2
    split at h2
    · cases h2
    · rename_i h3
      simp only [Except.ok.injEq, Prod.mk.injEq] at h2
      obtain ⟨rfl, rfl⟩ := h2
      exact ⟨by omega, (nmb_ok.1 h1).2⟩
  · rintro ⟨h1, h2⟩
    refine ⟨(n, b), nmb_ok.2 ⟨by omega, h2⟩, ?_⟩
    simp only
    rw [if_neg (by omega)]
theorem ba_inj {a b : ByteArray} (h : a.data.toList = b.data.toList) : a = b := by
  cases a with | mk a => cases b with | mk b => simp only at h; congr; exact Array.toList_inj.1 h
theorem bA'_list (l : List UInt8) : (bA' l).data.toList = l := rfl
theorem bA'_of (b : ByteArray) : bA' b.data.toList = b := ba_inj rfl
theorem atR_ok {l : List UInt8} {a b : Int} {x : At} : atR l a = .ok (x, b) ↔ Reads l a (atL x) b := by
  unfold atR
  simp only [bind_ok]
  constructor
  · rintro ⟨⟨k, b1⟩, h1, ⟨v, c⟩, h2, h3⟩
    simp only [Except.ok.injEq, Prod.mk.injEq] at h3
    obtain ⟨rfl, rfl⟩ := h3
    exact (txt_ok.1 h1).trans (txt_ok.1 h2)
  · intro h
    obtain ⟨c, h1, h2⟩ := h.split
    refine ⟨(x.key.data.toList, c), txt_ok.2 h1, (x.value.data.toList, b), txt_ok.2 h2, ?_⟩
    simp only [bA'_of]
theorem atR_ok' (l : List UInt8) (a b : Int) (x : At) : atR l a = .ok (x, b) ↔ True ∧ Reads l a (atL x) b := by rw [atR_ok]; simp
def ExIn (x : Ex) : Prop := (-2147483648 ≤ x.s ∧ x.s ≤ 2147483647) ∧ (-2147483648 ≤ x.o ∧ x.o ≤ 2147483647) ∧ (-2147483648 ≤ x.l ∧ x.l ≤ 2147483647)
theorem exR_ok {l : List UInt8} {a b : Int} {x : Ex} : exR l a = .ok (x, b) ↔ ExIn x ∧ Reads l a (exL x) b := by
  unfold exR
  simp only [bind_ok]
  constructor
  · rintro ⟨⟨s, b1⟩, h1, ⟨o, c⟩, h2, ⟨n, d⟩, h3, h4⟩
    simp only [Except.ok.injEq, Prod.mk.injEq] at h4
    obtain ⟨rfl, rfl⟩ := h4
    obtain ⟨i1, r1⟩ := nmb_ok.1 h1
    obtain ⟨i2, r2⟩ := nmb_ok.1 h2
    obtain ⟨i3, r3⟩ := nmb_ok.1 h3
    exact ⟨⟨i1, i2, i3⟩, (r1.trans r2).trans r3⟩
  · rintro ⟨⟨i1, i2, i3⟩, h⟩
    obtain ⟨d, h12, h3⟩ := h.split
    obtain ⟨c, h1, h2⟩ := h12.split
    exact ⟨(x.s, c), nmb_ok.2 ⟨i1, h1⟩, (x.o, d), nmb_ok.2 ⟨i2, h2⟩, (x.l, b), nmb_ok.2 ⟨i3, h3⟩, rfl⟩
theorem rowR_ok {α : Type} {l : List UInt8} {f : Int → Except Int (α × Int)} {P : α → Prop} {enc : α → List UInt8} (hf : ∀ a b x, f a = .ok (x, b) ↔ P x ∧ Reads l a (enc x) b) {a : Int} (ha : 0 ≤ a ∧ a ≤ l.length) :
    ∀ (k : Nat) (A : List α) (b : Int), rowR f a k = .ok (A, b) ↔ A.length = k ∧ (∀ x ∈ A, P x) ∧ Reads l a (A.flatMap enc) b
  | 0, A, b => by
    rw [rowR]
    constructor
    · intro h
      simp only [Except.ok.injEq, Prod.mk.injEq] at h
      obtain ⟨rfl, rfl⟩ := h
      obtain ⟨n, rfl⟩ := Int.eq_ofNat_of_zero_le ha.1
      exact ⟨rfl, fun x hx => (by cases hx), Reads.nil (by omega)⟩
    · rintro ⟨h1, _, h2⟩
      rw [List.eq_nil_of_length_eq_zero h1] at h2 ⊢
      obtain ⟨A', rfl, rfl, _⟩ := h2
      simp
  | k + 1, A, b => by
    rw [rowR]
    simp only [bind_ok]
    constructor
    · rintro ⟨⟨A1, b1⟩, h1, ⟨x, c⟩, h2, h3⟩
      simp only [Except.ok.injEq, Prod.mk.injEq] at h3
      obtain ⟨rfl, rfl⟩ := h3
      obtain ⟨e1, e2, e3⟩ := (rowR_ok hf ha k A1 b1).1 h1
      obtain ⟨p, r⟩ := (hf _ _ _).1 h2
      refine ⟨by simp [e1], fun y hy => ?_, ?_⟩
      · rcases List.mem_append.1 hy with hy | hy
        · exact e2 y hy
        · simp only [List.mem_singleton] at hy; subst hy; exact p
      · rw [List.flatMap_append]
        have : [x].flatMap enc = enc x := by simp
        rw [this]; exact e3.trans r
    · rintro ⟨h1, h2, h3⟩
      rcases List.eq_nil_or_concat A with rfl | ⟨A1, x, rfl⟩
      · cases h1
      rw [List.concat_eq_append] at *
      rw [List.flatMap_append] at h3
      have : [x].flatMap enc = enc x := by simp
      rw [this] at h3
      obtain ⟨b1, r1, r2⟩ := h3.split
      exact ⟨(A1, b1), (rowR_ok hf ha k A1 b1).2 ⟨by simpa using h1, fun y hy => h2 y (by simp [hy]), r1⟩, (x, b), (hf _ _ _).2 ⟨h2 x (by simp), r2⟩, rfl⟩

/-! ### heads -/
theorem kindOf_iff {l : List UInt8} {k : Int} : (kindOf l = k ∧ k ≠ 0) ↔ (1 ≤ k ∧ k ≤ 6) ∧ l = nameL k := by
  constructor
  · rintro ⟨h, h0⟩
    unfold kindOf at h
    repeat' split at h
    all_goals first | (subst h; rename_i e; exact ⟨by decide, e⟩) | (exact absurd h.symm h0)
  · rintro ⟨⟨h1, h2⟩, rfl⟩
    have : k = 1 ∨ k = 2 ∨ k = 3 ∨ k = 4 ∨ k = 5 ∨ k = 6 := by omega
    rcases this with rfl | rfl | rfl | rfl | rfl | rfl <;> decide
def hdL (h : Hd) : List UInt8 := strL (nameL h.kind) ++ strL h.path.data.toList ++ numL h.attrs.length ++ h.attrs.flatMap atL ++ strL h.target.data.toList
theorem headR_ok {l : List UInt8} {h : Hd} : headR l = .ok h ↔ (1 ≤ h.kind ∧ h.kind ≤ 6) ∧ h.attrs.length ≤ 400 ∧ l = hdL h := by
  unfold headR
  simp only [bind_ok]
  constructor
  · rintro ⟨⟨name, a⟩, h1, h2⟩
    simp only at h2
    split at h2
    · cases h2
    rename_i hk
    simp only [bind_ok] at h2
    obtain ⟨⟨p, b⟩, h2, ⟨n, c⟩, h3, ⟨A, d⟩, h4, ⟨t, e⟩, h5, h6⟩ := h2
    simp only at h6 h4 h3 h5
    split at h6
    · rename_i he
      simp only [Except.ok.injEq] at h6
      subst h6
      obtain ⟨q1, q2⟩ := kindOf_iff.1 ⟨rfl, hk⟩
      have r1 := txt_ok.1 h1
      have r2 := txt_ok.1 h2
      obtain ⟨⟨n0, n1⟩, r3⟩ := (cnt_ok (by decide)).1 h3
      obtain ⟨e1, _, r4⟩ := (rowR_ok (P := fun _ => True) (enc := atL) (atR_ok' _) ⟨by have := r3.nonneg; omega, by have := r3.nonneg; omega⟩ _ _ _).1 h4
      have r5 := txt_ok.1 h5
      refine ⟨q1, by simp only; omega, ?_⟩
      have r := (((r1.trans r2).trans r3).trans r4).trans r5
      rw [he] at r
      obtain ⟨A', hA, hl, _, hd⟩ := r
      have hA0 : A' = 0 := by omega
      subst hA0
      rw [List.drop_zero] at hd
      rw [hd, List.drop_eq_nil_of_le (by omega), List.append_nil, hdL]
      simp only [e1, bA'_list]
      rw [← q2]
      rw [show ((n.toNat : Nat) : Int) = n from by omega]
    · cases h6
  · rintro ⟨hk, hA, rfl⟩
    have r : Reads (hdL h) 0 (hdL h) (hdL h).length := ⟨0, rfl, by simp, by simp, by simp⟩
    unfold hdL at r
    obtain ⟨d, r, r5⟩ := r.split
    obtain ⟨c, r, r4⟩ := r.split
    obtain ⟨b, r, r3⟩ := r.split
    obtain ⟨a, r1, r2⟩ := r.split
    obtain ⟨q1, q2⟩ := kindOf_iff.2 ⟨hk, rfl⟩
    refine ⟨(nameL h.kind, a), txt_ok.2 r1, ?_⟩
    simp only
    rw [q1, if_neg q2]
    simp only [bind_ok]
    have hll : ((hdL h).length : Int) = ((strL (nameL h.kind) ++ strL h.path.data.toList ++ numL h.attrs.length ++ h.attrs.flatMap atL ++ strL h.target.data.toList).length : Int) := rfl
    refine ⟨(h.path.data.toList, b), txt_ok.2 r2, ((h.attrs.length : Int), c), (cnt_ok (by decide)).2 ⟨by omega, r3⟩, (h.attrs, d), ?_, (h.target.data.toList, ((hdL h).length : Int)), txt_ok.2 r5, ?_⟩
    · exact (rowR_ok (P := fun _ => True) (enc := atL) (atR_ok' _) ⟨by have := r3.nonneg; omega, by have := r3.nonneg; omega⟩ _ _ _).2 ⟨by simp, fun _ _ => trivial, r4⟩
    · show (if ((hdL h).length : Int) = ((hdL h).length : Int) then _ else _) = _
      rw [if_pos rfl]
      simp only [bA'_of]

/-! ### entries -/
def En.hd (e : En) : Hd := ⟨e.kind, e.path, e.attrs, e.target⟩
theorem headL_hd (e : En) : headL e = hdL e.hd := rfl
theorem chkE_kind {e : En} (h : chkE e = 0) : 1 ≤ e.kind ∧ e.kind ≤ 6 := by
  unfold chkE at h
  split at h
  · cases h
  · omega
theorem chkE_rest {e : En} (h : chkE e = 0) : pathE e.path.data.toList = 0 ∧ attrsE e.attrs = 0 ∧ contE e.kind e.size e.digest.size e.exts = 0 := by
  unfold chkE at h
  split at h
  · cases h
  split at h
  · rename_i hp
    split at h
    · cases h
    split at h
    · rename_i ha
      split at h
      · cases h
      · exact ⟨hp, ha, h⟩
    · rename_i ha; exact absurd h ha
  · rename_i hp; exact absurd h hp
theorem attrsE_len {A : List At} (h : attrsE A = 0) : A.length ≤ 16 := by
  unfold attrsE at h
  split at h
  · cases h
  · omega
theorem contE_parts {kind size : Int} {d : Nat} {X : List Ex} (h : contE kind size d X = 0) : (0 ≤ size ∧ size ≤ 65536) ∧ (∀ i, i < X.length → exOk (exAt X i) = true) ∧ exSum X = size := by
  unfold contE at h
  split at h
  · rename_i hs
    split at h
    · rename_i hx
      split at h
      · rename_i hsum
        refine ⟨?_, fun i hi => ?_, hsum⟩
        · unfold sizeE at hs
          by_cases q : size < 0 ∨ (if kind = 1 then 65536 else 0) < size
          · rw [if_pos q] at hs; exact absurd hs (by decide)
          · by_cases hk : kind = 1
            · rw [if_pos hk] at q; omega
            · rw [if_neg hk] at q; omega
        · have := firstE_all hx i hi
          unfold exE at this
          split at this
          · split at this
            · assumption
            · cases this
          · cases this
      · cases h
    · rename_i hx; exact absurd h hx
  · rename_i hs; exact absurd h hs
theorem exOk_iff {x : Ex} : exOk x = true ↔ (0 ≤ x.s ∧ x.s ≤ 255 ∧ 0 ≤ x.o ∧ x.o ≤ 2147483647 ∧ 1 ≤ x.l ∧ x.l ≤ 65536 ∧ (x.s = 0 → x.o = 0)) := by
  unfold exOk
  simp only [Bool.not_eq_true', Bool.or_eq_false_iff, Bool.and_eq_false_iff, decide_eq_false_iff_not]
  omega
theorem sum_ge : ∀ (X : List Ex), (∀ x ∈ X, 1 ≤ x.l) → (X.length : Int) ≤ exSum X
  | [], _ => by decide
  | x :: X, h => by
    have h1 := h x (by simp)
    have h2 := sum_ge X (fun y hy => h y (by simp [hy]))
    unfold exSum at h2 ⊢
    simp only [List.map_cons, List.sum_cons, List.length_cons]
    omega
theorem chkE_exts {e : En} (h : chkE e = 0) : e.exts.length ≤ 65536 ∧ (∀ x ∈ e.exts, ExIn x) ∧ (0 ≤ e.size ∧ e.size ≤ 65536) := by
  obtain ⟨h1, h2, h3⟩ := contE_parts (chkE_rest h).2.2
  have hx : ∀ x ∈ e.exts, exOk x = true := by
    intro x hx
    obtain ⟨i, hi, rfl⟩ := List.getElem_of_mem hx
    have := h2 i hi
    rwa [exAt_get hi] at this
  have hl := sum_ge e.exts (fun x hx' => (exOk_iff.1 (hx x hx')).2.2.2.2.1)
  refine ⟨by omega, fun x hx' => ?_, h1⟩
  have := exOk_iff.1 (hx x hx')
  exact ⟨by omega, by omega, by omega⟩
theorem decR_ok {l : List UInt8} {a b : Int} {e : En} : decR l a = .ok (e, b) ↔ chkE e = 0 ∧ Reads l a (bodyL e) b := by
  unfold decR
  simp only [bind_ok]
  constructor
  · rintro ⟨⟨h, b1⟩, h1, x, h2, ⟨z, c⟩, h3, ⟨g, d⟩, h4, ⟨n, q⟩, h5, ⟨X, f⟩, h6, h7⟩
    simp only at h7 h6 h5 h4 h3 h2
    split at h7
    · rename_i hc
      simp only [Except.ok.injEq, Prod.mk.injEq] at h7
      obtain ⟨rfl, rfl⟩ := h7
      refine ⟨hc, ?_⟩
      have r1 := txt_ok.1 h1
      obtain ⟨_, _, hh⟩ := headR_ok.1 h2
      obtain ⟨_, r3⟩ := nmb_ok.1 h3
      have r4 := txt_ok.1 h4
      obtain ⟨n01, r5⟩ := (cnt_ok (by decide)).1 h5
      obtain ⟨e1, _, r6⟩ := (rowR_ok (P := ExIn) (enc := exL) (fun a b x => exR_ok) ⟨by have := r5.nonneg; omega, by have := r5.nonneg; omega⟩ _ _ _).1 h6
      have r := (((r1.trans r3).trans r4).trans r5).trans r6
      rw [hh] at r
      unfold bodyL
      rw [headL_hd]
      show Reads l a (strL (hdL x) ++ numL z ++ strL g ++ numL (X.length : Int) ++ X.flatMap exL) _
      rw [e1, show ((n.toNat : Nat) : Int) = n from by omega]
      exact r
    · cases h7
  · rintro ⟨hc, r⟩
    obtain ⟨x1, x2, x3⟩ := chkE_exts hc
    unfold bodyL at r
    obtain ⟨q, r, r6⟩ := r.split
    obtain ⟨d, r, r5⟩ := r.split
    obtain ⟨c, r, r4⟩ := r.split
    obtain ⟨b1, r1, r3⟩ := r.split
    refine ⟨(headL e, b1), txt_ok.2 r1, e.hd, ?_, (e.size, c), nmb_ok.2 ⟨by omega, r3⟩, (e.digest.data.toList, d), txt_ok.2 r4, ((e.exts.length : Int), q), (cnt_ok (by decide)).2 ⟨by omega, r5⟩, (e.exts, b), ?_, ?_⟩
    · exact headR_ok.2 ⟨chkE_kind hc, by have := attrsE_len (chkE_rest hc).2.1; show e.attrs.length ≤ 400; omega, headL_hd e⟩
    · exact (rowR_ok (P := ExIn) (enc := exL) (fun a b x => exR_ok) ⟨by have := r5.nonneg; omega, by have := r5.nonneg; omega⟩ _ _ _).2 ⟨by simp, x2, r6⟩
    · simp only [bA'_of, En.hd]
      rw [if_pos hc]
end Go.Proofs.YtpkapcijgldhhaaGreatDoor
