/-
  Entries: paths, attributes, dates: plain laws on lists of bytes.
-/
import Derived.Test.YtpkapcijgldhhaaGreatDoorNetPlain
import Derived.Lib.Split
import Derived.Lib.DecodeN
import Derived.Lib.AtoiAll
import Derived.Shelf.GgClosure.StringsIndexFunc
namespace Go.Proofs.YtpkapcijgldhhaaGreatDoor

/-! ### bytes of keys and of path components -/
def okC (c : UInt8) : Bool := decide (97 ≤ c.toNat ∧ c.toNat ≤ 122) || decide (48 ≤ c.toNat ∧ c.toNat ≤ 57) || decide (c.toNat = 46) || decide (c.toNat = 95) || decide (c.toNat = 45)
/-- the predicate on runes that strings.ContainsFunc is handed: not allowed -/
def badR (r : Nat) : Bool := !(decide (97 ≤ r ∧ r ≤ 122) || decide (48 ≤ r ∧ r ≤ 57) || decide (r = 46) || decide (r = 95) || decide (r = 45))
theorem badR_byte (c : UInt8) : badR c.toNat = !okC c := rfl
theorem badR_big {r : Nat} (h : 128 ≤ r) : badR r = true := by
  unfold badR
  have h1 : decide (97 ≤ r ∧ r ≤ 122) = false := by simp; omega
  have h2 : decide (48 ≤ r ∧ r ≤ 57) = false := by simp; omega
  have h3 : decide (r = 46) = false := by simp; omega
  have h4 : decide (r = 95) = false := by simp; omega
  have h5 : decide (r = 45) = false := by simp; omega
  rw [h1, h2, h3, h4, h5]; rfl
theorem okC_small {c : UInt8} (h : okC c = true) : c.toNat < 128 := by
  unfold okC at h
  simp only [Bool.or_eq_true, decide_eq_true_eq] at h
  omega
theorem decode_big (s : ByteArray) (i : Nat) (h : ¬ (s.get! i).toNat < 128) : badR (Utf8.decode s i).1 = true := by
  refine badR_big ?_
  rw [Lib.decode_at]
  unfold Lib.decodeN
  rw [if_neg h]
  repeat' split
  all_goals simp only
  all_goals omega
theorem get_bang (s : ByteArray) (i : Nat) (h : i < s.size) : s.data.toList[i]? = some (s.get! i) := by
  have h' : i < s.data.size := h
  rw [Array.getElem?_toList]
  show s.data[i]? = some (s.data[i]!)
  rw [getElem!_pos s.data i h', Array.getElem?_eq_getElem h']
theorem idxFuncFrom_ok (s : ByteArray) : ∀ (f pos : Nat), s.size ≤ pos + f → (0 ≤ Lib.idxFuncFrom badR true s f pos ↔ (s.data.toList.drop pos).all okC = false)
  | 0, pos, h => by
    have : s.data.toList.drop pos = [] := List.drop_eq_nil_of_le (by simpa using h)
    rw [this, Lib.idxFuncFrom]; simp
  | f + 1, pos, h => by
    rw [Lib.idxFuncFrom]
    by_cases hp : pos < s.size
    · rw [if_pos hp]
      have hd : s.data.toList.drop pos = s.get! pos :: s.data.toList.drop (pos + 1) := by
        have hl : pos < s.data.toList.length := hp
        have h1 := get_bang s pos hp
        rw [List.getElem?_eq_getElem hl] at h1
        rw [List.drop_eq_getElem_cons hl, Option.some.inj h1]
      rw [hd, List.all_cons]
      by_cases hb : (s.get! pos).toNat < 128
      · have he : Utf8.decode s pos = ((s.get! pos).toNat, 1) := by rw [Lib.decode_at, Lib.decodeN, if_pos hb]
        by_cases hk : okC (s.get! pos) = true
        · rw [if_neg (by rw [he]; show ¬ badR (s.get! pos).toNat = true; rw [badR_byte, hk]; decide), he, hk, Bool.true_and]
          exact idxFuncFrom_ok s f (pos + 1) (by omega)
        · have hk' : okC (s.get! pos) = false := by simpa using hk
          rw [if_pos (by rw [he]; show badR (s.get! pos).toNat = true; rw [badR_byte, hk']; decide), hk']; simp
      · rw [if_pos (decode_big s pos hb)]
        have : okC (s.get! pos) = false := by
          cases hk : okC (s.get! pos)
          · rfl
          · exact absurd (okC_small hk) hb
        rw [this]; simp
    · rw [if_neg hp, List.drop_eq_nil_of_le (by simpa using Nat.le_of_not_lt hp)]; simp
theorem idxFunc_ok (s : ByteArray) : decide (0 ≤ Lib.idxFunc badR true s) = !(s.data.toList.all okC) := by
  have := idxFuncFrom_ok s s.size 0 (by omega)
  rw [List.drop_zero] at this
  unfold Lib.idxFunc
  cases h : s.data.toList.all okC
  · rw [h] at this; simpa using this
  · rw [h] at this; simp only [Bool.not_true, decide_eq_false_iff_not]
    intro h'; exact absurd (this.1 h') (by simp)

def keySet : List UInt8 := [97, 98, 99, 100, 101, 102, 103, 104, 105, 106, 107, 108, 109, 110, 111, 112, 113, 114, 115, 116, 117, 118, 119, 120, 121, 122, 48, 49, 50, 51, 52, 53, 54, 55, 56, 57, 46, 95, 45]
theorem keySet_iff (c : UInt8) : keySet.contains c = okC c := by
  have h : ∀ n : Fin 256, keySet.contains (UInt8.ofNat n.val) = okC (UInt8.ofNat n.val) := by decide +kernel
  have := h ⟨c.toNat, c.toNat_lt⟩
  simpa using this
theorem trim_keys (l : List UInt8) : (Lib.trimS l keySet = []) ↔ l.all okC = true := by
  have e : (fun x => keySet.contains x) = okC := funext keySet_iff
  unfold Lib.trimS Lib.trimLeftS Lib.trimRightS
  rw [e]
  constructor
  · intro h
    have h1 := dropWhile_nil h
    rw [List.all_reverse] at h1
    have h2 := List.takeWhile_append_dropWhile (p := okC) (l := l.reverse)
    have : (l.reverse).all okC = true := by
      rw [← h2, List.all_append, h1]
      simp
    simpa using this
  · intro h
    have h1 : (l.reverse).all okC = true := by simpa using h
    rw [dropWhile_all h1]
    rfl

/-! ### paths -/
def compB (l : List UInt8) : Bool := decide (1 ≤ l.length) && decide (l.length ≤ 32) && !(l == [46]) && !(l == [46, 46]) && l.all okC
def elSt (l : List UInt8) : List (List UInt8) × List UInt8 := l.foldl (fun s c => if c = 47 then (s.1 ++ [s.2], []) else (s.1, s.2 ++ [c])) ([], [])
theorem elSt_snoc (l : List UInt8) (c : UInt8) : elSt (l ++ [c]) = if c = 47 then ((elSt l).1 ++ [(elSt l).2], []) else ((elSt l).1, (elSt l).2 ++ [c]) := by
  unfold elSt; rw [List.foldl_append]; rfl
def elAll (l : List UInt8) : List (List UInt8) := (elSt l).1 ++ [(elSt l).2]
def elemsL (l : List UInt8) : List (List UInt8) := if l = [] then [] else elAll l
theorem elFold (l : List UInt8) : ∀ (o : List (List UInt8)) (p : List UInt8), l.foldl (fun s c => if c = 47 then (s.1 ++ [s.2], []) else (s.1, s.2 ++ [c])) (o, p) =
    (o ++ (l.foldl (fun (s : List (List UInt8) × List UInt8) c => if c = 47 then (s.1 ++ [s.2], []) else (s.1, s.2 ++ [c])) ([], p)).1, (l.foldl (fun (s : List (List UInt8) × List UInt8) c => if c = 47 then (s.1 ++ [s.2], []) else (s.1, s.2 ++ [c])) ([], p)).2) := by
  induction l with
  | nil => intro o p; simp
  | cons c l ih =>
    intro o p
    simp only [List.foldl_cons]
    by_cases h : c = 47
    · simp only [h, if_true, List.nil_append]
      rw [ih (o ++ [p]) [], ih [p] []]
      simp
    · simp only [h, if_false]
      rw [ih o (p ++ [c])]
theorem elFree (a : List UInt8) (h : (47 : UInt8) ∉ a) : ∀ (o : List (List UInt8)) (p : List UInt8), a.foldl (fun s c => if c = 47 then (s.1 ++ [s.2], []) else (s.1, s.2 ++ [c])) (o, p) = (o, p ++ a) := by
  induction a with
  | nil => intro o p; simp
  | cons c a ih =>
    intro o p
    simp only [List.mem_cons, not_or] at h
    have hc : ¬ c = 47 := fun e => h.1 e.symm
    simp only [List.foldl_cons, hc, if_false]
    rw [ih h.2]; simp
theorem elAll_free {a : List UInt8} (h : (47 : UInt8) ∉ a) : elAll a = [a] := by
  unfold elAll elSt; rw [elFree a h]; simp
theorem elAll_cut {a r : List UInt8} (h : (47 : UInt8) ∉ a) : elAll (a ++ 47 :: r) = a :: elAll r := by
  have e : elSt (a ++ 47 :: r) = (a :: (elSt r).1, (elSt r).2) := by
    unfold elSt
    rw [List.foldl_append, elFree a h]
    simp only [List.foldl_cons, if_true, List.nil_append]
    rw [elFold r [a] []]; simp
  unfold elAll; rw [e]; simp
theorem elSt_len (l : List UInt8) : (elSt l).1.length ≤ l.length ∧ (elSt l).2.length ≤ l.length ∧ (∀ x ∈ (elSt l).1, x.length ≤ l.length) := by
  suffices h : ∀ n, ∀ l : List UInt8, l.length = n → (elSt l).1.length ≤ l.length ∧ (elSt l).2.length ≤ l.length ∧ (∀ x ∈ (elSt l).1, x.length ≤ l.length) from h _ l rfl
  intro n
  induction n with
  | zero => intro l h; rw [List.eq_nil_of_length_eq_zero h]; exact ⟨Nat.le_refl _, Nat.le_refl _, fun x hx => by cases hx⟩
  | succ n ih =>
    intro l h
    rcases List.eq_nil_or_concat l with rfl | ⟨l', c, rfl⟩
    · cases h
    · rw [List.concat_eq_append] at h ⊢
      obtain ⟨h1, h2, h3⟩ := ih l' (by simpa using h)
      rw [elSt_snoc]
      split
      · refine ⟨by simp; omega, by simp, fun x hx => ?_⟩
        rcases List.mem_append.1 hx with hx | hx
        · have := h3 x hx; simp; omega
        · simp only [List.mem_singleton] at hx; subst hx; simp; omega
      · refine ⟨by simp; omega, by simp; omega, fun x hx => ?_⟩
        have := h3 x hx; simp; omega

theorem occ_slash (l : List UInt8) (i : Nat) : Lib.occAt l [47] i = decide (l[i]? = some 47) := by
  unfold Lib.occAt
  cases hd : l.drop i with
  | nil =>
    have : l[i]? = none := by rw [List.getElem?_eq_none]; simpa using hd
    rw [this]; rfl
  | cons c r =>
    have : l[i]? = some c := by
      have := congrArg (fun x => x[0]?) hd
      simpa using this
    rw [this]
    simp only [List.isPrefixOf, Bool.and_true]
    by_cases h : c = 47
    · subst h; rfl
    · have h' : ¬ 47 = c := fun e => h e.symm
      simp [h, h']
theorem index_slash (l : List UInt8) : (Lib.index l [47] = -1 ∧ (47 : UInt8) ∉ l) ∨ (∃ a r, l = a ++ 47 :: r ∧ (47 : UInt8) ∉ a ∧ Lib.index l [47] = a.length) := by
  rcases Lib.index_spec l [47] with ⟨h, hn⟩ | ⟨i, h, hi, ho, hn⟩
  · refine .inl ⟨h, fun hm => ?_⟩
    obtain ⟨j, hj, he⟩ := List.getElem_of_mem hm
    have := hn j (by omega)
    rw [occ_slash, List.getElem?_eq_getElem hj, he] at this
    simp at this
  · right
    rw [occ_slash, decide_eq_true_eq] at ho
    obtain ⟨hlt, he⟩ := List.getElem?_eq_some_iff.1 ho
    refine ⟨l.take i, l.drop (i + 1), ?_, fun hm => ?_, ?_⟩
    · rw [← he, ← List.drop_eq_getElem_cons hlt, List.take_append_drop]
    · obtain ⟨j, hj, hej⟩ := List.getElem_of_mem hm
      rw [List.getElem_take] at hej
      have hj' : j < i := by rw [List.length_take] at hj; omega
      have := hn j hj'
      rw [occ_slash, List.getElem?_eq_getElem (by omega), hej] at this
      simp at this
    · rw [h, List.length_take]; congr 1; omega
theorem split_slash : ∀ (n : Nat) (l : List UInt8), l.length ≤ n → Lib.splitK [47] 0 (Lib.count l [47]) l = elAll l
  | n, l, hn => by
    rcases index_slash l with ⟨h, hm⟩ | ⟨a, r, hl, hm, h⟩
    · rw [Lib.count_miss h, Lib.splitK, elAll_free hm]
    · have hc := Lib.count_hit (s := l) (sub := [47]) (by simp) h
      rw [hc, Nat.add_comm, Lib.splitK]
      rw [if_neg (by rw [h]; simp), h]
      have hd : l.drop (a.length + ([47] : List UInt8).length) = r := by rw [hl]; simp [← List.drop_drop]
      have ht : l.take ((a.length : Int).toNat + 0) = a := by rw [hl]; simp
      rw [ht, Int.toNat_natCast, hd]
      match n, hn with
      | 0, hn => exfalso; rw [hl] at hn; simp at hn
      | n + 1, hn =>
        rw [split_slash n r (by rw [hl] at hn; simp at hn; omega)]
        conv => rhs; rw [hl, elAll_cut hm]
theorem count_elAll : ∀ (n : Nat) (l : List UInt8), l.length ≤ n → (elAll l).length = Lib.count l [47] + 1
  | n, l, hn => by
    rcases index_slash l with ⟨h, hm⟩ | ⟨a, r, hl, hm, h⟩
    · rw [Lib.count_miss h, elAll_free hm]; rfl
    · have hc := Lib.count_hit (s := l) (sub := [47]) (by simp) h
      have hd : l.drop (a.length + ([47] : List UInt8).length) = r := by rw [hl]; simp [← List.drop_drop]
      rw [hd] at hc
      rw [hc]
      match n, hn with
      | 0, hn => exfalso; rw [hl] at hn; simp at hn
      | n + 1, hn =>
        conv => lhs; rw [hl, elAll_cut hm]
        rw [List.length_cons, count_elAll n r (by rw [hl] at hn; simp at hn; omega)]; omega
def pathE (l : List UInt8) : Int := if 200 < l.length then 6 else if 8 < (elemsL l).length then 6 else if (elemsL l).all compB then 0 else 7

/-! ### dates -/
def dateB (l : List UInt8) : Bool := decide (1 ≤ l.length) && decide (l.length ≤ 10) && (decide (l.length ≤ 1) || decide (l.head? ≠ some 48)) && l.all isDig && decide (val l ≤ 1000000000)
end Go.Proofs.YtpkapcijgldhhaaGreatDoor
