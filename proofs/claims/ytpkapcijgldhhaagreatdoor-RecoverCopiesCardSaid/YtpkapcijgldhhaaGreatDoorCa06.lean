/-
  Entries: paths, attributes, dates: plain laws on lists of bytes.
  Entries as plain data: their check, their encoding, their decoding.
-/
import Derived.Test.YtpkapcijgldhhaaGreatDoorCa03
import Derived.Lib.Split
import Derived.Lib.DecodeN
import Derived.Lib.AtoiAll
import Derived.Shelf.GgClosure.StringsIndexFunc
import Derived.Lib.Bytealg
namespace Go.Proofs.YtpkapcijgldhhaaGreatDoor

/-! ### bytes of keys and of path components -/
def okC (c : UInt8) : Bool := decide (97 ≤ c.toNat ∧ c.toNat ≤ 122) || decide (48 ≤ c.toNat ∧ c.toNat ≤ 57) || decide (c.toNat = 46) || decide (c.toNat = 95) || decide (c.toNat = 45)
/-- the predicate on runes that strings.ContainsFunc is handed: not allowed -/
def badR (r : Nat) : Bool := !(decide (97 ≤ r ∧ r ≤ 122) || decide (48 ≤ r ∧ r ≤ 57) || decide (r = 46) || decide (r = 95) || decide (r = 45))
theorem badR_byte (c : UInt8) : badR c.toNat = !okC c := rfl
theorem badR_big {r : Nat} (h : 128 ≤ r) : badR r = true := by
  unfold badR
  have h1 : decide (97 ≤ r ∧ r ≤ 122) = false := by simp; omega
  have h2 : decide (48 ≤ r ∧ r ≤ 57) = false := by simp; omega
  have h3 : decide (r = 46) = false := by simp; omega
  have h4 : decide (r = 95) = false := by simp; omega
  have h5 : decide (r = 45) = false := by simp; omega
  rw [h1, h2, h3, h4, h5]; rfl
theorem okC_small {c : UInt8} (h : okC c = true) : c.toNat < 128 := by
  unfold okC at h
  simp only [Bool.or_eq_true, decide_eq_true_eq] at h
  omega
theorem decode_big (s : ByteArray) (i : Nat) (h : ¬ (s.get! i).toNat < 128) : badR (Utf8.decode s i).1 = true := by
  refine badR_big ?_
  rw [Lib.decode_at]
  unfold Lib.decodeN
  rw [if_neg h]
  repeat' split
  all_goals simp only
  all_goals omega
theorem get_bang (s : ByteArray) (i : Nat) (h : i < s.size) : s.data.toList[i]? = some (s.get! i) := by
  have h' : i < s.data.size := h
  rw [Array.getElem?_toList]
  show s.data[i]? = some (s.data[i]!)
  rw [getElem!_pos s.data i h', Array.getElem?_eq_getElem h']
theorem idxFuncFrom_ok (s : ByteArray) : ∀ (f pos : Nat), s.size ≤ pos + f → (0 ≤ Lib.idxFuncFrom badR true s f pos ↔ (s.data.toList.drop pos).all okC = false)
  | 0, pos, h => by
    have : s.data.toList.drop pos = [] := List.drop_eq_nil_of_le (by simpa using h)
    rw [this, Lib.idxFuncFrom]; simp
  | f + 1, pos, h => by
    rw [Lib.idxFuncFrom]
    by_cases hp : pos < s.size
    · rw [if_pos hp]
      have hd : s.data.toList.drop pos = s.get! pos :: s.data.toList.drop (pos + 1) := by
        have hl : pos < s.data.toList.length := hp
        have h1 := get_bang s pos hp
        rw [List.getElem?_eq_getElem hl] at h1
        rw [List.drop_eq_getElem_cons hl, Option.some.inj h1]
      rw [hd, List.all_cons]
      by_cases hb : (s.get! pos).toNat < 128
      · have he : Utf8.decode s pos = ((s.get! pos).toNat, 1) := by rw [Lib.decode_at, Lib.decodeN, if_pos hb]
        by_cases hk : okC (s.get! pos) = true
        · rw [if_neg (by rw [he]; show ¬ badR (s.get! pos).toNat = true; rw [badR_byte, hk]; decide), he, hk, Bool.true_and]
          exact idxFuncFrom_ok s f (pos + 1) (by omega)
        · have hk' : okC (s.get! pos) = false := by simpa using hk
          rw [if_pos (by rw [he]; show badR (s.get! pos).toNat = true; rw [badR_byte, hk']; decide), hk']; simp
      · rw [if_pos (decode_big s pos hb)]
        have : okC (s.get! pos) = false := by
          cases hk : okC (s.get! pos)
          · rfl
          · exact absurd (okC_small hk) hb
        rw [this]; simp
    · rw [if_neg hp, List.drop_eq_nil_of_le (by simpa using Nat.le_of_not_lt hp)]; simp
theorem idxFunc_ok (s : ByteArray) : decide (0 ≤ Lib.idxFunc badR true s) = !(s.data.toList.all okC) := by
  have := idxFuncFrom_ok s s.size 0 (by omega)
  rw [List.drop_zero] at this
  unfold Lib.idxFunc
  cases h : s.data.toList.all okC
  · rw [h] at this; simpa using this
  · rw [h] at this; simp only [Bool.not_true, decide_eq_false_iff_not]
    intro h'; exact absurd (this.1 h') (by simp)

def keySet : List UInt8 := [97, 98, 99, 100, 101, 102, 103, 104, 105, 106, 107, 108, 109, 110, 111, 112, 113, 114, 115, 116, 117, 118, 119, 120, 121, 122, 48, 49, 50, 51, 52, 53, 54, 55, 56, 57, 46, 95, 45]
theorem keySet_iff (c : UInt8) : keySet.contains c = okC c := by
  have h : ∀ n : Fin 256, keySet.contains (UInt8.ofNat n.val) = okC (UInt8.ofNat n.val) := by decide +kernel
  have := h ⟨c.toNat, c.toNat_lt⟩
  simpa using this
theorem trim_keys (l : List UInt8) : (Lib.trimS l keySet = []) ↔ l.all okC = true := by
  have e : (fun x => keySet.contains x) = okC := funext keySet_iff
  unfold Lib.trimS Lib.trimLeftS Lib.trimRightS
  rw [e]
  constructor
  · intro h
    have h1 := dropWhile_nil h
    rw [List.all_reverse] at h1
    have h2 := List.takeWhile_append_dropWhile (p := okC) (l := l.reverse)
    have : (l.reverse).all okC = true := by
      rw [← h2, List.all_append, h1]
      simp
    simpa using this
  · intro h
    have h1 : (l.reverse).all okC = true := by simpa using h
    rw [dropWhile_all h1]
    rfl

/-! ### paths -/
def compB (l : List UInt8) : Bool := decide (1 ≤ l.length) && decide (l.length ≤ 32) && !(l == [46]) && !(l == [46, 46]) && l.all okC
def elSt (l : List UInt8) : List (List UInt8) × List UInt8 := l.foldl (fun s c => if c = 47 then (s.1 ++ [s.2], []) else (s.1, s.2 ++ [c])) ([], [])
theorem elSt_snoc (l : List UInt8) (c : UInt8) : elSt (l ++ [c]) = if c = 47 then ((elSt l).1 ++ [(elSt l).2], []) else ((elSt l).1, (elSt l).2 ++ [c]) := by
  unfold elSt; rw [List.foldl_append]; rfl
def elAll (l : List UInt8) : List (List UInt8) := (elSt l).1 ++ [(elSt l).2]
def elemsL (l : List UInt8) : List (List UInt8) := if l = [] then [] else elAll l
theorem elFold (l : List UInt8) : ∀ (o : List (List UInt8)) (p : List UInt8), l.foldl (fun s c => if c = 47 then (s.1 ++ [s.2], []) else (s.1, s.2 ++ [c])) (o, p) =
    (o ++ (l.foldl (fun (s : List (List UInt8) × List UInt8) c => if c = 47 then (s.1 ++ [s.2], []) else (s.1, s.2 ++ [c])) ([], p)).1, (l.foldl (fun (s : List (List UInt8) × List UInt8) c => if c = 47 then (s.1 ++ [s.2], []) else (s.1, s.2 ++ [c])) ([], p)).2) := by
  induction l with
  | nil => intro o p; simp
  | cons c l ih =>
    intro o p
    simp only [List.foldl_cons]
    by_cases h : c = 47
    · simp only [h, if_true, List.nil_append]
      rw [ih (o ++ [p]) [], ih [p] []]
      simp
    · simp only [h, if_false]
      rw [ih o (p ++ [c])]
theorem elFree (a : List UInt8) (h : (47 : UInt8) ∉ a) : ∀ (o : List (List UInt8)) (p : List UInt8), a.foldl (fun s c => if c = 47 then (s.1 ++ [s.2], []) else (s.1, s.2 ++ [c])) (o, p) = (o, p ++ a) := by
  induction a with
  | nil => intro o p; simp
  | cons c a ih =>
    intro o p
    simp only [List.mem_cons, not_or] at h
    have hc : ¬ c = 47 := fun e => h.1 e.symm
    simp only [List.foldl_cons, hc, if_false]
    rw [ih h.2]; simp
theorem elAll_free {a : List UInt8} (h : (47 : UInt8) ∉ a) : elAll a = [a] := by
  unfold elAll elSt; rw [elFree a h]; simp
theorem elAll_cut {a r : List UInt8} (h : (47 : UInt8) ∉ a) : elAll (a ++ 47 :: r) = a :: elAll r := by
  have e : elSt (a ++ 47 :: r) = (a :: (elSt r).1, (elSt r).2) := by
    unfold elSt
    rw [List.foldl_append, elFree a h]
    simp only [List.foldl_cons, if_true, List.nil_append]
    rw [elFold r [a] []]; simp
  unfold elAll; rw [e]; simp
theorem elSt_len (l : List UInt8) : (elSt l).1.length ≤ l.length ∧ (elSt l).2.length ≤ l.length ∧ (∀ x ∈ (elSt l).1, x.length ≤ l.length) := by
  suffices h : ∀ n, ∀ l : List UInt8, l.length = n → (elSt l).1.length ≤ l.length ∧ (elSt l).2.length ≤ l.length ∧ (∀ x ∈ (elSt l).1, x.length ≤ l.length) from h _ l rfl
  intro n
  induction n with
  | zero => intro l h; rw [List.eq_nil_of_length_eq_zero h]; exact ⟨Nat.le_refl _, Nat.le_refl _, fun x hx => by cases hx⟩
  | succ n ih =>
    intro l h
    rcases List.eq_nil_or_concat l with rfl | ⟨l', c, rfl⟩
    · cases h
    · rw [List.concat_eq_append] at h ⊢
      obtain ⟨h1, h2, h3⟩ := ih l' (by simpa using h)
      rw [elSt_snoc]
      split
      · refine ⟨by simp; omega, by simp, fun x hx => ?_⟩
        rcases List.mem_append.1 hx with hx | hx
        · have := h3 x hx; simp; omega
        · simp only [List.mem_singleton] at hx; subst hx; simp; omega
      · refine ⟨by simp; omega, by simp; omega, fun x hx => ?_⟩
        have := h3 x hx; simp; omega

theorem occ_slash (l : List UInt8) (i : Nat) : Lib.occAt l [47] i = decide (l[i]? = some 47) := by
  unfold Lib.occAt
  cases hd : l.drop i with
  | nil =>
    have : l[i]? = none := by rw [List.getElem?_eq_none]; simpa using hd
    rw [this]; rfl
  | cons c r =>
    have : l[i]? = some c := by
      have := congrArg (fun x => x[0]?) hd
      simpa using this
    rw [this]
    simp only [List.isPrefixOf, Bool.and_true]
    by_cases h : c = 47
    · subst h; rfl
    · have h' : ¬ 47 = c := fun e => h e.symm
      simp [h, h']
theorem index_slash (l : List UInt8) : (Lib.index l [47] = -1 ∧ (47 : UInt8) ∉ l) ∨ (∃ a r, l = a ++ 47 :: r ∧ (47 : UInt8) ∉ a ∧ Lib.index l [47] = a.length) := by
  rcases Lib.index_spec l [47] with ⟨h, hn⟩ | ⟨i, h, hi, ho, hn⟩
  · refine .inl ⟨h, fun hm => ?_⟩
    obtain ⟨j, hj, he⟩ := List.getElem_of_mem hm
    have := hn j (by omega)
    rw [occ_slash, List.getElem?_eq_getElem hj, he] at this
    simp at this
  · right
    rw [occ_slash, decide_eq_true_eq] at ho
    obtain ⟨hlt, he⟩ := List.getElem?_eq_some_iff.1 ho
    refine ⟨l.take i, l.drop (i + 1), ?_, fun hm => ?_, ?_⟩
    · rw [← he, ← List.drop_eq_getElem_cons hlt, List.take_append_drop]
    · obtain ⟨j, hj, hej⟩ := List.getElem_of_mem hm
      rw [List.getElem_take] at hej
      have hj' : j < i := by rw [List.length_take] at hj; omega
      have := hn j hj'
      rw [occ_slash, List.getElem?_eq_getElem (by omega), hej] at this
      simp at this
    · rw [h, List.length_take]; congr 1; omega
theorem split_slash : ∀ (n : Nat) (l : List UInt8), l.length ≤ n → Lib.splitK [47] 0 (Lib.count l [47]) l = elAll l
  | n, l, hn => by
    rcases index_slash l with ⟨h, hm⟩ | ⟨a, r, hl, hm, h⟩
    · rw [Lib.count_miss h, Lib.splitK, elAll_free hm]
    · have hc := Lib.count_hit (s := l) (sub := [47]) (by simp) h
      rw [hc, Nat.add_comm, Lib.splitK]
      rw [if_neg (by rw [h]; simp), h]
      have hd : l.drop (a.length + ([47] : List UInt8).length) = r := by rw [hl]; simp [← List.drop_drop]
      have ht : l.take ((a.length : Int).toNat + 0) = a := by rw [hl]; simp
      rw [ht, Int.toNat_natCast, hd]
      match n, hn with
      | 0, hn => exfalso; rw [hl] at hn; simp at hn
      | n + 1, hn =>
        rw [split_slash n r (by rw [hl] at hn; simp at hn; omega)]
        conv => rhs; rw [hl, elAll_cut hm]
theorem count_elAll : ∀ (n : Nat) (l : List UInt8), l.length ≤ n → (elAll l).length = Lib.count l [47] + 1
  | n, l, hn => by
    rcases index_slash l with ⟨h, hm⟩ | ⟨a, r, hl, hm, h⟩
    · rw [Lib.count_miss h, elAll_free hm]; rfl
    · have hc := Lib.count_hit (s := l) (sub := [47]) (by simp) h
      have hd : l.drop (a.length + ([47] : List UInt8).length) = r := by rw [hl]; simp [← List.drop_drop]
      rw [hd] at hc
      rw [hc]
      match n, hn with
      | 0, hn => exfalso; rw [hl] at hn; simp at hn
      | n + 1, hn =>
        conv => lhs; rw [hl, elAll_cut hm]
        rw [List.length_cons, count_elAll n r (by rw [hl] at hn; simp at hn; omega)]; omega
def pathE (l : List UInt8) : Int := if 200 < l.length then 6 else if 8 < (elemsL l).length then 6 else if (elemsL l).all compB then 0 else 7

/-! ### dates -/
def dateB (l : List UInt8) : Bool := decide (1 ≤ l.length) && decide (l.length ≤ 10) && (decide (l.length ≤ 1) || decide (l.head? ≠ some 48)) && l.all isDig && decide (val l ≤ 1000000000)
end Go.Proofs.YtpkapcijgldhhaaGreatDoor

namespace Go.Proofs.YtpkapcijgldhhaaGreatDoor

/-- the first error of a row of n -/
def firstE (f : Nat → Int) : Nat → Int
  | 0 => 0
  | n + 1 => if firstE f n = 0 then f n else firstE f n
theorem firstE_stop {f : Nat → Int} {k : Nat} (h : firstE f k = 0) (hk : f k ≠ 0) : ∀ {n : Nat}, k < n → firstE f n = f k := by
  intro n hn
  induction n with
  | zero => omega
  | succ n ih =>
    rw [firstE]
    by_cases e : k = n
    · subst e; rw [if_pos h]
    · rw [ih (by omega), if_neg hk]
theorem firstE_next {f : Nat → Int} {k : Nat} (h : firstE f k = 0) (hk : f k = 0) : firstE f (k + 1) = 0 := by rw [firstE, if_pos h, hk]
theorem firstE_all {f : Nat → Int} : ∀ {n : Nat}, firstE f n = 0 → ∀ k, k < n → f k = 0 := by
  intro n
  induction n with
  | zero => intro _ k hk; omega
  | succ n ih =>
    intro h k hk
    rw [firstE] at h
    split at h
    · rename_i h0
      by_cases e : k = n
      · subst e; exact h
      · exact ih h0 k (by omega)
    · rename_i h0; exact absurd h h0
structure At where
  key : ByteArray
  value : ByteArray
structure Ex where
  s : Int
  o : Int
  l : Int
structure En where
  kind : Int
  path : ByteArray
  attrs : List At
  target : ByteArray
  size : Int
  digest : ByteArray
  exts : List Ex
def at0 : At := ⟨ByteArray.empty, ByteArray.empty⟩
def ex0 : Ex := ⟨0, 0, 0⟩
def en0 : En := ⟨0, ByteArray.empty, [], ByteArray.empty, 0, ByteArray.empty, []⟩
def atAt (A : List At) (i : Nat) : At := A.getD i at0
def exAt (X : List Ex) (i : Nat) : Ex := X.getD i ex0
theorem atAt_get {A : List At} {i : Nat} (h : i < A.length) : atAt A i = A[i] := by
  rw [atAt, List.getD_eq_getElem?_getD, List.getElem?_eq_getElem h]; rfl
theorem exAt_get {X : List Ex} {i : Nat} (h : i < X.length) : exAt X i = X[i] := by
  rw [exAt, List.getD_eq_getElem?_getD, List.getElem?_eq_getElem h]; rfl

/-! ### the check -/
def keyB (l : List UInt8) : Bool := decide (1 ≤ l.length) && decide (l.length ≤ 32) && l.all okC
def attrOne (k v : ByteArray) : Int := if keyB k.data.toList = false then 7 else if 64 < v.size then 6 else 0
def attrTwo (p k : ByteArray) : Int := if Lib.compareBytes p.data.toList k.data.toList = 0 then 8 else if Lib.compareBytes p.data.toList k.data.toList = 1 then 14 else 0
def attrE (A : List At) (i : Nat) : Int :=
  if attrOne (atAt A i).key (atAt A i).value = 0 then (if i = 0 then 0 else attrTwo (atAt A (i - 1)).key (atAt A i).key) else attrOne (atAt A i).key (atAt A i).value
def attrsE (A : List At) : Int := if 16 < A.length then 6 else firstE (attrE A) A.length
def nameL (kind : Int) : List UInt8 :=
  if kind = 1 then [102, 105, 108, 101] else if kind = 2 then [100, 105, 114] else if kind = 3 then [108, 105, 110, 107] else if kind = 4 then [114, 101, 109, 111, 118, 101]
  else if kind = 5 then [104, 111, 108, 100] else if kind = 6 then [114, 101, 108, 101, 97, 115, 101] else []
def targetB (kind : Int) (t : List UInt8) : Bool := if kind = 3 then decide (1 ≤ t.length) && decide (t.length ≤ 200) else if kind = 5 then dateB t else t.isEmpty
def exOk (x : Ex) : Bool := !(decide (x.s < 0) || decide (255 < x.s) || decide (x.o < 0) || decide (2147483647 < x.o) || decide (x.l < 1) || decide (65536 < x.l) || (decide (x.s = 0) && decide (x.o ≠ 0)))
def exE (kind : Int) (X : List Ex) (i : Nat) : Int := if kind = 1 then (if exOk (exAt X i) then 0 else 2) else 1
def exSum (X : List Ex) : Int := (X.map Ex.l).sum
def sizeE (kind size : Int) (d : Nat) : Int :=
  if size < 0 ∨ (if kind = 1 then 65536 else 0) < size then 2 else if d ≠ (if kind = 1 then 32 else 0) then 1 else 0
def contE (kind size : Int) (d : Nat) (X : List Ex) : Int :=
  if sizeE kind size d = 0 then (if firstE (exE kind X) X.length = 0 then (if exSum X = size then 0 else 1) else firstE (exE kind X) X.length) else sizeE kind size d
def chkE (e : En) : Int :=
  if e.kind < 1 ∨ 6 < e.kind then 10
  else if pathE e.path.data.toList = 0 then
    (if e.path.data.toList = [] ∧ e.kind < 5 then 1
     else if attrsE e.attrs = 0 then (if (0 < e.attrs.length ∧ 3 < e.kind) ∨ targetB e.kind e.target.data.toList = false then 1 else contE e.kind e.size e.digest.size e.exts)
     else attrsE e.attrs)
  else pathE e.path.data.toList

/-! ### the encoding -/
def atL (a : At) : List UInt8 := strL a.key.data.toList ++ strL a.value.data.toList
def exL (x : Ex) : List UInt8 := numL x.s ++ numL x.o ++ numL x.l
def headL (e : En) : List UInt8 := strL (nameL e.kind) ++ strL e.path.data.toList ++ numL e.attrs.length ++ e.attrs.flatMap atL ++ strL e.target.data.toList
def bodyL (e : En) : List UInt8 := strL (headL e) ++ numL e.size ++ strL e.digest.data.toList ++ numL e.exts.length ++ e.exts.flatMap exL

/-! ### the decoding: up to the first error -/
def txt (l : List UInt8) (a : Int) : Except Int (List UInt8 × Int) := if (rdStr l a).2.2 = 0 then .ok ((rdStr l a).1, (rdStr l a).2.1) else .error (rdStr l a).2.2
def nmb (l : List UInt8) (a : Int) : Except Int (Int × Int) := if (rdNum l a).2.2 = 0 then .ok ((rdNum l a).1, (rdNum l a).2.1) else .error (rdNum l a).2.2
def cnt (most : Int) (l : List UInt8) (a : Int) : Except Int (Int × Int) := do
  let (n, b) ← nmb l a
  if n < 0 ∨ most < n then .error 2 else .ok (n, b)
def bA' (l : List UInt8) : ByteArray := ⟨l.toArray⟩
def atR (l : List UInt8) (a : Int) : Except Int (At × Int) := do
  let (k, b) ← txt l a
  let (v, c) ← txt l b
  .ok (⟨bA' k, bA' v⟩, c)
def exR (l : List UInt8) (a : Int) : Except Int (Ex × Int) := do
  let (s, b) ← nmb l a
  let (o, c) ← nmb l b
  let (n, d) ← nmb l c
  .ok (⟨s, o, n⟩, d)
def rowR {α : Type} (f : Int → Except Int (α × Int)) (a : Int) : Nat → Except Int (List α × Int)
  | 0 => .ok ([], a)
  | k + 1 => do
    let (A, b) ← rowR f a k
    let (x, c) ← f b
    .ok (A ++ [x], c)
def kindOf (l : List UInt8) : Int :=
  if l = nameL 1 then 1 else if l = nameL 2 then 2 else if l = nameL 3 then 3 else if l = nameL 4 then 4 else if l = nameL 5 then 5 else if l = nameL 6 then 6 else 0
structure Hd where
  kind : Int
  path : ByteArray
  attrs : List At
  target : ByteArray
def headR (l : List UInt8) : Except Int Hd := do
  let (name, a) ← txt l 0
  if kindOf name = 0 then .error 3 else
  let (p, b) ← txt l a
  let (n, c) ← cnt 400 l b
  let (A, d) ← rowR (atR l) c n.toNat
  let (t, e) ← txt l d
  if e = l.length then .ok ⟨kindOf name, bA' p, A, bA' t⟩ else .error 3
def decR (l : List UInt8) (a : Int) : Except Int (En × Int) := do
  let (h, b) ← txt l a
  let x ← headR h
  let (z, c) ← nmb l b
  let (g, d) ← txt l c
  let (n, e) ← cnt 65536 l d
  let (X, f) ← rowR (exR l) e n.toNat
  let y : En := ⟨x.kind, x.path, x.attrs, x.target, z, bA' g, X⟩
  if chkE y = 0 then .ok (y, f) else .error (chkE y)
end Go.Proofs.YtpkapcijgldhhaaGreatDoor
