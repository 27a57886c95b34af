/-
  Directory texts as plain data: the check of a session, its text, the reading of a text.
  Rows of entries in memory; a reader's state, whatever its type.
  Sessions: bounds, errors are not zero, what the laws of chapter 40 need besides. Plain.
  Chapter 40: a session among the arguments, opened: a struct with a slice of entries, each with two slices of structs.
  The walks of the length of a directory text and of the checks of a session's fields.
  The walks of the reference's Great and Same of chapter 40.
  The walk of the reference's Same of chapter 40.
  The walks of the program's signed, Encode and Digest of chapter 40.
  The walks of Parts, the program's and the reference's.
  Chapter 40: what its laws say, plainly.
  The walks of the reference's digits, Check, Signed, Encode and Digest of chapter 40.
  Chapter 40: the contracts of a session in every later world.
-/
import Derived.Test.YtjlfjchcmkkebaaGreatDoorEntMore
import Derived.Test.YtjlfjchcmkkebaaGreatDoorBlakePlain
import Derived.Test.YtjlfjchcmkkebaaGreatDoorRdD
import Derived.Test.YtjlfjchcmkkebaaGreatDoorMa
import Derived.Deep.Cut
import Derived.Deep.CutRange
import Derived.Deep.CutBlock
import Derived.Test.YtjlfjchcmkkebaaGreatDoorRdE
import Derived.Test.YtjlfjchcmkkebaaGreatDoorSum
import Derived.Test.YtjlfjchcmkkebaaGreatDoorDigest
namespace Go.Proofs.YtjlfjchcmkkebaaGreatDoor

/-! ### eight digits -/
def dg : Nat → Nat → List UInt8
  | 0, _ => []
  | k + 1, n => dg k (n / 10) ++ [UInt8.ofNat (48 + n % 10)]
theorem dg_length : ∀ k n, (dg k n).length = k
  | 0, _ => rfl
  | k + 1, n => by rw [dg, List.length_append, dg_length k]; rfl
theorem u8_dig {d : Nat} (h : d < 10) : (UInt8.ofNat (48 + d)).toNat = 48 + d := by
  rw [UInt8.toNat_ofNat']; omega
theorem dg_dig : ∀ k n, (dg k n).all isDig = true
  | 0, _ => rfl
  | k + 1, n => by
    rw [dg, List.all_append, dg_dig k, Bool.true_and]
    have h := u8_dig (d := n % 10) (by omega)
    simp only [List.all_cons, List.all_nil, Bool.and_true, isDig, h, decide_eq_true_iff]
    omega
theorem dg_val : ∀ k n, n < 10 ^ k → val (dg k n) = n
  | 0, n, h => by
    have : n = 0 := by simpa using h
    subst this; rfl
  | k + 1, n, h => by
    rw [dg, val, valFrom_snoc]
    have h1 := dg_val k (n / 10) (by rw [Nat.pow_succ] at h; omega)
    rw [val] at h1
    rw [h1, u8_dig (by omega)]
    omega
theorem dg_of : ∀ (k : Nat) (l : List UInt8), l.length = k → l.all isDig = true → dg k (val l) = l ∧ val l < 10 ^ k
  | 0, l, h, _ => by
    have := List.eq_nil_of_length_eq_zero h
    subst this; exact ⟨rfl, by decide⟩
  | k + 1, l, h, hd => by
    rcases List.eq_nil_or_concat l with rfl | ⟨m, c, rfl⟩
    · cases h
    rw [List.concat_eq_append] at *
    rw [List.all_append, Bool.and_eq_true] at hd
    simp only [List.all_cons, List.all_nil, Bool.and_true] at hd
    obtain ⟨h1, h2⟩ := hd
    have hm : m.length = k := by rw [List.length_append] at h; simpa using h
    obtain ⟨e1, e2⟩ := dg_of k m hm h1
    have hc : 48 ≤ c.toNat ∧ c.toNat ≤ 57 := by simpa [isDig] using h2
    rw [val, valFrom_snoc]
    change dg (k + 1) (10 * val m + (c.toNat - 48)) = m ++ [c] ∧ 10 * val m + (c.toNat - 48) < 10 ^ (k + 1)
    have e3 : (10 * val m + (c.toNat - 48)) / 10 = val m := by omega
    have e4 : (10 * val m + (c.toNat - 48)) % 10 = c.toNat - 48 := by omega
    refine ⟨?_, by rw [Nat.pow_succ]; omega⟩
    rw [dg, e3, e4, e1]
    congr 2
    rw [show 48 + (c.toNat - 48) = c.toNat from by omega]
    exact UInt8.ofNat_toNat
theorem dg_itoa : ∀ (k n : Nat), n < 10 ^ (k + 1) → dg (k + 1) n = List.replicate (k + 1 - (Lib.decDigits n).length) 48 ++ Lib.decDigits n
  | 0, n, h => by
    have h10 : n < 10 := by simpa using h
    have e : Lib.decDigits n = [UInt8.ofNat (48 + n)] := by rw [Lib.decDigits, dif_pos h10]
    rw [e, dg, dg, Nat.mod_eq_of_lt h10]; rfl
  | k + 1, n, h => by
    by_cases h10 : n < 10
    · have e : Lib.decDigits n = [UInt8.ofNat (48 + n)] := by rw [Lib.decDigits, dif_pos h10]
      have z := dg_itoa k 0 (Nat.pow_pos (by decide))
      rw [dd_zero] at z
      rw [e, dg, Nat.div_eq_of_lt h10, z, Nat.mod_eq_of_lt h10]
      show (List.replicate (k + 1 - 1) 48 ++ [48]) ++ [UInt8.ofNat (48 + n)] = List.replicate (k + 1 + 1 - 1) 48 ++ [UInt8.ofNat (48 + n)]
      rw [Nat.add_sub_cancel, Nat.add_sub_cancel, ← List.replicate_succ']
    · have e : Lib.decDigits n = Lib.decDigits (n / 10) ++ [UInt8.ofNat (48 + n % 10)] := by rw [Lib.decDigits, dif_neg h10]
      have ih := dg_itoa k (n / 10) (by rw [Nat.pow_succ] at h; omega)
      rw [dg, ih, e, List.length_append, List.append_assoc]
      show List.replicate (k + 1 - (Lib.decDigits (n / 10)).length) 48 ++ _ = List.replicate (k + 1 + 1 - ((Lib.decDigits (n / 10)).length + 1)) 48 ++ _
      rw [Nat.add_sub_add_right]
theorem dg8 {n : Nat} (h : n < 100000000) : dg 8 n = List.replicate (8 - (Lib.itoa (n : Int)).length) 48 ++ Lib.itoa (n : Int) := by
  have e : Lib.itoa (n : Int) = Lib.decDigits n := by unfold Lib.itoa; rw [if_neg (by omega), Int.toNat_natCast]
  rw [e]; exact dg_itoa 7 n (by simpa using h)

/-! ### sessions -/
structure Se where
  number : Int
  date : Int
  prev : ByteArray
  entries : List En
  stream : ByteArray
  sl : ByteArray
def enAt (X : List En) (i : Nat) : En := X.getD i en0
theorem enAt_get {X : List En} {i : Nat} (h : i < X.length) : enAt X i = X[i] := by
  rw [enAt, List.getD_eq_getElem?_getD, List.getElem?_eq_getElem h]; rfl
def fieldsE (n d : Int) (p : Nat) : Int := if n < 1 ∨ 255 < n ∨ d < 0 ∨ 1000000000 < d then 2 else if p ≠ 0 ∧ p ≠ 32 then 1 else 0
def entsE (X : List En) : Int := firstE (fun i => chkE (enAt X i)) X.length
def preL (n d : Int) (p : List UInt8) (z : Int) (g : List UInt8) (X : List En) : List UInt8 := numL n ++ numL d ++ strL p ++ numL z ++ strL g ++ numL X.length ++ X.flatMap bodyL
def signedL (s : Se) : List UInt8 := preL s.number s.date s.prev.data.toList s.stream.size (sumB s.stream.data.toList) s.entries
def sgnE (s : Se) : Int :=
  if fieldsE s.number s.date s.prev.size = 0 then
    (if 14680064 < s.stream.size ∨ 400 < s.entries.length then 6
     else if entsE s.entries = 0 then (if 2000 < s.sl.size ∨ 90000000 < (signedL s).length then 6 else 0) else entsE s.entries)
  else fieldsE s.number s.date s.prev.size
def restL (s : Se) : List UInt8 := signedL s ++ strL s.sl.data.toList
def withLen (l : List UInt8) : List UInt8 := dg 8 l.length ++ l
def textL (s : Se) : List UInt8 := withLen (restL s)

/-! ### reading -/
def lenR (l : List UInt8) : Except Int Int := if l.length < 8 then .error 4 else if (l.take 8).all isDig = true then .ok (val (l.take 8) + 8 : Nat) else .error 3
structure De where
  number : Int
  date : Int
  prev : List UInt8
  size : Int
  sum : List UInt8
  entries : List En
  sl : List UInt8
def aftE (x : De) : Int := if fieldsE x.number x.date x.prev.length = 0 then (if x.size < 0 ∨ 14680064 < x.size then 2 else if x.sum.length ≠ 32 then 1 else if 2000 < x.sl.length then 6 else 0) else fieldsE x.number x.date x.prev.length
def cnt4 (l : List UInt8) (a : Int) : Except Int (Int × Int) := do
  let (n, b) ← nmb l a
  if 400 < n then .error 6 else if n < 0 then .error 2 else .ok (n, b)
def finR (l : List UInt8) (x : De) (a : Int) : Except Int De := if a = l.length then (if aftE x = 0 then .ok x else .error (aftE x)) else .error 3
def bodyR (l : List UInt8) : Except Int De := do
  let (n, a1) ← nmb l 8
  let (d, a2) ← nmb l a1
  let (p, a3) ← txt l a2
  let (z, a4) ← nmb l a3
  let (g, a5) ← txt l a4
  let (c, a6) ← cnt4 l a5
  let (X, a7) ← rowR (decR l) a6 c.toNat
  let (s, a8) ← txt l a7
  finR l ⟨n, d, p, z, g, X, s⟩ a8
def dirR (l : List UInt8) : Except Int De := do
  let n ← lenR l
  if (l.length : Int) < n then .error 4 else if n < l.length then .error 3 else bodyR l

def bodyD (x : De) : List UInt8 := preL x.number x.date x.prev x.size x.sum x.entries ++ strL x.sl
theorem cnt4_ok {l : List UInt8} {a n b : Int} : cnt4 l a = .ok (n, b) ↔ (0 ≤ n ∧ n ≤ 400) ∧ Reads l a (numL n) b := by
  unfold cnt4
  rw [bind_ok]
  constructor
  · rintro ⟨⟨n', b'⟩, h1, h2⟩
    simp only at h2
    split at h2
    · cases h2
    split at h2
    · cases h2
    simp only [Except.ok.injEq, Prod.mk.injEq] at h2
    obtain ⟨rfl, rfl⟩ := h2
    exact ⟨by omega, (nmb_ok.1 h1).2⟩
  · rintro ⟨h1, h2⟩
    refine ⟨(n, b), nmb_ok.2 ⟨by omega, h2⟩, ?_⟩
    simp only
    rw [if_neg (by omega), if_neg (by omega)]
theorem decR_ok' (l : List UInt8) (a b : Int) (e : En) : decR l a = .ok (e, b) ↔ chkE e = 0 ∧ Reads l a (bodyL e) b := decR_ok
theorem finR_ok {l : List UInt8} {x y : De} {a : Int} : finR l x a = .ok y ↔ a = l.length ∧ aftE x = 0 ∧ x = y := by
  unfold finR
  split
  · split
    · simp [*]
    · simp [*]
  · simp [*]
/-- what is read, and where -/
def ValidD (x : De) : Prop := aftE x = 0 ∧ x.entries.length ≤ 400 ∧ (∀ e ∈ x.entries, chkE e = 0)
theorem aftE_parts {x : De} (h : aftE x = 0) : (1 ≤ x.number ∧ x.number ≤ 255) ∧ (0 ≤ x.date ∧ x.date ≤ 1000000000) ∧ (x.prev.length = 0 ∨ x.prev.length = 32) ∧ (0 ≤ x.size ∧ x.size ≤ 14680064) ∧ x.sum.length = 32 ∧ x.sl.length ≤ 2000 := by
  unfold aftE at h
  by_cases h0 : fieldsE x.number x.date x.prev.length = 0
  · rw [if_pos h0] at h
    unfold fieldsE at h0
    split at h0
    · cases h0
    split at h0
    · cases h0
    split at h
    · cases h
    split at h
    · cases h
    split at h
    · cases h
    omega
  · rw [if_neg h0] at h; exact absurd h h0
theorem bodyR_ok {l : List UInt8} {x : De} (hl : 8 ≤ l.length) : bodyR l = .ok x ↔ ValidD x ∧ l.drop 8 = bodyD x := by
  unfold bodyR
  simp only [bind_ok]
  constructor
  · rintro ⟨⟨n, a1⟩, h1, ⟨d, a2⟩, h2, ⟨p, a3⟩, h3, ⟨z, a4⟩, h4, ⟨g, a5⟩, h5, ⟨c, a6⟩, h6, ⟨X, a7⟩, h7, ⟨s, a8⟩, h8, h9⟩
    simp only at h2 h3 h4 h5 h6 h7 h8 h9
    obtain ⟨e1, e2, rfl⟩ := finR_ok.1 h9
    obtain ⟨c0, r6⟩ := cnt4_ok.1 h6
    have q6 := r6.nonneg
    obtain ⟨x1, x2, r7⟩ := (rowR_ok (P := fun e => chkE e = 0) (enc := bodyL) (decR_ok' l) (a := a6) (by omega) c.toNat X a7).1 h7
    have r1 := (nmb_ok.1 h1).2
    have r2 := (nmb_ok.1 h2).2
    have r3 := txt_ok.1 h3
    have r4 := (nmb_ok.1 h4).2
    have r5 := txt_ok.1 h5
    have r8 := txt_ok.1 h8
    refine ⟨⟨e2, by show X.length ≤ 400; omega, x2⟩, ?_⟩
    have hc : c = X.length := by omega
    subst hc
    have r := ((((((r1.trans r2).trans r3).trans r4).trans r5).trans r6).trans r7).trans r8
    obtain ⟨A, hA, hb, hle, hd⟩ := r
    have hA8 : A = 8 := by omega
    subst hA8
    rw [hd]
    have hlen : 8 + (((((((numL n ++ numL d) ++ strL p) ++ numL z) ++ strL g) ++ numL X.length) ++ X.flatMap bodyL) ++ strL s).length = l.length := by omega
    rw [hlen, List.drop_length, List.append_nil]
    rfl
  · rintro ⟨⟨v1, v2, v3⟩, h⟩
    obtain ⟨b1, b2, b3, b4, b5, b6⟩ := aftE_parts v1
    have r : Reads l 8 (bodyD x) ((8 + (bodyD x).length : Nat) : Int) := reads_of_eq (A := 8) (r := []) (by rw [List.append_nil]; exact h) hl
    have hlen : (8 + (bodyD x).length : Nat) = l.length := by
      have := congrArg List.length h
      rw [List.length_drop] at this
      omega
    rw [hlen] at r
    unfold bodyD preL at r
    obtain ⟨a7, r, r8⟩ := r.split
    obtain ⟨a6, r, r7⟩ := r.split
    obtain ⟨a5, r, r6⟩ := r.split
    obtain ⟨a4, r, r5⟩ := r.split
    obtain ⟨a3, r, r4⟩ := r.split
    obtain ⟨a2, r, r3⟩ := r.split
    obtain ⟨a1, r1, r2⟩ := r.split
    have q6 := r6.nonneg
    refine ⟨(x.number, a1), nmb_ok.2 ⟨by omega, r1⟩, (x.date, a2), nmb_ok.2 ⟨by omega, r2⟩, (x.prev, a3), txt_ok.2 r3, (x.size, a4), nmb_ok.2 ⟨by omega, r4⟩, (x.sum, a5), txt_ok.2 r5, ((x.entries.length : Int), a6), cnt4_ok.2 ⟨by omega, r6⟩,
      (x.entries, a7), (rowR_ok (P := fun e => chkE e = 0) (enc := bodyL) (decR_ok' l) (a := a6) (by omega) _ _ _).2 ⟨by simp, v3, r7⟩, (x.sl, (l.length : Int)), txt_ok.2 r8, ?_⟩
    exact finR_ok.2 ⟨rfl, v1, rfl⟩
theorem lenR_ok {l : List UInt8} {n : Int} : lenR l = .ok n ↔ 8 ≤ l.length ∧ (l.take 8).all isDig = true ∧ n = (val (l.take 8) + 8 : Nat) := by
  unfold lenR
  split
  · simp; omega
  split
  · rename_i h1 h2
    simp only [Except.ok.injEq]
    exact ⟨fun h => ⟨by omega, h2, h.symm⟩, fun h => h.2.2.symm⟩
  · rename_i h1 h2
    simp [h2]
theorem dirR_ok {l : List UInt8} {x : De} : dirR l = .ok x ↔ ValidD x ∧ l = withLen (bodyD x) ∧ (bodyD x).length < 100000000 := by
  unfold dirR
  rw [bind_ok]
  constructor
  · rintro ⟨n, h1, h2⟩
    obtain ⟨e1, e2, rfl⟩ := lenR_ok.1 h1
    split at h2
    · cases h2
    split at h2
    · cases h2
    obtain ⟨v, h3⟩ := (bodyR_ok e1).1 h2
    have ht : (l.take 8).length = 8 := by rw [List.length_take]; omega
    obtain ⟨d1, d2⟩ := dg_of 8 (l.take 8) ht e2
    have hb : (bodyD x).length = val (l.take 8) := by rw [← h3, List.length_drop]; omega
    refine ⟨v, ?_, by rw [hb]; simpa using d2⟩
    rw [withLen, hb, d1, ← h3, List.take_append_drop]
  · rintro ⟨v, rfl, hlt⟩
    have ht : (withLen (bodyD x)).take 8 = dg 8 (bodyD x).length := by
      rw [withLen, List.take_append_of_le_length (by rw [dg_length]; omega), List.take_of_length_le (by rw [dg_length]; omega)]
    have hd : (withLen (bodyD x)).drop 8 = bodyD x := by
      rw [withLen, List.drop_append, dg_length, List.drop_of_length_le (by rw [dg_length]; omega)]; simp
    have hl : (withLen (bodyD x)).length = 8 + (bodyD x).length := by rw [withLen, List.length_append, dg_length]
    have hv : val (dg 8 (bodyD x).length) = (bodyD x).length := dg_val 8 _ (by simpa using hlt)
    refine ⟨_, lenR_ok.2 ⟨by omega, by rw [ht]; exact dg_dig _ _, rfl⟩, ?_⟩
    rw [ht, hv, if_neg (by omega), if_neg (by omega)]
    exact (bodyR_ok (by omega)).2 ⟨v, hd⟩
theorem withLen_drop (b : List UInt8) : (withLen b).drop 8 = b := by
  rw [withLen, List.drop_append, dg_length, List.drop_of_length_le (by rw [dg_length]; omega)]; simp
theorem withLen_inj {a b : List UInt8} (h : withLen a = withLen b) : a = b := by
  rw [← withLen_drop a, h, withLen_drop]
theorem lenR_prefix {l : List UInt8} {m : Nat} (h : 8 ≤ m) : (l.take m).take 8 = l.take 8 := by rw [List.take_take, Nat.min_eq_left h]
/-- a proper beginning of a text is too short -/
theorem dirR_short {b : List UInt8} (hb : b.length < 100000000) {m : Nat} (hm : m < (withLen b).length) : dirR ((withLen b).take m) = .error 4 := by
  have hl : (withLen b).length = 8 + b.length := by rw [withLen, List.length_append, dg_length]
  have hlm : ((withLen b).take m).length = m := by rw [List.length_take]; omega
  unfold dirR
  by_cases h8 : m < 8
  · have : lenR ((withLen b).take m) = .error 4 := by unfold lenR; rw [hlm, if_pos h8]
    rw [this]; rfl
  · have ht : (withLen b).take 8 = dg 8 b.length := by
      rw [withLen, List.take_append_of_le_length (by rw [dg_length]; omega), List.take_of_length_le (by rw [dg_length]; omega)]
    have hv : val (dg 8 b.length) = b.length := dg_val 8 _ (by simpa using hb)
    have : lenR ((withLen b).take m) = .ok (b.length + 8 : Nat) := lenR_ok.2 ⟨by omega, by rw [lenR_prefix (by omega), ht]; exact dg_dig _ _, by rw [lenR_prefix (by omega), ht, hv]⟩
    rw [this]
    show (if _ then _ else _) = _
    rw [hlm, if_pos (by omega)]
theorem dirR_long {b r : List UInt8} (hb : b.length < 100000000) (hr : r ≠ []) : dirR (withLen b ++ r) = .error 3 := by
  have hl : (withLen b).length = 8 + b.length := by rw [withLen, List.length_append, dg_length]
  have hr' : 0 < r.length := List.length_pos_iff.2 hr
  have ht : (withLen b ++ r).take 8 = dg 8 b.length := by
    rw [List.take_append_of_le_length (by omega), withLen, List.take_append_of_le_length (by rw [dg_length]; omega), List.take_of_length_le (by rw [dg_length]; omega)]
  have hv : val (dg 8 b.length) = b.length := dg_val 8 _ (by simpa using hb)
  have : lenR (withLen b ++ r) = .ok (b.length + 8 : Nat) := lenR_ok.2 ⟨by rw [List.length_append]; omega, by rw [ht]; exact dg_dig _ _, by rw [ht, hv]⟩
  unfold dirR
  rw [this]
  show (if _ then _ else if _ then _ else _) = _
  rw [List.length_append, hl, if_neg (by omega), if_pos (by omega)]
/-! ### a session and what is read of it -/
def Se.de (s : Se) : De := ⟨s.number, s.date, s.prev.data.toList, s.stream.size, sumB s.stream.data.toList, s.entries, s.sl.data.toList⟩
theorem restL_de (s : Se) : restL s = bodyD s.de := rfl
theorem sgnE_parts {s : Se} (h : sgnE s = 0) : fieldsE s.number s.date s.prev.size = 0 ∧ s.stream.size ≤ 14680064 ∧ s.entries.length ≤ 400 ∧ (∀ e ∈ s.entries, chkE e = 0) ∧ s.sl.size ≤ 2000 ∧ (signedL s).length ≤ 90000000 := by
  unfold sgnE at h
  split at h
  · rename_i h0
    split at h
    · cases h
    rename_i h1
    split at h
    · rename_i h2
      split at h
      · cases h
      rename_i h3
      refine ⟨h0, by omega, by omega, fun e he => ?_, by omega, by omega⟩
      obtain ⟨i, hi, rfl⟩ := List.getElem_of_mem he
      have := firstE_all h2 i hi
      rwa [enAt_get hi] at this
    · rename_i h2; exact absurd h h2
  · rename_i h0; exact absurd h h0
theorem validD_de {s : Se} (h : sgnE s = 0) : ValidD s.de := by
  obtain ⟨h1, h2, h3, h4, h5, h6⟩ := sgnE_parts h
  refine ⟨?_, h3, h4⟩
  unfold aftE
  have e : fieldsE s.de.number s.de.date s.de.prev.length = 0 := h1
  rw [if_pos e, if_neg (by show ¬ ((s.stream.size : Int) < 0 ∨ 14680064 < (s.stream.size : Int)); omega), if_neg (by show ¬ (sumB s.stream.data.toList).length ≠ 32; rw [sumB_length]; decide), if_neg (by show ¬ 2000 < s.sl.data.toList.length; have : s.sl.data.toList.length = s.sl.size := rfl; omega)]
theorem restL_len {s : Se} (h : sgnE s = 0) : (restL s).length < 100000000 := by
  obtain ⟨h1, h2, h3, h4, h5, h6⟩ := sgnE_parts h
  unfold restL
  rw [List.length_append]
  have := strL_bd (u := s.sl.data.toList) (n := 2000) h5 (by decide)
  omega
theorem dir_round {s : Se} (h : sgnE s = 0) : dirR (textL s) = .ok s.de := dirR_ok.2 ⟨validD_de h, rfl, restL_len h⟩
end Go.Proofs.YtjlfjchcmkkebaaGreatDoor

namespace Go.Proofs.YtjlfjchcmkkebaaGreatDoor
open Go.RowKit Go.Shelf

/-- an entry with its two slices -/
structure ER where
  e : En
  va : Value
  vx : Value
def ER.vals (x : ER) : List Value := x.e.vals x.va x.vx
def er0 : ER := ⟨en0, .slice none 0 0, .slice none 0 0⟩
theorem er_len (x : ER) : x.vals.length = 7 := rfl
def EnRow (w : World) (v : Value) (X : List En) : Prop := ∃ L : List ER, L.map ER.e = X ∧ GRow 7 ER.vals er0 w v L ∧ ∀ x ∈ L, AtRow w x.va x.e.attrs ∧ ExRow w x.vx x.e.exts
theorem EnRow.below {w w' : World} {v : Value} {X : List En} (h : EnRow w v X) (hb : Below w.heap.size w w') : EnRow w' v X := by
  obtain ⟨L, h1, h2, h3⟩ := h
  exact ⟨L, h1, h2.below hb, fun x hx => ⟨(h3 x hx).1.below hb, (h3 x hx).2.below hb⟩⟩
theorem EnRow.nil (w : World) : EnRow w (.slice none 0 0) [] := ⟨[], rfl, GRow.nil w, fun x hx => by cases hx⟩
theorem EnRow.form {w : World} {v : Value} {X : List En} (h : EnRow w v X) : ∃ a c, v = .slice a X.length c := by
  obtain ⟨L, rfl, h2, _⟩ := h
  obtain ⟨a, c, e⟩ := h2.form
  exact ⟨a, c, by rw [e, List.length_map]⟩
theorem EnRow.len {w : World} {v : Value} {X : List En} (h : EnRow w v X) : X.length ≤ 9223372036854775807 := by
  obtain ⟨L, rfl, h2, _⟩ := h
  have := h2.1
  unfold maxLen at this
  rw [List.length_map]; exact this
theorem EnRow.get {w : World} {a : Option Addr} {c : Nat} {X : List En} (h : EnRow w (.slice a X.length c) X) {i : Nat} (hi : i < X.length) :
    ∃ b o va vx, a = some ⟨b, o, none⟩ ∧ b < w.heap.size ∧ AtRow w va (enAt X i).attrs ∧ ExRow w vx (enAt X i).exts ∧ w.rangeAt b (o + i * 7) ((enAt X i).vals va vx) := by
  obtain ⟨L, rfl, h2, h3⟩ := h
  rw [List.length_map] at hi h2
  have he : enAt (L.map ER.e) i = (L[i]).e := by rw [enAt_get (by rw [List.length_map]; exact hi), List.getElem_map]
  rcases h2.2 with ⟨rfl, _⟩ | ⟨_, b, o, cap, ev, _, _, hb, hG⟩
  · exact absurd hi (Nat.not_lt_zero _)
  · cases ev
    have hg := hG i hi
    rw [List.getD_eq_getElem?_getD, List.getElem?_eq_getElem hi] at hg
    have h4 := h3 L[i] (List.getElem_mem hi)
    rw [he]
    exact ⟨b, o, L[i].va, L[i].vx, rfl, hb, h4.1, h4.2, hg⟩
theorem en_cells {w : World} {b o : Nat} {e : En} {va vx : Value} (h : w.rangeAt b o (e.vals va vx)) :
    w.cell? ⟨b, o, none⟩ = some (.int .i64 e.kind) ∧ w.cell? ⟨b, o + 1, none⟩ = some (.string e.path) ∧ w.cell? ⟨b, o + 2, none⟩ = some va ∧ w.cell? ⟨b, o + 3, none⟩ = some (.string e.target) ∧ w.cell? ⟨b, o + 4, none⟩ = some (.int .i64 e.size) ∧ w.cell? ⟨b, o + 5, none⟩ = some (.string e.digest) ∧ w.cell? ⟨b, o + 6, none⟩ = some vx :=
  ⟨h 0 _ rfl, h 1 _ rfl, h 2 _ rfl, h 3 _ rfl, h 4 _ rfl, h 5 _ rfl, h 6 _ rfl⟩
/-- a row of entries of the call's own -/
def OwnA (base : Nat) (w : World) (x : ER) : Prop := OwnG base 126 2 At.vals w x.va x.e.attrs ∧ OwnG base 101 3 Ex.vals w x.vx x.e.exts
def OwnEn (base : Nat) (w : World) (v : Value) (X : List En) : Prop := ∃ L : List ER, L.map ER.e = X ∧ OwnG base 55 7 ER.vals w v L ∧ ∀ x ∈ L, OwnA base w x
theorem OwnA.row {base : Nat} {w : World} {x : ER} (h : OwnA base w x) : AtRow w x.va x.e.attrs ∧ ExRow w x.vx x.e.exts :=
  ⟨OwnG.row (n := 2) (f := At.vals) (d := at0) (fun _ => rfl) h.1, OwnG.row (n := 3) (f := Ex.vals) (d := ex0) (fun _ => rfl) h.2⟩
theorem OwnEn.row {base : Nat} {w : World} {v : Value} {X : List En} (h : OwnEn base w v X) : EnRow w v X := by
  obtain ⟨L, h1, h2, h3⟩ := h
  exact ⟨L, h1, OwnG.row (n := 7) (f := ER.vals) (d := er0) er_len h2, fun x hx => (h3 x hx).row⟩
theorem OwnEn.nil (base : Nat) (w : World) : OwnEn base w (.slice none 0 0) [] := ⟨[], rfl, World.ownsRow_nil _ _ _ _, fun x hx => by cases hx⟩
theorem OwnA.keep {base R : Nat} {w w' : World} {x : ER} (h : OwnA base w x) (hk : Keep R w w') (hR : R < base) : OwnA base w' x := ⟨owns_keep h.1 hk hR, owns_keep h.2 hk hR⟩
theorem OwnEn.keep {base R : Nat} {w w' : World} {v : Value} {X : List En} (h : OwnEn base w v X) (hk : Keep R w w') (hR : R < base) : OwnEn base w' v X := by
  obtain ⟨L, h1, h2, h3⟩ := h
  exact ⟨L, h1, owns_keep h2 hk hR, fun x hx => (h3 x hx).keep hk hR⟩
theorem OwnA.below {base : Nat} {w w' : World} {x : ER} (h : OwnA base w x) (hb : Below w.heap.size w w') : OwnA base w' x := ⟨owns_below h.1 hb, owns_below h.2 hb⟩
theorem OwnEn.below {base : Nat} {w w' : World} {v : Value} {X : List En} (h : OwnEn base w v X) (hb : Below w.heap.size w w') : OwnEn base w' v X := by
  obtain ⟨L, h1, h2, h3⟩ := h
  exact ⟨L, h1, owns_below h2 hb, fun x hx => (h3 x hx).below hb⟩
theorem OwnA.mono {base base' : Nat} {w : World} {x : ER} (h : OwnA base w x) (hb : base' ≤ base) : OwnA base' w x := ⟨owns_mono h.1 hb, owns_mono h.2 hb⟩
theorem OwnEn.mono {base base' : Nat} {w : World} {v : Value} {X : List En} (h : OwnEn base w v X) (hb : base' ≤ base) : OwnEn base' w v X := by
  obtain ⟨L, h1, h2, h3⟩ := h
  exact ⟨L, h1, owns_mono h2 hb, fun x hx => (h3 x hx).mono hb⟩
/-- stores below the base do no harm -/
theorem owns_setLow {w : World} {base : Nat} {e : TypeId} {size : Nat} {v : Value} {n : Nat} {xs : List Value} (h : w.ownsRow base e size v n xs) {E j : Nat} (hE : E < base) (u : Value) : (w.setCell ⟨E, j, none⟩ u).ownsRow base e size v n xs := by
  refine ⟨h.1, h.2.imp id fun ⟨g, cap, cur, e1, e2, hg, r⟩ => ⟨g, cap, cur, e1, e2, ?_, r⟩⟩
  simp only [World.setCell, Array.getElem?_modify]
  rw [if_neg (by omega)]; exact hg
theorem OwnEn.setLow {base : Nat} {w : World} {v : Value} {X : List En} (h : OwnEn base w v X) {E j : Nat} (hE : E < base) (u : Value) : OwnEn base (w.setCell ⟨E, j, none⟩ u) v X := by
  obtain ⟨L, h1, h2, h3⟩ := h
  exact ⟨L, h1, owns_setLow h2 hE u, fun x hx => ⟨owns_setLow (h3 x hx).1 hE u, owns_setLow (h3 x hx).2 hE u⟩⟩
theorem OwnEn.drew {base : Nat} {w : World} {v : Value} {X : List En} (h : OwnEn base w v X) : OwnEn base w.drew v X := h
theorem OwnEn.form {base : Nat} {w : World} {v : Value} {X : List En} (h : OwnEn base w v X) : ∃ a c, v = .slice a X.length c := h.row.form

/-! ### a reader: its string, the index or the error -/
def RS (T : TypeId) (W : World) (R : Nat) (s : ByteArray) : Except Int Int → Prop
  | .ok a => Box W R [.string s, .int .i64 a, .int .i64 0] T
  | .error x => x ≠ 0 ∧ ∃ a : Int, Box W R [.string s, .int .i64 a, .int .i64 x] T
theorem RS.keepE {T : TypeId} {W W' : World} {R B : Nat} {s : ByteArray} {st : Except Int Int} (h : RS T W R s st) (hb : Below B W W') (hR : R < B) : RS T W' R s st := by
  cases st with
  | ok a => exact Box.below' h hb hR
  | error x => obtain ⟨h1, a, h2⟩ := h; exact ⟨h1, a, Box.below' h2 hb hR⟩
theorem RS.setOther {T : TypeId} {W : World} {R E j : Nat} {s : ByteArray} {st : Except Int Int} (h : RS T W R s st) (hne : E ≠ R) (v : Value) : RS T (W.setCell ⟨E, j, none⟩ v) R s st := by
  cases st with
  | ok a => exact Box.setOther h hne v
  | error x => obtain ⟨h1, a, h2⟩ := h; exact ⟨h1, a, Box.setOther h2 hne v⟩
theorem RS.err {T : TypeId} {W : World} {R : Nat} {s : ByteArray} {st : Except Int Int} (h : RS T W R s st) : W.cell? ⟨R, 2, none⟩ = some (.int .i64 (errOf st)) ∧ W.frozen? ⟨R, 2, none⟩ = false := by
  cases st with
  | ok a => exact ⟨Box.cell h 2, Box.frozen h 2⟩
  | error x => obtain ⟨h1, a, h2⟩ := h; exact ⟨Box.cell h2 2, Box.frozen h2 2⟩
theorem RS.lt {T : TypeId} {W : World} {R : Nat} {s : ByteArray} {st : Except Int Int} (h : RS T W R s st) : R < W.heap.size := by
  cases st with
  | ok a => exact Box.lt h
  | error x => obtain ⟨h1, a, h2⟩ := h; exact h2.lt
def TxtS (T : TypeId) (r : Except Int (List UInt8 × Int)) (s : ByteArray) (R : Nat) (W : World) (e : Ending) (W' : World) : Prop := e = .returned (.string (bA' (stStr r))) ∧ RS T W' R s (stAt r) ∧ Keep R W W'
def NumS (T : TypeId) (r : Except Int (Int × Int)) (s : ByteArray) (R : Nat) (W : World) (e : Ending) (W' : World) : Prop := e = .returned (.int .i64 (stNum r)) ∧ RS T W' R s (stAt r) ∧ Keep R W W'
def stEn : Except Int (En × Int) → En
  | .ok p => p.1
  | .error _ => en0
def EntS (T : TypeId) (r : Except Int (En × Int)) (s : ByteArray) (R : Nat) (W : World) (e : Ending) (W' : World) : Prop := ∃ va vx, e = .returned (enV (stEn r) va vx) ∧ OwnA W.heap.size W' ⟨stEn r, va, vx⟩ ∧ RS T W' R s (stAt r) ∧ Keep R W W'
theorem decA_dec (s : ByteArray) (a : Int) : decA s a = decR s.data.toList a := by rw [decA_decR, decR_steps]
end Go.Proofs.YtjlfjchcmkkebaaGreatDoor

namespace Go.Proofs.YtjlfjchcmkkebaaGreatDoor
open Go.RowKit Go.Shelf

/-- what Great = 0 says of a session -/
def SmallS (s : Se) : Prop := s.prev.size ≤ 100 ∧ s.stream.size ≤ 1000 ∧ s.sl.size ≤ 2100 ∧ (s.entries.length ≤ 12 ∨ s.entries.length = 401) ∧ ∀ i, i < s.entries.length → SmallE (enAt s.entries i)
/-- the bounds of what came in -/
structure SeWf (s : Se) : Prop where
  number : -9223372036854775808 ≤ s.number ∧ s.number ≤ 9223372036854775807
  date : -9223372036854775808 ≤ s.date ∧ s.date ≤ 9223372036854775807
  prev : s.prev.size ≤ 9223372036854775807
  stream : s.stream.size ≤ 9223372036854775807
  sl : s.sl.size ≤ 9223372036854775807
  ents : ∀ i, EnWf (enAt s.entries i)
/-- bounds under which a session is encoded -/
structure SeOk (s : Se) : Prop where
  number : -9223372036854775808 ≤ s.number ∧ s.number ≤ 9223372036854775807
  date : -9223372036854775808 ≤ s.date ∧ s.date ≤ 9223372036854775807
  prev : s.prev.size ≤ 1000000
  stream : s.stream.size ≤ 1000000
  sl : s.sl.size ≤ 1000000
  count : s.entries.length ≤ 100000
  ents : ∀ i, i < s.entries.length → EnOk (enAt s.entries i)
  flat : s.entries.length ≤ 400 → (s.entries.flatMap bodyL).length ≤ 80000000
theorem fieldsE_bd {n d : Int} {p : Nat} (h : fieldsE n d p = 0) : (1 ≤ n ∧ n ≤ 255) ∧ (0 ≤ d ∧ d ≤ 1000000000) ∧ (p = 0 ∨ p = 32) := by
  unfold fieldsE at h
  split at h
  · cases h
  split at h
  · cases h
  omega
theorem fieldsE_cases (n d : Int) (p : Nat) : fieldsE n d p = 0 ∨ fieldsE n d p ≠ 0 := Classical.em _
theorem bodies_le {X : List En} (h : ∀ i, i < X.length → SmallE (enAt X i) ∧ EnOk (enAt X i)) (k : Nat) : ((X.take k).flatMap bodyL).length ≤ 20000 * k := by
  have h1 : ((X.take k).flatMap bodyL).length ≤ 20000 * (X.take k).length := flat_bd fun x hx => by
    have hx2 := List.mem_of_mem_take hx
    obtain ⟨i, hi, rfl⟩ := List.getElem_of_mem hx2
    have := h i hi
    rw [enAt_get hi] at this
    exact small_body this.1 this.2
  have h2 : (X.take k).length ≤ k := by rw [List.length_take]; omega
  have h3 : 20000 * (X.take k).length ≤ 20000 * k := Nat.mul_le_mul_left _ h2
  omega
theorem seOk_small {s : Se} (h : SeWf s) (hs : SmallS s) : SeOk s := by
  obtain ⟨h1, h2, h3, h4, h5⟩ := hs
  refine ⟨h.number, h.date, by omega, by omega, by omega, by omega, fun i hi => enOk_small (h.ents i) (h5 i hi), fun h6 => ?_⟩
  have h7 := bodies_le (X := s.entries) (fun i hi => ⟨h5 i hi, enOk_small (h.ents i) (h5 i hi)⟩) s.entries.length
  rw [List.take_length] at h7
  have h8 : 20000 * s.entries.length ≤ 20000 * 12 := Nat.mul_le_mul_left _ (by omega)
  omega
theorem preB_le {n d z : Int} {p g : List UInt8} {N : Nat} (hn : -9223372036854775808 ≤ n ∧ n ≤ 9223372036854775807) (hd : -9223372036854775808 ≤ d ∧ d ≤ 9223372036854775807) (hz : -9223372036854775808 ≤ z ∧ z ≤ 9223372036854775807)
    (hp : p.length ≤ 1000000) (hg : g.length ≤ 1000) (hN : N ≤ 1000000) : (numL n ++ numL d ++ strL p ++ numL z ++ strL g ++ numL N).length ≤ 1003000 := by
  simp only [List.length_append]
  have a1 := numL_le hn.1 hn.2
  have a2 := numL_le hd.1 hd.2
  have a3 := numL_le hz.1 hz.2
  have a4 := strL_bd hp (by decide)
  have a5 := strL_bd hg (by decide)
  have a6 := numL_le (n := (N : Int)) (by omega) (by omega)
  omega
theorem signedL_le {s : Se} (h : SeOk s) (h400 : s.entries.length ≤ 400) : (signedL s).length ≤ 85000000 := by
  have hl : s.prev.data.toList.length = s.prev.size := rfl
  have h1 := h.prev
  have h2 := h.stream
  have h3 := h.flat h400
  have := preB_le (n := s.number) (d := s.date) (z := (s.stream.size : Int)) (p := s.prev.data.toList) (g := sumB s.stream.data.toList) (N := s.entries.length) h.number h.date (by omega) (by omega) (by rw [sumB_length]; decide) (by omega)
  unfold signedL preL
  rw [List.length_append]
  omega
/-- the error of a small session: the bound of the signed part does not bite -/
theorem sgnE_small {s : Se} (h : SeOk s) : sgnE s =
    if fieldsE s.number s.date s.prev.size = 0 then (if 400 < s.entries.length then 6 else if entsE s.entries = 0 then (if 2000 < s.sl.size then 6 else 0) else entsE s.entries) else fieldsE s.number s.date s.prev.size := by
  unfold sgnE
  by_cases hf : fieldsE s.number s.date s.prev.size = 0
  · rw [if_pos hf, if_pos hf]
    have h2 := h.stream
    by_cases h4 : 400 < s.entries.length
    · rw [if_pos (.inr h4), if_pos h4]
    · rw [if_neg (by omega), if_neg h4]
      have := signedL_le h (by omega)
      by_cases he : entsE s.entries = 0
      · rw [if_pos he, if_pos he]
        by_cases h5 : 2000 < s.sl.size
        · rw [if_pos (.inl h5), if_pos h5]
        · rw [if_neg (by omega), if_neg h5]
      · rw [if_neg he, if_neg he]
  · rw [if_neg hf, if_neg hf]
theorem take_flatE (X : List En) (k : Nat) (h : k < X.length) : (X.take (k + 1)).flatMap bodyL = (X.take k).flatMap bodyL ++ bodyL (enAt X k) := by
  rw [List.take_succ_eq_append_getElem h, List.flatMap_append, enAt_get h]; simp
theorem errE_ne {X : List En} {k : Nat} (hk : k < X.length) (h0 : firstE (fun i => chkE (enAt X i)) k = 0) (hc : chkE (enAt X k) ≠ 0) : entsE X = chkE (enAt X k) := firstE_stop h0 hc hk
theorem fieldsE_ne (n d : Int) (p : Nat) : fieldsE n d p = 0 ∨ fieldsE n d p = 1 ∨ fieldsE n d p = 2 := by
  unfold fieldsE; split
  · simp
  · split <;> simp
theorem aftE_ne (x : De) : aftE x = 0 ∨ aftE x ≠ 0 := Classical.em _
theorem nz_dirR (l : List UInt8) : NZ (dirR l) := by
  have hL : NZ (lenR l) := nz_ite (NZ.err (by decide)) (nz_ite (NZ.ok _) (NZ.err (by decide)))
  have hC : ∀ a, NZ (cnt4 l a) := fun a => nz_bind (nz_nmb l a) fun _ => nz_ite (NZ.err (by decide)) (nz_ite (NZ.err (by decide)) (NZ.ok _))
  have hF : ∀ x a, NZ (finR l x a) := fun x a => by
    unfold finR
    split
    · split
      · exact NZ.ok _
      · exact NZ.err ‹_›
    · exact NZ.err (by decide)
  refine nz_bind hL fun n => nz_ite (NZ.err (by decide)) (nz_ite (NZ.err (by decide)) ?_)
  exact nz_bind (nz_nmb l _) fun _ => nz_bind (nz_nmb l _) fun _ => nz_bind (nz_txt l _) fun _ => nz_bind (nz_nmb l _) fun _ => nz_bind (nz_txt l _) fun _ => nz_bind (hC _) fun _ => nz_bind (nz_rowR (nz_decR l) _ _) fun _ => nz_bind (nz_txt l _) fun _ => hF _ _
theorem flat_take_le {α : Type} (f : α → List UInt8) (X : List α) (k : Nat) : ((X.take k).flatMap f).length ≤ (X.flatMap f).length := by
  conv => rhs; rw [← List.take_append_drop k X, List.flatMap_append, List.length_append]
  omega
end Go.Proofs.YtjlfjchcmkkebaaGreatDoor

namespace Go.Proofs.YtjlfjchcmkkebaaGreatDoor
open Go.ChangeShapes Go.WideShapes Go.ChangeAt Go.RowKit Go.Deep
theorem se_ens_cells : Tryz.prog.cellsOf 23 = 1 := by kernel_rfl
section
variable {H : Type} {enc : TypeId × Value → H} {w : World} {base : Nat}
def ErP (w : World) (x : ER) : Prop := (AtRow w x.va x.e.attrs ∧ ExRow w x.vx x.e.exts) ∧ EnWf x.e
theorem er0_p (w : World) : ErP w er0 := by
  refine ⟨⟨grow_nil w none 0 (fun _ => rfl), grow_nil w none 0 (fun _ => rfl)⟩, by decide, by decide, fun i => ?_, by decide, by decide, by decide, fun i => ?_⟩
  · show (atAt [] i).key.size ≤ _ ∧ (atAt [] i).value.size ≤ _
    rw [show atAt [] i = at0 from by simp [atAt]]; decide
  · show ExOk (exAt [] i)
    rw [show exAt [] i = ex0 from by simp [exAt]]; exact ex0_okE
set_option maxRecDepth 100000 in
theorem en_elem {n : Nat} {cs : List Value} {y : DataW H × List MemPlace} (hl : cs.length = 7) (h : DataW.trod enc Tryz.prog w base (fun _ => true) true n 55 cs = some y) : ∃ c : ER, cs = c.vals ∧ ErP w c := by
  obtain ⟨xs, k, _, hy, _, hxl, hf⟩ := DataW.trod_struct Tryz.underlying55 h
  match xs, hxl, cs, hl with
  | [y0, y1, y2, y3, y4, y5, y6], _, [v0, v1, v2, v3, v4, v5, v6], _ =>
    have g0 := hf 0 _ rfl
    have g1 := hf 1 _ rfl
    have g2 := hf 2 _ rfl
    have g3 := hf 3 _ rfl
    have g4 := hf 4 _ rfl
    have g5 := hf 5 _ rfl
    have g6 := hf 6 _ rfl
    simp [en_str_cells, en_int_cells, en_ats_cells, en_exs_cells] at g0 g1 g2 g3 g4 g5 g6
    obtain ⟨k0, e0, q0, z0⟩ := DataW.trod_int Tryz.underlying3 g0
    obtain ⟨s1, e1, q1, z1⟩ := DataW.trod_string Tryz.underlying9 g1
    obtain ⟨s3, e3, q3, z3⟩ := DataW.trod_string Tryz.underlying9 g3
    obtain ⟨k4, e4, q4, z4⟩ := DataW.trod_int Tryz.underlying3 g4
    obtain ⟨s5, e5, q5, z5⟩ := DataW.trod_string Tryz.underlying9 g5
    simp only [List.cons.injEq, and_true] at e0 e1 e3 e4 e5
    subst e0 e1 e3 e4 e5
    unfold maxLen at z1 z3 z5
    have form : ∀ {T E : TypeId} {v : Value} {fuel : Nat} {y : DataW H × List MemPlace}, Tryz.prog.underlying T = some (.slice E) → DataW.trod enc Tryz.prog w base (fun _ => true) true fuel T [v] = some y → ∃ a l c, v = .slice a l c := fun hT h => by
      rcases open_slice hT h with ⟨hcs, _⟩ | ⟨a, len', cap', m, n', D, Pl, hcs, _⟩
      · exact ⟨none, 0, 0, by simpa using hcs⟩
      · exact ⟨some a, len', cap', by simpa using hcs⟩
    obtain ⟨a2, l2, c2, rfl⟩ := form Tryz.underlying52 g2
    obtain ⟨a6, l6, c6, rfl⟩ := form Tryz.underlying53 g6
    obtain ⟨A, hA, pA⟩ := grow_of (f := At.vals) (d := at0) (P := AtWf) Tryz.underlying52 (by kernel_rfl) (by decide) (fun _ => rfl) at0_wf (fun h1 h2 => at_elem h1 h2) g2
    obtain ⟨X, hX, pX⟩ := grow_of (f := Ex.vals) (d := ex0) (P := ExOk) Tryz.underlying53 (by kernel_rfl) (by decide) (fun _ => rfl) ex0_okE (fun h1 h2 => ex_elem h1 h2) g6
    exact ⟨⟨⟨k0, s1, A, s3, k4, s5, X⟩, _, _⟩, rfl, ⟨hA, hX⟩, wf_boundsi64 z0, z1, pA, z3, wf_boundsi64 z4, z5, pX⟩
set_option maxRecDepth 100000 in
theorem open_session {r : Reach} {b0 : Nat} {v : Value} {d : DataW H} {p : List MemPlace} (hv : Value.okWide Tryz.prog w r b0 25 v) (h : DataW.Trod enc Tryz.prog w base (fun _ => true) true 25 v d p) :
    ∃ (s : Se) (a : Option Addr) (c : Nat), v = .agg #[.int .i64 s.number, .int .i64 s.date, .string s.prev, .slice a s.entries.length c, .string s.stream, .string s.sl] ∧ EnRow w (.slice a s.entries.length c) s.entries ∧ SeWf s := by
  obtain ⟨cs, rfl, hsz⟩ := okWide_struct Tryz.underlying25 hv
  obtain ⟨fuel, hf0⟩ := h
  have hC : Tryz.prog.cellsOf 25 = 6 := by kernel_rfl
  rw [hC] at hsz
  obtain ⟨xs, k, _, hy, _, hxl, hf⟩ := DataW.trod_struct Tryz.underlying25 hf0
  have hl : cs.toList.length = 6 := by simpa using hsz
  obtain ⟨cs⟩ := cs
  match xs, hxl, cs, hl with
  | [y0, y1, y2, y3, y4, y5], _, [v0, v1, v2, v3, v4, v5], _ =>
    have g0 := hf 0 _ rfl
    have g1 := hf 1 _ rfl
    have g2 := hf 2 _ rfl
    have g3 := hf 3 _ rfl
    have g4 := hf 4 _ rfl
    have g5 := hf 5 _ rfl
    simp [Value.cells, en_str_cells, en_int_cells, se_ens_cells] at g0 g1 g2 g3 g4 g5
    obtain ⟨k0, e0, q0, z0⟩ := DataW.trod_int Tryz.underlying3 g0
    obtain ⟨k1, e1, q1, z1⟩ := DataW.trod_int Tryz.underlying3 g1
    obtain ⟨s2, e2, q2, z2⟩ := DataW.trod_string Tryz.underlying9 g2
    obtain ⟨s4, e4, q4, z4⟩ := DataW.trod_string Tryz.underlying9 g4
    obtain ⟨s5, e5, q5, z5⟩ := DataW.trod_string Tryz.underlying9 g5
    simp only [List.cons.injEq, and_true] at e0 e1 e2 e4 e5
    subst e0 e1 e2 e4 e5
    unfold maxLen at z2 z4 z5
    obtain ⟨a3, l3, c3, rfl⟩ : ∃ a l c, v3 = .slice a l c := by
      rcases open_slice Tryz.underlying23 g3 with ⟨hcs, _⟩ | ⟨a, len', cap', m, n', D, Pl, hcs, _⟩
      · exact ⟨none, 0, 0, by simpa using hcs⟩
      · exact ⟨some a, len', cap', by simpa using hcs⟩
    obtain ⟨L, hL, pL⟩ := grow_of (f := ER.vals) (d := er0) (P := ErP w) Tryz.underlying23 (by kernel_rfl) (by decide) er_len (er0_p w) (fun h1 h2 => en_elem h1 h2) g3
    have hn : l3 = L.length := by
      rcases hL.2 with ⟨rfl, a, c, e, _⟩ | ⟨_, b, o, c, e, _⟩
      · cases e; rfl
      · cases e; rfl
    subst hn
    have hEn : EnRow w (.slice a3 L.length c3) (L.map ER.e) := ⟨L, rfl, hL, fun x hx => by
      obtain ⟨i, hi, rfl⟩ := List.getElem_of_mem hx
      have := pL i
      rw [List.getD_eq_getElem?_getD, List.getElem?_eq_getElem hi] at this
      exact this.1⟩
    have hl2 : (L.map ER.e).length = L.length := List.length_map _
    refine ⟨⟨k0, k1, s2, L.map ER.e, s4, s5⟩, a3, c3, ?_, ?_, wf_boundsi64 z0, wf_boundsi64 z1, z2, z4, z5, fun i => ?_⟩
    · show _ = Value.agg #[_, _, _, .slice a3 (L.map ER.e).length c3, _, _]
      rw [hl2]
    · show EnRow w (.slice a3 (L.map ER.e).length c3) (L.map ER.e)
      rw [hl2]; exact hEn
    · have h1 := (pL i).2
      have h2 : enAt (L.map ER.e) i = (L.getD i er0).e := by
        rw [enAt, List.getD_eq_getElem?_getD, List.getD_eq_getElem?_getD, List.getElem?_map]
        cases L[i]? <;> rfl
      show EnWf (enAt (L.map ER.e) i)
      rw [h2]; exact h1
end
end Go.Proofs.YtjlfjchcmkkebaaGreatDoor

namespace Go.Proofs.YtjlfjchcmkkebaaGreatDoor
open Go.RowKit Go.Shelf

def stInt : Except Int Int → Int
  | .ok n => n
  | .error _ => 0
def LenP (r : Except Int Int) (w : World) (e : Ending) (w' : World) : Prop := e = .returned (.tuple #[.int .i64 (stInt r), .int .i64 (errOf r)]) ∧ w = w'
theorem take_byte (s : ByteArray) (k : Nat) (h : k < s.size) : s.data.toList.take (k + 1) = s.data.toList.take k ++ [s[k]] := by
  rw [List.take_succ_eq_append_getElem (by simpa using h)]; rfl
theorem val_bd (l : List UInt8) (h : l.all isDig = true) : val l < 10 ^ l.length := (dg_of l.length l rfl h).2
theorem lenR_short {l : List UInt8} (h : l.length < 8) : lenR l = .error 4 := by unfold lenR; rw [if_pos h]
theorem lenR_bad {l : List UInt8} {k : Nat} (h : ¬ l.length < 8) (hk : k < 8) (hd : (l.take (k + 1)).all isDig = false) : lenR l = .error 3 := by
  unfold lenR
  rw [if_neg h, if_neg]
  intro h2
  have h3 : (l.take (k + 1)).all isDig = true := by
    rw [List.all_eq_true] at h2 ⊢
    intro x hx
    refine h2 x ?_
    have : l.take (k + 1) = (l.take 8).take (k + 1) := by rw [List.take_take, Nat.min_eq_left (by omega)]
    rw [this] at hx
    exact List.mem_of_mem_take hx
  rw [h3] at hd; cases hd
theorem lenR_good {l : List UInt8} (h : ¬ l.length < 8) (hd : (l.take 8).all isDig = true) : lenR l = .ok (val (l.take 8) + 8 : Nat) := by unfold lenR; rw [if_neg h, if_pos hd]
theorem byte_step {s : ByteArray} {k : Nat} (h : k < s.size) (hd : (s.data.toList.take k).all isDig = true) :
    (s.data.toList.take (k + 1)).all isDig = decide (48 ≤ s[k].toNat ∧ s[k].toNat ≤ 57) ∧ val (s.data.toList.take (k + 1)) = 10 * val (s.data.toList.take k) + (s[k].toNat - 48) := by
  rw [take_byte s k h]
  refine ⟨?_, by rw [val, valFrom_snoc]; rfl⟩
  rw [List.all_append, hd, Bool.true_and]; simp [isDig]
set_option maxHeartbeats 1000000 in
theorem length_any (s : ByteArray) (w : World) (hs : s.size ≤ 9223372036854775807) : Calls Tryz.prog 22 #[.string s] w (LenP (lenR s.data.toList) w) := by
  have hl : s.data.toList.length = s.size := rfl
  by_cases h8 : s.size < 8
  · have HR := Lib.hid (lenR_short (l := s.data.toList) h8)
    go_enter Tryz.func22, Tryz.ntmps22
    go_wp2_with fail
    go_ret2
    rw [HR.out]
    exact ⟨rfl, rfl⟩
  have HB := Lib.hid (fun (k : Nat) hk hd => lenR_bad (l := s.data.toList) (k := k) h8 hk hd)
  have HG := Lib.hid (lenR_good (l := s.data.toList) h8)
  go_enter Tryz.func22, Tryz.ntmps22
  go_wp2_with fail
  go_loop [4, 5, 9] (fun n _ i => ∃ (k m : Nat), k ≤ 8 ∧ i = .int .i64 k ∧ n = .int .i64 m ∧ m < 100000000 ∧ Hid (m = val (s.data.toList.take k)) ∧ Hid ((s.data.toList.take k).all isDig = true)) (fun _ _ i => 8 - (intOf i).toNat)
  case atStart => exact ⟨0, 0, by omega, rfl, rfl, by omega, rfl, rfl⟩
  case round =>
    obtain ⟨k, m, hk, rfl, rfl, hm8, hm, hd⟩ := hrel
    by_cases hlt : k < 8
    · have hks : k < s.size := by omega
      obtain ⟨b1, b2⟩ := byte_step hks hd.out
      have hcb : s[k].toNat < 256 := s[k].toNat_lt
      have B1 := Lib.hid b1
      have B2 := Lib.hid b2
      clear b1 b2
      by_cases g1 : (s[k].toNat : Int) < 48
      · have HR := Lib.hid (HB.out k hlt (by rw [B1.out]; exact decide_eq_false (by omega)))
        go_wp2_with fail
        go_ret2
        rw [HR.out]
        exact ⟨rfl, rfl⟩
      by_cases g2 : 57 < (s[k].toNat : Int)
      · have HR := Lib.hid (HB.out k hlt (by rw [B1.out]; exact decide_eq_false (by omega)))
        go_wp2_with fail
        go_ret2
        rw [HR.out]
        exact ⟨rfl, rfl⟩
      have hd2 : Hid ((s.data.toList.take (k + 1)).all isDig = true) := by rw [Hid, B1.out]; exact decide_eq_true (by omega)
      have hm2 : Hid (10 * m + (s[k].toNat - 48) = val (s.data.toList.take (k + 1))) := by rw [Hid, B2.out, hm.out]
      have hb2 : 10 * m + (s[k].toNat - 48) < 100000000 := by
        rw [hm2.out]
        have h1 := val_bd _ hd2.out
        rw [List.length_take] at h1
        have h2 : (10 : Nat) ^ min (k + 1) s.data.toList.length ≤ 10 ^ 8 := Nat.pow_le_pow_right (by decide) (by omega)
        omega
      go_wp2_with fail
      go_round
      case rel => exact ⟨k + 1, 10 * m + (s[k].toNat - 48), by omega, by go_num, by congr 1; omega, hb2, hm2, hd2⟩
      case measure => simp [intOf]; omega
    · obtain rfl : k = 8 := by omega
      have HR := Lib.hid (HG.out hd.out)
      rw [← hm.out] at HR
      go_wp2_with fail
      go_ret2
      rw [HR.out]
      exact ⟨by congr 2; simp [stInt, errOf]; omega, rfl⟩
set_option maxHeartbeats 1000000 in
theorem refLength_any (s : ByteArray) (w : World) (hs : s.size ≤ 9223372036854775807) : Calls Tryz.prog 23 #[.string s] w (LenP (lenR s.data.toList) w) := by
  have hl : s.data.toList.length = s.size := rfl
  by_cases h8 : s.size < 8
  · have HR := Lib.hid (lenR_short (l := s.data.toList) h8)
    go_enter Tryz.func23, Tryz.ntmps23
    go_wp2_with fail
    go_ret2
    rw [HR.out]
    exact ⟨rfl, rfl⟩
  have HB := Lib.hid (fun (k : Nat) hk hd => lenR_bad (l := s.data.toList) (k := k) h8 hk hd)
  have HG := Lib.hid (lenR_good (l := s.data.toList) h8)
  go_enter Tryz.func23, Tryz.ntmps23
  go_wp2_with fail
  go_loop [4, 5] (fun n i => ∃ (k m : Nat), k ≤ 8 ∧ i = .int .i64 k ∧ n = .int .i64 m ∧ m < 100000000 ∧ Hid (m = val (s.data.toList.take k)) ∧ Hid ((s.data.toList.take k).all isDig = true)) (fun _ i => 8 - (intOf i).toNat)
  case atStart => exact ⟨0, 0, by omega, rfl, rfl, by omega, rfl, rfl⟩
  case round =>
    obtain ⟨k, m, hk, rfl, rfl, hm8, hm, hd⟩ := hrel
    by_cases hlt : k < 8
    · have hks : k < s.size := by omega
      obtain ⟨b1, b2⟩ := byte_step hks hd.out
      have hcb : s[k].toNat < 256 := s[k].toNat_lt
      have B1 := Lib.hid b1
      have B2 := Lib.hid b2
      clear b1 b2
      by_cases g1 : (s[k].toNat : Int) < 48
      · have HR := Lib.hid (HB.out k hlt (by rw [B1.out]; exact decide_eq_false (by omega)))
        go_wp2_with fail
        go_ret2
        rw [HR.out]
        exact ⟨rfl, rfl⟩
      by_cases g2 : 57 < (s[k].toNat : Int)
      · have HR := Lib.hid (HB.out k hlt (by rw [B1.out]; exact decide_eq_false (by omega)))
        go_wp2_with fail
        go_ret2
        rw [HR.out]
        exact ⟨rfl, rfl⟩
      have hd2 : Hid ((s.data.toList.take (k + 1)).all isDig = true) := by rw [Hid, B1.out]; exact decide_eq_true (by omega)
      have hm2 : Hid (10 * m + (s[k].toNat - 48) = val (s.data.toList.take (k + 1))) := by rw [Hid, B2.out, hm.out]
      have hb2 : 10 * m + (s[k].toNat - 48) < 100000000 := by
        rw [hm2.out]
        have h1 := val_bd _ hd2.out
        rw [List.length_take] at h1
        have h2 : (10 : Nat) ^ min (k + 1) s.data.toList.length ≤ 10 ^ 8 := Nat.pow_le_pow_right (by decide) (by omega)
        omega
      go_wp2_with fail
      go_round
      case rel => exact ⟨k + 1, 10 * m + (s[k].toNat - 48), by omega, by go_num, by congr 1; omega, hb2, hm2, hd2⟩
      case measure => simp [intOf]; omega
    · obtain rfl : k = 8 := by omega
      have HR := Lib.hid (HG.out hd.out)
      rw [← hm.out] at HR
      go_wp2_with fail
      go_ret2
      rw [HR.out]
      exact ⟨by congr 2, rfl⟩
/-- the zero session -/
def zeroS : List Value := [.int .i64 0, .int .i64 0, .string ⟨#[]⟩, .slice none 0 0, .string ⟨#[]⟩, .string ⟨#[]⟩]
theorem Box.cells6 {W : World} {D : Nat} {v0 v1 v2 v3 v4 v5 : Value} {T : TypeId} (h : Box W D [v0, v1, v2, v3, v4, v5] T) :
    W.cell? ⟨D, 0, none⟩ = some v0 ∧ W.cell? ⟨D, 1, none⟩ = some v1 ∧ W.cell? ⟨D, 2, none⟩ = some v2 ∧ W.cell? ⟨D, 3, none⟩ = some v3 ∧ W.cell? ⟨D, 4, none⟩ = some v4 ∧ W.cell? ⟨D, 5, none⟩ = some v5 :=
  ⟨h.cell 0, h.cell 1, h.cell 2, h.cell 3, h.cell 4, h.cell 5⟩
theorem Box.froz6 {W : World} {D : Nat} {cs : List Value} {T : TypeId} (h : Box W D cs T) : W.frozen? ⟨D, 0, none⟩ = false ∧ W.frozen? ⟨D, 1, none⟩ = false ∧ W.frozen? ⟨D, 2, none⟩ = false ∧ W.frozen? ⟨D, 3, none⟩ = false ∧ W.frozen? ⟨D, 4, none⟩ = false ∧ W.frozen? ⟨D, 5, none⟩ = false :=
  ⟨h.frozen 0, h.frozen 1, h.frozen 2, h.frozen 3, h.frozen 4, h.frozen 5⟩
theorem fields_cases (n d : Int) (p : Nat) : (fieldsE n d p = 2 ∧ (n < 1 ∨ (1 ≤ n ∧ 255 < n) ∨ (1 ≤ n ∧ n ≤ 255 ∧ d < 0) ∨ (1 ≤ n ∧ n ≤ 255 ∧ 0 ≤ d ∧ 1000000000 < d))) ∨ (1 ≤ n ∧ n ≤ 255 ∧ 0 ≤ d ∧ d ≤ 1000000000 ∧ ((fieldsE n d p = 1 ∧ p ≠ 0 ∧ p ≠ 32) ∨ (fieldsE n d p = 0 ∧ p = 0) ∨ (fieldsE n d p = 0 ∧ p = 32))) := by
  unfold fieldsE
  by_cases h : n < 1 ∨ 255 < n ∨ d < 0 ∨ 1000000000 < d
  · rw [if_pos h]; refine .inl ⟨rfl, by omega⟩
  · rw [if_neg h]
    refine .inr ⟨by omega, by omega, by omega, by omega, ?_⟩
    by_cases h2 : p ≠ 0 ∧ p ≠ 32
    · rw [if_pos h2]; exact .inl ⟨rfl, h2⟩
    · rw [if_neg h2]
      by_cases h3 : p = 0
      · exact .inr (.inl ⟨rfl, h3⟩)
      · exact .inr (.inr ⟨rfl, by omega⟩)
theorem empty_size (p : ByteArray) : p.toList.isEmpty = decide (p.size = 0) := by
  rw [isEmpty_list, Bool.eq_iff_iff, List.isEmpty_iff, decide_eq_true_iff]
  exact ⟨fun h => by have := congrArg List.length h; exact this, fun h => List.eq_nil_of_length_eq_zero h⟩
set_option maxRecDepth 100000 in
set_option maxHeartbeats 2000000 in
theorem fields_any (n d : Int) (p : ByteArray) (xa : Option Addr) (m c : Nat) (st sl : ByteArray) (w : World) (_hp : p.size ≤ 9223372036854775807) :
    Calls Tryz.prog 33 #[.agg #[.int .i64 n, .int .i64 d, .string p, .slice xa m c, .string st, .string sl]] w (IntP (fieldsE n d p.size) w) := by
  have hb0 : Below w.heap.size w (w.alloc (.cells #[.int .i64 n, .int .i64 d, .string p, .slice xa m c, .string st, .string sl] 25)) := (below_refl _).alloc (Nat.le_refl _) _
  have hC := Lib.hid (fields_cases n d p.size)
  have hE := empty_size p
  obtain ⟨r, hr⟩ : ∃ r, fieldsE n d p.size = r := ⟨_, rfl⟩
  rw [hr] at hC ⊢
  clear hr
  rcases hC.out with ⟨he, hc⟩ | ⟨g1, g2, g3, g4, hc⟩
  · subst he
    have HC := Lib.hid hc
    clear hC hc hE
    rcases HC.out with k1 | ⟨k1, k2⟩ | ⟨k1, k2, k3⟩ | ⟨k1, k2, k3, k4⟩
    all_goals
      clear HC
      go_enter Tryz.func33, Tryz.ntmps33
      go_wp2_with fail
      go_ret
      exact ⟨rfl, hb0⟩
  · have HC := Lib.hid hc
    clear hC hc
    rcases HC.out with ⟨he, h1, h2⟩ | ⟨he, h1⟩ | ⟨he, h1⟩
    · subst he
      rw [decide_eq_false h1] at hE
      have q1 : ((p.size : Int) == 32) = false := by rw [beq_eq_false_iff_ne]; omega
      have q2 : ((p.size : Int) != 32) = true := by rw [bne_iff_ne]; omega
      clear HC h1 h2
      go_enter Tryz.func33, Tryz.ntmps33
      go_wp2_with fail
      go_ret
      exact ⟨rfl, hb0⟩
    · subst he
      rw [decide_eq_true h1] at hE
      clear HC h1
      go_enter Tryz.func33, Tryz.ntmps33
      go_wp2_with fail
      go_ret
      exact ⟨rfl, hb0⟩
    · subst he
      rw [decide_eq_false (by omega)] at hE
      have q1 : ((p.size : Int) == 32) = true := by rw [beq_iff_eq]; omega
      have q2 : ((p.size : Int) != 32) = false := by rw [bne_eq_false_iff_eq]; omega
      clear HC h1
      go_enter Tryz.func33, Tryz.ntmps33
      go_wp2_with fail
      go_ret
      exact ⟨rfl, hb0⟩
theorem aft_cases (n d : Int) (p : List UInt8) (z : Int) (g : List UInt8) (X : List En) (s : List UInt8) : (fieldsE n d p.length ≠ 0 ∧ aftE ⟨n, d, p, z, g, X, s⟩ = fieldsE n d p.length) ∨ (fieldsE n d p.length = 0 ∧
    ((aftE ⟨n, d, p, z, g, X, s⟩ = 2 ∧ z < 0) ∨ (aftE ⟨n, d, p, z, g, X, s⟩ = 2 ∧ 0 ≤ z ∧ 14680064 < z) ∨ (0 ≤ z ∧ z ≤ 14680064 ∧ ((aftE ⟨n, d, p, z, g, X, s⟩ = 1 ∧ g.length ≠ 32) ∨ (g.length = 32 ∧ ((aftE ⟨n, d, p, z, g, X, s⟩ = 6 ∧ 2000 < s.length) ∨ (aftE ⟨n, d, p, z, g, X, s⟩ = 0 ∧ s.length ≤ 2000))))))) := by
  unfold aftE
  dsimp only
  by_cases h : fieldsE n d p.length = 0
  · rw [if_pos h]
    refine .inr ⟨h, ?_⟩
    by_cases h1 : z < 0
    · rw [if_pos (.inl h1)]; exact .inl ⟨rfl, h1⟩
    by_cases h2 : 14680064 < z
    · rw [if_pos (.inr h2)]; exact .inr (.inl ⟨rfl, by omega, h2⟩)
    rw [if_neg (by omega)]
    refine .inr (.inr ⟨by omega, by omega, ?_⟩)
    by_cases h3 : g.length ≠ 32
    · rw [if_pos h3]; exact .inl ⟨rfl, h3⟩
    rw [if_neg h3]
    refine .inr ⟨by omega, ?_⟩
    by_cases h4 : 2000 < s.length
    · rw [if_pos h4]; exact .inl ⟨rfl, h4⟩
    · rw [if_neg h4]; exact .inr ⟨rfl, by omega⟩
  · rw [if_neg h]; exact .inl ⟨h, rfl⟩
end Go.Proofs.YtjlfjchcmkkebaaGreatDoor

namespace Go.Proofs.YtjlfjchcmkkebaaGreatDoor
open Go.RowKit Go.Shelf

theorem EnRow.at' {w : World} {a : Option Addr} {c : Nat} {X : List En} (h : EnRow w (.slice a X.length c) X) {i : Nat} (hi : i < X.length) :
    ∃ b o a1 m1 a2 m2, a = some ⟨b, o, none⟩ ∧ AtRow w (.slice a1 (enAt X i).attrs.length m1) (enAt X i).attrs ∧ ExRow w (.slice a2 (enAt X i).exts.length m2) (enAt X i).exts ∧
      w.cell? ⟨b, o + i * 7, none⟩ = some (.int .i64 (enAt X i).kind) ∧ w.cell? ⟨b, o + i * 7 + 1, none⟩ = some (.string (enAt X i).path) ∧ w.cell? ⟨b, o + i * 7 + 2, none⟩ = some (.slice a1 (enAt X i).attrs.length m1) ∧ w.cell? ⟨b, o + i * 7 + 3, none⟩ = some (.string (enAt X i).target) ∧ w.cell? ⟨b, o + i * 7 + 4, none⟩ = some (.int .i64 (enAt X i).size) ∧ w.cell? ⟨b, o + i * 7 + 5, none⟩ = some (.string (enAt X i).digest) ∧ w.cell? ⟨b, o + i * 7 + 6, none⟩ = some (.slice a2 (enAt X i).exts.length m2) := by
  obtain ⟨b, o, va, vx, ha, _, hA, hX, hr⟩ := h.get hi
  obtain ⟨a1, m1, rfl⟩ := hA.form
  obtain ⟨a2, m2, rfl⟩ := hX.form
  exact ⟨b, o, a1, m1, a2, m2, ha, hA, hX, en_cells hr⟩
set_option maxRecDepth 100000 in
set_option maxHeartbeats 4000000 in
theorem sgreat_any (s : Se) (a : Option Addr) (c : Nat) (w : World) (wf : SeWf s) (hr : EnRow w (.slice a s.entries.length c) s.entries) :
    Calls Tryz.prog 17 #[.agg #[.int .i64 s.number, .int .i64 s.date, .string s.prev, .slice a s.entries.length c, .string s.stream, .string s.sl]] w (GreatP (SmallS s) w) := by
  have HX := Lib.hid (show ∀ W, Below w.heap.size w W → EnRow W (.slice a s.entries.length c) s.entries from fun W hW => hr.below hW)
  have HW := Lib.hid wf.ents
  have hlen := hr.len
  have hp := wf.prev
  have hst := wf.stream
  have hsl := wf.sl
  have HS : Hid (SmallS s = (s.prev.size ≤ 100 ∧ s.stream.size ≤ 1000 ∧ s.sl.size ≤ 2100 ∧ (s.entries.length ≤ 12 ∨ s.entries.length = 401) ∧ ∀ i, i < s.entries.length → SmallE (enAt s.entries i))) := rfl
  clear hr wf
  generalize SmallS s = ps at *
  generalize s.number = n at *
  generalize s.date = d at *
  generalize s.prev = p at *
  generalize s.stream = st at *
  generalize s.sl = sl at *
  generalize s.entries = X at *
  obtain ⟨hb0, bB⟩ := box1'' w [.int .i64 n, .int .i64 d, .string p, .slice a X.length c, .string st, .string sl] 25
  change Below _ _ (w.alloc (.cells #[.int .i64 n, .int .i64 d, .string p, .slice a X.length c, .string st, .string sl] 25)) at hb0
  change Box (w.alloc (.cells #[.int .i64 n, .int .i64 d, .string p, .slice a X.length c, .string st, .string sl] 25)) _ _ _ at bB
  by_cases h1 : 100 < p.size
  · go_enter Tryz.func17, Tryz.ntmps17
    go_wp2_with fail
    go_ret
    exact ⟨1, rfl, .inr rfl, fun e => (by cases e), hb0⟩
  by_cases h2 : 1000 < st.size
  · go_enter Tryz.func17, Tryz.ntmps17
    go_wp2_with fail
    go_ret
    exact ⟨1, rfl, .inr rfl, fun e => (by cases e), hb0⟩
  by_cases h3 : 2100 < sl.size
  · go_enter Tryz.func17, Tryz.ntmps17
    go_wp2_with fail
    go_ret
    exact ⟨1, rfl, .inr rfl, fun e => (by cases e), hb0⟩
  by_cases h4 : 12 < X.length ∧ X.length ≠ 401
  · have q1 : ((X.length : Int) == 401) = false := by rw [beq_eq_false_iff_ne]; omega
    have q2 : ((X.length : Int) != 401) = true := by rw [bne_iff_ne]; omega
    obtain ⟨h4, _⟩ := h4
    go_enter Tryz.func17, Tryz.ntmps17
    go_wp2_with fail
    go_ret
    exact ⟨1, rfl, .inr rfl, fun e => (by cases e), hb0⟩
  go_enter Tryz.func17, Tryz.ntmps17
  go_upto_region 1 with (fail)
  obtain ⟨W0, hW0⟩ : ∃ W0, w.alloc (.cells #[.int .i64 n, .int .i64 d, .string p, .slice a X.length c, .string st, .string sl] 25) = W0 := ⟨_, rfl⟩
  change Code.wp _ _ _ _ (w.alloc (.cells #[.int .i64 n, .int .i64 d, .string p, .slice a X.length c, .string st, .string sl] 25))
  rw [hW0] at hb0 bB ⊢
  clear hW0
  obtain ⟨c0, c1, c2, c3, c4, c5⟩ := bB.cells6
  have p1 : decide (100 < (p.size : Int)) = false := decide_eq_false (by omega)
  have p2 : decide (1000 < (st.size : Int)) = false := decide_eq_false (by omega)
  have p3 : decide (2100 < (sl.size : Int)) = false := decide_eq_false (by omega)
  go_cut [31] from 4 (fun v wc => W0 = wc ∧ v = .bool false)
  case first =>
    rcases (by omega : X.length ≤ 12 ∨ (12 < X.length ∧ X.length = 401)) with h5 | ⟨h5, h6⟩
    · go_wp2_with fail
      go_meet
      exact ⟨rfl, congrArg Value.bool (by first | rfl | (rw [p1, p2, p3]; rfl))⟩
    · have q1 : ((X.length : Int) == 401) = true := by rw [beq_iff_eq]; omega
      have q2 : ((X.length : Int) != 401) = false := by rw [bne_eq_false_iff_eq]; omega
      clear h6
      go_wp2_with fail
      go_meet
      exact ⟨rfl, congrArg Value.bool (by first | rfl | (rw [p1, p2, p3]; rfl))⟩
  obtain ⟨rfl, rfl⟩ := hcut
  have hN : X.length ≤ 401 := by omega
  have HF : Hid ((∀ i, i < X.length → SmallE (enAt X i)) → ps) := Lib.hid fun h => by rw [HS.out]; exact ⟨by omega, by omega, by omega, by omega, h⟩
  clear HS h4 h1 h2 h3 hp hst hsl p1 p2 p3
  go_upto_block 0 with (fail)
  go_wp2_with fail
  go_loopw [3] (fun i wr => ∃ k : Nat, k ≤ X.length ∧ i = .int .i64 k ∧ Hid (∀ j, j < k → SmallE (enAt X j)) ∧ Below w.heap.size w wr ∧ Box wr w.heap.size [.int .i64 n, .int .i64 d, .string p, .slice a X.length c, .string st, .string sl] 25) (fun i _ => X.length - (intOf i).toNat)
  case atStart => exact ⟨0, by omega, rfl, fun j hj => absurd hj (Nat.not_lt_zero _), hb0, bB⟩
  case round =>
    obtain ⟨k, hk, rfl, hE, kb, bR⟩ := hrel
    clear hb0 bB c0 c1 c2 c3 c4 c5
    obtain ⟨c0, c1, c2, c3, c4, c5⟩ := bR.cells6
    by_cases hlt : k < X.length
    · obtain ⟨b, o, a1, m1, a2, m2, rfl, hA, hXx, x0, x1, x2, x3, x4, x5, x6⟩ := (HX.out _ kb).at' hlt
      have HG := Lib.hid (great_any (enAt X k) _ _ wr (HW.out k) hA hXx)
      have HN := Lib.hid (show SmallE (enAt X k) → ∀ j, j < k + 1 → SmallE (enAt X j) from fun h j hj => by
        by_cases e : j = k
        · rw [e]; exact h
        · exact hE.out j (by omega))
      clear hA hXx
      generalize enAt X k = ee at *
      go_wp2_with fail
      refine HG.out.mono ?_
      rintro e w2 ⟨g, rfl, hg, hs, hb⟩
      have kb2 := step2 kb hb
      have bR2 := bR.below hb
      clear kb bR hb c0 c1 c2 c3 c4 c5 x0 x1 x2 x3 x4 x5 x6 HG
      rcases hg.out with rfl | rfl
      · have HN2 := Lib.hid (HN.out (hs.out rfl))
        go_wp2_with fail
        go_roundw
        case rel => exact ⟨k + 1, by omega, by go_num, HN2, kb2, bR2⟩
        case measure => simp [intOf]; omega
      · go_wp2_with fail
        go_ret
        exact ⟨1, rfl, .inr rfl, fun e => (by cases e), kb2⟩
    · obtain rfl : k = X.length := by omega
      have HR := Lib.hid (HF.out hE.out)
      go_wp2_with fail
      go_ret
      exact ⟨0, rfl, .inl rfl, fun _ => HR.out, kb⟩
end Go.Proofs.YtjlfjchcmkkebaaGreatDoor

namespace Go.Proofs.YtjlfjchcmkkebaaGreatDoor
open Go.RowKit Go.Shelf

theorem se_ext {x y : Se} (h1 : x.number = y.number) (h2 : x.date = y.date) (h3 : x.prev = y.prev) (h4 : x.stream = y.stream) (h5 : x.sl = y.sl) (h6 : x.entries = y.entries) : x = y := by cases x; cases y; simp_all
theorem list_ext_en {A B : List En} (hl : A.length = B.length) (h : ∀ j, j < A.length → enAt A j = enAt B j) : A = B := by
  refine List.ext_getElem hl fun i h1 h2 => ?_
  have := h i h1
  rwa [enAt_get h1, enAt_get h2] at this
set_option maxRecDepth 100000 in
set_option maxHeartbeats 4000000 in
theorem ssame_any (x y : Se) (a1 a2 : Option Addr) (c1 c2 : Nat) (w : World) (hx : EnRow w (.slice a1 x.entries.length c1) x.entries) (hy : EnRow w (.slice a2 y.entries.length c2) y.entries) :
    Calls Tryz.prog 14 #[.agg #[.int .i64 x.number, .int .i64 x.date, .string x.prev, .slice a1 x.entries.length c1, .string x.stream, .string x.sl], .agg #[.int .i64 y.number, .int .i64 y.date, .string y.prev, .slice a2 y.entries.length c2, .string y.stream, .string y.sl]] w (BoolP (isB (x = y)) w) := by
  have HX := Lib.hid (show ∀ W, Below w.heap.size w W → EnRow W (.slice a1 x.entries.length c1) x.entries from fun W hW => hx.below hW)
  have HY := Lib.hid (show ∀ W, Below w.heap.size w W → EnRow W (.slice a2 y.entries.length c2) y.entries from fun W hW => hy.below hW)
  have hlx := hx.len
  have hly := hy.len
  have F1 := Lib.hid (show x.number ≠ y.number → isB (x = y) = false from fun h => isB_no fun e => h (by rw [e]))
  have F2 := Lib.hid (show x.date ≠ y.date → isB (x = y) = false from fun h => isB_no fun e => h (by rw [e]))
  have F3 := Lib.hid (show x.prev ≠ y.prev → isB (x = y) = false from fun h => isB_no fun e => h (by rw [e]))
  have F4 := Lib.hid (show x.stream ≠ y.stream → isB (x = y) = false from fun h => isB_no fun e => h (by rw [e]))
  have F5 := Lib.hid (show x.sl ≠ y.sl → isB (x = y) = false from fun h => isB_no fun e => h (by rw [e]))
  have F6 := Lib.hid (show x.entries ≠ y.entries → isB (x = y) = false from fun h => isB_no fun e => h (by rw [e]))
  have FY := Lib.hid (show x.number = y.number → x.date = y.date → x.prev = y.prev → x.stream = y.stream → x.sl = y.sl → x.entries = y.entries → isB (x = y) = true from fun h1 h2 h3 h4 h5 h6 => isB_yes (se_ext h1 h2 h3 h4 h5 h6))
  generalize isB (x = y) = r at *
  generalize x.number = n1 at *
  generalize y.number = n2 at *
  generalize x.date = d1 at *
  generalize y.date = d2 at *
  generalize x.prev = p1 at *
  generalize y.prev = p2 at *
  generalize x.stream = s1 at *
  generalize y.stream = s2 at *
  generalize x.sl = l1 at *
  generalize y.sl = l2 at *
  generalize x.entries = X1 at *
  generalize y.entries = X2 at *
  clear hx hy
  obtain ⟨hb0, bA, bB⟩ := boxes2' w [.int .i64 n1, .int .i64 d1, .string p1, .slice a1 X1.length c1, .string s1, .string l1] [.int .i64 n2, .int .i64 d2, .string p2, .slice a2 X2.length c2, .string s2, .string l2] 25 25
  change Below _ _ ((w.alloc (.cells #[.int .i64 n1, .int .i64 d1, .string p1, .slice a1 X1.length c1, .string s1, .string l1] 25)).alloc (.cells #[.int .i64 n2, .int .i64 d2, .string p2, .slice a2 X2.length c2, .string s2, .string l2] 25)) at hb0
  change Box ((w.alloc (.cells #[.int .i64 n1, .int .i64 d1, .string p1, .slice a1 X1.length c1, .string s1, .string l1] 25)).alloc (.cells #[.int .i64 n2, .int .i64 d2, .string p2, .slice a2 X2.length c2, .string s2, .string l2] 25)) _ _ _ at bA bB
  by_cases e1 : n1 = n2
  case neg =>
    obtain rfl := F1.out e1
    have q1 : (n1 != n2) = true := by simpa using e1
    clear e1 FY F1 F2 F3 F4 F5 F6 HX HY
    go_enter Tryz.func14, Tryz.ntmps14
    go_wp2_with fail
    go_ret
    exact ⟨rfl, hb0⟩
  have q1 : (n1 != n2) = false := by simpa using e1
  by_cases e2 : d1 = d2
  case neg =>
    obtain rfl := F2.out e2
    have q2 : (d1 != d2) = true := by simpa using e2
    clear e1 e2 FY F1 F2 F3 F4 F5 F6 HX HY
    go_enter Tryz.func14, Tryz.ntmps14
    go_wp2_with fail
    go_ret
    exact ⟨rfl, hb0⟩
  have q2 : (d1 != d2) = false := by simpa using e2
  by_cases e3 : p1.data.toList = p2.data.toList
  case neg =>
    obtain rfl := F3.out fun h => e3 (by rw [h])
    have q3 : (p1.toList == p2.toList) = false := by rw [str_eq]; exact decide_eq_false e3
    clear e1 e2 e3 FY F1 F2 F3 F4 F5 F6 HX HY
    go_enter Tryz.func14, Tryz.ntmps14
    go_wp2_with fail
    go_ret
    exact ⟨rfl, hb0⟩
  have q3 : (p1.toList == p2.toList) = true := by rw [str_eq]; exact decide_eq_true e3
  by_cases e4 : s1.data.toList = s2.data.toList
  case neg =>
    obtain rfl := F4.out fun h => e4 (by rw [h])
    have q4 : (s1.toList == s2.toList) = false := by rw [str_eq]; exact decide_eq_false e4
    clear e1 e2 e3 e4 FY F1 F2 F3 F4 F5 F6 HX HY
    go_enter Tryz.func14, Tryz.ntmps14
    go_wp2_with fail
    go_ret
    exact ⟨rfl, hb0⟩
  have q4 : (s1.toList == s2.toList) = true := by rw [str_eq]; exact decide_eq_true e4
  by_cases e5 : l1.data.toList = l2.data.toList
  case neg =>
    obtain rfl := F5.out fun h => e5 (by rw [h])
    have q5 : (l1.toList == l2.toList) = false := by rw [str_eq]; exact decide_eq_false e5
    clear e1 e2 e3 e4 e5 FY F1 F2 F3 F4 F5 F6 HX HY
    go_enter Tryz.func14, Tryz.ntmps14
    go_wp2_with fail
    go_ret
    exact ⟨rfl, hb0⟩
  have q5 : (l1.toList == l2.toList) = true := by rw [str_eq]; exact decide_eq_true e5
  by_cases e6 : X1.length = X2.length
  case neg =>
    obtain rfl := F6.out fun h => e6 (by rw [h])
    have q6 : ((X1.length : Int) != (X2.length : Int)) = true := by rw [bne_iff_ne]; omega
    clear e1 e2 e3 e4 e5 e6 FY F1 F2 F3 F4 F5 F6 HX HY
    go_enter Tryz.func14, Tryz.ntmps14
    go_wp2_with fail
    go_ret
    exact ⟨rfl, hb0⟩
  have HYes := Lib.hid (show X1 = X2 → r = true from FY.out e1 e2 (list_inj e3) (list_inj e4) (list_inj e5))
  have HNo := Lib.hid (show ∀ k, enAt X1 k ≠ enAt X2 k → r = false from fun k h => F6.out fun e => h (by rw [e]))
  have q6 : ((X1.length : Int) != (X2.length : Int)) = false := by rw [bne_eq_false_iff_eq]; omega
  have E6 := Lib.hid e6
  have e6a : X1.length ≤ X2.length := by omega
  clear e6
  clear e1 e2 e3 e4 e5 FY F1 F2 F3 F4 F5 F6
  go_enter Tryz.func14, Tryz.ntmps14
  go_upto_region 1 with (fail)
  obtain ⟨W0, hW0⟩ : ∃ W0, ((w.alloc (.cells #[.int .i64 n1, .int .i64 d1, .string p1, .slice a1 X1.length c1, .string s1, .string l1] 25)).alloc (.cells #[.int .i64 n2, .int .i64 d2, .string p2, .slice a2 X2.length c2, .string s2, .string l2] 25)) = W0 := ⟨_, rfl⟩
  change Code.wp _ _ _ _ ((w.alloc (.cells #[.int .i64 n1, .int .i64 d1, .string p1, .slice a1 X1.length c1, .string s1, .string l1] 25)).alloc (.cells #[.int .i64 n2, .int .i64 d2, .string p2, .slice a2 X2.length c2, .string s2, .string l2] 25))
  rw [hW0] at hb0 bA bB ⊢
  clear hW0
  obtain ⟨c0, c1', c2', c3, c4, c5⟩ := bA.cells6
  obtain ⟨d0, d1', d2', d3, d4, d5⟩ := bB.cells6
  go_upto_block 0 with (fail)
  have hlt0 : w.heap.size + 1 < W0.heap.size := bB.lt
  clear q1 q2 q3 q4 q5 q6
  go_wp2_with fail
  go_loopw [5] (fun i wr => ∃ k : Nat, k ≤ X1.length ∧ i = .int .i64 k ∧ Hid (∀ j, j < k → enAt X1 j = enAt X2 j) ∧ Below w.heap.size w wr ∧ Box wr w.heap.size [.int .i64 n1, .int .i64 d1, .string p1, .slice a1 X1.length c1, .string s1, .string l1] 25 ∧ Box wr (w.heap.size + 1) [.int .i64 n2, .int .i64 d2, .string p2, .slice a2 X2.length c2, .string s2, .string l2] 25) (fun i _ => X1.length - (intOf i).toNat)
  case atStart => exact ⟨0, by omega, rfl, fun j hj => absurd hj (Nat.not_lt_zero _), hb0, bA, bB⟩
  case round =>
    obtain ⟨k, hk, rfl, hE, kb, bP, bQ⟩ := hrel
    clear hb0 bA bB c0 c1' c2' c3 c4 c5 d0 d1' d2' d3 d4 d5
    obtain ⟨c0, c1', c2', c3, c4, c5⟩ := bP.cells6
    obtain ⟨d0, d1', d2', d3, d4, d5⟩ := bQ.cells6
    by_cases hlt : k < X1.length
    · have hlt2 : k < X2.length := by omega
      obtain ⟨b, o, f1, m1, f2, m2, rfl, hA, hXx, x0, x1, x2, x3, x4, x5, x6⟩ := (HX.out _ kb).at' hlt
      obtain ⟨b', o', g1, n3, g2, n4, rfl, hA2, hXx2, y0, y1, y2, y3, y4, y5, y6⟩ := (HY.out _ kb).at' hlt2
      have HG := Lib.hid (fun W (hW : Below wr.heap.size wr W) => refEqual_any (enAt X1 k) (enAt X2 k) _ _ _ _ W (hA.below hW) (hXx.below hW) (hA2.below hW) (hXx2.below hW))
      have HN := Lib.hid (show enAt X1 k = enAt X2 k → ∀ j, j < k + 1 → enAt X1 j = enAt X2 j from fun h j hj => by
        by_cases e : j = k
        · rw [e]; exact h
        · exact hE.out j (by omega))
      have HNk := Lib.hid (HNo.out k)
      clear hA hXx hA2 hXx2
      obtain ⟨sb, hsb⟩ : ∃ sb, isB (enAt X1 k = enAt X2 k) = sb := ⟨_, rfl⟩
      rw [hsb] at HG
      have HT := Lib.hid (show sb = true → enAt X1 k = enAt X2 k from fun h => by
        by_cases e : enAt X1 k = enAt X2 k
        · exact e
        · rw [isB_no e] at hsb; rw [← hsb] at h; cases h)
      have HFf := Lib.hid (show sb = false → enAt X1 k ≠ enAt X2 k from fun h e => by rw [isB_yes e] at hsb; rw [← hsb] at h; cases h)
      clear hsb
      generalize enAt X1 k = ee at *
      generalize enAt X2 k = ff at *
      have kbd : Below wr.heap.size wr wr.drew := below_drew0 (below_refl wr)
      have bPd := bP.drewN' 1
      have bQd := bQ.drewN' 1
      change Box wr.drew _ _ _ at bPd bQd
      have HSS := Lib.hid (show ∀ W, Below wr.heap.size wr W → (W.cell? ⟨w.heap.size, 3, none⟩ = some (.slice (some ⟨b, o, none⟩) X1.length c1) ∧ W.cell? ⟨w.heap.size + 1, 3, none⟩ = some (.slice (some ⟨b', o', none⟩) X2.length c2) ∧ W.cell? ⟨b, o + k * 7, none⟩ = some (.int .i64 ee.kind) ∧ W.cell? ⟨b, o + k * 7 + 1, none⟩ = some (.string ee.path) ∧ W.cell? ⟨b, o + k * 7 + 2, none⟩ = some (.slice f1 ee.attrs.length m1) ∧ W.cell? ⟨b, o + k * 7 + 3, none⟩ = some (.string ee.target) ∧ W.cell? ⟨b, o + k * 7 + 4, none⟩ = some (.int .i64 ee.size) ∧ W.cell? ⟨b, o + k * 7 + 5, none⟩ = some (.string ee.digest) ∧ W.cell? ⟨b, o + k * 7 + 6, none⟩ = some (.slice f2 ee.exts.length m2) ∧ W.cell? ⟨b', o' + k * 7, none⟩ = some (.int .i64 ff.kind) ∧ W.cell? ⟨b', o' + k * 7 + 1, none⟩ = some (.string ff.path) ∧ W.cell? ⟨b', o' + k * 7 + 2, none⟩ = some (.slice g1 ff.attrs.length n3) ∧ W.cell? ⟨b', o' + k * 7 + 3, none⟩ = some (.string ff.target) ∧ W.cell? ⟨b', o' + k * 7 + 4, none⟩ = some (.int .i64 ff.size) ∧ W.cell? ⟨b', o' + k * 7 + 5, none⟩ = some (.string ff.digest) ∧ W.cell? ⟨b', o' + k * 7 + 6, none⟩ = some (.slice g2 ff.exts.length n4)) from fun W hW => ⟨(hW.cell (World.block_lt_of_cell? wr _ c3)).trans c3, (hW.cell (World.block_lt_of_cell? wr _ d3)).trans d3, (hW.cell (World.block_lt_of_cell? wr _ x0)).trans x0, (hW.cell (World.block_lt_of_cell? wr _ x1)).trans x1, (hW.cell (World.block_lt_of_cell? wr _ x2)).trans x2, (hW.cell (World.block_lt_of_cell? wr _ x3)).trans x3, (hW.cell (World.block_lt_of_cell? wr _ x4)).trans x4, (hW.cell (World.block_lt_of_cell? wr _ x5)).trans x5, (hW.cell (World.block_lt_of_cell? wr _ x6)).trans x6, (hW.cell (World.block_lt_of_cell? wr _ y0)).trans y0, (hW.cell (World.block_lt_of_cell? wr _ y1)).trans y1, (hW.cell (World.block_lt_of_cell? wr _ y2)).trans y2, (hW.cell (World.block_lt_of_cell? wr _ y3)).trans y3, (hW.cell (World.block_lt_of_cell? wr _ y4)).trans y4, (hW.cell (World.block_lt_of_cell? wr _ y5)).trans y5, (hW.cell (World.block_lt_of_cell? wr _ y6)).trans y6⟩)
      have kb0 := below_refl wr
      go_upto_region 6 with (fail)
      go_region_held3 (fun W => W.cell? ⟨w.heap.size, 3, none⟩ = some (.slice (some ⟨b, o, none⟩) X1.length c1) ∧ W.cell? ⟨w.heap.size + 1, 3, none⟩ = some (.slice (some ⟨b', o', none⟩) X2.length c2) ∧ W.cell? ⟨b, o + k * 7, none⟩ = some (.int .i64 ee.kind) ∧ W.cell? ⟨b, o + k * 7 + 1, none⟩ = some (.string ee.path) ∧ W.cell? ⟨b, o + k * 7 + 2, none⟩ = some (.slice f1 ee.attrs.length m1) ∧ W.cell? ⟨b, o + k * 7 + 3, none⟩ = some (.string ee.target) ∧ W.cell? ⟨b, o + k * 7 + 4, none⟩ = some (.int .i64 ee.size) ∧ W.cell? ⟨b, o + k * 7 + 5, none⟩ = some (.string ee.digest) ∧ W.cell? ⟨b, o + k * 7 + 6, none⟩ = some (.slice f2 ee.exts.length m2) ∧ W.cell? ⟨b', o' + k * 7, none⟩ = some (.int .i64 ff.kind) ∧ W.cell? ⟨b', o' + k * 7 + 1, none⟩ = some (.string ff.path) ∧ W.cell? ⟨b', o' + k * 7 + 2, none⟩ = some (.slice g1 ff.attrs.length n3) ∧ W.cell? ⟨b', o' + k * 7 + 3, none⟩ = some (.string ff.target) ∧ W.cell? ⟨b', o' + k * 7 + 4, none⟩ = some (.int .i64 ff.size) ∧ W.cell? ⟨b', o' + k * 7 + 5, none⟩ = some (.string ff.digest) ∧ W.cell? ⟨b', o' + k * 7 + 6, none⟩ = some (.slice g2 ff.exts.length n4))
        (first | with_reducible exact HSS.out _ kb0 | with_reducible exact HSS.out _ kbd | with_reducible exact HSS.out _ kb9)
        (first | (go_at_call 38; (with_reducible refine (HG.out _ kbd).mono ?_); rintro e w2 ⟨rfl, hb⟩; have kb9 := step2 kbd hb))
      all_goals try clear HSS kb0 kb9
      have kb2 := step2 kb (step2 kbd hb)
      have bP2 := bPd.below hb
      have bQ2 := bQd.below hb
      clear kb bP bQ hb c0 c1' c2' c3 c4 c5 d0 d1' d2' d3 d4 d5 x0 x1 x2 x3 x4 x5 x6 y0 y1 y2 y3 y4 y5 y6 HG kbd bPd bQd
      cases sb
      · have HR := Lib.hid (HNk.out (HFf.out rfl))
        go_wp2_with fail
        go_ret
        exact ⟨ret_bool HR.out.symm, kb2⟩
      · have HN2 := Lib.hid (HN.out (HT.out rfl))
        go_wp2_with fail
        go_roundw
        case rel => exact ⟨k + 1, by omega, by go_num, HN2, kb2, bP2, bQ2⟩
        case measure => simp [intOf]; omega
    · obtain rfl : k = X1.length := by omega
      have HR := Lib.hid (HYes.out (list_ext_en E6.out hE.out))
      go_wp2_with fail
      go_ret
      exact ⟨ret_bool HR.out.symm, kb⟩
end Go.Proofs.YtjlfjchcmkkebaaGreatDoor

namespace Go.Proofs.YtjlfjchcmkkebaaGreatDoor
open Go.RowKit Go.Shelf

set_option maxHeartbeats 1000000 in
theorem len_any (B : Nat) (l : List UInt8) (w : World) (h : BldF B l w) : Calls Tryz.prog 70 #[.pointer (some ⟨B, 0, none⟩)] w fun e w' => e = .returned (.int .i64 l.length) ∧ w' = w := by
  obtain ⟨p, hB, v, hbk, hown, hne⟩ : ∃ p, Lib.BuilderAtF 82 5 B B p (Lib.byteCells l) w := by
    rcases h with h | h
    · exact ⟨_, h⟩
    · exact ⟨_, h⟩
  obtain ⟨ao, cap, rfl⟩ : ∃ ao cap, v = .slice ao l.length cap := by
    rcases hown.2 with ⟨hv, h0⟩ | ⟨g, cap, cur, fz, hv, _⟩
    · exact ⟨none, 0, by rw [hv, ← Lib.byteCells_length, h0]⟩
    · exact ⟨_, _, by rw [hv, Lib.byteCells_length]⟩
  have c1 : w.cell? ⟨B, 1, none⟩ = some (.slice ao l.length cap) := by rw [Lib.cell_of_heap hbk]; rfl
  clear hown hbk hne h
  go_enter Tryz.func70, Tryz.ntmps70
  go_wp2_with fail
  go_ret
  exact ⟨rfl, rfl⟩
theorem one_sum (st : ByteArray) (W : World) (h : st.size ≤ 1000000000) : Calls Tryz.prog 15 #[.slice (some ⟨W.heap.size, 0, none⟩) 1 1] (W.alloc (.cells #[.string st] 9)) (StrP (sumB st.data.toList) (W.alloc (.cells #[.string st] 9))) := by
  have e : (([st] : List ByteArray).map fun s => s.data.toList).flatten = st.data.toList := by simp
  have := sum_any _ [st] _ (strs_new W [st] 9 (by simp [maxLen])) (by simp) (by rw [e]; have : st.data.toList.length = st.size := rfl; omega)
  rw [e] at this
  exact this
theorem one_sumB (st : ByteArray) (W W' : World) (h : st.size ≤ 1000000000) (hb : Below (W.alloc (.cells #[.string st] 9)).heap.size (W.alloc (.cells #[.string st] 9)) W') : Calls Tryz.prog 15 #[.slice (some ⟨W.heap.size, 0, none⟩) 1 1] W' (StrP (sumB st.data.toList) W') := by
  have e : (([st] : List ByteArray).map fun s => s.data.toList).flatten = st.data.toList := by simp
  have := sum_any _ [st] _ ((strs_new W [st] 9 (by simp [maxLen])).below hb) (by simp) (by rw [e]; have : st.data.toList.length = st.size := rfl; omega)
  rw [e] at this
  exact this
set_option maxRecDepth 100000 in
set_option maxHeartbeats 40000000 in
theorem signed_any (s : Se) (a : Option Addr) (c : Nat) (w : World) (he : Env w) (hm : HasMax w) (ok : SeOk s) (hr : EnRow w (.slice a s.entries.length c) s.entries) :
    Calls Tryz.prog 42 #[.agg #[.int .i64 s.number, .int .i64 s.date, .string s.prev, .slice a s.entries.length c, .string s.stream, .string s.sl]] w (HeadP (if sgnE s = 0 then signedL s else []) (sgnE s) w) := by
  have HE := Lib.hid (show ∀ W, Below w.heap.size w W → Env W from fun W hW => he.below hW)
  have HM := Lib.hid (show ∀ W, Below w.heap.size w W → HasMax W from fun W hW => hm.below hW)
  have HX := Lib.hid (show ∀ W, Below w.heap.size w W → EnRow W (.slice a s.entries.length c) s.entries from fun W hW => hr.below hW)
  have HO := Lib.hid ok.ents
  have hp := ok.prev
  have hst := ok.stream
  have hsl := ok.sl
  have hN := ok.count
  have hn := ok.number
  have hd := ok.date
  have HF := Lib.hid ok.flat
  have HSg := Lib.hid (sgnE_small ok)
  have HLs : Hid (signedL s = numL s.number ++ numL s.date ++ strL s.prev.data.toList ++ numL s.stream.size ++ strL (sumB s.stream.data.toList) ++ numL s.entries.length ++ s.entries.flatMap bodyL) := rfl
  clear he hm hr ok
  have HLn := Lib.hid (show sgnE s ≠ 0 → (if sgnE s = 0 then signedL s else []) = [] from fun h => if_neg h)
  have HLy := Lib.hid (show sgnE s = 0 → (if sgnE s = 0 then signedL s else []) = signedL s from fun h => if_pos h)
  generalize (if sgnE s = 0 then signedL s else []) = L at *
  generalize signedL s = SL at *
  generalize sgnE s = ce at *
  generalize s.number = n at *
  generalize s.date = d at *
  generalize s.prev = p at *
  generalize s.stream = st at *
  generalize s.sl = sl at *
  generalize s.entries = X at *
  have HFi := Lib.hid (fun (xa : Option Addr) (m c : Nat) (W : World) => fields_any n d p xa m c st sl W (by omega))
  generalize fieldsE n d p.size = f at *
  obtain ⟨hb0, bB⟩ := box1'' w [.int .i64 n, .int .i64 d, .string p, .slice a X.length c, .string st, .string sl] 25
  change Below _ _ (w.alloc (.cells #[.int .i64 n, .int .i64 d, .string p, .slice a X.length c, .string st, .string sl] 25)) at hb0
  change Box (w.alloc (.cells #[.int .i64 n, .int .i64 d, .string p, .slice a X.length c, .string st, .string sl] 25)) _ _ _ at bB
  go_enter Tryz.func42, Tryz.ntmps42
  go_upto_region 1 with (fail)
  obtain ⟨W0, hW0⟩ : ∃ W0, w.alloc (.cells #[.int .i64 n, .int .i64 d, .string p, .slice a X.length c, .string st, .string sl] 25) = W0 := ⟨_, rfl⟩
  change Code.wp _ _ _ _ (w.alloc (.cells #[.int .i64 n, .int .i64 d, .string p, .slice a X.length c, .string st, .string sl] 25))
  rw [hW0] at hb0 bB ⊢
  clear hW0
  obtain ⟨c0, c1, c2, c3, c4, c5⟩ := bB.cells6
  go_wp2_with fail
  refine (HFi.out _ _ _ W0).mono ?_
  rintro e W1 ⟨rfl, hb⟩
  have hb1 := step2 hb0 hb
  have bB1 := bB.below hb
  clear hb0 bB hb c0 c1 c2 c3 c4 c5 HFi
  by_cases hf : f = 0
  case neg =>
    have hce : ce = f := by rw [HSg.out, if_neg hf]
    subst hce
    have q1 : (ce != 0) = true := by rw [bne_iff_ne]; exact hf
    have HL0 := Lib.hid (HLn.out hf)
    clear hf HLn HLy HSg
    go_wp2_with fail
    go_ret2
    exact ⟨_, rfl, by rw [Hid, HL0.out], hb1⟩
  subst hf
  have HS2 := Lib.hid (HSg.out.trans (if_pos rfl))
  clear HSg
  obtain ⟨c0, c1, c2, c3, c4, c5⟩ := bB1.cells6
  by_cases h4 : 400 < X.length
  · have hce : ce = 6 := by rw [HS2.out, if_pos h4]
    subst hce
    have HL0 := Lib.hid (HLn.out (by decide))
    clear HLn HLy HS2
    go_wp2_with fail
    go_ret2
    exact ⟨_, rfl, by rw [Hid, HL0.out], hb1⟩
  have HS3 := Lib.hid (HS2.out.trans (if_neg h4))
  have hflat := HF.out (by omega)
  clear HS2 HF
  go_upto_region 6 with (fail)
  go_upto_region 7 with (fail)
  clear c0 c1 c2 c3 c4 c5
  have HBw4 : Hid (Bld W1.heap.size [] (W1.alloc (.cells #[.pointer none, .slice none 0 0] 82))) := Lib.fresh_isBuilder 82 5 W1
  have hb4 : Below w.heap.size w (W1.alloc (.cells #[.pointer none, .slice none 0 0] 82)) := hb1.alloc hb1.size _
  have hk4 : Below W1.heap.size W1 (W1.alloc (.cells #[.pointer none, .slice none 0 0] 82)) := (below_refl W1).alloc (Nat.le_refl _) _
  have hs4 := size_one W1 (.cells #[.pointer none, .slice none 0 0] 82)
  have hwl : w.heap.size < W1.heap.size := bB1.lt
  have HX1 := Lib.hid (show ∀ W, Below W1.heap.size W1 W → EnRow W (.slice a X.length c) X from fun W hW => HX.out W (step2 hb1 hW))
  have HB1 := Lib.hid (show ∀ W, Below W1.heap.size W1 W → Box W w.heap.size [.int .i64 n, .int .i64 d, .string p, .slice a X.length c, .string st, .string sl] 25 from fun W hW => bB1.below hW)
  generalize hB : W1.heap.size = B at *
  obtain ⟨w4, hw4⟩ : ∃ w4, W1.alloc (.cells #[.pointer none, .slice none 0 0] 82) = w4 := ⟨_, rfl⟩
  change Code.wp _ _ _ _ (W1.alloc (.cells #[.pointer none, .slice none 0 0] 82))
  rw [hw4] at HBw4 hb4 hk4 hs4 ⊢
  have HC4 := Lib.hid (show ∀ W, Below B w4 W → Box W w.heap.size [.int .i64 n, .int .i64 d, .string p, .slice a X.length c, .string st, .string sl] 25 from fun W hW => HB1.out W (hk4.trans hW))
  have HXB := Lib.hid (show ∀ W, Below B w4 W → EnRow W (.slice a X.length c) X from fun W hW => HX1.out W (hk4.trans hW))
  have hlt4 : B < w4.heap.size := by omega
  have HBe := Lib.hid hB
  have hBw : w.heap.size ≤ B := Nat.le_of_lt hwl
  clear hw4 hs4 hk4 hB HX HX1 HB1 bB1 hb1
  have HEB := Lib.hid (show ∀ W, Below B w4 W → Env W from fun W hW => HE.out W (hb4.trans (hW.mono hBw)))
  have HMB := Lib.hid (show ∀ W, Below B w4 W → HasMax W from fun W hW => HM.out W (hb4.trans (hW.mono hBw)))
  have hcat := Lib.hid (show ∀ (a b : ByteArray), a.size + b.size ≤ 100000000 → ∃ c : ByteArray, Hid (c.data.toList = a.data.toList ++ b.data.toList) ∧ c.size ≤ a.size + b.size ∧ ∀ W : World, (Op.stringOp .add a b).run Tryz.prog W = .ok (.string c) W from fun a b h =>
    ⟨a ++ b, append_list a b, by rw [ByteArray.size_append]; exact Nat.le_refl _, fun W => run_string_add_sum W a b (by omega)⟩)
  have hstb : -9223372036854775808 ≤ (st.size : Int) ∧ (st.size : Int) ≤ 9223372036854775807 := by omega
  have hNb : -9223372036854775808 ≤ (X.length : Int) ∧ (X.length : Int) ≤ 9223372036854775807 := by omega
  have hLzw4 : ([] : List UInt8).length ≤ 100000000 := Nat.zero_le _
  have kw4 : Below B w4 w4 := Below.refl _ _
  have bd0 : Below w4.heap.size w4 w4.drew := below_drew0 (below_refl w4)
  have bM := Lib.hid (show ∀ W, Below w4.heap.size w4 W → Below B w4 W from fun W hW => kw4.trans (hW.mono (Nat.le_of_lt hlt4)))
  have SK := Lib.hid (show ∀ W, Below B w4 W → Box W w.heap.size [.int .i64 n, .int .i64 d, .string p, .slice a X.length c, .string st, .string sl] 25 from fun W hW => HC4.out W hW)
  have bS := Lib.hid (show ∀ W W', Below w4.heap.size w4 W → Below W.heap.size W W' → Below w4.heap.size w4 W' from fun W W' h1 h2 => step2 h1 h2)
  have bW := Lib.hid (show ∀ W W', Below w4.heap.size w4 W → Below B W W' → Below B w4 W' from fun W W' h1 h2 => (bM.out W h1).trans h2)
  have HNu := Lib.hid (show ∀ (n : Int) W, (-9223372036854775808 ≤ n ∧ n ≤ 9223372036854775807) → Below w4.heap.size w4 W → Calls Tryz.prog 71 #[.int .i64 n] W fun e w' => ∃ t : ByteArray, e = .returned (.string t) ∧ Hid (t.data.toList = numL n) ∧ t.size ≤ 30 ∧ Hid (Below W.heap.size W w') from fun n W hn hW =>
    (number_any n W (HEB.out W (bM.out W hW)) hn.1 hn.2).mono fun e w' ⟨t, h1, h2, h3⟩ => ⟨t, h1, h2, by
      rw [← toList_size, h2.out, numL_length]; have := itoa_len hn.1 hn.2; omega, h3⟩)
  have HSt := Lib.hid (show ∀ (u : ByteArray) W, u.size ≤ 1000000 → Below w4.heap.size w4 W → Calls Tryz.prog 43 #[.string u] W fun e w' => ∃ t : ByteArray, e = .returned (.string t) ∧ Hid (t.data.toList = strL u.data.toList) ∧ t.size ≤ 1000022 ∧ Hid (Below W.heap.size W w') from fun u W hu hW =>
    (string_any u W (HEB.out W (bM.out W hW)) (by omega)).mono fun e w' ⟨t, h1, h2, h3⟩ => ⟨t, h1, h2, by
      rw [← toList_size, h2.out]; have := strL_bd (u := u.data.toList) (n := 1000000) hu (by decide); omega, h3⟩)
  have HWs := Lib.hid (show ∀ (W : World) (t : ByteArray), Below w4.heap.size w4 W → t.size ≤ 1000000000 → Calls Tryz.prog 52 #[.pointer (some ⟨B, 0, none⟩), .string t] W fun e w' =>
      e = .returned (.tuple #[.int .i64 t.size, .nilIface]) ∧ Hid (Bld B ([] ++ t.data.toList) w') ∧ Hid (Below B W w') from fun W t hW ht =>
    (writeString_at B ([]) t W (isBuilder_below HBw4.out hW) (by have := hLzw4; omega) (Nat.le_trans (Nat.le_of_lt hlt4) hW.size)).mono fun e w' ⟨h1, h2, h3⟩ => ⟨h1, h2, h3⟩)
  go_cut [] from 25 to 36 (fun wc => Hid (Bld B (numL n ++ numL d ++ strL p.data.toList) wc) ∧ Below B w4 wc)
  case first =>
    clear HE HM HXB HO HEB HMB HLs HS3 HLn HLy
    go_region_held3 (fun W => W.cell? ⟨w.heap.size, 0, none⟩ = some (.int .i64 n) ∧ W.cell? ⟨w.heap.size, 1, none⟩ = some (.int .i64 d) ∧ W.cell? ⟨w.heap.size, 2, none⟩ = some (.string p) ∧ W.cell? ⟨w.heap.size, 3, none⟩ = some (.slice a X.length c) ∧ W.cell? ⟨w.heap.size, 4, none⟩ = some (.string st) ∧ W.cell? ⟨w.heap.size, 5, none⟩ = some (.string sl))
      (first
        | with_reducible exact Box.cells6 (SK.out _ (bM.out _ bd0))
        | with_reducible exact Box.cells6 (SK.out _ (bM.out _ p1))
        | with_reducible exact Box.cells6 (SK.out _ (bM.out _ p2))
        | with_reducible exact Box.cells6 (SK.out _ (bM.out _ p3))
        | with_reducible exact Box.cells6 (SK.out _ p5))
      (first
        | (go_at_call 71; (with_reducible refine (HNu.out n _ hn bd0).mono ?_); rintro e wn1 ⟨t1, rfl, ht1, hs1, hb1⟩; have p1 := bS.out _ _ bd0 hb1.out)
        | (go_at_call 71; (with_reducible refine (HNu.out d _ hd p1).mono ?_); rintro e wn2 ⟨t2, rfl, ht2, hs2, hb2⟩; have p2 := bS.out _ _ p1 hb2.out; obtain ⟨y2, hy2, zy2, ry2⟩ := hcat.out t1 t2 (by omega))
        | (go_at_call 43; (with_reducible refine (HSt.out p _ hp p2).mono ?_); rintro e wn3 ⟨t3, rfl, ht3, hs3, hb3⟩; have p3 := bS.out _ _ p2 hb3.out; obtain ⟨y3, hy3, zy3, ry3⟩ := hcat.out y2 t3 (by omega))
        | (go_at_call 52; (with_reducible refine (HWs.out _ y3 p3 (by omega)).mono ?_); rintro e wf ⟨rfl, hB1, hbf⟩; have p5 := bW.out _ _ p3 hbf.out))
    all_goals
      go_wp2_with fail
      go_meet
      case rel => exact ⟨by rw [Hid, ← ht1.out, ← ht2.out, ← ht3.out, ← hy2.out, ← hy3.out]; exact hB1.out, p5⟩
  case rest =>
  obtain ⟨HBw5, kw5⟩ := hcut
  clear bd0 bM SK bS bW HNu HSt HWs hLzw4 HBw4
  obtain ⟨w5, rfl⟩ : ∃ w5, w5 = wc := ⟨_, rfl⟩
  have hlt5 : B < w5.heap.size := Nat.lt_of_lt_of_le hlt4 kw5.size
  have hLzw5 : (numL n ++ numL d ++ strL p.data.toList).length ≤ 2000000 := by
    simp only [List.length_append]
    have g1 := numL_le hn.1 hn.2
    have g2 := numL_le hd.1 hd.2
    have g3 := strL_bd (u := p.data.toList) (n := 1000000) hp (by decide)
    omega
  have HLa : Hid (SL = (numL n ++ numL d ++ strL p.data.toList) ++ (numL st.size ++ strL (sumB st.data.toList) ++ numL X.length) ++ X.flatMap bodyL) := by rw [Hid, HLs.out]; simp only [List.append_assoc]
  clear HLs
  generalize numL n ++ numL d ++ strL p.data.toList = L1 at *
  have bd0 : Below w5.heap.size w5 w5.drew := below_drew0 (below_refl w5)
  have bM := Lib.hid (show ∀ W, Below w5.heap.size w5 W → Below B w4 W from fun W hW => kw5.trans (hW.mono (Nat.le_of_lt hlt5)))
  have SK := Lib.hid (show ∀ W, Below B w4 W → Box W w.heap.size [.int .i64 n, .int .i64 d, .string p, .slice a X.length c, .string st, .string sl] 25 from fun W hW => HC4.out W hW)
  have bS := Lib.hid (show ∀ W W', Below w5.heap.size w5 W → Below W.heap.size W W' → Below w5.heap.size w5 W' from fun W W' h1 h2 => step2 h1 h2)
  have bW := Lib.hid (show ∀ W W', Below w5.heap.size w5 W → Below B W W' → Below B w4 W' from fun W W' h1 h2 => (bM.out W h1).trans h2)
  have HNu := Lib.hid (show ∀ (n : Int) W, (-9223372036854775808 ≤ n ∧ n ≤ 9223372036854775807) → Below w5.heap.size w5 W → Calls Tryz.prog 71 #[.int .i64 n] W fun e w' => ∃ t : ByteArray, e = .returned (.string t) ∧ Hid (t.data.toList = numL n) ∧ t.size ≤ 30 ∧ Hid (Below W.heap.size W w') from fun n W hn hW =>
    (number_any n W (HEB.out W (bM.out W hW)) hn.1 hn.2).mono fun e w' ⟨t, h1, h2, h3⟩ => ⟨t, h1, h2, by
      rw [← toList_size, h2.out, numL_length]; have := itoa_len hn.1 hn.2; omega, h3⟩)
  have HSt := Lib.hid (show ∀ (u : ByteArray) W, u.size ≤ 1000000 → Below w5.heap.size w5 W → Calls Tryz.prog 43 #[.string u] W fun e w' => ∃ t : ByteArray, e = .returned (.string t) ∧ Hid (t.data.toList = strL u.data.toList) ∧ t.size ≤ 1000022 ∧ Hid (Below W.heap.size W w') from fun u W hu hW =>
    (string_any u W (HEB.out W (bM.out W hW)) (by omega)).mono fun e w' ⟨t, h1, h2, h3⟩ => ⟨t, h1, h2, by
      rw [← toList_size, h2.out]; have := strL_bd (u := u.data.toList) (n := 1000000) hu (by decide); omega, h3⟩)
  have HWs := Lib.hid (show ∀ (W : World) (t : ByteArray), Below w5.heap.size w5 W → t.size ≤ 1000000000 → Calls Tryz.prog 52 #[.pointer (some ⟨B, 0, none⟩), .string t] W fun e w' =>
      e = .returned (.tuple #[.int .i64 t.size, .nilIface]) ∧ Hid (Bld B (L1 ++ t.data.toList) w') ∧ Hid (Below B W w') from fun W t hW ht =>
    (writeString_at B (L1) t W (isBuilder_below HBw5.out hW) (by have := hLzw5; omega) (Nat.le_trans (Nat.le_of_lt hlt5) hW.size)).mono fun e w' ⟨h1, h2, h3⟩ => ⟨h1, h2, h3⟩)
  have hs9 : st.size ≤ 1000000000 := Nat.le_trans hst (by decide)
  have HSU := Lib.hid (fun W => one_sum st W hs9)
  have bdA : Below w5.heap.size w5 (w5.alloc (.cells #[.string st] 9)).drew := below_drew0 ((below_refl w5).alloc (Nat.le_refl _) _)
  have bdX : Below (w5.alloc (.cells #[.string st] 9)).heap.size (w5.alloc (.cells #[.string st] 9)) (w5.alloc (.cells #[.string st] 9)).drew := below_drew0 (below_refl _)
  have HSB := Lib.hid (fun W' hb => one_sumB st w5 W' hs9 hb)
  go_upto_region 8 with (fail)
  go_cut [] from 37 to 52 (fun wc => Hid (Bld B (L1 ++ (numL st.size ++ strL (sumB st.data.toList) ++ numL X.length)) wc) ∧ Below B w4 wc)
  case first =>
    clear HE HM HXB HO HEB HMB HLa HS3 HLn HLy
    have s0 := Box.cells6 (SK.out _ (bM.out _ bd0))
    have s00 := Box.cells6 (SK.out _ (bM.out _ (below_refl w5)))
    have sA := Box.cells6 (SK.out _ (bM.out _ bdA))
    go_region_held3 (fun W => W.cell? ⟨w.heap.size, 0, none⟩ = some (.int .i64 n) ∧ W.cell? ⟨w.heap.size, 1, none⟩ = some (.int .i64 d) ∧ W.cell? ⟨w.heap.size, 2, none⟩ = some (.string p) ∧ W.cell? ⟨w.heap.size, 3, none⟩ = some (.slice a X.length c) ∧ W.cell? ⟨w.heap.size, 4, none⟩ = some (.string st) ∧ W.cell? ⟨w.heap.size, 5, none⟩ = some (.string sl))
      (with_reducible assumption)
      (first
        | (go_at_call 71; (with_reducible refine (HNu.out (st.size : Int) _ hstb bd0).mono ?_); rintro e wn1 ⟨t1, rfl, ht1, hs1, hb1⟩; have p1 := bS.out _ _ bd0 hb1.out; have s1 := Box.cells6 (SK.out _ (bM.out _ p1)); have s1a := Box.cells6 (SK.out _ (bM.out _ (p1.alloc p1.size (.cells #[.string st] 9)))))
        | (go_at_call 71; (with_reducible refine (HNu.out (st.size : Int) _ hstb bdA).mono ?_); rintro e wn1 ⟨t1, rfl, ht1, hs1, hb1⟩; have p1 := bS.out _ _ bdA hb1.out; have pA := step2 bdX hb1.out; have s1 := Box.cells6 (SK.out _ (bM.out _ p1)))
        | (go_at_call 15; (with_reducible refine (HSB.out _ pA).mono ?_); rintro e wn0 ⟨t0, rfl, ht0, hb0⟩; have p2 := bS.out _ _ p1 hb0; have zt0 : t0.size ≤ 1000000 := (by rw [← toList_size, ht0.out, sumB_length]; decide); have s2 := Box.cells6 (SK.out _ (bM.out _ p2)))
        | (go_at_call 15; (with_reducible refine (HSU.out _).mono ?_); rintro e wn0 ⟨t0, rfl, ht0, hb0⟩; have p2 := bS.out _ _ (p1.alloc p1.size _) hb0; have zt0 : t0.size ≤ 1000000 := (by rw [← toList_size, ht0.out, sumB_length]; decide); have s2 := Box.cells6 (SK.out _ (bM.out _ p2)))
        | (go_at_call 43; (with_reducible refine (HSt.out t0 _ zt0 p2).mono ?_); rintro e wn3 ⟨t3, rfl, ht3, hs3, hb3⟩; have p3 := bS.out _ _ p2 hb3.out; obtain ⟨y2, hy2, zy2, ry2⟩ := hcat.out t1 t3 (by omega); have s3 := Box.cells6 (SK.out _ (bM.out _ p3)))
        | (go_at_call 71; (with_reducible refine (HNu.out (X.length : Int) _ hNb p3).mono ?_); rintro e wn4 ⟨t4, rfl, ht4, hs4, hb4⟩; have p4 := bS.out _ _ p3 hb4.out; obtain ⟨y3, hy3, zy3, ry3⟩ := hcat.out y2 t4 (by omega); have s4 := Box.cells6 (SK.out _ (bM.out _ p4)))
        | (go_at_call 52; (with_reducible refine (HWs.out _ y3 p4 (by omega)).mono ?_); rintro e wf ⟨rfl, hB1, hbf⟩; have p5 := bW.out _ _ p4 hbf.out; have s5 := Box.cells6 (SK.out _ p5)))
    all_goals
      go_wp2_with fail
      go_meet
      case rel => exact ⟨by rw [Hid, ← ht1.out, ← ht0.out, ← ht3.out, ← ht4.out, ← hy2.out, ← hy3.out]; exact hB1.out, p5⟩
  case rest =>
  obtain ⟨HBw6, kw6⟩ := hcut
  clear bd0 bM SK bS bW HNu HSt HWs HBw5 HSU HSB bdA bdX hs9 hstb hNb
  obtain ⟨w6, rfl⟩ : ∃ w6, w6 = wc := ⟨_, rfl⟩
  have hL2 : (L1 ++ (numL st.size ++ strL (sumB st.data.toList) ++ numL X.length)).length ≤ 3000000 := by
    simp only [List.length_append]
    have g1 := numL_le (n := (st.size : Int)) (by omega) (by omega)
    have g2 := strL_bd (u := sumB st.data.toList) (n := 32) (by rw [sumB_length]; decide) (by decide)
    have g3 := numL_le (n := (X.length : Int)) (by omega) (by omega)
    omega
  generalize L1 ++ (numL st.size ++ strL (sumB st.data.toList) ++ numL X.length) = L2 at *
  have HEr := Lib.hid (show ∀ k, k < X.length → firstE (fun i => chkE (enAt X i)) k = 0 → chkE (enAt X k) ≠ 0 → ce = chkE (enAt X k) from fun k hk h0 hc => by
    have := errE_ne hk h0 hc
    rw [HS3.out, this, if_neg hc])
  have HEn := Lib.hid (show firstE (fun i => chkE (enAt X i)) X.length = 0 → ce = if 2000 < sl.size then 6 else 0 from fun h => by
    rw [HS3.out]; exact if_pos h)
  clear HS3
  obtain ⟨c0, c1, c2, c3, c4, c5⟩ := (HC4.out _ kw6).cells6
  clear kw5 hlt5 hLzw5
  have hlt6 : B < w6.heap.size := Nat.lt_of_lt_of_le hlt4 kw6.size
  go_upto_block 0 with (fail)
  go_wp2_with fail
  go_loopw [7, 8, 9, 56] (fun _ _ _ i wr => ∃ k : Nat, k ≤ X.length ∧ i = .int .i64 k ∧ Hid (firstE (fun i => chkE (enAt X i)) k = 0) ∧ Hid (BldF B (L2 ++ (X.take k).flatMap bodyL) wr) ∧ Below B w4 wr) (fun _ _ _ i _ => X.length - (intOf i).toNat)
  case atStart => exact ⟨0, by omega, rfl, rfl, by rw [Hid]; simpa using Lib.IsBuilderF.of HBw6.out, kw6⟩
  case round =>
    obtain ⟨k, hk, rfl, hE, hBk, kb⟩ := hrel
    clear HBw6 kw6 c0 c1 c2 c3 c4 c5
    have hbr : B ≤ wr.heap.size := Nat.le_trans (Nat.le_of_lt hlt4) kb.size
    by_cases hlt : k < X.length
    · obtain ⟨b, o, a1, m1, a2, m2, rfl, hA, hXx, x0, x1, x2, x3, x4, x5, x6⟩ := (HXB.out _ kb).at' hlt
      have HT := Lib.hid (take_flatE X k hlt)
      have hlk := Lib.hid (flat_take_le bodyL X k)
      have hlk2 := Lib.hid (flat_take_le bodyL X (k + 1))
      have HNx := Lib.hid (HEr.out k hlt hE.out)
      have HY := Lib.hid (show chkE (enAt X k) = 0 → firstE (fun i => chkE (enAt X i)) (k + 1) = 0 from fun h => firstE_next hE.out h)
      have HC := Lib.hid (fun W (hW : Below wr.heap.size wr W) => encode_any (enAt X k) _ _ W (HEB.out W (kb.trans (hW.mono hbr))) (HMB.out W (kb.trans (hW.mono hbr))) (hA.below hW) (hXx.below hW) (HO.out k hlt))
      obtain ⟨cx, hcx⟩ : ∃ cx, chkE (enAt X k) = cx := ⟨_, rfl⟩
      rw [hcx] at HC HNx HY
      clear hcx hA hXx
      have HBn := Lib.hid (show cx ≠ 0 → (if cx = 0 then bodyL (enAt X k) else []) = [] from fun h => if_neg h)
      have HBy := Lib.hid (show cx = 0 → (if cx = 0 then bodyL (enAt X k) else []) = bodyL (enAt X k) from fun h => if_pos h)
      generalize (if cx = 0 then bodyL (enAt X k) else []) = Lx at *
      generalize bodyL (enAt X k) = bl at *
      generalize enAt X k = ee at *
      obtain ⟨hbX, bX⟩ := box1'' wr [.int .i64 ee.kind, .string ee.path, .slice a1 ee.attrs.length m1, .string ee.target, .int .i64 ee.size, .string ee.digest, .slice a2 ee.exts.length m2] 55
      change Below _ _ (wr.alloc (.cells #[.int .i64 ee.kind, .string ee.path, .slice a1 ee.attrs.length m1, .string ee.target, .int .i64 ee.size, .string ee.digest, .slice a2 ee.exts.length m2] 55)) at hbX
      change Box (wr.alloc (.cells #[.int .i64 ee.kind, .string ee.path, .slice a1 ee.attrs.length m1, .string ee.target, .int .i64 ee.size, .string ee.digest, .slice a2 ee.exts.length m2] 55)) _ _ _ at bX
      generalize ee.attrs.length = n1 at *
      generalize ee.exts.length = n2 at *
      generalize ee.kind = kd at *
      generalize ee.path = pt at *
      generalize ee.target = tg at *
      generalize ee.size = sz at *
      generalize ee.digest = dg at *
      go_upto_region 12 with (fail)
      obtain ⟨W7, hW7⟩ : ∃ W7, wr.alloc (.cells #[.int .i64 kd, .string pt, .slice a1 n1 m1, .string tg, .int .i64 sz, .string dg, .slice a2 n2 m2] 55) = W7 := ⟨_, rfl⟩
      change Code.wp _ _ _ _ (wr.alloc (.cells #[.int .i64 kd, .string pt, .slice a1 n1 m1, .string tg, .int .i64 sz, .string dg, .slice a2 n2 m2] 55))
      rw [hW7] at hbX bX ⊢
      clear hW7 x0 x1 x2 x3 x4 x5 x6
      obtain ⟨x0, x1, x2, x3, x4, x5, x6⟩ := bX.cells7
      go_wp2_with fail
      refine (HC.out W7 hbX).mono ?_
      rintro e W8 ⟨t, rfl, ht, hb⟩
      have hb8 := step2 hbX hb
      have kb8 : Below B w4 W8 := kb.trans (hb8.mono hbr)
      have hB8 := Lib.hid (bldF_below hBk.out hb8)
      clear hbX bX x0 x1 x2 x3 x4 x5 x6 HC hb hBk
      by_cases hcx : cx = 0
      case neg =>
        have hce := HNx.out hcx
        subst hce
        have q1 : (ce != 0) = true := by rw [bne_iff_ne]; exact hcx
        have HL0 := Lib.hid (HLn.out hcx)
        clear hcx HLn HLy HBn HBy HNx
        go_wp2_with fail
        go_ret2
        exact ⟨_, rfl, by rw [Hid, HL0.out], hb4.trans (kb8.mono hBw)⟩
      have HN2 := Lib.hid (HY.out hcx)
      have HB2 := Lib.hid (HBy.out hcx)
      clear HBn HBy HNx HY
      subst hcx
      have hb88 : B ≤ W8.heap.size := Nat.le_trans (Nat.le_of_lt hlt4) kb8.size
      have hB9 : Hid (L2 ++ (X.take k).flatMap bodyL ++ t.data.toList = L2 ++ (X.take (k + 1)).flatMap bodyL) := by rw [Hid, HT.out, ht.out, HB2.out]; simp only [List.append_assoc]
      have zt : (L2 ++ (X.take k).flatMap bodyL).length + t.size ≤ 100000000 := by
        have e1 := congrArg List.length hB9.out
        rw [List.length_append, toList_size] at e1
        rw [e1, List.length_append]
        have := hlk2.out
        omega
      have HWr := Lib.hid (writeF_at B _ t W8 hB8 (by omega) hb88)
      clear ht HT hlk hlk2
      go_wp2_with fail
      refine HWr.out.mono ?_
      rintro e W9 ⟨rfl, hBn, hb9, _⟩
      have kb9 := kb8.trans hb9
      rw [hB9.out] at hBn
      clear HWr hB8 hB9 hb9
      go_wp2_with fail
      go_roundw
      case rel => exact ⟨k + 1, by omega, by go_num, HN2, hBn, kb9⟩
      case measure => simp [intOf]; omega
    · obtain rfl : k = X.length := by omega
      have htk : X.take X.length = X := List.take_of_length_le (Nat.le_refl _)
      rw [htk] at hBk
      clear htk
      have hce := HEn.out hE.out
      obtain ⟨c0, c1, c2, c3, c4, c5⟩ := (HC4.out _ kb).cells6
      by_cases h5 : 2000 < sl.size
      · rw [if_pos h5] at hce
        subst hce
        have HL0 := Lib.hid (HLn.out (by decide))
        clear HLn HLy HEn HEr
        go_wp2_with fail
        go_ret2
        exact ⟨_, rfl, by rw [Hid, HL0.out], hb4.trans (kb.mono hBw)⟩
      rw [if_neg h5] at hce
      subst hce
      have HL0 := Lib.hid (HLy.out rfl)
      have hz : (L2 ++ X.flatMap bodyL).length ≤ 90000000 := by rw [List.length_append]; omega
      have HLN := Lib.hid (len_any B _ wr hBk.out)
      have HLS := Lib.hid (Any.Builder_String_any_k Tryz.lays169 Tryz.Builder_Extra_169 B B (L2 ++ X.flatMap bodyL) _ hBk.out hbr)
      rw [← HLa.out] at HLS HLN hz
      clear HLn HLy HEn HEr
      go_wp2_with fail
      refine HLN.out.mono ?_
      rintro e w9 ⟨rfl, rfl⟩
      go_wp2_with fail
      refine HLS.out.mono ?_
      rintro e w10 ⟨rfl, _, hb10, _⟩
      go_wp2_with fail
      go_ret2
      exact ⟨_, rfl, by rw [Hid, HL0.out], (hb4.trans (kb.mono hBw)).trans (hb10.mono hBw)⟩
theorem rep0_any (k : Nat) (w : World) (hk : k ≤ 8) : Calls Tryz.prog 41 #[.string ⟨#[48]⟩, .int .i64 (k : Int)] w (StrP (List.replicate k 48) w) := by
  refine (Tryz.strings_Repeat ⟨#[48]⟩ k w (by omega) (by show 1 * k ≤ _; omega)).mono ?_
  rintro e w' ⟨rfl, hb⟩
  refine ⟨_, rfl, ?_, hb⟩
  show Lib.repeatL [48] k = _
  have : ∀ m : Nat, Lib.repeatL [48] m = List.replicate m (48 : UInt8) := by
    intro m; induction m with
    | zero => rfl
    | succ m ih => simp [Lib.repeatL, List.replicate_succ] at ih ⊢; exact ih
  exact this k
set_option maxRecDepth 100000 in
set_option maxHeartbeats 4000000 in
theorem dencode_any (s : Se) (a : Option Addr) (c : Nat) (w : World) (he : Env w) (hm : HasMax w) (ok : SeOk s) (hr : EnRow w (.slice a s.entries.length c) s.entries) :
    Calls Tryz.prog 16 #[.agg #[.int .i64 s.number, .int .i64 s.date, .string s.prev, .slice a s.entries.length c, .string s.stream, .string s.sl]] w (HeadP (if sgnE s = 0 then textL s else []) (sgnE s) w) := by
  have HE := Lib.hid (show ∀ W, Below w.heap.size w W → Env W from fun W hW => he.below hW)
  have HK := Lib.hid (show ∀ W, Below w.heap.size w W → Calls Tryz.prog 42 #[.agg #[.int .i64 s.number, .int .i64 s.date, .string s.prev, .slice a s.entries.length c, .string s.stream, .string s.sl]] W (HeadP (if sgnE s = 0 then signedL s else []) (sgnE s) W) from fun W hW => signed_any s a c W (he.below hW) (hm.below hW) ok (hr.below hW))
  have HLe := Lib.hid (show sgnE s = 0 → (signedL s).length ≤ 85000000 from fun h => signedL_le ok (sgnE_parts h).2.2.1)
  have hsl : s.sl.size ≤ 1000000 := ok.sl
  have HT : Hid (textL s = dg 8 (signedL s ++ strL s.sl.data.toList).length ++ (signedL s ++ strL s.sl.data.toList)) := rfl
  have HLn := Lib.hid (show sgnE s ≠ 0 → (if sgnE s = 0 then textL s else []) = [] from fun h => if_neg h)
  have HLy := Lib.hid (show sgnE s = 0 → (if sgnE s = 0 then textL s else []) = textL s from fun h => if_pos h)
  have HKn := Lib.hid (show sgnE s ≠ 0 → (if sgnE s = 0 then signedL s else []) = [] from fun h => if_neg h)
  have HKy := Lib.hid (show sgnE s = 0 → (if sgnE s = 0 then signedL s else []) = signedL s from fun h => if_pos h)
  generalize (if sgnE s = 0 then textL s else []) = L at *
  generalize (if sgnE s = 0 then signedL s else []) = K at *
  generalize textL s = TL at *
  generalize signedL s = SL at *
  generalize sgnE s = ce at *
  clear hr ok he hm
  generalize s.number = n at *
  generalize s.date = d at *
  generalize s.prev = p at *
  generalize s.stream = st at *
  generalize s.sl = sl at *
  generalize s.entries = X at *
  obtain ⟨hb0, bB⟩ := box1'' w [.int .i64 n, .int .i64 d, .string p, .slice a X.length c, .string st, .string sl] 25
  change Below _ _ (w.alloc (.cells #[.int .i64 n, .int .i64 d, .string p, .slice a X.length c, .string st, .string sl] 25)) at hb0
  change Box (w.alloc (.cells #[.int .i64 n, .int .i64 d, .string p, .slice a X.length c, .string st, .string sl] 25)) _ _ _ at bB
  go_enter Tryz.func16, Tryz.ntmps16
  go_upto_region 1 with (fail)
  obtain ⟨W0, hW0⟩ : ∃ W0, w.alloc (.cells #[.int .i64 n, .int .i64 d, .string p, .slice a X.length c, .string st, .string sl] 25) = W0 := ⟨_, rfl⟩
  change Code.wp _ _ _ _ (w.alloc (.cells #[.int .i64 n, .int .i64 d, .string p, .slice a X.length c, .string st, .string sl] 25))
  rw [hW0] at hb0 bB ⊢
  clear hW0
  obtain ⟨c0, c1, c2, c3, c4, c5⟩ := bB.cells6
  go_wp2_with fail
  refine (HK.out W0 hb0).mono ?_
  rintro e W1 ⟨t, rfl, ht, hb⟩
  have hb1 := step2 hb0 hb
  have bB1 := bB.below hb
  clear hb0 bB hb c0 c1 c2 c3 c4 c5 HK
  by_cases hc : ce = 0
  case neg =>
    have q1 : (ce != 0) = true := by rw [bne_iff_ne]; exact hc
    have HL0 := Lib.hid (HLn.out hc)
    clear hc HLn HLy HKn HKy HLe
    go_wp2_with fail
    go_ret2
    exact ⟨_, rfl, by rw [Hid, HL0.out], hb1⟩
  have HL0 := Lib.hid (HLy.out hc)
  have hle := HLe.out hc
  rw [HKy.out hc] at ht
  clear HLn HLy HKn HKy HLe
  subst hc
  have zt : t.size ≤ 85000000 := by rw [← toList_size, ht.out]; exact hle
  obtain ⟨c0, c1, c2, c3, c4, c5⟩ := bB1.cells6
  go_wp2_with fail
  refine (string_any sl W1 (HE.out _ hb1) (by omega)).mono ?_
  rintro e W2 ⟨t2, rfl, ht2, hb⟩
  have hb2 := step2 hb1 hb
  have z2 : t2.size ≤ 1000022 := by rw [← toList_size, ht2.out]; exact strL_bd (u := sl.data.toList) (n := 1000000) hsl (by decide)
  have z3 : t.size + t2.size ≤ 90000000 := by omega
  have hu : Hid ((t ++ t2).data.toList = SL ++ strL sl.data.toList) := by rw [Hid, append_list, ht.out, ht2.out]
  have zu : (t ++ t2).size ≤ 90000000 := by rw [ByteArray.size_append]; exact z3
  clear hb1 bB1 hb c0 c1 c2 c3 c4 c5
  go_upto_region 5 with (fail)
  obtain ⟨u, hue⟩ : ∃ u, t ++ t2 = u := ⟨_, rfl⟩
  rw [hue] at hu zu ⊢
  have Hue := Lib.hid hue; clear hue ht ht2 z2 z3
  have HI := Lib.hid (itoa_any (u.size : Int) W2 (HE.out _ hb2) (by omega) (by omega))
  have HD8 := Lib.hid (dg8 (n := u.size) (by omega))
  go_wp2_with fail
  refine HI.out.mono ?_
  rintro e W3 ⟨t3, rfl, ht3, hb⟩
  have hb3 := step2 hb2 hb
  have z4 : t3.size ≤ 8 := by
    rw [← toList_size, ht3.out]
    have h8 := congrArg List.length HD8.out
    rw [dg_length, List.length_append, List.length_replicate] at h8
    omega
  have HR := Lib.hid (fun W => rep0_any (8 - t3.size) W (by omega))
  have e8 : (8 : Int) - (t3.size : Int) = ((8 - t3.size : Nat) : Int) := by omega
  go_upto_region 6 with (fail)
  go_wp2_with fail
  try rw [e8]
  refine (HR.out _).mono ?_
  rintro e W4 ⟨t4, rfl, ht4, hb⟩
  have hb4 := step2 hb3 hb
  have z5 : t4.size = 8 - t3.size := by rw [← toList_size, ht4.out, List.length_replicate]
  have z6 : t4.size + t3.size ≤ 8 := by omega
  have z7 : t4.size + t3.size + u.size ≤ 100000000 := by omega
  go_wp2_with fail
  go_ret2
  refine ⟨_, rfl, ?_, hb4⟩
  rw [Hid, append_list, append_list, HL0.out, HT.out, ← hu.out, ht4.out, ht3.out]
  show _ = dg 8 u.size ++ _
  rw [HD8.out]
  have : t3.size = (Lib.itoa (u.size : Int)).length := by rw [← toList_size, ht3.out]
  rw [this]
set_option maxRecDepth 100000 in
set_option maxHeartbeats 4000000 in
theorem ddigest_any (s : Se) (a : Option Addr) (c : Nat) (w : World) (he : Env w) (hm : HasMax w) (ok : SeOk s) (hr : EnRow w (.slice a s.entries.length c) s.entries) :
    Calls Tryz.prog 19 #[.agg #[.int .i64 s.number, .int .i64 s.date, .string s.prev, .slice a s.entries.length c, .string s.stream, .string s.sl]] w (HeadP (if sgnE s = 0 then sumB (signedL s) else []) (sgnE s) w) := by
  have HE := Lib.hid (show ∀ W, Below w.heap.size w W → Env W from fun W hW => he.below hW)
  have HK := Lib.hid (show ∀ W, Below w.heap.size w W → Calls Tryz.prog 42 #[.agg #[.int .i64 s.number, .int .i64 s.date, .string s.prev, .slice a s.entries.length c, .string s.stream, .string s.sl]] W (HeadP (if sgnE s = 0 then signedL s else []) (sgnE s) W) from fun W hW => signed_any s a c W (he.below hW) (hm.below hW) ok (hr.below hW))
  have HLe := Lib.hid (show sgnE s = 0 → (signedL s).length ≤ 85000000 from fun h => signedL_le ok (sgnE_parts h).2.2.1)
  have HLn := Lib.hid (show sgnE s ≠ 0 → (if sgnE s = 0 then sumB (signedL s) else []) = [] from fun h => if_neg h)
  have HLy := Lib.hid (show sgnE s = 0 → (if sgnE s = 0 then sumB (signedL s) else []) = sumB (signedL s) from fun h => if_pos h)
  have HKy := Lib.hid (show sgnE s = 0 → (if sgnE s = 0 then signedL s else []) = signedL s from fun h => if_pos h)
  generalize (if sgnE s = 0 then sumB (signedL s) else []) = L at *
  generalize (if sgnE s = 0 then signedL s else []) = K at *
  generalize signedL s = SL at *
  generalize sgnE s = ce at *
  clear hr ok he hm
  generalize s.number = n at *
  generalize s.date = d at *
  generalize s.prev = p at *
  generalize s.stream = st at *
  generalize s.sl = sl at *
  generalize s.entries = X at *
  obtain ⟨hb0, bB⟩ := box1'' w [.int .i64 n, .int .i64 d, .string p, .slice a X.length c, .string st, .string sl] 25
  change Below _ _ (w.alloc (.cells #[.int .i64 n, .int .i64 d, .string p, .slice a X.length c, .string st, .string sl] 25)) at hb0
  change Box (w.alloc (.cells #[.int .i64 n, .int .i64 d, .string p, .slice a X.length c, .string st, .string sl] 25)) _ _ _ at bB
  go_enter Tryz.func19, Tryz.ntmps19
  go_upto_region 1 with (fail)
  obtain ⟨W0, hW0⟩ : ∃ W0, w.alloc (.cells #[.int .i64 n, .int .i64 d, .string p, .slice a X.length c, .string st, .string sl] 25) = W0 := ⟨_, rfl⟩
  change Code.wp _ _ _ _ (w.alloc (.cells #[.int .i64 n, .int .i64 d, .string p, .slice a X.length c, .string st, .string sl] 25))
  rw [hW0] at hb0 bB ⊢
  clear hW0
  obtain ⟨c0, c1, c2, c3, c4, c5⟩ := bB.cells6
  go_wp2_with fail
  refine (HK.out W0 hb0).mono ?_
  rintro e W1 ⟨t, rfl, ht, hb⟩
  have hb1 := step2 hb0 hb
  clear hb0 bB hb c0 c1 c2 c3 c4 c5 HK
  by_cases hc : ce = 0
  case neg =>
    have q1 : (ce != 0) = true := by rw [bne_iff_ne]; exact hc
    have HL0 := Lib.hid (HLn.out hc)
    clear hc HLn HLy HKy HLe
    go_wp2_with fail
    go_ret2
    exact ⟨_, rfl, by rw [Hid, HL0.out], hb1⟩
  have HL0 := Lib.hid (HLy.out hc)
  have hle := HLe.out hc
  rw [HKy.out hc] at ht
  clear HLn HLy HKy HLe
  subst hc
  have zt : t.size ≤ 85000000 := by rw [← toList_size, ht.out]; exact hle
  go_wp2_with fail
  refine (one_sum t W1 (by omega)).mono ?_
  rintro e W3 ⟨t3, rfl, ht3, hb3⟩
  go_wp2_with fail
  go_ret2
  exact ⟨_, rfl, by rw [Hid, HL0.out, ht3.out, ht.out], (hb1.alloc hb1.size _).trans (hb3.mono (Nat.le_trans hb1.size (by rw [size_one]; omega)))⟩
end Go.Proofs.YtjlfjchcmkkebaaGreatDoor

namespace Go.Proofs.YtjlfjchcmkkebaaGreatDoor
open Go.RowKit Go.Shelf

def chunkL (l : List UInt8) (k : Nat) : List UInt8 := (l.drop (28 * k)).take 28
def cntP (n : Nat) : Nat := (n + 27) / 28
def partsK (l : List UInt8) (k : Nat) : List ByteArray := (List.range k).map fun i => bA' (chunkL l i)
def partsB (s : ByteArray) : List ByteArray := partsK s.data.toList (cntP s.size)
theorem partsK_length (l : List UInt8) (k : Nat) : (partsK l k).length = k := by simp [partsK]
theorem partsK_succ (l : List UInt8) (k : Nat) : partsK l (k + 1) = partsK l k ++ [bA' (chunkL l k)] := by
  unfold partsK; rw [List.range_succ, List.map_append]; rfl
theorem partsK_get (l : List UInt8) {k i : Nat} (h : i < k) : (partsK l k)[i]? = some (bA' (chunkL l i)) := by
  unfold partsK; rw [List.getElem?_map, List.getElem?_range h]; rfl
theorem partsK_flat (l : List UInt8) : ∀ k, ((partsK l k).map fun s => s.data.toList).flatten = l.take (28 * k)
  | 0 => by simp [partsK]
  | k + 1 => by
    rw [partsK_succ, List.map_append, List.flatten_append, partsK_flat l k, show 28 * (k + 1) = 28 * k + 28 from by omega, List.take_add]
    congr 1
    show ([(bA' (chunkL l k)).data.toList] : List (List UInt8)).flatten = _
    rw [bA'_list]; simp [chunkL]
theorem cntP_bd (n : Nat) : n ≤ 28 * cntP n ∧ 28 * cntP n < n + 28 := by unfold cntP; omega
theorem partsB_flat (s : ByteArray) : ((partsB s).map fun t => t.data.toList).flatten = s.data.toList := by
  unfold partsB
  rw [partsK_flat, List.take_of_length_le]
  exact (cntP_bd s.size).1
theorem chunk_size {s : ByteArray} {i : Nat} (h : i < cntP s.size) : (bA' (chunkL s.data.toList i)).size = min 28 (s.size - 28 * i) ∧ 1 ≤ (bA' (chunkL s.data.toList i)).size := by
  have hl : s.data.toList.length = s.size := rfl
  have e : (bA' (chunkL s.data.toList i)).size = min 28 (s.size - 28 * i) := by
    show (chunkL s.data.toList i).length = _
    unfold chunkL
    rw [List.length_take, List.length_drop, hl]
  have := cntP_bd s.size
  exact ⟨e, by omega⟩
theorem chunk_full {s : ByteArray} {i : Nat} (h : i + 1 < cntP s.size) : (bA' (chunkL s.data.toList i)).size = 28 := by
  have h1 := (chunk_size (s := s) (i := i) (by omega)).1
  have := cntP_bd s.size
  omega
def PartsP (s : ByteArray) (w : World) (e : Ending) (w' : World) : Prop := ∃ v, e = .returned v ∧ OwnStrs w.heap.size w' v (partsB s) ∧ Below w.heap.size w w'
theorem bA'_ext {b : ByteArray} {l : List UInt8} (h : b.data.toList = l) : b = bA' l := by rw [← h, bA'_of]
set_option maxRecDepth 100000 in
set_option maxHeartbeats 2000000 in
theorem parts_any (s : ByteArray) (w : World) (hs : s.size ≤ 1000000) : Calls Tryz.prog 21 #[.string s] w (PartsP s w) := by
  obtain ⟨i0, hi, hz0, hz1, hz2⟩ := info_parts infoStr
  have HK := Lib.hid (cntP_bd s.size)
  have HP : Hid (partsB s = partsK s.data.toList (cntP s.size)) := rfl
  have hkb := HK.out
  generalize cntP s.size = K at *
  go_enter Tryz.func21, Tryz.ntmps21
  go_wp2_with fail
  go_loopw [0, 3, 4] (fun t v _ wr => ∃ (k : Nat) (u : ByteArray), k ≤ K ∧ t = .string u ∧ Hid (u.data.toList = s.data.toList.drop (28 * k)) ∧ Hid (u.size = s.size - 28 * k) ∧
      OwnStrs w.heap.size wr v (partsK s.data.toList k) ∧ Below w.heap.size w wr) (fun t _ _ _ => match t with | .string u => u.size | _ => 0)
  case atStart => exact ⟨0, s, by omega, rfl, by rw [Hid]; rfl, by rw [Hid]; omega, by exact World.ownsRow_nil _ _ _ _, below_refl _⟩
  case round =>
    obtain ⟨k, u, hk, rfl, hu, hz, hown, hbw⟩ := hrel
    have hown0 : wr.ownsRow w.heap.size 9 1 _ (partsK s.data.toList k).length ((partsK s.data.toList k).map Value.string) := hown
    rw [partsK_length] at hown0
    clear hown
    by_cases hlt : 0 < u.size
    · have hkK : k < K := by have := hz.out; omega
      obtain ⟨n, hn, hn1, hn2⟩ : ∃ n : Nat, min 28 u.size = n ∧ n ≤ u.size ∧ 1 ≤ n := ⟨_, rfl, by omega, by omega⟩
      have hmn : min (28 : Int) (u.size : Int) = (n : Int) := by omega
      have hx : Hid (u.extract 0 n = bA' (chunkL s.data.toList k)) := bA'_ext (by
        rw [extract_list, hu.out, List.drop_zero, Nat.sub_zero, ← hn]; unfold chunkL
        have hl : (s.data.toList.drop (28 * k)).length = u.size := by rw [← hu.out]; rfl
        rcases Nat.le_total 28 u.size with h | h
        · rw [Nat.min_eq_left h]
        · rw [Nat.min_eq_right h, List.take_of_length_le (by omega), List.take_of_length_le (by omega)])
      have hu2 : Hid ((u.extract n u.size).data.toList = s.data.toList.drop (28 * (k + 1))) := by
        rw [Hid, extract_list, hu.out, List.drop_drop]
        have hl : (s.data.toList.drop (28 * k)).length = u.size := by rw [← hu.out]; rfl
        rw [List.length_drop] at hl
        have hzo := hz.out
        have hl2 : s.data.toList.length = s.size := rfl
        rw [List.take_of_length_le (by rw [List.length_drop]; omega)]
        rcases Nat.le_total 28 u.size with h | h
        · congr 1; omega
        · rw [List.drop_eq_nil_of_le (by omega), List.drop_eq_nil_of_le (by omega)]
      have hz3 : Hid ((u.extract n u.size).size = s.size - 28 * (k + 1)) := by have := hz.out; rw [Hid, ByteArray.size_extract]; omega
      have hz4 : (u.extract n u.size).size < u.size := by rw [ByteArray.size_extract]; omega
      have Hn := Lib.hid hn; clear hn
      go_wp2_with (at_builtin; refine wpList_append_own _ rfl _ _ 39 rfl w.heap.size 9 i0 (.string ⟨#[]⟩) 1 16 Tryz.underlying39 hi hz0 hz1 hz2 rfl (by decide) _ _ _ rfl (hown0.alloc _) ⟨wr.heap.size, 0, none⟩ 1 1 [.string (u.extract 0 n)] rfl rfl ?c1 ?c2 ?c3 ?c4 ?c5 ?_)
      case c1 => exact cell_one_new _ _ _
      case c2 => simp [Value.oneCell']
      case c3 => unfold maxLen; omega
      case c4 => omega
      case c5 => have := hbw.size; simp; omega
      intro v' w2 hown2 hgrow2 _
      have hbw2 : Below w.heap.size w w2 := below_grownBy (hbw.alloc (by have := hbw.size; omega) _) (hown0.alloc _) hgrow2 (by have := hbw.size; simp; omega)
      have hown3 : OwnStrs w.heap.size w2 v' (partsK s.data.toList (k + 1)) := by
        unfold OwnStrs
        rw [partsK_length, partsK_succ, List.map_append]
        rw [hx.out] at hown2
        simpa using hown2
      clear hown2 hgrow2 hown0 hi hz0 hz1 hz2 hx
      go_wp2_with fail
      go_roundw
      case rel => exact ⟨k + 1, _, by omega, rfl, hu2, hz3, hown3, hbw2⟩
      case measure => exact hz4
    · have hkK : k = K := by have := hz.out; omega
      have hown3 : OwnStrs w.heap.size wr u3 (partsB s) := by
        unfold OwnStrs
        rw [HP.out, ← hkK, partsK_length]; exact hown0
      clear hown0 hi hz0 hz1 hz2
      go_wp2_with fail
      go_ret
      exact ⟨_, rfl, hown3, hbw⟩
set_option maxRecDepth 100000 in
set_option maxHeartbeats 2000000 in
theorem rparts_any (s : ByteArray) (w : World) (hs : s.size ≤ 1000000) : Calls Tryz.prog 25 #[.string s] w (PartsP s w) := by
  obtain ⟨i0, hi, hz0, hz1, hz2⟩ := info_parts infoStr
  have HK := Lib.hid (cntP_bd s.size)
  have HP : Hid (partsB s = partsK s.data.toList (cntP s.size)) := rfl
  have hkb := HK.out
  generalize cntP s.size = K at *
  go_enter Tryz.func25, Tryz.ntmps25
  go_wp2_with fail
  go_loopw [3, 4, 5] (fun v i _ wr => ∃ k : Nat, k ≤ K ∧ i = .int .i64 ((28 * k : Nat) : Int) ∧
      OwnStrs w.heap.size wr v (partsK s.data.toList k) ∧ Below w.heap.size w wr) (fun _ i _ _ => s.size + 28 - (intOf i).toNat)
  case atStart => exact ⟨0, by omega, rfl, World.ownsRow_made w #[] 0 (Nat.le_refl _) (by decide) rfl, (below_refl _).alloc (Nat.le_refl _) _⟩
  case round =>
    obtain ⟨k, hk, rfl, hown, hbw⟩ := hrel
    have hown0 : wr.ownsRow w.heap.size 9 1 _ (partsK s.data.toList k).length ((partsK s.data.toList k).map Value.string) := hown
    rw [partsK_length] at hown0
    clear hown
    by_cases hlt : 28 * k < s.size
    · have hkK : k < K := by omega
      have hx : Hid (s.extract (28 * k) (min (28 * k + 28) s.size) = bA' (chunkL s.data.toList k)) := bA'_ext (by
        rw [extract_list]; unfold chunkL
        have hl : s.data.toList.length = s.size := rfl
        rcases Nat.le_total (28 * k + 28) s.size with h | h
        · rw [Nat.min_eq_left h]; congr 1; omega
        · rw [Nat.min_eq_right h, List.take_of_length_le (by rw [List.length_drop]; omega), List.take_of_length_le (by rw [List.length_drop]; omega)])
      have hm1 : 28 * k ≤ min (28 * k + 28) s.size := by omega
      have hm2 : min (28 * k + 28) s.size ≤ s.size := by omega
      have HM1 := Lib.hid (show 28 * k + 28 ≤ s.size → min (28 * k + 28) s.size = 28 * k + 28 from fun h => Nat.min_eq_left h)
      have HM2 := Lib.hid (show s.size < 28 * k + 28 → min (28 * k + 28) s.size = s.size from fun h => Nat.min_eq_right (by omega))
      generalize min (28 * k + 28) s.size = m at *
      go_upto_if 18 with (fail)
      go_cut [5] from 18 to 20 (fun v wc => wr = wc ∧ v = .int .i64 (m : Int))
      case first =>
        by_cases h28 : s.size < 28 * k + 28
        · have hm := Lib.hid (HM2.out h28)
          go_wp2_with fail
          go_meet
          exact ⟨rfl, by rw [hm.out]⟩
        · have hm := Lib.hid (HM1.out (by omega))
          go_wp2_with fail
          go_meet
          exact ⟨rfl, by rw [hm.out]; rfl⟩
      obtain ⟨rfl, rfl⟩ := hcut
      go_wp2_with (at_builtin; refine wpList_append_own _ rfl _ _ 39 rfl w.heap.size 9 i0 (.string ⟨#[]⟩) 1 16 Tryz.underlying39 hi hz0 hz1 hz2 rfl (by decide) _ _ _ rfl (hown0.alloc _) ⟨wr.heap.size, 0, none⟩ 1 1 [.string (s.extract (28 * k) m)] rfl rfl ?c1 ?c2 ?c3 ?c4 ?c5 ?_)
      case c1 => exact cell_one_new _ _ _
      case c2 => simp [Value.oneCell']
      case c3 => unfold maxLen; omega
      case c4 => omega
      case c5 => have := hbw.size; simp; omega
      intro v' w2 hown2 hgrow2 _
      have hbw2 : Below w.heap.size w w2 := below_grownBy (hbw.alloc (by have := hbw.size; omega) _) (hown0.alloc _) hgrow2 (by have := hbw.size; simp; omega)
      have hown3 : OwnStrs w.heap.size w2 v' (partsK s.data.toList (k + 1)) := by
        unfold OwnStrs
        rw [partsK_length, partsK_succ, List.map_append]
        rw [hx.out] at hown2
        simpa using hown2
      clear hown2 hgrow2 hown0 hi hz0 hz1 hz2 hx
      go_wp2_with fail
      go_roundw
      case rel => exact ⟨k + 1, by omega, by go_num, hown3, hbw2⟩
      case measure => simp [intOf]; omega
    · have hkK : k = K := by omega
      have hown3 : OwnStrs w.heap.size wr u3 (partsB s) := by
        unfold OwnStrs
        rw [HP.out, ← hkK, partsK_length]; exact hown0
      clear hown0 hi hz0 hz1 hz2
      go_wp2_with fail
      go_ret
      exact ⟨_, rfl, hown3, hbw⟩
end Go.Proofs.YtjlfjchcmkkebaaGreatDoor

namespace Go.Proofs.YtjlfjchcmkkebaaGreatDoor
open Go.RowKit Go.Shelf

def seZ : Se := ⟨0, 0, ⟨#[]⟩, [], ⟨#[]⟩, ⟨#[]⟩⟩
def De.se (x : De) : Se := ⟨x.number, x.date, bA' x.prev, x.entries, ⟨#[]⟩, bA' x.sl⟩
theorem se_de (s : Se) : s.de.se = { s with stream := ⟨#[]⟩ } := by
  unfold Se.de De.se
  simp only [bA'_of]
theorem entsE_zero {X : List En} (h : ∀ e ∈ X, chkE e = 0) : entsE X = 0 := firstE_zero fun k hk => by rw [enAt_get hk]; exact h _ (List.getElem_mem hk)
theorem flat_one_le {X : List En} {e : En} (h : e ∈ X) : (bodyL e).length ≤ (X.flatMap bodyL).length := flat_le h
theorem bodyD_parts (x : De) : x.prev.length ≤ (bodyD x).length ∧ x.sl.length ≤ (bodyD x).length ∧ (x.entries.flatMap bodyL).length ≤ (bodyD x).length := by
  have h1 := strL_ge x.prev
  have h2 := strL_ge x.sl
  unfold bodyD preL
  simp only [List.length_append]
  omega
theorem withLen_length (b : List UInt8) : (withLen b).length = 8 + b.length := by unfold withLen; rw [List.length_append, dg_length]
/-- a session that was read is encoded within bounds -/
theorem seOk_read {l : List UInt8} {x : De} (h : dirR l = .ok x) (hl : l.length ≤ 1000000) : SeOk x.se := by
  obtain ⟨⟨h1, h2, h3⟩, rfl, h5⟩ := dirR_ok.1 h
  obtain ⟨a1, a2, a3, a4, a5, a6⟩ := aftE_parts h1
  obtain ⟨b1, b2, b3⟩ := bodyD_parts x
  rw [withLen_length] at hl
  have k1 : x.se.prev.size = x.prev.length := rfl
  have k2 : x.se.sl.size = x.sl.length := rfl
  have k3 : x.se.entries = x.entries := rfl
  refine ⟨?_, ?_, by omega, (by decide : (⟨#[]⟩ : ByteArray).size ≤ 1000000), by omega, by rw [k3]; omega, fun i hi => ?_, fun _ => by rw [k3]; omega⟩
  · show -9223372036854775808 ≤ x.number ∧ x.number ≤ 9223372036854775807; omega
  · show -9223372036854775808 ≤ x.date ∧ x.date ≤ 9223372036854775807; omega
  · rw [k3] at hi ⊢
    rw [enAt_get hi]
    have hm := List.getElem_mem hi
    exact enOk_body (h3 _ hm) (by have := flat_one_le hm; omega)
theorem sgn_read {l : List UInt8} {x : De} (h : dirR l = .ok x) (hl : l.length ≤ 1000000) : sgnE x.se = 0 := by
  rw [sgnE_small (seOk_read h hl)]
  obtain ⟨⟨h1, h2, h3⟩, rfl, h5⟩ := dirR_ok.1 h
  obtain ⟨a1, a2, a3, a4, a5, a6⟩ := aftE_parts h1
  have hf : fieldsE x.se.number x.se.date x.se.prev.size = 0 := by
    show fieldsE x.number x.date x.prev.length = 0
    unfold fieldsE
    rw [if_neg (by omega), if_neg (by omega)]
  rw [if_pos hf, if_neg (by show ¬ 400 < x.entries.length; omega), if_pos (show entsE x.se.entries = 0 from entsE_zero h3), if_neg (by show ¬ 2000 < x.sl.length; omega)]
theorem text_read {l : List UInt8} {x : De} (h : dirR l = .ok x) (h0 : x.size = 0) (h1 : x.sum = sumB []) : textL x.se = l := by
  obtain ⟨_, rfl, _⟩ := dirR_ok.1 h
  unfold textL restL
  congr 1
  show preL x.number x.date x.prev ((0 : Nat) : Int) (sumB []) x.entries ++ strL x.sl = bodyD x
  unfold bodyD
  rw [h0, h1]; rfl
theorem sum_read {l : List UInt8} {x : De} (h : dirR l = .ok x) : x.sum.length = 32 := (aftE_parts (dirR_ok.1 h).1.1).2.2.2.2.1
theorem text_iff {a b : Se} (ha : sgnE a = 0) (hb : sgnE b = 0) : textL a = textL b ↔ (a.stream.size = b.stream.size ∧ sumB a.stream.data.toList = sumB b.stream.data.toList) ∧ ({ a with stream := ⟨#[]⟩ } : Se) = { b with stream := ⟨#[]⟩ } := by
  constructor
  · intro h
    have h1 := dir_round ha
    rw [h, dir_round hb] at h1
    have h2 : b.de = a.de := Except.ok.inj h1
    have h3 : b.de.size = a.de.size := by rw [h2]
    have h4 : b.de.sum = a.de.sum := by rw [h2]
    have h5 : b.de.se = a.de.se := by rw [h2]
    rw [se_de, se_de] at h5
    refine ⟨⟨?_, h4.symm⟩, h5.symm⟩
    have h6 : (b.stream.size : Int) = (a.stream.size : Int) := h3
    omega
  · rintro ⟨⟨h1, h2⟩, h3⟩
    unfold textL restL signedL
    cases a with | mk a1 a2 a3 a4 a5 a6 =>
    cases b with | mk b1 b2 b3 b4 b5 b6 =>
    simp only [Se.mk.injEq] at h3 ⊢
    obtain ⟨rfl, rfl, rfl, rfl, _, rfl⟩ := h3
    simp only at h1 h2
    rw [h1, h2]
theorem small_signed {s : Se} (wf : SeWf s) (hs : SmallS s) (h400 : s.entries.length ≤ 400) : (signedL s).length ≤ 300000 := by
  obtain ⟨h1, h2, h3, h4, h5⟩ := hs
  have hl : s.prev.data.toList.length = s.prev.size := rfl
  have h7 := bodies_le (X := s.entries) (fun i hi => ⟨h5 i hi, enOk_small (wf.ents i) (h5 i hi)⟩) s.entries.length
  rw [List.take_length] at h7
  have h8 : 20000 * s.entries.length ≤ 20000 * 12 := Nat.mul_le_mul_left _ (by omega)
  have a1 := numL_le wf.number.1 wf.number.2
  have a2 := numL_le wf.date.1 wf.date.2
  have a3 := numL_le (n := (s.stream.size : Int)) (by omega) (by omega)
  have a4 := strL_bd (u := s.prev.data.toList) (n := 100) h1 (by decide)
  have a5 := strL_bd (u := sumB s.stream.data.toList) (n := 32) (by rw [sumB_length]; decide) (by decide)
  have a6 := numL_le (n := (s.entries.length : Int)) (by omega) (by omega)
  unfold signedL preL
  simp only [List.length_append]
  omega
theorem small_text {s : Se} (wf : SeWf s) (hs : SmallS s) (h : sgnE s = 0) : (textL s).length ≤ 400000 := by
  have h1 := (small_signed wf hs (sgnE_parts h).2.2.1)
  have h2 := hs.2.2.1
  have h3 := strL_bd (u := s.sl.data.toList) (n := 2100) h2 (by decide)
  unfold textL
  rw [withLen_length]
  unfold restL
  rw [List.length_append]
  omega
theorem text_pos (s : Se) : 8 ≤ (textL s).length := by unfold textL; rw [withLen_length]; omega
theorem text_short {s : Se} (h : sgnE s = 0) {m : Nat} (hm : m < (textL s).length) : dirR ((textL s).take m) = .error 4 := dirR_short (restL_len h) hm
theorem text_long {s : Se} (h : sgnE s = 0) {r : List UInt8} (hr : r ≠ []) : dirR (textL s ++ r) = .error 3 := dirR_long (restL_len h) hr
theorem len_read {l : List UInt8} {x : De} (h : dirR l = .ok x) : lenR l = .ok l.length := by
  unfold dirR at h
  rcases hr : lenR l with e | n
  · rw [hr] at h; cases h
  · rw [hr] at h
    change (if (l.length : Int) < n then _ else if n < l.length then _ else bodyR l) = _ at h
    split at h
    · cases h
    split at h
    · cases h
    congr 1; omega
theorem len_chunk {l : List UInt8} {n : Int} (h : lenR l = .ok n) : lenR (chunkL l 0) = .ok n := by
  obtain ⟨h1, h2, h3⟩ := lenR_ok.1 h
  have e : (chunkL l 0).take 8 = l.take 8 := by unfold chunkL; rw [Nat.mul_zero, List.drop_zero]; exact lenR_prefix (by decide)
  refine lenR_ok.2 ⟨?_, by rw [e]; exact h2, by rw [e]; exact h3⟩
  unfold chunkL
  rw [Nat.mul_zero, List.drop_zero, List.length_take]; omega
theorem parts_pos {s : ByteArray} (h : 8 ≤ s.size) : 0 < cntP s.size := by unfold cntP; omega
/-- the fields but the seal -/
theorem sgn_seal {s : Se} (h : sgnE s = 0) {u : ByteArray} (hu : u.size ≤ 2000) : sgnE { s with sl := u } = 0 := by
  obtain ⟨h1, h2, h3, h4, h5, h6⟩ := sgnE_parts h
  unfold sgnE
  have e : signedL { s with sl := u } = signedL s := rfl
  rw [e]
  rw [if_pos (show fieldsE s.number s.date s.prev.size = 0 from h1), if_neg (by show ¬ (14680064 < s.stream.size ∨ 400 < s.entries.length); omega), if_pos (show entsE s.entries = 0 from entsE_zero h4), if_neg (by show ¬ (2000 < u.size ∨ _); omega)]
theorem seOk_seal {s : Se} (h : SeOk s) {u : ByteArray} (hu : u.size ≤ 2000) : SeOk { s with sl := u } := ⟨h.number, h.date, h.prev, h.stream, by show u.size ≤ 1000000; omega, h.count, h.ents, h.flat⟩
theorem text_bare (s : Se) : textL { s with sl := ⟨#[]⟩ } = dg 8 (signedL s ++ [48, 58, 44]).length ++ (signedL s ++ [48, 58, 44]) := by
  have e : strL ([] : List UInt8) = [48, 58, 44] := by decide +kernel
  unfold textL withLen restL
  show dg 8 (signedL s ++ strL []).length ++ (signedL s ++ strL []) = _
  rw [e]
theorem bare_end {s : Se} {t : ByteArray} (h : t.data.toList = textL { s with sl := ⟨#[]⟩ }) : 11 ≤ t.size ∧ (t.extract (t.size - 3) t.size).data.toList = [48, 58, 44] ∧ (t.extract 8 (t.size - 3)).data.toList = signedL s := by
  rw [text_bare] at h
  have hz : t.size = 8 + ((signedL s).length + 3) := by
    rw [← toList_size, h, List.length_append, dg_length, List.length_append]; rfl
  refine ⟨by omega, ?_, ?_⟩
  · rw [extract_list, h, hz, ← List.append_assoc]
    have hd : (dg 8 (signedL s ++ [48, 58, 44]).length ++ signedL s).length = 8 + ((signedL s).length + 3) - 3 := by rw [List.length_append, dg_length]; omega
    rw [List.drop_append_of_le_length (by omega), List.drop_eq_nil_of_le (by omega), List.nil_append]
    exact List.take_of_length_le (by show 3 ≤ _; omega)
  · rw [extract_list, h, hz]
    rw [List.drop_append_of_le_length (by rw [dg_length]; exact Nat.le_refl _), List.drop_eq_nil_of_le (by rw [dg_length]; exact Nat.le_refl _), List.nil_append, List.take_append_of_le_length (by omega)]
    exact List.take_of_length_le (by omega)
theorem signed_pos (s : Se) : 1 ≤ (signedL s).length := by
  have h : 1 ≤ (numL s.number).length := by rw [numL_length]; omega
  unfold signedL preL
  simp only [List.length_append]
  omega
end Go.Proofs.YtjlfjchcmkkebaaGreatDoor

namespace Go.Proofs.YtjlfjchcmkkebaaGreatDoor
open Go.RowKit Go.Shelf

set_option maxHeartbeats 1000000 in
theorem rdigits_any (n : Nat) (w : World) (hn : n < 1000000000) : Calls Tryz.prog 49 #[.int .i64 n] w (StrS (dg 8 n) w) := by
  go_enter Tryz.func49, Tryz.ntmps49
  go_wp2_with fail
  go_loop [0, 3, 4] (fun m v i => ∃ (k q : Nat) (t : ByteArray), k ≤ 8 ∧ i = .int .i64 k ∧ m = .int .i64 q ∧ v = .string t ∧ q < 1000000000 ∧ Hid (dg 8 n = dg (8 - k) q ++ t.data.toList) ∧ t.size = k) (fun _ _ i => 8 - (intOf i).toNat)
  case atStart => exact ⟨0, n, ⟨#[]⟩, by omega, rfl, rfl, rfl, hn, by rw [Hid]; simp, rfl⟩
  case round =>
    obtain ⟨k, q, t, hk, rfl, rfl, rfl, hq, hE, hts⟩ := hrel
    by_cases hlt : k < 8
    · have Hd := Lib.hid (digit_at (q % 10) (Nat.mod_lt _ (by decide)))
      have HN := Lib.hid (show dg (8 - k) q = dg (8 - (k + 1)) (q / 10) ++ [UInt8.ofNat (48 + q % 10)] from by
        rw [show 8 - k = (8 - (k + 1)) + 1 from by omega]; rfl)
      have e1 : Int.tmod (q : Int) 10 = ((q % 10 : Nat) : Int) := by rw [Int.tmod_eq_emod_of_nonneg (by omega)]; omega
      have e2 : Int.tdiv (q : Int) 10 = ((q / 10 : Nat) : Int) := by rw [Int.tdiv_eq_ediv_of_nonneg (by omega)]; omega
      have b1 : q % 10 < 10 := Nat.mod_lt _ (by decide)
      have b2 : q / 10 < 1000000000 := by omega
      generalize q % 10 = r at *
      generalize q / 10 = q2 at *
      go_wp2_with fail
      go_round
      case rel => exact ⟨k + 1, q2, _, by omega, by go_num, rfl, rfl, b2, by rw [Hid, append_list, Hd.out, ← List.append_assoc, ← HN.out]; exact hE.out, by rw [ByteArray.size_append, ← toList_size, Hd.out, hts]; simp; omega⟩
      case measure => simp [intOf]; omega
    · obtain rfl : k = 8 := by omega
      go_wp2_with fail
      go_ret
      exact ⟨t, rfl, hE.out.symm, rfl⟩
def chkS (f : Int) (N : Nat) (e : Int) (l : Nat) : Int := if f = 0 then (if 400 < N then 6 else if e = 0 then (if 2000 < l then 6 else 0) else e) else f
theorem chkS_of {s : Se} (h : SeOk s) : sgnE s = chkS (fieldsE s.number s.date s.prev.size) s.entries.length (entsE s.entries) s.sl.size := sgnE_small h
theorem chkS_f {f : Int} {N : Nat} {e : Int} {l : Nat} (h : f ≠ 0) : chkS f N e l = f := by rw [chkS, if_neg h]
theorem chkS_n {N : Nat} {e : Int} {l : Nat} (h : 400 < N) : chkS 0 N e l = 6 := by rw [chkS, if_pos rfl, if_pos h]
theorem chkS_e {N : Nat} {e : Int} {l : Nat} (h : ¬ 400 < N) (he : e ≠ 0) : chkS 0 N e l = e := by rw [chkS, if_pos rfl, if_neg h, if_neg he]
theorem chkS_l {N : Nat} {l : Nat} (h : ¬ 400 < N) : chkS 0 N 0 l = if 2000 < l then 6 else 0 := by rw [chkS, if_pos rfl, if_neg h, if_pos rfl]
set_option maxRecDepth 100000 in
set_option maxHeartbeats 4000000 in
theorem rcheck40_any (s : Se) (a : Option Addr) (c : Nat) (w : World) (ok : SeOk s) (hr : EnRow w (.slice a s.entries.length c) s.entries) :
    Calls Tryz.prog 46 #[.agg #[.int .i64 s.number, .int .i64 s.date, .string s.prev, .slice a s.entries.length c, .string s.stream, .string s.sl]] w (IntP (sgnE s) w) := by
  rw [chkS_of ok]
  have HX := Lib.hid (show ∀ W, Below w.heap.size w W → EnRow W (.slice a s.entries.length c) s.entries from fun W hW => hr.below hW)
  have HO := Lib.hid ok.ents
  have hp := ok.prev
  have hst := ok.stream
  have hsl := ok.sl
  have hN := ok.count
  clear hr ok
  generalize s.number = n at *
  generalize s.date = d at *
  generalize s.prev = p at *
  generalize s.stream = st at *
  generalize s.sl = sl at *
  generalize s.entries = X at *
  obtain ⟨hb0, bB⟩ := box1'' w [.int .i64 n, .int .i64 d, .string p, .slice a X.length c, .string st, .string sl] 25
  change Below _ _ (w.alloc (.cells #[.int .i64 n, .int .i64 d, .string p, .slice a X.length c, .string st, .string sl] 25)) at hb0
  change Box (w.alloc (.cells #[.int .i64 n, .int .i64 d, .string p, .slice a X.length c, .string st, .string sl] 25)) _ _ _ at bB
  have hC := Lib.hid (fields_cases n d p.size)
  have HE : Hid (entsE X = firstE (fun i => chkE (enAt X i)) X.length) := rfl
  generalize fieldsE n d p.size = f at *
  rcases hC.out with ⟨he, hc⟩ | ⟨g1, g2, g3, g4, hc⟩
  · subst he
    rw [chkS_f (by decide)]
    have HC := Lib.hid hc
    clear hC hc HE
    rcases HC.out with k1 | ⟨k1, k2⟩ | ⟨k1, k2, k3⟩ | ⟨k1, k2, k3, k4⟩
    all_goals
      clear HC
      go_enter Tryz.func46, Tryz.ntmps46
      go_wp2_with fail
      go_ret
      exact ⟨rfl, hb0⟩
  have HC := Lib.hid hc
  clear hC hc
  have hz : f = 1 ∧ p.size ≠ 0 ∧ p.size ≠ 32 ∨ f = 0 ∧ (p.size = 0 ∨ p.size = 32) := by
    rcases HC.out with ⟨he, h1, h2⟩ | ⟨he, h1⟩ | ⟨he, h1⟩
    · exact .inl ⟨he, h1, h2⟩
    · exact .inr ⟨he, .inl h1⟩
    · exact .inr ⟨he, .inr h1⟩
  clear HC
  rcases hz with ⟨rfl, h1, h2⟩ | ⟨rfl, hz⟩
  · rw [chkS_f (by decide)]
    have p1 : ((p.size : Int) == 0) = false := by rw [beq_eq_false_iff_ne]; omega
    have p2 : ((p.size : Int) != 0) = true := by rw [bne_iff_ne]; omega
    have q1 : ((p.size : Int) == 32) = false := by rw [beq_eq_false_iff_ne]; omega
    have q2 : ((p.size : Int) != 32) = true := by rw [bne_iff_ne]; omega
    clear h1 h2
    go_enter Tryz.func46, Tryz.ntmps46
    go_wp2_with fail
    go_ret
    exact ⟨rfl, hb0⟩
  have HZ := Lib.hid hz; clear hz
  have HN4 := Lib.hid (show 400 < X.length → chkS 0 X.length (entsE X) sl.size = 6 from fun h => chkS_n h)
  have HB := Lib.hid (show ¬ 400 < X.length → ∀ k, k < X.length → firstE (fun i => chkE (enAt X i)) k = 0 → chkE (enAt X k) ≠ 0 → chkS 0 X.length (entsE X) sl.size = chkE (enAt X k) from fun h4 k hk h0 hc => by
    have := errE_ne hk h0 hc
    rw [this]; exact chkS_e h4 hc)
  have HL := Lib.hid (show ¬ 400 < X.length → entsE X = 0 → chkS 0 X.length (entsE X) sl.size = if 2000 < sl.size then 6 else 0 from fun h4 h => by rw [h]; exact chkS_l h4)
  generalize chkS 0 X.length (entsE X) sl.size = R at *
  go_enter Tryz.func46, Tryz.ntmps46
  go_upto_region 1 with (fail)
  obtain ⟨W0, hW0⟩ : ∃ W0, w.alloc (.cells #[.int .i64 n, .int .i64 d, .string p, .slice a X.length c, .string st, .string sl] 25) = W0 := ⟨_, rfl⟩
  change Code.wp _ _ _ _ (w.alloc (.cells #[.int .i64 n, .int .i64 d, .string p, .slice a X.length c, .string st, .string sl] 25))
  rw [hW0] at hb0 bB ⊢
  clear hW0
  obtain ⟨c0, c1, c2, c3, c4, c5⟩ := bB.cells6
  go_upto_region 3 with (fail)
  go_cut [32] from 23 (fun v wc => W0 = wc ∧ v = .bool false)
  case first =>
    rcases HZ.out with h1 | h1
    · have p1 : ((p.size : Int) == 0) = true := by rw [beq_iff_eq]; omega
      have p2 : ((p.size : Int) != 0) = false := by rw [bne_eq_false_iff_eq]; omega
      clear h1
      go_wp2_with fail
      go_meet
      exact ⟨rfl, rfl⟩
    · have p1 : ((p.size : Int) == 0) = false := by rw [beq_eq_false_iff_ne]; omega
      have p2 : ((p.size : Int) != 0) = true := by rw [bne_iff_ne]; omega
      have q1 : ((p.size : Int) == 32) = true := by rw [beq_iff_eq]; omega
      have q2 : ((p.size : Int) != 32) = false := by rw [bne_eq_false_iff_eq]; omega
      clear h1
      go_wp2_with fail
      go_meet
      exact ⟨rfl, rfl⟩
  obtain ⟨rfl, rfl⟩ := hcut
  clear g1 g2 g3 g4 HZ
  by_cases h4 : 400 < X.length
  · have HR := Lib.hid (HN4.out h4)
    go_wp2_with fail
    go_ret
    exact ⟨ret_int HR.out.symm, hb0⟩
  replace HB := Lib.hid (HB.out h4)
  replace HL := Lib.hid (HL.out h4)
  clear HN4
  go_upto_block 0 with (fail)
  go_wp2_with fail
  go_loopw [3, 4] (fun i _ wr => ∃ k : Nat, k ≤ X.length ∧ i = .int .i64 k ∧ Hid (firstE (fun i => chkE (enAt X i)) k = 0) ∧ Below w.heap.size w wr ∧ Box wr w.heap.size [.int .i64 n, .int .i64 d, .string p, .slice a X.length c, .string st, .string sl] 25) (fun i _ _ => X.length - (intOf i).toNat)
  case atStart => exact ⟨0, by omega, rfl, rfl, hb0, bB⟩
  case round =>
    obtain ⟨k, hk, rfl, hE, kb, bR⟩ := hrel
    clear hb0 bB c0 c1 c2 c3 c4 c5
    obtain ⟨c0, c1, c2, c3, c4, c5⟩ := bR.cells6
    by_cases hlt : k < X.length
    · obtain ⟨b, o, a1, m1, a2, m2, rfl, hA, hXx, x0, x1, x2, x3, x4, x5, x6⟩ := (HX.out _ kb).at' hlt
      have HG := Lib.hid (refCheck_any (enAt X k) _ _ wr hA hXx (HO.out k hlt))
      have HN := Lib.hid (HB.out k hlt hE.out)
      have HY := Lib.hid (show chkE (enAt X k) = 0 → firstE (fun i => chkE (enAt X i)) (k + 1) = 0 from fun h => firstE_next hE.out h)
      clear hA hXx
      obtain ⟨ce, hce⟩ : ∃ ce, chkE (enAt X k) = ce := ⟨_, rfl⟩
      rw [hce] at HG HN HY
      clear hce
      generalize enAt X k = ee at *
      go_wp2_with fail
      refine HG.out.mono ?_
      rintro e w2 ⟨rfl, hb⟩
      have kb2 := step2 kb hb
      have bR2 := bR.below hb
      clear kb bR hb c0 c1 c2 c3 c4 c5 x0 x1 x2 x3 x4 x5 x6 HG
      by_cases h0 : ce = 0
      · have HN2 := Lib.hid (HY.out h0)
        subst h0
        go_wp2_with fail
        go_roundw
        case rel => exact ⟨k + 1, by omega, by go_num, HN2, kb2, bR2⟩
        case measure => simp [intOf]; omega
      · have HR := Lib.hid (HN.out h0)
        obtain ⟨q1, q2⟩ := neq0 h0
        have H0 := Lib.hid h0; clear h0
        go_wp2_with fail
        go_ret
        exact ⟨ret_int HR.out.symm, kb2⟩
    · obtain rfl : k = X.length := by omega
      have HR := Lib.hid (HL.out (HE.out.trans hE.out))
      by_cases h5 : 2000 < sl.size
      · rw [if_pos h5] at HR
        go_wp2_with fail
        go_ret
        exact ⟨ret_int HR.out.symm, kb⟩
      · rw [if_neg h5] at HR
        go_wp2_with fail
        go_ret
        exact ⟨ret_int HR.out.symm, kb⟩
theorem numQ (n : Int) (h : -9223372036854775808 ≤ n ∧ n ≤ 9223372036854775807) : ∃ t : ByteArray, Hid (t.data.toList = numL n) ∧ t.size ≤ 21 ∧ Hid (∀ W, Calls Tryz.prog 76 #[.int .i64 n] W fun e w' => e = .returned (.string t) ∧ w' = W) := refNumberQ n h.1 h.2
set_option maxRecDepth 100000 in
set_option maxHeartbeats 4000000 in
theorem rsigned_any (s : Se) (a : Option Addr) (c : Nat) (w : World) (ok : SeOk s) (hs : SmallS s) (hr : EnRow w (.slice a s.entries.length c) s.entries) (hc : ∀ i, i < s.entries.length → chkE (enAt s.entries i) = 0) :
    Calls Tryz.prog 47 #[.agg #[.int .i64 s.number, .int .i64 s.date, .string s.prev, .slice a s.entries.length c, .string s.stream, .string s.sl]] w (StrP (signedL s) w) := by
  have HX := Lib.hid (show ∀ W, Below w.heap.size w W → EnRow W (.slice a s.entries.length c) s.entries from fun W hW => hr.below hW)
  have HO := Lib.hid ok.ents
  have HC := Lib.hid hc
  have hn := ok.number
  have hd := ok.date
  obtain ⟨hp, hst, hsl, _, hSm⟩ := hs
  have HSm := Lib.hid hSm
  have hN := ok.count
  have HL : Hid (signedL s = numL s.number ++ numL s.date ++ strL s.prev.data.toList ++ numL s.stream.size ++ strL (sumB s.stream.data.toList) ++ numL s.entries.length ++ s.entries.flatMap bodyL) := rfl
  clear hr ok hc hSm
  generalize signedL s = R at *
  generalize s.number = n at *
  generalize s.date = d at *
  generalize s.prev = p at *
  generalize s.stream = st at *
  generalize s.sl = sl at *
  generalize s.entries = X at *
  have hd1 := Lib.hid (fun W => digest_any st W (by omega))
  obtain ⟨t1, ht1, z1, H1⟩ := numQ n hn
  obtain ⟨t2, ht2, z2, H2⟩ := numQ d hd
  obtain ⟨t3, ht3, z3, H3⟩ := refStringQ p (by omega)
  obtain ⟨t4, ht4, z4, H4⟩ := numQ (st.size : Int) (by omega)
  obtain ⟨t6, ht6, z6, H6⟩ := numQ (X.length : Int) (by omega)
  have hcat := Lib.hid (show ∀ (a b : ByteArray), a.size + b.size ≤ 1000000 → ∃ c : ByteArray, Hid (c.data.toList = a.data.toList ++ b.data.toList) ∧ c.size ≤ a.size + b.size ∧ ∀ W : World, (Op.stringOp .add a b).run Tryz.prog W = .ok (.string c) W from fun a b h =>
    ⟨a ++ b, append_list a b, by rw [ByteArray.size_append]; exact Nat.le_refl _, fun W => run_string_add_sum W a b (by omega)⟩)
  obtain ⟨y2, hy2, zy2, r2⟩ := hcat.out t1 t2 (by omega)
  obtain ⟨y3, hy3, zy3, r3⟩ := hcat.out y2 t3 (by omega)
  obtain ⟨y4, hy4, zy4, r4⟩ := hcat.out y3 t4 (by omega)
  obtain ⟨hb0, bB⟩ := box1'' w [.int .i64 n, .int .i64 d, .string p, .slice a X.length c, .string st, .string sl] 25
  change Below _ _ (w.alloc (.cells #[.int .i64 n, .int .i64 d, .string p, .slice a X.length c, .string st, .string sl] 25)) at hb0
  change Box (w.alloc (.cells #[.int .i64 n, .int .i64 d, .string p, .slice a X.length c, .string st, .string sl] 25)) _ _ _ at bB
  go_enter Tryz.func47, Tryz.ntmps47
  go_upto_region 1 with (fail)
  obtain ⟨W0, hW0⟩ : ∃ W0, w.alloc (.cells #[.int .i64 n, .int .i64 d, .string p, .slice a X.length c, .string st, .string sl] 25) = W0 := ⟨_, rfl⟩
  change Code.wp _ _ _ _ (w.alloc (.cells #[.int .i64 n, .int .i64 d, .string p, .slice a X.length c, .string st, .string sl] 25))
  rw [hW0] at hb0 bB ⊢
  clear hW0
  obtain ⟨c0, c1, c2, c3, c4, c5⟩ := bB.cells6
  have hbd : Below w.heap.size w W0.drew := below_drew0 hb0
  have bBd := bB.drewN' 1
  change Box W0.drew _ _ _ at bBd
  go_cut [3] from 7 to 32 (fun v wc => ∃ u : ByteArray, v = .string u ∧ Hid (u.data.toList = numL n ++ numL d ++ strL p.data.toList ++ numL st.size ++ strL (sumB st.data.toList) ++ numL X.length) ∧ u.size ≤ 2000 ∧ Below w.heap.size w wc ∧ Box wc w.heap.size [.int .i64 n, .int .i64 d, .string p, .slice a X.length c, .string st, .string sl] 25)
  case first =>
    clear HX HO HC HSm
    go_region_held3 (fun w' => w'.cell? ⟨w.heap.size, 0, none⟩ = some (.int .i64 n) ∧ w'.cell? ⟨w.heap.size, 1, none⟩ = some (.int .i64 d) ∧ w'.cell? ⟨w.heap.size, 2, none⟩ = some (.string p) ∧ w'.cell? ⟨w.heap.size, 3, none⟩ = some (.slice a X.length c) ∧ w'.cell? ⟨w.heap.size, 4, none⟩ = some (.string st) ∧ w'.cell? ⟨w.heap.size, 5, none⟩ = some (.string sl))
      (first | with_reducible exact ⟨c0, c1, c2, c3, c4, c5⟩ | with_reducible exact Box.cells6 bBd | with_reducible exact Box.cells6 bB2)
      (first
        | (go_at_call 76; (with_reducible refine (H1.out _).mono ?_); rintro e3 W3 ⟨rfl, rfl⟩)
        | (go_at_call 76; (with_reducible refine (H2.out _).mono ?_); rintro e3 W3 ⟨rfl, rfl⟩)
        | (go_at_call 48; (with_reducible refine (H3.out _).mono ?_); rintro e3 W3 ⟨rfl, rfl⟩)
        | (go_at_call 76; (with_reducible refine (H4.out _).mono ?_); rintro e3 W3 ⟨rfl, rfl⟩)
        | (go_at_call 50; (with_reducible refine (hd1.out _).mono ?_); rintro e2 W2 ⟨t0, rfl, ht0, hb⟩; have hb2 := step2 hbd hb; have bB2 := bBd.below hb; have zt0 : t0.size = 32 := (by rw [← toList_size, ht0.out, sumB_length]); obtain ⟨t5, ht5, z5, H5⟩ := refStringQ t0 (by omega); obtain ⟨y5, hy5, zy5, r5⟩ := hcat.out y4 t5 (by omega); obtain ⟨y6, hy6, zy6, r6⟩ := hcat.out y5 t6 (by omega))
        | (go_at_call 48; (with_reducible refine (H5.out _).mono ?_); rintro e3 W3 ⟨rfl, rfl⟩)
        | (go_at_call 76; (with_reducible refine (H6.out _).mono ?_); rintro e3 W3 ⟨rfl, rfl⟩))
    all_goals
      go_wp2_with fail
      go_meet
      case rel => exact ⟨y6, rfl, by rw [Hid, hy6.out, hy5.out, hy4.out, hy3.out, hy2.out, ht1.out, ht2.out, ht3.out, ht4.out, ht5.out, ht0.out, ht6.out], by omega, hb2, bB2⟩
  case rest =>
    obtain ⟨u0, rfl, hu0, zu0, hb2, bB2⟩ := hcut
    clear hb0 bB hbd bBd c0 c1 c2 c3 c4 c5 H1 H2 H3 H4 H6 hd1 hcat ht1 ht2 ht3 ht4 ht6 z1 z2 z3 z4 z6 hy2 hy3 hy4 zy2 zy3 zy4 r2 r3 r4
    obtain ⟨W2, rfl⟩ : ∃ W2, W2 = wc := ⟨_, rfl⟩
    have hbW : w.heap.size < W2.heap.size := bB2.lt
    go_upto_block 0 with (fail)
    go_wp2_with fail
    go_loopw [3, 4, 5, 6] (fun u i _ _ wr => ∃ (k : Nat) (v : ByteArray), k ≤ X.length ∧ i = .int .i64 k ∧ u = .string v ∧ Hid (v.data.toList = u0.data.toList ++ (X.take k).flatMap bodyL) ∧ v.size ≤ 2000 + 20000 * k ∧ Below W2.heap.size W2 wr) (fun _ i _ _ _ => X.length - (intOf i).toNat)
    case atStart => exact ⟨0, u0, by omega, rfl, rfl, by rw [Hid]; simp, by omega, below_refl _⟩
    case round =>
      obtain ⟨k, v, hk, rfl, rfl, hv, zv, hbr⟩ := hrel
      have bBr := bB2.below hbr
      obtain ⟨c0, c1, c2, c3, c4, c5⟩ := bBr.cells6
      by_cases hlt : k < X.length
      · obtain ⟨b, o, a1, m1, a2, m2, rfl, hA, hXx, x0, x1, x2, x3, x4, x5, x6⟩ := (HX.out _ (step2 hb2 hbr)).at' hlt
        have HG := Lib.hid (refEncode_any (enAt X k) _ _ wr hA hXx (HO.out k hlt) (HSm.out k hlt))
        rw [HC.out k hlt, if_pos rfl] at HG
        have HT := Lib.hid (take_flatE X k hlt)
        have HBd := Lib.hid (small_body (HSm.out k hlt) (HO.out k hlt))
        clear hA hXx
        generalize bodyL (enAt X k) = bl at *
        generalize enAt X k = ee at *
        go_wp2_with fail
        refine HG.out.mono ?_
        rintro e w2 ⟨t, rfl, ht, hb⟩
        have zt : t.size ≤ 20000 := by rw [← toList_size, ht.out]; exact HBd.out
        have hv2 : Hid ((v ++ t).data.toList = u0.data.toList ++ (X.take (k + 1)).flatMap bodyL) := by
          rw [Hid, append_list, hv.out, ht.out, HT.out]; simp only [List.append_assoc]
        have zv2 : (v ++ t).size ≤ 2000 + 20000 * (k + 1) := by rw [ByteArray.size_append]; omega
        have hbr2 := step2 hbr hb
        have z9 : v.size + t.size ≤ 10000000000 := by omega
        clear HG x0 x1 x2 x3 x4 x5 x6 c0 c1 c2 c3 c4 c5 bBr hb
        go_wp2_with fail
        go_roundw
        case rel => exact ⟨k + 1, _, by omega, by go_num, rfl, hv2, zv2, hbr2⟩
        case measure => simp [intOf]; omega
      · obtain rfl : k = X.length := by omega
        have hte : X.take X.length = X := List.take_of_length_le (Nat.le_refl _)
        rw [hte] at hv
        clear hte
        go_wp2_with fail
        go_ret
        exact ⟨_, rfl, by rw [Hid, hv.out, hu0.out, HL.out], step2 hb2 hbr⟩
set_option maxRecDepth 100000 in
set_option maxHeartbeats 4000000 in
theorem rencode_any (s : Se) (a : Option Addr) (c : Nat) (w : World) (ok : SeOk s) (hs : SmallS s) (hr : EnRow w (.slice a s.entries.length c) s.entries) :
    Calls Tryz.prog 18 #[.agg #[.int .i64 s.number, .int .i64 s.date, .string s.prev, .slice a s.entries.length c, .string s.stream, .string s.sl]] w (HeadP (if sgnE s = 0 then textL s else []) (sgnE s) w) := by
  have HK := Lib.hid (show ∀ W, Below w.heap.size w W → Calls Tryz.prog 46 #[.agg #[.int .i64 s.number, .int .i64 s.date, .string s.prev, .slice a s.entries.length c, .string s.stream, .string s.sl]] W (IntP (sgnE s) W) from fun W hW => rcheck40_any s a c W ok (hr.below hW))
  have HSg := Lib.hid (show sgnE s = 0 → ∀ W, Below w.heap.size w W → Calls Tryz.prog 47 #[.agg #[.int .i64 s.number, .int .i64 s.date, .string s.prev, .slice a s.entries.length c, .string s.stream, .string s.sl]] W (StrP (signedL s) W) from fun h W hW => rsigned_any s a c W ok hs (hr.below hW) (fun i hi => (sgnE_parts h).2.2.2.1 _ (by rw [enAt_get hi]; exact List.getElem_mem hi)))
  have HLe := Lib.hid (show sgnE s = 0 → (signedL s).length ≤ 85000000 from fun h => signedL_le ok (sgnE_parts h).2.2.1)
  have hsl : s.sl.size ≤ 1000000 := ok.sl
  have HT : Hid (textL s = dg 8 (signedL s ++ strL s.sl.data.toList).length ++ (signedL s ++ strL s.sl.data.toList)) := rfl
  have HLn := Lib.hid (show sgnE s ≠ 0 → (if sgnE s = 0 then textL s else []) = [] from fun h => if_neg h)
  have HLy := Lib.hid (show sgnE s = 0 → (if sgnE s = 0 then textL s else []) = textL s from fun h => if_pos h)
  generalize (if sgnE s = 0 then textL s else []) = L at *
  generalize textL s = TL at *
  generalize signedL s = SL at *
  generalize sgnE s = ce at *
  clear hr ok hs
  generalize s.number = n at *
  generalize s.date = d at *
  generalize s.prev = p at *
  generalize s.stream = st at *
  generalize s.sl = sl at *
  generalize s.entries = X at *
  obtain ⟨hb0, bB⟩ := box1'' w [.int .i64 n, .int .i64 d, .string p, .slice a X.length c, .string st, .string sl] 25
  change Below _ _ (w.alloc (.cells #[.int .i64 n, .int .i64 d, .string p, .slice a X.length c, .string st, .string sl] 25)) at hb0
  change Box (w.alloc (.cells #[.int .i64 n, .int .i64 d, .string p, .slice a X.length c, .string st, .string sl] 25)) _ _ _ at bB
  go_enter Tryz.func18, Tryz.ntmps18
  go_upto_region 1 with (fail)
  obtain ⟨W0, hW0⟩ : ∃ W0, w.alloc (.cells #[.int .i64 n, .int .i64 d, .string p, .slice a X.length c, .string st, .string sl] 25) = W0 := ⟨_, rfl⟩
  change Code.wp _ _ _ _ (w.alloc (.cells #[.int .i64 n, .int .i64 d, .string p, .slice a X.length c, .string st, .string sl] 25))
  rw [hW0] at hb0 bB ⊢
  clear hW0
  obtain ⟨c0, c1, c2, c3, c4, c5⟩ := bB.cells6
  go_wp2_with fail
  refine (HK.out W0 hb0).mono ?_
  rintro e W1 ⟨rfl, hb⟩
  have hb1 := step2 hb0 hb
  have bB1 := bB.below hb
  clear hb0 bB hb c0 c1 c2 c3 c4 c5 HK
  by_cases hc : ce = 0
  case neg =>
    have q1 : (ce != 0) = true := by rw [bne_iff_ne]; exact hc
    have HL0 := Lib.hid (HLn.out hc)
    clear hc HLn HLy HSg HLe
    go_wp2_with fail
    go_ret2
    exact ⟨_, rfl, by rw [Hid, HL0.out], hb1⟩
  have HL0 := Lib.hid (HLy.out hc)
  have HS2 := Lib.hid (HSg.out hc)
  have hle := HLe.out hc
  clear HLn HLy HSg HLe
  subst hc
  obtain ⟨c0, c1, c2, c3, c4, c5⟩ := bB1.cells6
  go_wp2_with fail
  refine (HS2.out W1 hb1).mono ?_
  rintro e W2 ⟨t, rfl, ht, hb⟩
  have hb2 := step2 hb1 hb
  have bB2 := bB1.below hb
  have zt : t.size ≤ 85000000 := by rw [← toList_size, ht.out]; exact hle
  clear hb1 bB1 hb c0 c1 c2 c3 c4 c5 HS2
  obtain ⟨c0, c1, c2, c3, c4, c5⟩ := bB2.cells6
  obtain ⟨t2, ht2, z2, H2⟩ := refStringQ sl (by omega)
  have z3 : t.size + t2.size ≤ 90000000 := by omega
  go_wp2_with fail
  refine (H2.out W2).mono ?_
  rintro e W3 ⟨rfl, rfl⟩
  have hu : Hid ((t ++ t2).data.toList = SL ++ strL sl.data.toList) := by rw [Hid, append_list, ht.out, ht2.out]
  have zu : (t ++ t2).size ≤ 90000000 := by rw [ByteArray.size_append]; exact z3
  obtain ⟨u, hue⟩ : ∃ u, t ++ t2 = u := ⟨_, rfl⟩
  have HD := Lib.hid (fun W => rdigits_any u.size W (by rw [← hue]; omega))
  rw [hue] at hu zu
  go_upto_region 8 with (fail)
  have Hue := Lib.hid hue; clear hue
  go_wp2_with fail
  refine (HD.out _).mono ?_
  rintro e W4 ⟨t3, rfl, ht3, rfl⟩
  have z4 : t3.size = 8 := by rw [← toList_size, ht3.out, dg_length]
  have z5 : t3.size + u.size ≤ 100000000 := by omega
  go_wp2_with fail
  go_ret2
  exact ⟨_, rfl, by rw [Hid, append_list, HL0.out, HT.out, ht3.out, ← hu.out]; rfl, hb2⟩
set_option maxRecDepth 100000 in
set_option maxHeartbeats 4000000 in
theorem rdigest_any (s : Se) (a : Option Addr) (c : Nat) (w : World) (ok : SeOk s) (hs : SmallS s) (hr : EnRow w (.slice a s.entries.length c) s.entries) :
    Calls Tryz.prog 20 #[.agg #[.int .i64 s.number, .int .i64 s.date, .string s.prev, .slice a s.entries.length c, .string s.stream, .string s.sl]] w (HeadP (if sgnE s = 0 then sumB (signedL s) else []) (sgnE s) w) := by
  have HK := Lib.hid (show ∀ W, Below w.heap.size w W → Calls Tryz.prog 46 #[.agg #[.int .i64 s.number, .int .i64 s.date, .string s.prev, .slice a s.entries.length c, .string s.stream, .string s.sl]] W (IntP (sgnE s) W) from fun W hW => rcheck40_any s a c W ok (hr.below hW))
  have HSg := Lib.hid (show sgnE s = 0 → ∀ W, Below w.heap.size w W → Calls Tryz.prog 47 #[.agg #[.int .i64 s.number, .int .i64 s.date, .string s.prev, .slice a s.entries.length c, .string s.stream, .string s.sl]] W (StrP (signedL s) W) from fun h W hW => rsigned_any s a c W ok hs (hr.below hW) (fun i hi => (sgnE_parts h).2.2.2.1 _ (by rw [enAt_get hi]; exact List.getElem_mem hi)))
  have HLe := Lib.hid (show sgnE s = 0 → (signedL s).length ≤ 85000000 from fun h => signedL_le ok (sgnE_parts h).2.2.1)
  have HEn := Lib.hid (show ∀ W, Below w.heap.size w W → Calls Tryz.prog 18 #[.agg #[.int .i64 s.number, .int .i64 s.date, .string s.prev, .slice a s.entries.length c, .string s.stream, .string s.sl]] W (HeadP (if sgnE s = 0 then textL s else []) (sgnE s) W) from fun W hW => rencode_any s a c W ok hs (hr.below hW))
  have HLn := Lib.hid (show sgnE s ≠ 0 → (if sgnE s = 0 then sumB (signedL s) else []) = [] from fun h => if_neg h)
  have HLy := Lib.hid (show sgnE s = 0 → (if sgnE s = 0 then sumB (signedL s) else []) = sumB (signedL s) from fun h => if_pos h)
  generalize (if sgnE s = 0 then sumB (signedL s) else []) = L at *
  generalize (if sgnE s = 0 then textL s else []) = TL at *
  generalize signedL s = SL at *
  generalize sgnE s = ce at *
  clear hr ok hs HK
  generalize s.number = n at *
  generalize s.date = d at *
  generalize s.prev = p at *
  generalize s.stream = st at *
  generalize s.sl = sl at *
  generalize s.entries = X at *
  obtain ⟨hb0, bB⟩ := box1'' w [.int .i64 n, .int .i64 d, .string p, .slice a X.length c, .string st, .string sl] 25
  change Below _ _ (w.alloc (.cells #[.int .i64 n, .int .i64 d, .string p, .slice a X.length c, .string st, .string sl] 25)) at hb0
  change Box (w.alloc (.cells #[.int .i64 n, .int .i64 d, .string p, .slice a X.length c, .string st, .string sl] 25)) _ _ _ at bB
  go_enter Tryz.func20, Tryz.ntmps20
  go_upto_region 1 with (fail)
  obtain ⟨W0, hW0⟩ : ∃ W0, w.alloc (.cells #[.int .i64 n, .int .i64 d, .string p, .slice a X.length c, .string st, .string sl] 25) = W0 := ⟨_, rfl⟩
  change Code.wp _ _ _ _ (w.alloc (.cells #[.int .i64 n, .int .i64 d, .string p, .slice a X.length c, .string st, .string sl] 25))
  rw [hW0] at hb0 bB ⊢
  clear hW0
  obtain ⟨c0, c1, c2, c3, c4, c5⟩ := bB.cells6
  go_wp2_with fail
  refine (HEn.out W0 hb0).mono ?_
  rintro e W1 ⟨tt, rfl, _, hb⟩
  have hb1 := step2 hb0 hb
  have bB1 := bB.below hb
  clear hb0 bB hb c0 c1 c2 c3 c4 c5 HEn
  by_cases hc : ce = 0
  case neg =>
    have q1 : (ce != 0) = true := by rw [bne_iff_ne]; exact hc
    have HL0 := Lib.hid (HLn.out hc)
    clear hc HLn HLy HSg HLe
    go_wp2_with fail
    go_ret2
    exact ⟨_, rfl, by rw [Hid, HL0.out], hb1⟩
  have HL0 := Lib.hid (HLy.out hc)
  have HS2 := Lib.hid (HSg.out hc)
  have hle := HLe.out hc
  clear HLn HLy HSg HLe
  subst hc
  obtain ⟨c0, c1, c2, c3, c4, c5⟩ := bB1.cells6
  go_wp2_with fail
  refine (HS2.out W1 hb1).mono ?_
  rintro e W2 ⟨t, rfl, ht, hb⟩
  have hb2 := step2 hb1 hb
  have zt : t.size ≤ 85000000 := by rw [← toList_size, ht.out]; exact hle
  go_wp2_with fail
  refine (digest_any t W2 (by omega)).mono ?_
  rintro e W3 ⟨t3, rfl, ht3, hb3⟩
  go_wp2_with fail
  go_ret2
  exact ⟨_, rfl, by rw [Hid, HL0.out, ht3.out, ht.out], step2 hb2 hb3⟩
end Go.Proofs.YtjlfjchcmkkebaaGreatDoor

namespace Go.Proofs.YtjlfjchcmkkebaaGreatDoor
open Go.RowKit Go.Shelf

structure SeCs (s : Se) (a : Option Addr) (c : Nat) (w : World) : Prop where
  row : ∀ W, Below w.heap.size w W → EnRow W (.slice a s.entries.length c) s.entries
  great : ∀ W, Below w.heap.size w W → Calls Tryz.prog 17 #[.agg #[.int .i64 s.number, .int .i64 s.date, .string s.prev, .slice a s.entries.length c, .string s.stream, .string s.sl]] W (GreatP (SmallS s) W)
  enc : SeOk s → ∀ W, Below w.heap.size w W → Calls Tryz.prog 16 #[.agg #[.int .i64 s.number, .int .i64 s.date, .string s.prev, .slice a s.entries.length c, .string s.stream, .string s.sl]] W (HeadP (if sgnE s = 0 then textL s else []) (sgnE s) W)
  dig : SeOk s → ∀ W, Below w.heap.size w W → Calls Tryz.prog 19 #[.agg #[.int .i64 s.number, .int .i64 s.date, .string s.prev, .slice a s.entries.length c, .string s.stream, .string s.sl]] W (HeadP (if sgnE s = 0 then sumB (signedL s) else []) (sgnE s) W)
  renc : SeOk s → SmallS s → ∀ W, Below w.heap.size w W → Calls Tryz.prog 18 #[.agg #[.int .i64 s.number, .int .i64 s.date, .string s.prev, .slice a s.entries.length c, .string s.stream, .string s.sl]] W (HeadP (if sgnE s = 0 then textL s else []) (sgnE s) W)
  rdig : SeOk s → SmallS s → ∀ W, Below w.heap.size w W → Calls Tryz.prog 20 #[.agg #[.int .i64 s.number, .int .i64 s.date, .string s.prev, .slice a s.entries.length c, .string s.stream, .string s.sl]] W (HeadP (if sgnE s = 0 then sumB (signedL s) else []) (sgnE s) W)
theorem seCs {s : Se} {a : Option Addr} {c : Nat} {w : World} (he : Env w) (hm : HasMax w) (hr : EnRow w (.slice a s.entries.length c) s.entries) (wf : SeWf s) : SeCs s a c w :=
  ⟨fun _ hW => hr.below hW, fun W hW => sgreat_any s a c W wf (hr.below hW), fun ok W hW => dencode_any s a c W (he.below hW) (hm.below hW) ok (hr.below hW),
   fun ok W hW => ddigest_any s a c W (he.below hW) (hm.below hW) ok (hr.below hW), fun ok hs W hW => rencode_any s a c W ok hs (hr.below hW), fun ok hs W hW => rdigest_any s a c W ok hs (hr.below hW)⟩
end Go.Proofs.YtjlfjchcmkkebaaGreatDoor
