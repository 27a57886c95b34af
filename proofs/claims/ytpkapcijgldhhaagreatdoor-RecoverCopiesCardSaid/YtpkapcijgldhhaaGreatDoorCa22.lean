/-
  Directory texts as plain data: the check of a session, its text, the reading of a text.
  Rows of entries in memory; a reader's state, whatever its type.
  Sessions: bounds, errors are not zero, what the laws of chapter 40 need besides. Plain.
  Chapter 40: a session among the arguments, opened: a struct with a slice of entries, each with two slices of structs.
-/
import Derived.Test.YtpkapcijgldhhaaGreatDoorCa19
import Derived.Test.YtpkapcijgldhhaaGreatDoorCa21
import Derived.Test.YtpkapcijgldhhaaGreatDoorCa09
namespace Go.Proofs.YtpkapcijgldhhaaGreatDoor

/-! ### eight digits -/
def dg : Nat → Nat → List UInt8
  | 0, _ => []
  | k + 1, n => dg k (n / 10) ++ [UInt8.ofNat (48 + n % 10)]
theorem dg_length : ∀ k n, (dg k n).length = k
  | 0, _ => rfl
  | k + 1, n => by rw [dg, List.length_append, dg_length k]; rfl
theorem u8_dig {d : Nat} (h : d < 10) : (UInt8.ofNat (48 + d)).toNat = 48 + d := by
  rw [UInt8.toNat_ofNat']; omega
theorem dg_dig : ∀ k n, (dg k n).all isDig = true
  | 0, _ => rfl
  | k + 1, n => by
    rw [dg, List.all_append, dg_dig k, Bool.true_and]
    have h := u8_dig (d := n % 10) (by omega)
    simp only [List.all_cons, List.all_nil, Bool.and_true, isDig, h, decide_eq_true_iff]
    omega
theorem dg_val : ∀ k n, n < 10 ^ k → val (dg k n) = n
  | 0, n, h => by
    have : n = 0 := by simpa using h
    subst this; rfl
  | k + 1, n, h => by
    rw [dg, val, valFrom_snoc]
    have h1 := dg_val k (n / 10) (by rw [Nat.pow_succ] at h; omega)
    rw [val] at h1
    rw [h1, u8_dig (by omega)]
    omega
theorem dg_of : ∀ (k : Nat) (l : List UInt8), l.length = k → l.all isDig = true → dg k (val l) = l ∧ val l < 10 ^ k
  | 0, l, h, _ => by
    have := List.eq_nil_of_length_eq_zero h
    subst this; exact ⟨rfl, by decide⟩
  | k + 1, l, h, hd => by
    rcases List.eq_nil_or_concat l with rfl | ⟨m, c, rfl⟩
    · cases h
    rw [List.concat_eq_append] at *
    rw [List.all_append, Bool.and_eq_true] at hd
    simp only [List.all_cons, List.all_nil, Bool.and_true] at hd
    obtain ⟨h1, h2⟩ := hd
    have hm : m.length = k := by rw [List.length_append] at h; simpa using h
    obtain ⟨e1, e2⟩ := dg_of k m hm h1
    have hc : 48 ≤ c.toNat ∧ c.toNat ≤ 57 := by simpa [isDig] using h2
    rw [val, valFrom_snoc]
    change dg (k + 1) (10 * val m + (c.toNat - 48)) = m ++ [c] ∧ 10 * val m + (c.toNat - 48) < 10 ^ (k + 1)
    have e3 : (10 * val m + (c.toNat - 48)) / 10 = val m := by omega
    have e4 : (10 * val m + (c.toNat - 48)) % 10 = c.toNat - 48 := by omega
    refine ⟨?_, by rw [Nat.pow_succ]; omega⟩
    rw [dg, e3, e4, e1]
    congr 2
    rw [show 48 + (c.toNat - 48) = c.toNat from by omega]
    exact UInt8.ofNat_toNat
/-! ### sessions -/
structure Se where
  number : Int
  date : Int
  prev : ByteArray
  entries : List En
  stream : ByteArray
  sl : ByteArray
def enAt (X : List En) (i : Nat) : En := X.getD i en0
theorem enAt_get {X : List En} {i : Nat} (h : i < X.length) : enAt X i = X[i] := by
  rw [enAt, List.getD_eq_getElem?_getD, List.getElem?_eq_getElem h]; rfl
def fieldsE (n d : Int) (p : Nat) : Int := if n < 1 ∨ 255 < n ∨ d < 0 ∨ 1000000000 < d then 2 else if p ≠ 0 ∧ p ≠ 32 then 1 else 0
def entsE (X : List En) : Int := firstE (fun i => chkE (enAt X i)) X.length
def preL (n d : Int) (p : List UInt8) (z : Int) (g : List UInt8) (X : List En) : List UInt8 := numL n ++ numL d ++ strL p ++ numL z ++ strL g ++ numL X.length ++ X.flatMap bodyL
def signedL (s : Se) : List UInt8 := preL s.number s.date s.prev.data.toList s.stream.size (sumB s.stream.data.toList) s.entries
def sgnE (s : Se) : Int :=
  if fieldsE s.number s.date s.prev.size = 0 then
    (if 14680064 < s.stream.size ∨ 400 < s.entries.length then 6
     else if entsE s.entries = 0 then (if 2000 < s.sl.size ∨ 90000000 < (signedL s).length then 6 else 0) else entsE s.entries)
  else fieldsE s.number s.date s.prev.size
def restL (s : Se) : List UInt8 := signedL s ++ strL s.sl.data.toList
def withLen (l : List UInt8) : List UInt8 := dg 8 l.length ++ l
def textL (s : Se) : List UInt8 := withLen (restL s)

/-! ### reading -/
def lenR (l : List UInt8) : Except Int Int := if l.length < 8 then .error 4 else if (l.take 8).all isDig = true then .ok (val (l.take 8) + 8 : Nat) else .error 3
structure De where
  number : Int
  date : Int
  prev : List UInt8
  size : Int
  sum : List UInt8
  entries : List En
  sl : List UInt8
def aftE (x : De) : Int := if fieldsE x.number x.date x.prev.length = 0 then (if x.size < 0 ∨ 14680064 < x.size then 2 else if x.sum.length ≠ 32 then 1 else if 2000 < x.sl.length then 6 else 0) else fieldsE x.number x.date x.prev.length
def cnt4 (l : List UInt8) (a : Int) : Except Int (Int × Int) := do
  let (n, b) ← nmb l a
  if 400 < n then .error 6 else if n < 0 then .error 2 else .ok (n, b)
def finR (l : List UInt8) (x : De) (a : Int) : Except Int De := if a = l.length then (if aftE x = 0 then .ok x else .error (aftE x)) else .error 3
def bodyR (l : List UInt8) : Except Int De := do
  let (n, a1) ← nmb l 8
  let (d, a2) ← nmb l a1
  let (p, a3) ← txt l a2
  let (z, a4) ← nmb l a3
  let (g, a5) ← txt l a4
  let (c, a6) ← cnt4 l a5
  let (X, a7) ← rowR (decR l) a6 c.toNat
  let (s, a8) ← txt l a7
  finR l ⟨n, d, p, z, g, X, s⟩ a8
def dirR (l : List UInt8) : Except Int De := do
  let n ← lenR l
  if (l.length : Int) < n then .error 4 else if n < l.length then .error 3 else bodyR l

def bodyD (x : De) : List UInt8 := preL x.number x.date x.prev x.size x.sum x.entries ++ strL x.sl
theorem cnt4_ok {l : List UInt8} {a n b : Int} : cnt4 l a = .ok (n, b) ↔ (0 ≤ n ∧ n ≤ 400) ∧ Reads l a (numL n) b := by
  unfold cnt4
  rw [bind_ok]
  constructor
  · rintro ⟨⟨n', b'⟩, h1, h2⟩
    simp only at h2
    split at h2
    · cases h2
    split at h2
    · cases h2
    simp only [Except.ok.injEq, Prod.mk.injEq] at h2
    obtain ⟨rfl, rfl⟩ := h2
    exact ⟨by omega, (nmb_ok.1 h1).2⟩
  · rintro ⟨h1, h2⟩
    refine ⟨(n, b), nmb_ok.2 ⟨by omega, h2⟩, ?_⟩
    simp only
    rw [if_neg (by omega), if_neg (by omega)]
theorem decR_ok' (l : List UInt8) (a b : Int) (e : En) : decR l a = .ok (e, b) ↔ chkE e = 0 ∧ Reads l a (bodyL e) b := decR_ok
theorem finR_ok {l : List UInt8} {x y : De} {a : Int} : finR l x a = .ok y ↔ a = l.length ∧ aftE x = 0 ∧ x = y := by
  unfold finR
  split
  · split
    · simp [*]
    · simp [*]
  · simp [*]
/-- what is read, and where -/
def ValidD (x : De) : Prop := aftE x = 0 ∧ x.entries.length ≤ 400 ∧ (∀ e ∈ x.entries, chkE e = 0)
theorem aftE_parts {x : De} (h : aftE x = 0) : (1 ≤ x.number ∧ x.number ≤ 255) ∧ (0 ≤ x.date ∧ x.date ≤ 1000000000) ∧ (x.prev.length = 0 ∨ x.prev.length = 32) ∧ (0 ≤ x.size ∧ x.size ≤ 14680064) ∧ x.sum.length = 32 ∧ x.sl.length ≤ 2000 := by
  unfold aftE at h
  by_cases h0 : fieldsE x.number x.date x.prev.length = 0
  · rw [if_pos h0] at h
    unfold fieldsE at h0
    split at h0
    · cases h0
    split at h0
    · cases h0
    split at h
    · cases h
    split at h
    · cases h
    split at h
    · cases h
    omega
  · rw [if_neg h0] at h; exact absurd h h0
theorem bodyR_ok {l : List UInt8} {x : De} (hl : 8 ≤ l.length) : bodyR l = .ok x ↔ ValidD x ∧ l.drop 8 = bodyD x := by
  unfold bodyR
  simp only [bind_ok]
  constructor
  · rintro ⟨⟨n, a1⟩, h1, ⟨d, a2⟩, h2, ⟨p, a3⟩, h3, ⟨z, a4⟩, h4, ⟨g, a5⟩, h5, ⟨c, a6⟩, h6, ⟨X, a7⟩, h7, ⟨s, a8⟩, h8, h9⟩
    simp only at h2 h3 h4 h5 h6 h7 h8 h9
    obtain ⟨e1, e2, rfl⟩ := finR_ok.1 h9
    obtain ⟨c0, r6⟩ := cnt4_ok.1 h6
    have q6 := r6.nonneg
    obtain ⟨x1, x2, r7⟩ := (rowR_ok (P := fun e => chkE e = 0) (enc := bodyL) (decR_ok' l) (a := a6) (by omega) c.toNat X a7).1 h7
    have r1 := (nmb_ok.1 h1).2
    have r2 := (nmb_ok.1 h2).2
    have r3 := txt_ok.1 h3
    have r4 := (nmb_ok.1 h4).2
    have r5 := txt_ok.1 h5
    have r8 := txt_ok.1 h8
    refine ⟨⟨e2, by show X.length ≤ 400; omega, x2⟩, ?_⟩
    have hc : c = X.length := by omega
    subst hc
    have r := ((((((r1.trans r2).trans r3).trans r4).trans r5).trans r6).trans r7).trans r8
    obtain ⟨A, hA, hb, hle, hd⟩ := r
    have hA8 : A = 8 := by omega
    subst hA8
    rw [hd]
    have hlen : 8 + (((((((numL n ++ numL d) ++ strL p) ++ numL z) ++ strL g) ++ numL X.length) ++ X.flatMap bodyL) ++ strL s).length = l.length := by omega
    rw [hlen, List.drop_length, List.append_nil]
    rfl
  · rintro ⟨⟨v1, v2, v3⟩, h⟩
    obtain ⟨b1, b2, b3, b4, b5, b6⟩ := aftE_parts v1
    have r : Reads l 8 (bodyD x) ((8 + (bodyD x).length : Nat) : Int) := reads_of_eq (A := 8) (r := []) (by rw [List.append_nil]; exact h) hl
    have hlen : (8 + (bodyD x).length : Nat) = l.length := by
      have := congrArg List.length h
      rw [List.length_drop] at this
      omega
    rw [hlen] at r
    unfold bodyD preL at r
    obtain ⟨a7, r, r8⟩ := r.split
    obtain ⟨a6, r, r7⟩ := r.split
    obtain ⟨a5, r, r6⟩ := r.split
    obtain ⟨a4, r, r5⟩ := r.split
    obtain ⟨a3, r, r4⟩ := r.split
    obtain ⟨a2, r, r3⟩ := r.split
    obtain ⟨a1, r1, r2⟩ := r.split
    have q6 := r6.nonneg
    refine ⟨(x.number, a1), nmb_ok.2 ⟨by omega, r1⟩, (x.date, a2), nmb_ok.2 ⟨by omega, r2⟩, (x.prev, a3), txt_ok.2 r3, (x.size, a4), nmb_ok.2 ⟨by omega, r4⟩, (x.sum, a5), txt_ok.2 r5, ((x.entries.length : Int), a6), cnt4_ok.2 ⟨by omega, r6⟩,
      (x.entries, a7), (rowR_ok (P := fun e => chkE e = 0) (enc := bodyL) (decR_ok' l) (a := a6) (by omega) _ _ _).2 ⟨by simp, v3, r7⟩, (x.sl, (l.length : Int)), txt_ok.2 r8, ?_⟩
    exact finR_ok.2 ⟨rfl, v1, rfl⟩
theorem lenR_ok {l : List UInt8} {n : Int} : lenR l = .ok n ↔ 8 ≤ l.length ∧ (l.take 8).all isDig = true ∧ n = (val (l.take 8) + 8 : Nat) := by
  unfold lenR
  split
  · simp; omega
  split
  · rename_i h1 h2
    simp only [Except.ok.injEq]
    exact ⟨fun h => ⟨by omega, h2, h.symm⟩, fun h => h.2.2.symm⟩
  · rename_i h1 h2
    simp [h2]
theorem dirR_ok {l : List UInt8} {x : De} : dirR l = .ok x ↔ ValidD x ∧ l = withLen (bodyD x) ∧ (bodyD x).length < 100000000 := by
  unfold dirR
  rw [bind_ok]
  constructor
  · rintro ⟨n, h1, h2⟩
    obtain ⟨e1, e2, rfl⟩ := lenR_ok.1 h1
    split at h2
    · cases h2
    split at h2
    · cases h2
    obtain ⟨v, h3⟩ := (bodyR_ok e1).1 h2
    have ht : (l.take 8).length = 8 := by rw [List.length_take]; omega
    obtain ⟨d1, d2⟩ := dg_of 8 (l.take 8) ht e2
    have hb : (bodyD x).length = val (l.take 8) := by rw [← h3, List.length_drop]; omega
    refine ⟨v, ?_, by rw [hb]; simpa using d2⟩
    rw [withLen, hb, d1, ← h3, List.take_append_drop]
  · rintro ⟨v, rfl, hlt⟩
    have ht : (withLen (bodyD x)).take 8 = dg 8 (bodyD x).length := by
      rw [withLen, List.take_append_of_le_length (by rw [dg_length]; omega), List.take_of_length_le (by rw [dg_length]; omega)]
    have hd : (withLen (bodyD x)).drop 8 = bodyD x := by
      rw [withLen, List.drop_append, dg_length, List.drop_of_length_le (by rw [dg_length]; omega)]; simp
    have hl : (withLen (bodyD x)).length = 8 + (bodyD x).length := by rw [withLen, List.length_append, dg_length]
    have hv : val (dg 8 (bodyD x).length) = (bodyD x).length := dg_val 8 _ (by simpa using hlt)
    refine ⟨_, lenR_ok.2 ⟨by omega, by rw [ht]; exact dg_dig _ _, rfl⟩, ?_⟩
    rw [ht, hv, if_neg (by omega), if_neg (by omega)]
    exact (bodyR_ok (by omega)).2 ⟨v, hd⟩
theorem lenR_prefix {l : List UInt8} {m : Nat} (h : 8 ≤ m) : (l.take m).take 8 = l.take 8 := by rw [List.take_take, Nat.min_eq_left h]
/-! ### a session and what is read of it -/
def Se.de (s : Se) : De := ⟨s.number, s.date, s.prev.data.toList, s.stream.size, sumB s.stream.data.toList, s.entries, s.sl.data.toList⟩
theorem sgnE_parts {s : Se} (h : sgnE s = 0) : fieldsE s.number s.date s.prev.size = 0 ∧ s.stream.size ≤ 14680064 ∧ s.entries.length ≤ 400 ∧ (∀ e ∈ s.entries, chkE e = 0) ∧ s.sl.size ≤ 2000 ∧ (signedL s).length ≤ 90000000 := by
  unfold sgnE at h
  split at h
  · rename_i h0
    split at h
    · cases h
    rename_i h1
    split at h
    · rename_i h2
      split at h
      · cases h
      rename_i h3
      refine ⟨h0, by omega, by omega, fun e he => ?_, by omega, by omega⟩
      obtain ⟨i, hi, rfl⟩ := List.getElem_of_mem he
      have := firstE_all h2 i hi
      rwa [enAt_get hi] at this
    · rename_i h2; exact absurd h h2
  · rename_i h0; exact absurd h h0
theorem validD_de {s : Se} (h : sgnE s = 0) : ValidD s.de := by
  obtain ⟨h1, h2, h3, h4, h5, h6⟩ := sgnE_parts h
  refine ⟨?_, h3, h4⟩
  unfold aftE
  have e : fieldsE s.de.number s.de.date s.de.prev.length = 0 := h1
  rw [if_pos e, if_neg (by show ¬ ((s.stream.size : Int) < 0 ∨ 14680064 < (s.stream.size : Int)); omega), if_neg (by show ¬ (sumB s.stream.data.toList).length ≠ 32; rw [sumB_length]; decide), if_neg (by show ¬ 2000 < s.sl.data.toList.length; have : s.sl.data.toList.length = s.sl.size := rfl; omega)]
theorem restL_len {s : Se} (h : sgnE s = 0) : (restL s).length < 100000000 := by
  obtain ⟨h1, h2, h3, h4, h5, h6⟩ := sgnE_parts h
  unfold restL
  rw [List.length_append]
  have := strL_bd (u := s.sl.data.toList) (n := 2000) h5 (by decide)
  omega
theorem dir_round {s : Se} (h : sgnE s = 0) : dirR (textL s) = .ok s.de := dirR_ok.2 ⟨validD_de h, rfl, restL_len h⟩
end Go.Proofs.YtpkapcijgldhhaaGreatDoor

namespace Go.Proofs.YtpkapcijgldhhaaGreatDoor
open Go.RowKit Go.Shelf

/-- an entry with its two slices -/
structure ER where
  e : En
  va : Value
  vx : Value
def ER.vals (x : ER) : List Value := x.e.vals x.va x.vx
def er0 : ER := ⟨en0, .slice none 0 0, .slice none 0 0⟩
theorem er_len (x : ER) : x.vals.length = 7 := rfl
def EnRow (w : World) (v : Value) (X : List En) : Prop := ∃ L : List ER, L.map ER.e = X ∧ GRow 7 ER.vals er0 w v L ∧ ∀ x ∈ L, AtRow w x.va x.e.attrs ∧ ExRow w x.vx x.e.exts
theorem EnRow.below {w w' : World} {v : Value} {X : List En} (h : EnRow w v X) (hb : Below w.heap.size w w') : EnRow w' v X := by
  obtain ⟨L, h1, h2, h3⟩ := h
  exact ⟨L, h1, h2.below hb, fun x hx => ⟨(h3 x hx).1.below hb, (h3 x hx).2.below hb⟩⟩
theorem EnRow.nil (w : World) : EnRow w (.slice none 0 0) [] := ⟨[], rfl, GRow.nil w, fun x hx => by cases hx⟩
theorem EnRow.form {w : World} {v : Value} {X : List En} (h : EnRow w v X) : ∃ a c, v = .slice a X.length c := by
  obtain ⟨L, rfl, h2, _⟩ := h
  obtain ⟨a, c, e⟩ := h2.form
  exact ⟨a, c, by rw [e, List.length_map]⟩
theorem EnRow.len {w : World} {v : Value} {X : List En} (h : EnRow w v X) : X.length ≤ 9223372036854775807 := by
  obtain ⟨L, rfl, h2, _⟩ := h
  have := h2.1
  unfold maxLen at this
  rw [List.length_map]; exact this
theorem EnRow.get {w : World} {a : Option Addr} {c : Nat} {X : List En} (h : EnRow w (.slice a X.length c) X) {i : Nat} (hi : i < X.length) :
    ∃ b o va vx, a = some ⟨b, o, none⟩ ∧ b < w.heap.size ∧ AtRow w va (enAt X i).attrs ∧ ExRow w vx (enAt X i).exts ∧ w.rangeAt b (o + i * 7) ((enAt X i).vals va vx) := by
  obtain ⟨L, rfl, h2, h3⟩ := h
  rw [List.length_map] at hi h2
  have he : enAt (L.map ER.e) i = (L[i]).e := by rw [enAt_get (by rw [List.length_map]; exact hi), List.getElem_map]
  rcases h2.2 with ⟨rfl, _⟩ | ⟨_, b, o, cap, ev, _, _, hb, hG⟩
  · exact absurd hi (Nat.not_lt_zero _)
  · cases ev
    have hg := hG i hi
    rw [List.getD_eq_getElem?_getD, List.getElem?_eq_getElem hi] at hg
    have h4 := h3 L[i] (List.getElem_mem hi)
    rw [he]
    exact ⟨b, o, L[i].va, L[i].vx, rfl, hb, h4.1, h4.2, hg⟩
theorem en_cells {w : World} {b o : Nat} {e : En} {va vx : Value} (h : w.rangeAt b o (e.vals va vx)) :
    w.cell? ⟨b, o, none⟩ = some (.int .i64 e.kind) ∧ w.cell? ⟨b, o + 1, none⟩ = some (.string e.path) ∧ w.cell? ⟨b, o + 2, none⟩ = some va ∧ w.cell? ⟨b, o + 3, none⟩ = some (.string e.target) ∧ w.cell? ⟨b, o + 4, none⟩ = some (.int .i64 e.size) ∧ w.cell? ⟨b, o + 5, none⟩ = some (.string e.digest) ∧ w.cell? ⟨b, o + 6, none⟩ = some vx :=
  ⟨h 0 _ rfl, h 1 _ rfl, h 2 _ rfl, h 3 _ rfl, h 4 _ rfl, h 5 _ rfl, h 6 _ rfl⟩
/-- a row of entries of the call's own -/
def OwnA (base : Nat) (w : World) (x : ER) : Prop := OwnG base 192 2 At.vals w x.va x.e.attrs ∧ OwnG base 34 3 Ex.vals w x.vx x.e.exts
def OwnEn (base : Nat) (w : World) (v : Value) (X : List En) : Prop := ∃ L : List ER, L.map ER.e = X ∧ OwnG base 109 7 ER.vals w v L ∧ ∀ x ∈ L, OwnA base w x
theorem OwnA.row {base : Nat} {w : World} {x : ER} (h : OwnA base w x) : AtRow w x.va x.e.attrs ∧ ExRow w x.vx x.e.exts :=
  ⟨OwnG.row (n := 2) (f := At.vals) (d := at0) (fun _ => rfl) h.1, OwnG.row (n := 3) (f := Ex.vals) (d := ex0) (fun _ => rfl) h.2⟩
theorem OwnEn.row {base : Nat} {w : World} {v : Value} {X : List En} (h : OwnEn base w v X) : EnRow w v X := by
  obtain ⟨L, h1, h2, h3⟩ := h
  exact ⟨L, h1, OwnG.row (n := 7) (f := ER.vals) (d := er0) er_len h2, fun x hx => (h3 x hx).row⟩
theorem OwnEn.nil (base : Nat) (w : World) : OwnEn base w (.slice none 0 0) [] := ⟨[], rfl, World.ownsRow_nil _ _ _ _, fun x hx => by cases hx⟩
theorem OwnA.keep {base R : Nat} {w w' : World} {x : ER} (h : OwnA base w x) (hk : Keep R w w') (hR : R < base) : OwnA base w' x := ⟨owns_keep h.1 hk hR, owns_keep h.2 hk hR⟩
theorem OwnEn.keep {base R : Nat} {w w' : World} {v : Value} {X : List En} (h : OwnEn base w v X) (hk : Keep R w w') (hR : R < base) : OwnEn base w' v X := by
  obtain ⟨L, h1, h2, h3⟩ := h
  exact ⟨L, h1, owns_keep h2 hk hR, fun x hx => (h3 x hx).keep hk hR⟩
theorem OwnA.below {base : Nat} {w w' : World} {x : ER} (h : OwnA base w x) (hb : Below w.heap.size w w') : OwnA base w' x := ⟨owns_below h.1 hb, owns_below h.2 hb⟩
theorem OwnEn.below {base : Nat} {w w' : World} {v : Value} {X : List En} (h : OwnEn base w v X) (hb : Below w.heap.size w w') : OwnEn base w' v X := by
  obtain ⟨L, h1, h2, h3⟩ := h
  exact ⟨L, h1, owns_below h2 hb, fun x hx => (h3 x hx).below hb⟩
theorem OwnA.mono {base base' : Nat} {w : World} {x : ER} (h : OwnA base w x) (hb : base' ≤ base) : OwnA base' w x := ⟨owns_mono h.1 hb, owns_mono h.2 hb⟩
theorem OwnEn.mono {base base' : Nat} {w : World} {v : Value} {X : List En} (h : OwnEn base w v X) (hb : base' ≤ base) : OwnEn base' w v X := by
  obtain ⟨L, h1, h2, h3⟩ := h
  exact ⟨L, h1, owns_mono h2 hb, fun x hx => (h3 x hx).mono hb⟩
/-- stores below the base do no harm -/
theorem owns_setLow {w : World} {base : Nat} {e : TypeId} {size : Nat} {v : Value} {n : Nat} {xs : List Value} (h : w.ownsRow base e size v n xs) {E j : Nat} (hE : E < base) (u : Value) : (w.setCell ⟨E, j, none⟩ u).ownsRow base e size v n xs := by
  refine ⟨h.1, h.2.imp id fun ⟨g, cap, cur, e1, e2, hg, r⟩ => ⟨g, cap, cur, e1, e2, ?_, r⟩⟩
  simp only [World.setCell, Array.getElem?_modify]
  rw [if_neg (by omega)]; exact hg
theorem OwnEn.setLow {base : Nat} {w : World} {v : Value} {X : List En} (h : OwnEn base w v X) {E j : Nat} (hE : E < base) (u : Value) : OwnEn base (w.setCell ⟨E, j, none⟩ u) v X := by
  obtain ⟨L, h1, h2, h3⟩ := h
  exact ⟨L, h1, owns_setLow h2 hE u, fun x hx => ⟨owns_setLow (h3 x hx).1 hE u, owns_setLow (h3 x hx).2 hE u⟩⟩
theorem OwnEn.drew {base : Nat} {w : World} {v : Value} {X : List En} (h : OwnEn base w v X) : OwnEn base w.drew v X := h
theorem OwnEn.form {base : Nat} {w : World} {v : Value} {X : List En} (h : OwnEn base w v X) : ∃ a c, v = .slice a X.length c := h.row.form

/-! ### a reader: its string, the index or the error -/
def RS (T : TypeId) (W : World) (R : Nat) (s : ByteArray) : Except Int Int → Prop
  | .ok a => Box W R [.string s, .int .i64 a, .int .i64 0] T
  | .error x => x ≠ 0 ∧ ∃ a : Int, Box W R [.string s, .int .i64 a, .int .i64 x] T
theorem RS.keepE {T : TypeId} {W W' : World} {R B : Nat} {s : ByteArray} {st : Except Int Int} (h : RS T W R s st) (hb : Below B W W') (hR : R < B) : RS T W' R s st := by
  cases st with
  | ok a => exact Box.below' h hb hR
  | error x => obtain ⟨h1, a, h2⟩ := h; exact ⟨h1, a, Box.below' h2 hb hR⟩
theorem RS.setOther {T : TypeId} {W : World} {R E j : Nat} {s : ByteArray} {st : Except Int Int} (h : RS T W R s st) (hne : E ≠ R) (v : Value) : RS T (W.setCell ⟨E, j, none⟩ v) R s st := by
  cases st with
  | ok a => exact Box.setOther h hne v
  | error x => obtain ⟨h1, a, h2⟩ := h; exact ⟨h1, a, Box.setOther h2 hne v⟩
theorem RS.err {T : TypeId} {W : World} {R : Nat} {s : ByteArray} {st : Except Int Int} (h : RS T W R s st) : W.cell? ⟨R, 2, none⟩ = some (.int .i64 (errOf st)) ∧ W.frozen? ⟨R, 2, none⟩ = false := by
  cases st with
  | ok a => exact ⟨Box.cell h 2, Box.frozen h 2⟩
  | error x => obtain ⟨h1, a, h2⟩ := h; exact ⟨Box.cell h2 2, Box.frozen h2 2⟩
theorem RS.lt {T : TypeId} {W : World} {R : Nat} {s : ByteArray} {st : Except Int Int} (h : RS T W R s st) : R < W.heap.size := by
  cases st with
  | ok a => exact Box.lt h
  | error x => obtain ⟨h1, a, h2⟩ := h; exact h2.lt
def TxtS (T : TypeId) (r : Except Int (List UInt8 × Int)) (s : ByteArray) (R : Nat) (W : World) (e : Ending) (W' : World) : Prop := e = .returned (.string (bA' (stStr r))) ∧ RS T W' R s (stAt r) ∧ Keep R W W'
def NumS (T : TypeId) (r : Except Int (Int × Int)) (s : ByteArray) (R : Nat) (W : World) (e : Ending) (W' : World) : Prop := e = .returned (.int .i64 (stNum r)) ∧ RS T W' R s (stAt r) ∧ Keep R W W'
def stEn : Except Int (En × Int) → En
  | .ok p => p.1
  | .error _ => en0
def EntS (T : TypeId) (r : Except Int (En × Int)) (s : ByteArray) (R : Nat) (W : World) (e : Ending) (W' : World) : Prop := ∃ va vx, e = .returned (enV (stEn r) va vx) ∧ OwnA W.heap.size W' ⟨stEn r, va, vx⟩ ∧ RS T W' R s (stAt r) ∧ Keep R W W'
theorem decA_dec (s : ByteArray) (a : Int) : decA s a = decR s.data.toList a := by rw [decA_decR, decR_steps]
end Go.Proofs.YtpkapcijgldhhaaGreatDoor

namespace Go.Proofs.YtpkapcijgldhhaaGreatDoor
open Go.RowKit Go.Shelf

/-- what Great = 0 says of a session -/
def SmallS (s : Se) : Prop := s.prev.size ≤ 100 ∧ s.stream.size ≤ 1000 ∧ s.sl.size ≤ 2100 ∧ (s.entries.length ≤ 12 ∨ s.entries.length = 401) ∧ ∀ i, i < s.entries.length → SmallE (enAt s.entries i)
/-- the bounds of what came in -/
structure SeWf (s : Se) : Prop where
  number : -9223372036854775808 ≤ s.number ∧ s.number ≤ 9223372036854775807
  date : -9223372036854775808 ≤ s.date ∧ s.date ≤ 9223372036854775807
  prev : s.prev.size ≤ 9223372036854775807
  stream : s.stream.size ≤ 9223372036854775807
  sl : s.sl.size ≤ 9223372036854775807
  ents : ∀ i, EnWf (enAt s.entries i)
theorem fieldsE_bd {n d : Int} {p : Nat} (h : fieldsE n d p = 0) : (1 ≤ n ∧ n ≤ 255) ∧ (0 ≤ d ∧ d ≤ 1000000000) ∧ (p = 0 ∨ p = 32) := by
  unfold fieldsE at h
  split at h
  · cases h
  split at h
  · cases h
  omega
theorem take_flatE (X : List En) (k : Nat) (h : k < X.length) : (X.take (k + 1)).flatMap bodyL = (X.take k).flatMap bodyL ++ bodyL (enAt X k) := by
  rw [List.take_succ_eq_append_getElem h, List.flatMap_append, enAt_get h]; simp
theorem errE_ne {X : List En} {k : Nat} (hk : k < X.length) (h0 : firstE (fun i => chkE (enAt X i)) k = 0) (hc : chkE (enAt X k) ≠ 0) : entsE X = chkE (enAt X k) := firstE_stop h0 hc hk
theorem nz_dirR (l : List UInt8) : NZ (dirR l) := by
  have hL : NZ (lenR l) := nz_ite (NZ.err (by decide)) (nz_ite (NZ.ok _) (NZ.err (by decide)))
  have hC : ∀ a, NZ (cnt4 l a) := fun a => nz_bind (nz_nmb l a) fun _ => nz_ite (NZ.err (by decide)) (nz_ite (NZ.err (by decide)) (NZ.ok _))
  have hF : ∀ x a, NZ (finR l x a) := fun x a => by
    unfold finR
    split
    · split
      · exact NZ.ok _
      · exact NZ.err ‹_›
    · exact NZ.err (by decide)
  refine nz_bind hL fun n => nz_ite (NZ.err (by decide)) (nz_ite (NZ.err (by decide)) ?_)
  exact nz_bind (nz_nmb l _) fun _ => nz_bind (nz_nmb l _) fun _ => nz_bind (nz_txt l _) fun _ => nz_bind (nz_nmb l _) fun _ => nz_bind (nz_txt l _) fun _ => nz_bind (hC _) fun _ => nz_bind (nz_rowR (nz_decR l) _ _) fun _ => nz_bind (nz_txt l _) fun _ => hF _ _
end Go.Proofs.YtpkapcijgldhhaaGreatDoor

namespace Go.Proofs.YtpkapcijgldhhaaGreatDoor
open Go.ChangeShapes Go.WideShapes Go.ChangeAt Go.RowKit Go.Deep
theorem se_ens_cells : Tryz.prog.cellsOf 51 = 1 := by kernel_rfl
section
variable {H : Type} {enc : TypeId × Value → H} {w : World} {base : Nat}
def ErP (w : World) (x : ER) : Prop := (AtRow w x.va x.e.attrs ∧ ExRow w x.vx x.e.exts) ∧ EnWf x.e
theorem er0_p (w : World) : ErP w er0 := by
  refine ⟨⟨grow_nil w none 0 (fun _ => rfl), grow_nil w none 0 (fun _ => rfl)⟩, by decide, by decide, fun i => ?_, by decide, by decide, by decide, fun i => ?_⟩
  · show (atAt [] i).key.size ≤ _ ∧ (atAt [] i).value.size ≤ _
    rw [show atAt [] i = at0 from by simp [atAt]]; decide
  · show ExOk (exAt [] i)
    rw [show exAt [] i = ex0 from by simp [exAt]]; exact ex0_okE
end
end Go.Proofs.YtpkapcijgldhhaaGreatDoor
