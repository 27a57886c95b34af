/-
  Entries as plain data: their check, their encoding, their decoding.
-/
import Derived.Test.YtpkapcijgldhhaaGreatDoorEntPlain
import Derived.Lib.Bytealg
namespace Go.Proofs.YtpkapcijgldhhaaGreatDoor

/-- the first error of a row of n -/
def firstE (f : Nat → Int) : Nat → Int
  | 0 => 0
  | n + 1 => if firstE f n = 0 then f n else firstE f n
theorem firstE_stop {f : Nat → Int} {k : Nat} (h : firstE f k = 0) (hk : f k ≠ 0) : ∀ {n : Nat}, k < n → firstE f n = f k := by
  intro n hn
  induction n with
  | zero => omega
  | succ n ih =>
    rw [firstE]
    by_cases e : k = n
    · subst e; rw [if_pos h]
    · rw [ih (by omega), if_neg hk]
theorem firstE_next {f : Nat → Int} {k : Nat} (h : firstE f k = 0) (hk : f k = 0) : firstE f (k + 1) = 0 := by rw [firstE, if_pos h, hk]
theorem firstE_all {f : Nat → Int} : ∀ {n : Nat}, firstE f n = 0 → ∀ k, k < n → f k = 0 := by
  intro n
  induction n with
  | zero => intro _ k hk; omega
  | succ n ih =>
    intro h k hk
    rw [firstE] at h
    split at h
    · rename_i h0
      by_cases e : k = n
      · subst e; exact h
      · exact ih h0 k (by omega)
    · rename_i h0; exact absurd h h0
theorem firstE_zero {f : Nat → Int} : ∀ {n : Nat}, (∀ k, k < n → f k = 0) → firstE f n = 0 := by
  intro n
  induction n with
  | zero => intro _; rfl
  | succ n ih => intro h; exact firstE_next (ih fun k hk => h k (by omega)) (h n (by omega))

structure At where
  key : ByteArray
  value : ByteArray
structure Ex where
  s : Int
  o : Int
  l : Int
structure En where
  kind : Int
  path : ByteArray
  attrs : List At
  target : ByteArray
  size : Int
  digest : ByteArray
  exts : List Ex
def at0 : At := ⟨ByteArray.empty, ByteArray.empty⟩
def ex0 : Ex := ⟨0, 0, 0⟩
def en0 : En := ⟨0, ByteArray.empty, [], ByteArray.empty, 0, ByteArray.empty, []⟩
def atAt (A : List At) (i : Nat) : At := A.getD i at0
def exAt (X : List Ex) (i : Nat) : Ex := X.getD i ex0
theorem atAt_get {A : List At} {i : Nat} (h : i < A.length) : atAt A i = A[i] := by
  rw [atAt, List.getD_eq_getElem?_getD, List.getElem?_eq_getElem h]; rfl
theorem exAt_get {X : List Ex} {i : Nat} (h : i < X.length) : exAt X i = X[i] := by
  rw [exAt, List.getD_eq_getElem?_getD, List.getElem?_eq_getElem h]; rfl

/-! ### the check -/
def keyB (l : List UInt8) : Bool := decide (1 ≤ l.length) && decide (l.length ≤ 32) && l.all okC
def attrOne (k v : ByteArray) : Int := if keyB k.data.toList = false then 7 else if 64 < v.size then 6 else 0
def attrTwo (p k : ByteArray) : Int := if Lib.compareBytes p.data.toList k.data.toList = 0 then 8 else if Lib.compareBytes p.data.toList k.data.toList = 1 then 14 else 0
def attrE (A : List At) (i : Nat) : Int :=
  if attrOne (atAt A i).key (atAt A i).value = 0 then (if i = 0 then 0 else attrTwo (atAt A (i - 1)).key (atAt A i).key) else attrOne (atAt A i).key (atAt A i).value
def attrsE (A : List At) : Int := if 16 < A.length then 6 else firstE (attrE A) A.length
def nameL (kind : Int) : List UInt8 :=
  if kind = 1 then [102, 105, 108, 101] else if kind = 2 then [100, 105, 114] else if kind = 3 then [108, 105, 110, 107] else if kind = 4 then [114, 101, 109, 111, 118, 101]
  else if kind = 5 then [104, 111, 108, 100] else if kind = 6 then [114, 101, 108, 101, 97, 115, 101] else []
def targetB (kind : Int) (t : List UInt8) : Bool := if kind = 3 then decide (1 ≤ t.length) && decide (t.length ≤ 200) else if kind = 5 then dateB t else t.isEmpty
def exOk (x : Ex) : Bool := !(decide (x.s < 0) || decide (255 < x.s) || decide (x.o < 0) || decide (2147483647 < x.o) || decide (x.l < 1) || decide (65536 < x.l) || (decide (x.s = 0) && decide (x.o ≠ 0)))
def exE (kind : Int) (X : List Ex) (i : Nat) : Int := if kind = 1 then (if exOk (exAt X i) then 0 else 2) else 1
def exSum (X : List Ex) : Int := (X.map Ex.l).sum
def sizeE (kind size : Int) (d : Nat) : Int :=
  if size < 0 ∨ (if kind = 1 then 65536 else 0) < size then 2 else if d ≠ (if kind = 1 then 32 else 0) then 1 else 0
def contE (kind size : Int) (d : Nat) (X : List Ex) : Int :=
  if sizeE kind size d = 0 then (if firstE (exE kind X) X.length = 0 then (if exSum X = size then 0 else 1) else firstE (exE kind X) X.length) else sizeE kind size d
def chkE (e : En) : Int :=
  if e.kind < 1 ∨ 6 < e.kind then 10
  else if pathE e.path.data.toList = 0 then
    (if e.path.data.toList = [] ∧ e.kind < 5 then 1
     else if attrsE e.attrs = 0 then (if (0 < e.attrs.length ∧ 3 < e.kind) ∨ targetB e.kind e.target.data.toList = false then 1 else contE e.kind e.size e.digest.size e.exts)
     else attrsE e.attrs)
  else pathE e.path.data.toList

/-! ### the encoding -/
def atL (a : At) : List UInt8 := strL a.key.data.toList ++ strL a.value.data.toList
def exL (x : Ex) : List UInt8 := numL x.s ++ numL x.o ++ numL x.l
def headL (e : En) : List UInt8 := strL (nameL e.kind) ++ strL e.path.data.toList ++ numL e.attrs.length ++ e.attrs.flatMap atL ++ strL e.target.data.toList
def bodyL (e : En) : List UInt8 := strL (headL e) ++ numL e.size ++ strL e.digest.data.toList ++ numL e.exts.length ++ e.exts.flatMap exL

/-! ### the decoding: up to the first error -/
def txt (l : List UInt8) (a : Int) : Except Int (List UInt8 × Int) := if (rdStr l a).2.2 = 0 then .ok ((rdStr l a).1, (rdStr l a).2.1) else .error (rdStr l a).2.2
def nmb (l : List UInt8) (a : Int) : Except Int (Int × Int) := if (rdNum l a).2.2 = 0 then .ok ((rdNum l a).1, (rdNum l a).2.1) else .error (rdNum l a).2.2
def cnt (most : Int) (l : List UInt8) (a : Int) : Except Int (Int × Int) := do
  let (n, b) ← nmb l a
  if n < 0 ∨ most < n then .error 2 else .ok (n, b)
def bA' (l : List UInt8) : ByteArray := ⟨l.toArray⟩
def atR (l : List UInt8) (a : Int) : Except Int (At × Int) := do
  let (k, b) ← txt l a
  let (v, c) ← txt l b
  .ok (⟨bA' k, bA' v⟩, c)
def exR (l : List UInt8) (a : Int) : Except Int (Ex × Int) := do
  let (s, b) ← nmb l a
  let (o, c) ← nmb l b
  let (n, d) ← nmb l c
  .ok (⟨s, o, n⟩, d)
def rowR {α : Type} (f : Int → Except Int (α × Int)) (a : Int) : Nat → Except Int (List α × Int)
  | 0 => .ok ([], a)
  | k + 1 => do
    let (A, b) ← rowR f a k
    let (x, c) ← f b
    .ok (A ++ [x], c)
def kindOf (l : List UInt8) : Int :=
  if l = nameL 1 then 1 else if l = nameL 2 then 2 else if l = nameL 3 then 3 else if l = nameL 4 then 4 else if l = nameL 5 then 5 else if l = nameL 6 then 6 else 0
structure Hd where
  kind : Int
  path : ByteArray
  attrs : List At
  target : ByteArray
def headR (l : List UInt8) : Except Int Hd := do
  let (name, a) ← txt l 0
  if kindOf name = 0 then .error 3 else
  let (p, b) ← txt l a
  let (n, c) ← cnt 400 l b
  let (A, d) ← rowR (atR l) c n.toNat
  let (t, e) ← txt l d
  if e = l.length then .ok ⟨kindOf name, bA' p, A, bA' t⟩ else .error 3
def decR (l : List UInt8) (a : Int) : Except Int (En × Int) := do
  let (h, b) ← txt l a
  let x ← headR h
  let (z, c) ← nmb l b
  let (g, d) ← txt l c
  let (n, e) ← cnt 65536 l d
  let (X, f) ← rowR (exR l) e n.toNat
  let y : En := ⟨x.kind, x.path, x.attrs, x.target, z, bA' g, X⟩
  if chkE y = 0 then .ok (y, f) else .error (chkE y)
end Go.Proofs.YtpkapcijgldhhaaGreatDoor
