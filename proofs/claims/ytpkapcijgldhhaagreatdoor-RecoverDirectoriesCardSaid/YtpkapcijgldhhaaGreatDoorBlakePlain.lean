/-
  BLAKE2s in plain words: the compression of sixteen message words, and the digest of a list of bytes.
-/
import Derived.Test.YtpkapcijgldhhaaGreatDoorBlakeConst
namespace Go.Proofs.YtpkapcijgldhhaaGreatDoor

/-- the message word i of a block -/
def mword (s : List UInt8) (i : Nat) : UInt32 := (s.getD (4 * i) 0).toUInt32 ||| (s.getD (4 * i + 1) 0).toUInt32 <<< 8 ||| (s.getD (4 * i + 2) 0).toUInt32 <<< 16 ||| (s.getD (4 * i + 3) 0).toUInt32 <<< 24
/-- the sixteen words ahead of the rounds -/
def start (h : Nat → UInt32) (n : Nat) (last : Bool) (i : Nat) : UInt32 :=
  if i < 8 then h i else if i = 12 then iv 4 ^^^ UInt32.ofNat n else if i = 13 then iv 5 ^^^ UInt32.ofNat (n / 4294967296) else if i = 14 then (if last then ~~~ (iv 6) else iv 6) else iv (i - 8)
/-- one mixing: round r, number k -/
def mix1 (m : Nat → UInt32) (r k : Nat) (v : Nat → UInt32) : Nat → UInt32 :=
  mixed v (quad k).1 (quad k).2.1 (quad k).2.2.1 (quad k).2.2.2 (m ((order r).getD (2 * k) 0)) (m ((order r).getD (2 * k + 1) 0))
/-- the first k mixings of round r -/
def mixes (m : Nat → UInt32) (r : Nat) : Nat → (Nat → UInt32) → Nat → UInt32
  | 0, v => v
  | k + 1, v => mix1 m r k (mixes m r k v)
/-- the first r rounds -/
def rounds (m : Nat → UInt32) : Nat → (Nat → UInt32) → Nat → UInt32
  | 0, v => v
  | r + 1, v => mixes m r 8 (rounds m r v)
def compress (h : Nat → UInt32) (s : List UInt8) (n : Nat) (last : Bool) (i : Nat) : UInt32 :=
  h i ^^^ rounds (mword s) 10 (start h n last) i ^^^ rounds (mword s) 10 (start h n last) (i + 8)
def h0 (i : Nat) : UInt32 := if i = 0 then iv 0 ^^^ 0x01010020 else iv i
def pad (s : List UInt8) : List UInt8 := s ++ List.replicate (64 - s.length) 0
/-- the state behind a list of bytes of which n have been read -/
def absorb : Nat → (Nat → UInt32) → Nat → List UInt8 → Nat → UInt32
  | 0, h, _, _ => h
  | f + 1, h, n, s => if s.length ≤ 64 then compress h (pad s) (n + s.length) true else absorb f (compress h (s.take 64) (n + 64) false) (n + 64) (s.drop 64)
def wbytes (x : UInt32) : List UInt8 := [x.toUInt8, (x >>> 8).toUInt8, (x >>> 16).toUInt8, (x >>> 24).toUInt8]
def hbytes (h : Nat → UInt32) : Nat → List UInt8
  | 0 => []
  | k + 1 => hbytes h k ++ wbytes (h k)
/-- the digest -/
def sumB (s : List UInt8) : List UInt8 := hbytes (absorb (s.length + 1) h0 0 s) 8
theorem hbytes_length (h : Nat → UInt32) : ∀ k, (hbytes h k).length = 4 * k
  | 0 => rfl
  | k + 1 => by rw [hbytes, List.length_append, hbytes_length h k]; simp [wbytes]; omega
theorem sumB_length (s : List UInt8) : (sumB s).length = 32 := hbytes_length _ _
/-- only the first sixteen words count -/
theorem mixed_congr {f g : Nat → UInt32} (h : ∀ i, i < 16 → f i = g i) {qa qb qc qd : Nat} (ha : qa < 16) (hb : qb < 16) (hc : qc < 16) (hd : qd < 16) (x y : UInt32) : ∀ i, i < 16 → mixed f qa qb qc qd x y i = mixed g qa qb qc qd x y i := by
  intro i hi
  unfold mixed
  rw [h qa ha, h qb hb, h qc hc, h qd hd, h i hi]
theorem quad_lt (k : Nat) : (quad k).1 < 4 ∧ 4 ≤ (quad k).2.1 ∧ (quad k).2.1 < 8 ∧ 8 ≤ (quad k).2.2.1 ∧ (quad k).2.2.1 < 12 ∧ 12 ≤ (quad k).2.2.2 ∧ (quad k).2.2.2 < 16 := by
  unfold quad; split <;> decide
theorem order_lt (r j : Nat) : (order r).getD j 0 < 16 := by
  have h : ∀ l : List Nat, (∀ x ∈ l, x < 16) → l.getD j 0 < 16 := fun l hl => by
    rw [List.getD_eq_getElem?_getD]
    cases h : l[j]? with
    | none => decide
    | some x => exact hl x (List.mem_of_getElem? h)
  unfold order; split <;> exact h _ (by decide)
end Go.Proofs.YtpkapcijgldhhaaGreatDoor
