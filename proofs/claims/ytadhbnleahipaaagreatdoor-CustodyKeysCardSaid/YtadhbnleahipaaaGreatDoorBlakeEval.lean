/-
  BLAKE2s for the kernel: words are natural numbers; and that this is the digest.
-/
import Derived.Test.YtadhbnleahipaaaGreatDoorBlakePlain
namespace Go.Proofs.YtadhbnleahipaaaGreatDoor

def a32 (a b : Nat) : Nat := Nat.mod (Nat.add a b) 4294967296
def rN (r s : Nat) (z : Nat) : Nat := Nat.lor (Nat.shiftRight z r) (Nat.mod (Nat.shiftLeft z s) 4294967296)
theorem a32_eq (a b : UInt32) : a32 a.toNat b.toNat = (a + b).toNat := (UInt32.toNat_add a b).symm
theorem x32_eq (a b : UInt32) : Nat.xor a.toNat b.toNat = (a ^^^ b).toNat := (UInt32.toNat_xor a b).symm
theorem r16_eq (z : UInt32) : rN 16 16 z.toNat = (rr16 z).toNat := by unfold rr16; rw [UInt32.toNat_or, UInt32.toNat_shiftRight, UInt32.toNat_shiftLeft]; rfl
theorem r12_eq (z : UInt32) : rN 12 20 z.toNat = (rr12 z).toNat := by unfold rr12; rw [UInt32.toNat_or, UInt32.toNat_shiftRight, UInt32.toNat_shiftLeft]; rfl
theorem r8_eq (z : UInt32) : rN 8 24 z.toNat = (rr8 z).toNat := by unfold rr8; rw [UInt32.toNat_or, UInt32.toNat_shiftRight, UInt32.toNat_shiftLeft]; rfl
theorem r7_eq (z : UInt32) : rN 7 25 z.toNat = (rr7 z).toNat := by unfold rr7; rw [UInt32.toNat_or, UInt32.toNat_shiftRight, UInt32.toNat_shiftLeft]; rfl
def gN {α : Type} (a b c d x y : Nat) (k : Nat → Nat → Nat → Nat → α) : α :=
  (fun a1 => (fun d1 => (fun c1 => (fun b1 => (fun a2 => (fun d2 => (fun c2 => k a2 (rN 7 25 (Nat.xor b1 c2)) c2 d2) (a32 c1 d2)) (rN 8 24 (Nat.xor d1 a2))) (a32 (a32 a1 b1) y)) (rN 12 20 (Nat.xor b c1))) (a32 c d1)) (rN 16 16 (Nat.xor d a1))) (a32 (a32 a b) x)
theorem gN_eq {α : Type} (a b c d x y : UInt32) (k : Nat → Nat → Nat → Nat → α) : gN a.toNat b.toNat c.toNat d.toNat x.toNat y.toNat k = k (mixA a b c d x y).toNat (mixB a b c d x y).toNat (mixC a b c d x y).toNat (mixD a b c d x y).toNat := by
  unfold gN
  simp only [a32_eq, x32_eq, r16_eq, r12_eq, r8_eq, r7_eq]
  rfl
def ap16 {α : Type} (K : Nat → Nat → Nat → Nat → Nat → Nat → Nat → Nat → Nat → Nat → Nat → Nat → Nat → Nat → Nat → Nat → α) (v : Nat → UInt32) : α := K (v 0).toNat (v 1).toNat (v 2).toNat (v 3).toNat (v 4).toNat (v 5).toNat (v 6).toNat (v 7).toNat (v 8).toNat (v 9).toNat (v 10).toNat (v 11).toNat (v 12).toNat (v 13).toNat (v 14).toNat (v 15).toNat
def q0N {α : Type} (x y : Nat) (K : Nat → Nat → Nat → Nat → Nat → Nat → Nat → Nat → Nat → Nat → Nat → Nat → Nat → Nat → Nat → Nat → α) : Nat → Nat → Nat → Nat → Nat → Nat → Nat → Nat → Nat → Nat → Nat → Nat → Nat → Nat → Nat → Nat → α := fun v0 v1 v2 v3 v4 v5 v6 v7 v8 v9 v10 v11 v12 v13 v14 v15 => gN v0 v4 v8 v12 x y fun a b c d => K a v1 v2 v3 b v5 v6 v7 c v9 v10 v11 d v13 v14 v15
theorem q0N_eq {α : Type} (x y : UInt32) (K : Nat → Nat → Nat → Nat → Nat → Nat → Nat → Nat → Nat → Nat → Nat → Nat → Nat → Nat → Nat → Nat → α) (v : Nat → UInt32) : ap16 (q0N x.toNat y.toNat K) v = ap16 K (mixed v 0 4 8 12 x y) := by
  unfold ap16 q0N
  rw [gN_eq]
  rfl
def q1N {α : Type} (x y : Nat) (K : Nat → Nat → Nat → Nat → Nat → Nat → Nat → Nat → Nat → Nat → Nat → Nat → Nat → Nat → Nat → Nat → α) : Nat → Nat → Nat → Nat → Nat → Nat → Nat → Nat → Nat → Nat → Nat → Nat → Nat → Nat → Nat → Nat → α := fun v0 v1 v2 v3 v4 v5 v6 v7 v8 v9 v10 v11 v12 v13 v14 v15 => gN v1 v5 v9 v13 x y fun a b c d => K v0 a v2 v3 v4 b v6 v7 v8 c v10 v11 v12 d v14 v15
theorem q1N_eq {α : Type} (x y : UInt32) (K : Nat → Nat → Nat → Nat → Nat → Nat → Nat → Nat → Nat → Nat → Nat → Nat → Nat → Nat → Nat → Nat → α) (v : Nat → UInt32) : ap16 (q1N x.toNat y.toNat K) v = ap16 K (mixed v 1 5 9 13 x y) := by
  unfold ap16 q1N
  rw [gN_eq]
  rfl
def q2N {α : Type} (x y : Nat) (K : Nat → Nat → Nat → Nat → Nat → Nat → Nat → Nat → Nat → Nat → Nat → Nat → Nat → Nat → Nat → Nat → α) : Nat → Nat → Nat → Nat → Nat → Nat → Nat → Nat → Nat → Nat → Nat → Nat → Nat → Nat → Nat → Nat → α := fun v0 v1 v2 v3 v4 v5 v6 v7 v8 v9 v10 v11 v12 v13 v14 v15 => gN v2 v6 v10 v14 x y fun a b c d => K v0 v1 a v3 v4 v5 b v7 v8 v9 c v11 v12 v13 d v15
theorem q2N_eq {α : Type} (x y : UInt32) (K : Nat → Nat → Nat → Nat → Nat → Nat → Nat → Nat → Nat → Nat → Nat → Nat → Nat → Nat → Nat → Nat → α) (v : Nat → UInt32) : ap16 (q2N x.toNat y.toNat K) v = ap16 K (mixed v 2 6 10 14 x y) := by
  unfold ap16 q2N
  rw [gN_eq]
  rfl
def q3N {α : Type} (x y : Nat) (K : Nat → Nat → Nat → Nat → Nat → Nat → Nat → Nat → Nat → Nat → Nat → Nat → Nat → Nat → Nat → Nat → α) : Nat → Nat → Nat → Nat → Nat → Nat → Nat → Nat → Nat → Nat → Nat → Nat → Nat → Nat → Nat → Nat → α := fun v0 v1 v2 v3 v4 v5 v6 v7 v8 v9 v10 v11 v12 v13 v14 v15 => gN v3 v7 v11 v15 x y fun a b c d => K v0 v1 v2 a v4 v5 v6 b v8 v9 v10 c v12 v13 v14 d
theorem q3N_eq {α : Type} (x y : UInt32) (K : Nat → Nat → Nat → Nat → Nat → Nat → Nat → Nat → Nat → Nat → Nat → Nat → Nat → Nat → Nat → Nat → α) (v : Nat → UInt32) : ap16 (q3N x.toNat y.toNat K) v = ap16 K (mixed v 3 7 11 15 x y) := by
  unfold ap16 q3N
  rw [gN_eq]
  rfl
def q4N {α : Type} (x y : Nat) (K : Nat → Nat → Nat → Nat → Nat → Nat → Nat → Nat → Nat → Nat → Nat → Nat → Nat → Nat → Nat → Nat → α) : Nat → Nat → Nat → Nat → Nat → Nat → Nat → Nat → Nat → Nat → Nat → Nat → Nat → Nat → Nat → Nat → α := fun v0 v1 v2 v3 v4 v5 v6 v7 v8 v9 v10 v11 v12 v13 v14 v15 => gN v0 v5 v10 v15 x y fun a b c d => K a v1 v2 v3 v4 b v6 v7 v8 v9 c v11 v12 v13 v14 d
theorem q4N_eq {α : Type} (x y : UInt32) (K : Nat → Nat → Nat → Nat → Nat → Nat → Nat → Nat → Nat → Nat → Nat → Nat → Nat → Nat → Nat → Nat → α) (v : Nat → UInt32) : ap16 (q4N x.toNat y.toNat K) v = ap16 K (mixed v 0 5 10 15 x y) := by
  unfold ap16 q4N
  rw [gN_eq]
  rfl
def q5N {α : Type} (x y : Nat) (K : Nat → Nat → Nat → Nat → Nat → Nat → Nat → Nat → Nat → Nat → Nat → Nat → Nat → Nat → Nat → Nat → α) : Nat → Nat → Nat → Nat → Nat → Nat → Nat → Nat → Nat → Nat → Nat → Nat → Nat → Nat → Nat → Nat → α := fun v0 v1 v2 v3 v4 v5 v6 v7 v8 v9 v10 v11 v12 v13 v14 v15 => gN v1 v6 v11 v12 x y fun a b c d => K v0 a v2 v3 v4 v5 b v7 v8 v9 v10 c d v13 v14 v15
theorem q5N_eq {α : Type} (x y : UInt32) (K : Nat → Nat → Nat → Nat → Nat → Nat → Nat → Nat → Nat → Nat → Nat → Nat → Nat → Nat → Nat → Nat → α) (v : Nat → UInt32) : ap16 (q5N x.toNat y.toNat K) v = ap16 K (mixed v 1 6 11 12 x y) := by
  unfold ap16 q5N
  rw [gN_eq]
  rfl
def q6N {α : Type} (x y : Nat) (K : Nat → Nat → Nat → Nat → Nat → Nat → Nat → Nat → Nat → Nat → Nat → Nat → Nat → Nat → Nat → Nat → α) : Nat → Nat → Nat → Nat → Nat → Nat → Nat → Nat → Nat → Nat → Nat → Nat → Nat → Nat → Nat → Nat → α := fun v0 v1 v2 v3 v4 v5 v6 v7 v8 v9 v10 v11 v12 v13 v14 v15 => gN v2 v7 v8 v13 x y fun a b c d => K v0 v1 a v3 v4 v5 v6 b c v9 v10 v11 v12 d v14 v15
theorem q6N_eq {α : Type} (x y : UInt32) (K : Nat → Nat → Nat → Nat → Nat → Nat → Nat → Nat → Nat → Nat → Nat → Nat → Nat → Nat → Nat → Nat → α) (v : Nat → UInt32) : ap16 (q6N x.toNat y.toNat K) v = ap16 K (mixed v 2 7 8 13 x y) := by
  unfold ap16 q6N
  rw [gN_eq]
  rfl
def q7N {α : Type} (x y : Nat) (K : Nat → Nat → Nat → Nat → Nat → Nat → Nat → Nat → Nat → Nat → Nat → Nat → Nat → Nat → Nat → Nat → α) : Nat → Nat → Nat → Nat → Nat → Nat → Nat → Nat → Nat → Nat → Nat → Nat → Nat → Nat → Nat → Nat → α := fun v0 v1 v2 v3 v4 v5 v6 v7 v8 v9 v10 v11 v12 v13 v14 v15 => gN v3 v4 v9 v14 x y fun a b c d => K v0 v1 v2 a b v5 v6 v7 v8 c v10 v11 v12 v13 d v15
theorem q7N_eq {α : Type} (x y : UInt32) (K : Nat → Nat → Nat → Nat → Nat → Nat → Nat → Nat → Nat → Nat → Nat → Nat → Nat → Nat → Nat → Nat → α) (v : Nat → UInt32) : ap16 (q7N x.toNat y.toNat K) v = ap16 K (mixed v 3 4 9 14 x y) := by
  unfold ap16 q7N
  rw [gN_eq]
  rfl
def rndN {α : Type} (m : Nat → Nat) (o0 o1 o2 o3 o4 o5 o6 o7 o8 o9 o10 o11 o12 o13 o14 o15 : Nat) (K : Nat → Nat → Nat → Nat → Nat → Nat → Nat → Nat → Nat → Nat → Nat → Nat → Nat → Nat → Nat → Nat → α) : Nat → Nat → Nat → Nat → Nat → Nat → Nat → Nat → Nat → Nat → Nat → Nat → Nat → Nat → Nat → Nat → α := q0N (m o0) (m o1) (q1N (m o2) (m o3) (q2N (m o4) (m o5) (q3N (m o6) (m o7) (q4N (m o8) (m o9) (q5N (m o10) (m o11) (q6N (m o12) (m o13) (q7N (m o14) (m o15) K)))))))
theorem rndN_eq {α : Type} (M : Nat → UInt32) (m : Nat → Nat) (hm : ∀ i, i < 16 → m i = (M i).toNat) (r : Nat) (K : Nat → Nat → Nat → Nat → Nat → Nat → Nat → Nat → Nat → Nat → Nat → Nat → Nat → Nat → Nat → Nat → α) (v : Nat → UInt32) : ap16 (rndN m ((order r).getD 0 0) ((order r).getD 1 0) ((order r).getD 2 0) ((order r).getD 3 0) ((order r).getD 4 0) ((order r).getD 5 0) ((order r).getD 6 0) ((order r).getD 7 0) ((order r).getD 8 0) ((order r).getD 9 0) ((order r).getD 10 0) ((order r).getD 11 0) ((order r).getD 12 0) ((order r).getD 13 0) ((order r).getD 14 0) ((order r).getD 15 0) K) v = ap16 K (mixes M r 8 v) := by
  unfold rndN
  simp only [hm _ (order_lt r _), q0N_eq, q1N_eq, q2N_eq, q3N_eq, q4N_eq, q5N_eq, q6N_eq, q7N_eq]
  rfl
def allN {α : Type} (m : Nat → Nat) (K : Nat → Nat → Nat → Nat → Nat → Nat → Nat → Nat → Nat → Nat → Nat → Nat → Nat → Nat → Nat → Nat → α) : Nat → Nat → Nat → Nat → Nat → Nat → Nat → Nat → Nat → Nat → Nat → Nat → Nat → Nat → Nat → Nat → α := rndN m 0 1 2 3 4 5 6 7 8 9 10 11 12 13 14 15 (rndN m 14 10 4 8 9 15 13 6 1 12 0 2 11 7 5 3 (rndN m 11 8 12 0 5 2 15 13 10 14 3 6 7 1 9 4 (rndN m 7 9 3 1 13 12 11 14 2 6 5 10 4 0 15 8 (rndN m 9 0 5 7 2 4 10 15 14 1 11 12 6 8 3 13 (rndN m 2 12 6 10 0 11 8 3 4 13 7 5 15 14 1 9 (rndN m 12 5 1 15 14 13 4 10 0 7 6 3 9 2 8 11 (rndN m 13 11 7 14 12 1 3 9 5 0 15 4 8 6 2 10 (rndN m 6 15 14 9 11 3 0 8 12 2 13 7 1 4 10 5 (rndN m 10 2 8 4 7 6 1 5 15 11 9 14 3 12 13 0 K)))))))))
theorem allN_eq {α : Type} (M : Nat → UInt32) (m : Nat → Nat) (hm : ∀ i, i < 16 → m i = (M i).toNat) (K : Nat → Nat → Nat → Nat → Nat → Nat → Nat → Nat → Nat → Nat → Nat → Nat → Nat → Nat → Nat → Nat → α) (v : Nat → UInt32) : ap16 (allN m K) v = ap16 K (rounds M 10 v) := by
  unfold allN
  refine (rndN_eq M m hm 0 _ _).trans ?_
  refine (rndN_eq M m hm 1 _ _).trans ?_
  refine (rndN_eq M m hm 2 _ _).trans ?_
  refine (rndN_eq M m hm 3 _ _).trans ?_
  refine (rndN_eq M m hm 4 _ _).trans ?_
  refine (rndN_eq M m hm 5 _ _).trans ?_
  refine (rndN_eq M m hm 6 _ _).trans ?_
  refine (rndN_eq M m hm 7 _ _).trans ?_
  refine (rndN_eq M m hm 8 _ _).trans ?_
  refine (rndN_eq M m hm 9 _ _).trans ?_
  rfl
def ap8 {α : Type} (K : Nat → Nat → Nat → Nat → Nat → Nat → Nat → Nat → α) (h : Nat → UInt32) : α := K (h 0).toNat (h 1).toNat (h 2).toNat (h 3).toNat (h 4).toNat (h 5).toNat (h 6).toNat (h 7).toNat
/-- t0: the count's low word (below 2^32 as long as the strings are short); f0: the last word of the finalization -/
def compN {α : Type} (m : Nat → Nat) (n f : Nat) (K : Nat → Nat → Nat → Nat → Nat → Nat → Nat → Nat → α) : Nat → Nat → Nat → Nat → Nat → Nat → Nat → Nat → α := fun h0 h1 h2 h3 h4 h5 h6 h7 =>
  allN m (fun v0 v1 v2 v3 v4 v5 v6 v7 v8 v9 v10 v11 v12 v13 v14 v15 => K (Nat.xor (Nat.xor h0 v0) v8) (Nat.xor (Nat.xor h1 v1) v9) (Nat.xor (Nat.xor h2 v2) v10) (Nat.xor (Nat.xor h3 v3) v11) (Nat.xor (Nat.xor h4 v4) v12) (Nat.xor (Nat.xor h5 v5) v13) (Nat.xor (Nat.xor h6 v6) v14) (Nat.xor (Nat.xor h7 v7) v15)) h0 h1 h2 h3 h4 h5 h6 h7 1779033703 3144134277 1013904242 2773480762 (Nat.xor 1359893119 (Nat.mod n 4294967296)) (Nat.xor 2600822924 (Nat.mod (Nat.div n 4294967296) 4294967296)) f 1541459225
theorem compN_eq {α : Type} (s : List UInt8) (m : Nat → Nat) (hm : ∀ i, i < 16 → m i = (mword s i).toNat) (n : Nat) (last : Bool) (K : Nat → Nat → Nat → Nat → Nat → Nat → Nat → Nat → α) (h : Nat → UInt32) :
    ap8 (compN m n (if last then 3766232660 else 528734635) K) h = ap8 K (compress h s n last) := by
  have e := allN_eq (mword s) m hm (fun v0 v1 v2 v3 v4 v5 v6 v7 v8 v9 v10 v11 v12 v13 v14 v15 => K (Nat.xor (Nat.xor (h 0).toNat v0) v8) (Nat.xor (Nat.xor (h 1).toNat v1) v9) (Nat.xor (Nat.xor (h 2).toNat v2) v10) (Nat.xor (Nat.xor (h 3).toNat v3) v11) (Nat.xor (Nat.xor (h 4).toNat v4) v12) (Nat.xor (Nat.xor (h 5).toNat v5) v13) (Nat.xor (Nat.xor (h 6).toNat v6) v14) (Nat.xor (Nat.xor (h 7).toNat v7) v15)) (start h n last)
  have e12 : (start h n last 12).toNat = Nat.xor 1359893119 (Nat.mod n 4294967296) := by
    show (iv 4 ^^^ UInt32.ofNat n).toNat = _
    rw [UInt32.toNat_xor, UInt32.toNat_ofNat']; rfl
  have e13 : (start h n last 13).toNat = Nat.xor 2600822924 (Nat.mod (Nat.div n 4294967296) 4294967296) := by
    show (iv 5 ^^^ UInt32.ofNat (n / 4294967296)).toNat = _
    rw [UInt32.toNat_xor, UInt32.toNat_ofNat']; rfl
  have e14 : (start h n last 14).toNat = (if last then 3766232660 else 528734635) := by
    show (if last then ~~~ (iv 6) else iv 6).toNat = _
    cases last <;> rfl
  unfold ap16 at e
  rw [e12, e13, e14] at e
  unfold ap8 compN
  refine Eq.trans ?_ (e.trans ?_)
  · rfl
  · simp only [x32_eq]
    rfl
theorem compN_last {α : Type} (s : List UInt8) (m : Nat → Nat) (hm : ∀ i, i < 16 → m i = (mword s i).toNat) (n : Nat) (K : Nat → Nat → Nat → Nat → Nat → Nat → Nat → Nat → α) (h : Nat → UInt32) : ap8 (compN m n 3766232660 K) h = ap8 K (compress h s n true) := by
  have e := compN_eq s m hm n true K h
  rw [if_pos rfl] at e
  exact e
theorem compN_more {α : Type} (s : List UInt8) (m : Nat → Nat) (hm : ∀ i, i < 16 → m i = (mword s i).toNat) (n : Nat) (K : Nat → Nat → Nat → Nat → Nat → Nat → Nat → Nat → α) (h : Nat → UInt32) : ap8 (compN m n 528734635 K) h = ap8 K (compress h s n false) := by
  have e := compN_eq s m hm n false K h
  rw [if_neg (by decide)] at e
  exact e
def wordN (l : List Nat) (i : Nat) : Nat := Nat.lor (Nat.lor (Nat.lor (l.getD (Nat.mul 4 i) 0) (Nat.shiftLeft (l.getD (Nat.add (Nat.mul 4 i) 1) 0) 8)) (Nat.shiftLeft (l.getD (Nat.add (Nat.mul 4 i) 2) 0) 16)) (Nat.shiftLeft (l.getD (Nat.add (Nat.mul 4 i) 3) 0) 24)
def bN (s : List UInt8) : List Nat := s.map UInt8.toNat
theorem bN_getD (s : List UInt8) (i : Nat) : (bN s).getD i 0 = (s.getD i 0).toNat := by
  unfold bN
  rw [List.getD_eq_getElem?_getD, List.getD_eq_getElem?_getD, List.getElem?_map]
  cases s[i]? <;> rfl
theorem shl_lt {b k : Nat} (hb : b < 256) (hk : k ≤ 24) : b <<< k % 4294967296 = b <<< k := by
  rw [Nat.shiftLeft_eq]
  refine Nat.mod_eq_of_lt (Nat.lt_of_lt_of_le (Nat.mul_lt_mul_of_lt_of_le hb (Nat.pow_le_pow_right (by decide) hk) (Nat.pow_pos (by decide))) (by decide))
theorem wordN_eq (s : List UInt8) (i : Nat) : wordN (bN s) i = (mword s i).toNat := by
  unfold wordN mword
  rw [UInt32.toNat_or, UInt32.toNat_or, UInt32.toNat_or, UInt32.toNat_shiftLeft, UInt32.toNat_shiftLeft, UInt32.toNat_shiftLeft]
  simp only [UInt8.toNat_toUInt32]
  rw [bN_getD, bN_getD, bN_getD, bN_getD]
  rw [show ((8 : UInt32).toNat % 32) = 8 from rfl, show ((16 : UInt32).toNat % 32) = 16 from rfl, show ((24 : UInt32).toNat % 32) = 24 from rfl]
  rw [shl_lt (UInt8.toNat_lt _) (by decide), shl_lt (UInt8.toNat_lt _) (by decide), shl_lt (UInt8.toNat_lt _) (by decide)]
  rfl
theorem mword_congr {s t : List UInt8} {i : Nat} (h : ∀ j, j < 4 → s.getD (4 * i + j) 0 = t.getD (4 * i + j) 0) : mword s i = mword t i := by
  unfold mword
  have h0 := h 0 (by decide); have h1 := h 1 (by decide); have h2 := h 2 (by decide); have h3 := h 3 (by decide)
  rw [Nat.add_zero] at h0
  rw [h0, h1, h2, h3]
theorem getD_pad (s : List UInt8) (j : Nat) : (pad s).getD j 0 = s.getD j 0 := by
  unfold pad
  rw [List.getD_eq_getElem?_getD, List.getD_eq_getElem?_getD]
  by_cases h : j < s.length
  · rw [List.getElem?_append_left h]
  · rw [List.getElem?_append_right (by omega), List.getElem?_eq_none (by omega : s.length ≤ j), List.getElem?_replicate]
    split <;> rfl
theorem getD_take (s : List UInt8) {j : Nat} (h : j < 64) : (s.take 64).getD j 0 = s.getD j 0 := by
  rw [List.getD_eq_getElem?_getD, List.getD_eq_getElem?_getD, List.getElem?_take_of_lt h]
def absN {α : Type} (K : Nat → Nat → Nat → Nat → Nat → Nat → Nat → Nat → α) : Nat → Nat → List Nat → Nat → Nat → Nat → Nat → Nat → Nat → Nat → Nat → α
  | 0, _, _ => K
  | f + 1, n, l => bif Nat.ble l.length 64 then compN (wordN l) (Nat.add n l.length) 3766232660 K else compN (wordN l) (Nat.add n 64) 528734635 (absN K f (Nat.add n 64) (l.drop 64))
theorem bN_length (s : List UInt8) : (bN s).length = s.length := List.length_map _
theorem bN_drop (s : List UInt8) (k : Nat) : (bN s).drop k = bN (s.drop k) := by unfold bN; rw [List.map_drop]
theorem absN_eq {α : Type} (K : Nat → Nat → Nat → Nat → Nat → Nat → Nat → Nat → α) : ∀ (f n : Nat) (s : List UInt8) (h : Nat → UInt32), ap8 (absN K f n (bN s)) h = ap8 K (absorb f h n s)
  | 0, _, _, _ => rfl
  | f + 1, n, s, h => by
    unfold absN absorb
    rw [bN_length]
    by_cases hl : s.length ≤ 64
    · rw [Nat.ble_eq_true_of_le hl, if_pos hl, cond_true]
      have e := compN_last (pad s) (wordN (bN s)) (fun i _ => by rw [wordN_eq]; exact congrArg UInt32.toNat (mword_congr fun j _ => (getD_pad s _).symm)) (n + s.length) K h
      exact e
    · have hb : Nat.ble s.length 64 = false := by
        cases hx : Nat.ble s.length 64
        · rfl
        · exact absurd (Nat.le_of_ble_eq_true hx) hl
      rw [hb, if_neg hl, cond_false]
      have e := compN_more (s.take 64) (wordN (bN s)) (fun i hi => by rw [wordN_eq]; exact congrArg UInt32.toNat (mword_congr fun j hj => (getD_take s (by omega)).symm)) (n + 64) (absN K f (Nat.add n 64) (List.drop 64 (bN s))) h
      refine e.trans ?_
      rw [bN_drop]
      exact absN_eq K f (n + 64) (s.drop 64) _
def byN (w : Nat) (l : List Nat) : List Nat := Nat.mod w 256 :: Nat.mod (Nat.shiftRight w 8) 256 :: Nat.mod (Nat.shiftRight w 16) 256 :: Nat.mod (Nat.shiftRight w 24) 256 :: l
def hashN (l : List Nat) : List Nat := absN (fun h0 h1 h2 h3 _ _ _ _ => byN h0 (byN h1 (byN h2 (byN h3 [])))) (Nat.succ l.length) 0 l 1795745351 3144134277 1013904242 2773480762 1359893119 2600822924 528734635 1541459225
theorem byN_eq (x : UInt32) (l : List UInt8) : byN x.toNat (bN l) = bN (wbytes x ++ l) := by
  unfold byN bN wbytes
  simp only [List.cons_append, List.nil_append, List.map_cons]
  have e : ∀ y : UInt32, y.toUInt8.toNat = y.toNat % 256 := fun y => by rw [UInt32.toNat_toUInt8]
  rw [e, e, e, e, UInt32.toNat_shiftRight, UInt32.toNat_shiftRight, UInt32.toNat_shiftRight]
  rfl
theorem hashN_eq (s : List UInt8) : hashN (bN s) = bN ((sumB s).take 16) := by
  have e := absN_eq (fun h0 h1 h2 h3 _ _ _ _ => byN h0 (byN h1 (byN h2 (byN h3 [])))) (s.length + 1) 0 s h0
  unfold hashN
  rw [bN_length]
  refine Eq.trans ?_ (e.trans ?_)
  · rfl
  · unfold ap8 sumB
    dsimp only
    rw [show ([] : List Nat) = bN [] from rfl, byN_eq, byN_eq, byN_eq, byN_eq]
    rfl
theorem bN_inj {s t : List UInt8} (h : bN s = bN t) : s = t := by
  unfold bN at h
  exact List.map_inj_right (fun _ _ e => UInt8.toNat_inj.1 e) |>.1 h
end Go.Proofs.YtadhbnleahipaaaGreatDoor
