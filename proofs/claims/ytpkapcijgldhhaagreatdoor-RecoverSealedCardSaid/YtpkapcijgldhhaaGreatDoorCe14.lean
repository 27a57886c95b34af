/-
  
  BLAKE2s in plain words: the compression of sixteen message words, and the digest of a list of bytes.
  Directory texts as plain data: the check of a session, its text, the reading of a text.
-/
import Derived.Test.YtpkapcijgldhhaaGreatDoorCe13
import Derived.Deep.QuietTactic
import Derived.BigQuiet
import Derived.StillTailTactics
import Derived.Handy
import Derived.Deep.MidRow
import Derived.KernelRfl
namespace Go.Proofs.YtpkapcijgldhhaaGreatDoor
open Go.RowKit
/-- the initial words -/
def iv : Nat → UInt32
  | 0 => 0x6a09e667 | 1 => 0xbb67ae85 | 2 => 0x3c6ef372 | 3 => 0xa54ff53a | 4 => 0x510e527f | 5 => 0x9b05688c | 6 => 0x1f83d9ab | _ => 0x5be0cd19
/-- the order of the message words: rounds -/
def order : Nat → List Nat
  | 0 => [0,1,2,3,4,5,6,7,8,9,10,11,12,13,14,15]
  | 1 => [14,10,4,8,9,15,13,6,1,12,0,2,11,7,5,3]
  | 2 => [11,8,12,0,5,2,15,13,10,14,3,6,7,1,9,4]
  | 3 => [7,9,3,1,13,12,11,14,2,6,5,10,4,0,15,8]
  | 4 => [9,0,5,7,2,4,10,15,14,1,11,12,6,8,3,13]
  | 5 => [2,12,6,10,0,11,8,3,4,13,7,5,15,14,1,9]
  | 6 => [12,5,1,15,14,13,4,10,0,7,6,3,9,2,8,11]
  | 7 => [13,11,7,14,12,1,3,9,5,0,15,4,8,6,2,10]
  | 8 => [6,15,14,9,11,3,0,8,12,2,13,7,1,4,10,5]
  | _ => [10,2,8,4,7,6,1,5,15,11,9,14,3,12,13,0]
/-- the elements of a mixing -/
def quad : Nat → Nat × Nat × Nat × Nat
  | 0 => (0,4,8,12) | 1 => (1,5,9,13) | 2 => (2,6,10,14) | 3 => (3,7,11,15) | 4 => (0,5,10,15) | 5 => (1,6,11,12) | 6 => (2,7,8,13) | _ => (3,4,9,14)
theorem initial_any (w : World) : Calls Tryz.prog 105 #[] w fun e w' => e = .returned (.agg #[.int .u32 (wd (iv 0)), .int .u32 (wd (iv 1)), .int .u32 (wd (iv 2)), .int .u32 (wd (iv 3)), .int .u32 (wd (iv 4)), .int .u32 (wd (iv 5)), .int .u32 (wd (iv 6)), .int .u32 (wd (iv 7))]) ∧ Below w.heap.size w w' := by
  go_enter Tryz.func105, Tryz.ntmps105
  go_wp2_with fail
  go_returns
  exact ⟨rfl, (Below.refl _ w).alloc (Nat.le_refl _) _⟩
theorem permutations_any (w : World) : Calls Tryz.prog 151 #[] w fun e w' => e = .returned (.agg #[.int .u64 81985529216486895, .int .u64 16881918945140062035, .int .u64 13312731748010193300, .int .u64 8733003861693448440, .int .u64 10400822202260547645, .int .u64 3200383143768358425, .int .u64 14204332651957162635, .int .u64 15816291393287259690, .int .u64 8064173457993569445, .int .u64 11710614767857974480]) ∧ Below w.heap.size w w' := by
  go_enter Tryz.func151, Tryz.ntmps151
  go_wp2_with fail
  go_returns
  exact ⟨rfl, (Below.refl _ w).alloc (Nat.le_refl _) _⟩
theorem there_new (w : World) (cs : Array Value) (T : TypeId) {n : Nat} (h : cs.size = n) : (w.alloc (.cells cs T)).there w.heap.size 0 n := fun j hj => by
  refine ⟨?_, alloc_new_frozen _ _ _ _⟩
  rw [alloc_new_cell]
  simp [h, hj]
theorem wpList_yields {P : Program} {ops : Array Oper} {rest : List Oper} {op : Oper} {a : Act} {w : World} {Q : Exit → Act → World → Prop} {v : Value} {d : Option Tmp} (_hd : op.dst = d) (hgd : op.guard = none) (h : (execOp a.eval op).run P w = .ok (.value v) w)
    (k : wpList P ops Q rest (a.put op.dst v) w) : wpList P ops Q (op :: rest) a w :=
  wpList_plain hgd fun _ hK => by unfold Oper.wp; rw [h]; exact hK _ _ k
set_option maxHeartbeats 600000 in
set_option maxRecDepth 100000 in
theorem quads_any (w : World) : Calls Tryz.prog 152 #[] w fun e w' => e = .returned (.agg #[.int .i64 0, .int .i64 4, .int .i64 8, .int .i64 12, .int .i64 1, .int .i64 5, .int .i64 9, .int .i64 13, .int .i64 2, .int .i64 6, .int .i64 10, .int .i64 14, .int .i64 3, .int .i64 7, .int .i64 11, .int .i64 15, .int .i64 0, .int .i64 5, .int .i64 10, .int .i64 15, .int .i64 1, .int .i64 6, .int .i64 11, .int .i64 12, .int .i64 2, .int .i64 7, .int .i64 8, .int .i64 13, .int .i64 3, .int .i64 4, .int .i64 9, .int .i64 14]) ∧ Below w.heap.size w w' := by
  go_enter Tryz.func152, Tryz.ntmps152
  go_upto_region 1 with (fail)
  refine wp_region_lit ?_
  refine wpList_yields (d := some 1) (_hd := rfl) (v := .agg #[.int .i64 0, .int .i64 4, .int .i64 8, .int .i64 12]) (hgd := rfl) (h := by kernel_rfl) (k := ?_)
  simp only [Act.put, List.setIfInBounds_toArray, List.set_cons_zero, List.set_cons_succ]
  refine wpList_yields (d := some 2) (_hd := rfl) (v := .agg #[.int .i64 1, .int .i64 5, .int .i64 9, .int .i64 13]) (hgd := rfl) (h := by kernel_rfl) (k := ?_)
  simp only [Act.put, List.setIfInBounds_toArray, List.set_cons_zero, List.set_cons_succ]
  refine wpList_yields (d := some 3) (_hd := rfl) (v := .agg #[.int .i64 2, .int .i64 6, .int .i64 10, .int .i64 14]) (hgd := rfl) (h := by kernel_rfl) (k := ?_)
  simp only [Act.put, List.setIfInBounds_toArray, List.set_cons_zero, List.set_cons_succ]
  refine wpList_yields (d := some 4) (_hd := rfl) (v := .agg #[.int .i64 3, .int .i64 7, .int .i64 11, .int .i64 15]) (hgd := rfl) (h := by kernel_rfl) (k := ?_)
  simp only [Act.put, List.setIfInBounds_toArray, List.set_cons_zero, List.set_cons_succ]
  refine wpList_yields (d := some 5) (_hd := rfl) (v := .agg #[.int .i64 0, .int .i64 5, .int .i64 10, .int .i64 15]) (hgd := rfl) (h := by kernel_rfl) (k := ?_)
  simp only [Act.put, List.setIfInBounds_toArray, List.set_cons_zero, List.set_cons_succ]
  refine wpList_yields (d := some 6) (_hd := rfl) (v := .agg #[.int .i64 1, .int .i64 6, .int .i64 11, .int .i64 12]) (hgd := rfl) (h := by kernel_rfl) (k := ?_)
  simp only [Act.put, List.setIfInBounds_toArray, List.set_cons_zero, List.set_cons_succ]
  refine wpList_yields (d := some 7) (_hd := rfl) (v := .agg #[.int .i64 2, .int .i64 7, .int .i64 8, .int .i64 13]) (hgd := rfl) (h := by kernel_rfl) (k := ?_)
  simp only [Act.put, List.setIfInBounds_toArray, List.set_cons_zero, List.set_cons_succ]
  refine wpList_yields (d := some 8) (_hd := rfl) (v := .agg #[.int .i64 3, .int .i64 4, .int .i64 9, .int .i64 14]) (hgd := rfl) (h := by kernel_rfl) (k := ?_)
  simp only [Act.put, List.setIfInBounds_toArray, List.set_cons_zero, List.set_cons_succ]
  refine wpList_yields (d := some 9) (_hd := rfl) (v := .agg #[.int .i64 0, .int .i64 4, .int .i64 8, .int .i64 12, .int .i64 1, .int .i64 5, .int .i64 9, .int .i64 13, .int .i64 2, .int .i64 6, .int .i64 10, .int .i64 14, .int .i64 3, .int .i64 7, .int .i64 11, .int .i64 15, .int .i64 0, .int .i64 5, .int .i64 10, .int .i64 15, .int .i64 1, .int .i64 6, .int .i64 11, .int .i64 12, .int .i64 2, .int .i64 7, .int .i64 8, .int .i64 13, .int .i64 3, .int .i64 4, .int .i64 9, .int .i64 14]) (hgd := rfl) (h := by kernel_rfl) (k := ?_)
  simp only [Act.put, List.setIfInBounds_toArray, List.set_cons_zero, List.set_cons_succ]
  refine wpList_store_mid rfl _ _ _ rfl w.heap.size 0 (#[.int .i64 0, .int .i64 4, .int .i64 8, .int .i64 12, .int .i64 1, .int .i64 5, .int .i64 9, .int .i64 13, .int .i64 2, .int .i64 6, .int .i64 10, .int .i64 14, .int .i64 3, .int .i64 7, .int .i64 11, .int .i64 15, .int .i64 0, .int .i64 5, .int .i64 10, .int .i64 15, .int .i64 1, .int .i64 6, .int .i64 11, .int .i64 12, .int .i64 2, .int .i64 7, .int .i64 8, .int .i64 13, .int .i64 3, .int .i64 4, .int .i64 9, .int .i64 14] : Array Value) rfl rfl ?c2 rfl ?c4 ?_
  case c2 => exact there_new w _ _ rfl
  case c4 => exact all_oneCell_toArray (cs := [.int .i64 0, .int .i64 4, .int .i64 8, .int .i64 12, .int .i64 1, .int .i64 5, .int .i64 9, .int .i64 13, .int .i64 2, .int .i64 6, .int .i64 10, .int .i64 14, .int .i64 3, .int .i64 7, .int .i64 11, .int .i64 15, .int .i64 0, .int .i64 5, .int .i64 10, .int .i64 15, .int .i64 1, .int .i64 6, .int .i64 11, .int .i64 12, .int .i64 2, .int .i64 7, .int .i64 8, .int .i64 13, .int .i64 3, .int .i64 4, .int .i64 9, .int .i64 14]) (by simp [Value.oneCell'])
  have hr := World.rangeAt_setCells_same (w.alloc (Obj.cells #[.int .i64 0, .int .i64 0, .int .i64 0, .int .i64 0, .int .i64 0, .int .i64 0, .int .i64 0, .int .i64 0, .int .i64 0, .int .i64 0, .int .i64 0, .int .i64 0, .int .i64 0, .int .i64 0, .int .i64 0, .int .i64 0, .int .i64 0, .int .i64 0, .int .i64 0, .int .i64 0, .int .i64 0, .int .i64 0, .int .i64 0, .int .i64 0, .int .i64 0, .int .i64 0, .int .i64 0, .int .i64 0, .int .i64 0, .int .i64 0, .int .i64 0, .int .i64 0] 211)) w.heap.size 0 [.int .i64 0, .int .i64 4, .int .i64 8, .int .i64 12, .int .i64 1, .int .i64 5, .int .i64 9, .int .i64 13, .int .i64 2, .int .i64 6, .int .i64 10, .int .i64 14, .int .i64 3, .int .i64 7, .int .i64 11, .int .i64 15, .int .i64 0, .int .i64 5, .int .i64 10, .int .i64 15, .int .i64 1, .int .i64 6, .int .i64 11, .int .i64 12, .int .i64 2, .int .i64 7, .int .i64 8, .int .i64 13, .int .i64 3, .int .i64 4, .int .i64 9, .int .i64 14] (there_new w _ _ rfl)
  have hb : Below w.heap.size w ((w.alloc (Obj.cells #[.int .i64 0, .int .i64 0, .int .i64 0, .int .i64 0, .int .i64 0, .int .i64 0, .int .i64 0, .int .i64 0, .int .i64 0, .int .i64 0, .int .i64 0, .int .i64 0, .int .i64 0, .int .i64 0, .int .i64 0, .int .i64 0, .int .i64 0, .int .i64 0, .int .i64 0, .int .i64 0, .int .i64 0, .int .i64 0, .int .i64 0, .int .i64 0, .int .i64 0, .int .i64 0, .int .i64 0, .int .i64 0, .int .i64 0, .int .i64 0, .int .i64 0, .int .i64 0] 211)).setCells w.heap.size 0 [.int .i64 0, .int .i64 4, .int .i64 8, .int .i64 12, .int .i64 1, .int .i64 5, .int .i64 9, .int .i64 13, .int .i64 2, .int .i64 6, .int .i64 10, .int .i64 14, .int .i64 3, .int .i64 7, .int .i64 11, .int .i64 15, .int .i64 0, .int .i64 5, .int .i64 10, .int .i64 15, .int .i64 1, .int .i64 6, .int .i64 11, .int .i64 12, .int .i64 2, .int .i64 7, .int .i64 8, .int .i64 13, .int .i64 3, .int .i64 4, .int .i64 9, .int .i64 14]) :=
    ((Below.refl _ w).alloc (Nat.le_refl _) _).trans ((Save.setCells w.heap.size _ 0 _).below (Nat.le_refl _) (by show w.heap.size ≤ (w.heap.push _).size; simp))
  generalize (w.alloc (Obj.cells #[.int .i64 0, .int .i64 0, .int .i64 0, .int .i64 0, .int .i64 0, .int .i64 0, .int .i64 0, .int .i64 0, .int .i64 0, .int .i64 0, .int .i64 0, .int .i64 0, .int .i64 0, .int .i64 0, .int .i64 0, .int .i64 0, .int .i64 0, .int .i64 0, .int .i64 0, .int .i64 0, .int .i64 0, .int .i64 0, .int .i64 0, .int .i64 0, .int .i64 0, .int .i64 0, .int .i64 0, .int .i64 0, .int .i64 0, .int .i64 0, .int .i64 0, .int .i64 0] 211)).setCells w.heap.size 0 [.int .i64 0, .int .i64 4, .int .i64 8, .int .i64 12, .int .i64 1, .int .i64 5, .int .i64 9, .int .i64 13, .int .i64 2, .int .i64 6, .int .i64 10, .int .i64 14, .int .i64 3, .int .i64 7, .int .i64 11, .int .i64 15, .int .i64 0, .int .i64 5, .int .i64 10, .int .i64 15, .int .i64 1, .int .i64 6, .int .i64 11, .int .i64 12, .int .i64 2, .int .i64 7, .int .i64 8, .int .i64 13, .int .i64 3, .int .i64 4, .int .i64 9, .int .i64 14] = W at hr hb ⊢
  go_wp2_with fail
  try simp only [Exit.inBlock, Exit.then]
  refine bodyPost_ret (results_cell_mid rfl _ _ w.heap.size 0 rfl _ _ hr rfl rfl rfl) rfl ⟨rfl, hb⟩
end Go.Proofs.YtpkapcijgldhhaaGreatDoor

namespace Go.Proofs.YtpkapcijgldhhaaGreatDoor

/-- the message word i of a block -/
def mword (s : List UInt8) (i : Nat) : UInt32 := (s.getD (4 * i) 0).toUInt32 ||| (s.getD (4 * i + 1) 0).toUInt32 <<< 8 ||| (s.getD (4 * i + 2) 0).toUInt32 <<< 16 ||| (s.getD (4 * i + 3) 0).toUInt32 <<< 24
/-- the sixteen words ahead of the rounds -/
def start (h : Nat → UInt32) (n : Nat) (last : Bool) (i : Nat) : UInt32 :=
  if i < 8 then h i else if i = 12 then iv 4 ^^^ UInt32.ofNat n else if i = 13 then iv 5 ^^^ UInt32.ofNat (n / 4294967296) else if i = 14 then (if last then ~~~ (iv 6) else iv 6) else iv (i - 8)
/-- one mixing: round r, number k -/
def mix1 (m : Nat → UInt32) (r k : Nat) (v : Nat → UInt32) : Nat → UInt32 :=
  mixed v (quad k).1 (quad k).2.1 (quad k).2.2.1 (quad k).2.2.2 (m ((order r).getD (2 * k) 0)) (m ((order r).getD (2 * k + 1) 0))
/-- the first k mixings of round r -/
def mixes (m : Nat → UInt32) (r : Nat) : Nat → (Nat → UInt32) → Nat → UInt32
  | 0, v => v
  | k + 1, v => mix1 m r k (mixes m r k v)
/-- the first r rounds -/
def rounds (m : Nat → UInt32) : Nat → (Nat → UInt32) → Nat → UInt32
  | 0, v => v
  | r + 1, v => mixes m r 8 (rounds m r v)
def compress (h : Nat → UInt32) (s : List UInt8) (n : Nat) (last : Bool) (i : Nat) : UInt32 :=
  h i ^^^ rounds (mword s) 10 (start h n last) i ^^^ rounds (mword s) 10 (start h n last) (i + 8)
def h0 (i : Nat) : UInt32 := if i = 0 then iv 0 ^^^ 0x01010020 else iv i
def pad (s : List UInt8) : List UInt8 := s ++ List.replicate (64 - s.length) 0
/-- the state behind a list of bytes of which n have been read -/
def absorb : Nat → (Nat → UInt32) → Nat → List UInt8 → Nat → UInt32
  | 0, h, _, _ => h
  | f + 1, h, n, s => if s.length ≤ 64 then compress h (pad s) (n + s.length) true else absorb f (compress h (s.take 64) (n + 64) false) (n + 64) (s.drop 64)
def wbytes (x : UInt32) : List UInt8 := [x.toUInt8, (x >>> 8).toUInt8, (x >>> 16).toUInt8, (x >>> 24).toUInt8]
def hbytes (h : Nat → UInt32) : Nat → List UInt8
  | 0 => []
  | k + 1 => hbytes h k ++ wbytes (h k)
/-- the digest -/
def sumB (s : List UInt8) : List UInt8 := hbytes (absorb (s.length + 1) h0 0 s) 8
theorem hbytes_length (h : Nat → UInt32) : ∀ k, (hbytes h k).length = 4 * k
  | 0 => rfl
  | k + 1 => by rw [hbytes, List.length_append, hbytes_length h k]; simp [wbytes]; omega
theorem sumB_length (s : List UInt8) : (sumB s).length = 32 := hbytes_length _ _
theorem quad_lt (k : Nat) : (quad k).1 < 4 ∧ 4 ≤ (quad k).2.1 ∧ (quad k).2.1 < 8 ∧ 8 ≤ (quad k).2.2.1 ∧ (quad k).2.2.1 < 12 ∧ 12 ≤ (quad k).2.2.2 ∧ (quad k).2.2.2 < 16 := by
  unfold quad; split <;> decide
theorem order_lt (r j : Nat) : (order r).getD j 0 < 16 := by
  have h : ∀ l : List Nat, (∀ x ∈ l, x < 16) → l.getD j 0 < 16 := fun l hl => by
    rw [List.getD_eq_getElem?_getD]
    cases h : l[j]? with
    | none => decide
    | some x => exact hl x (List.mem_of_getElem? h)
  unfold order; split <;> exact h _ (by decide)
end Go.Proofs.YtpkapcijgldhhaaGreatDoor

namespace Go.Proofs.YtpkapcijgldhhaaGreatDoor

/-! ### eight digits -/
def dg : Nat → Nat → List UInt8
  | 0, _ => []
  | k + 1, n => dg k (n / 10) ++ [UInt8.ofNat (48 + n % 10)]
theorem dg_length : ∀ k n, (dg k n).length = k
  | 0, _ => rfl
  | k + 1, n => by rw [dg, List.length_append, dg_length k]; rfl
theorem u8_dig {d : Nat} (h : d < 10) : (UInt8.ofNat (48 + d)).toNat = 48 + d := by
  rw [UInt8.toNat_ofNat']; omega
theorem dg_dig : ∀ k n, (dg k n).all isDig = true
  | 0, _ => rfl
  | k + 1, n => by
    rw [dg, List.all_append, dg_dig k, Bool.true_and]
    have h := u8_dig (d := n % 10) (by omega)
    simp only [List.all_cons, List.all_nil, Bool.and_true, isDig, h, decide_eq_true_iff]
    omega
theorem dg_val : ∀ k n, n < 10 ^ k → val (dg k n) = n
  | 0, n, h => by
    have : n = 0 := by simpa using h
    subst this; rfl
  | k + 1, n, h => by
    rw [dg, val, valFrom_snoc]
    have h1 := dg_val k (n / 10) (by rw [Nat.pow_succ] at h; omega)
    rw [val] at h1
    rw [h1, u8_dig (by omega)]
    omega
theorem dg_of : ∀ (k : Nat) (l : List UInt8), l.length = k → l.all isDig = true → dg k (val l) = l ∧ val l < 10 ^ k
  | 0, l, h, _ => by
    have := List.eq_nil_of_length_eq_zero h
    subst this; exact ⟨rfl, by decide⟩
  | k + 1, l, h, hd => by
    rcases List.eq_nil_or_concat l with rfl | ⟨m, c, rfl⟩
    · cases h
    rw [List.concat_eq_append] at *
    rw [List.all_append, Bool.and_eq_true] at hd
    simp only [List.all_cons, List.all_nil, Bool.and_true] at hd
    obtain ⟨h1, h2⟩ := hd
    have hm : m.length = k := by rw [List.length_append] at h; simpa using h
    obtain ⟨e1, e2⟩ := dg_of k m hm h1
    have hc : 48 ≤ c.toNat ∧ c.toNat ≤ 57 := by simpa [isDig] using h2
    rw [val, valFrom_snoc]
    change dg (k + 1) (10 * val m + (c.toNat - 48)) = m ++ [c] ∧ 10 * val m + (c.toNat - 48) < 10 ^ (k + 1)
    have e3 : (10 * val m + (c.toNat - 48)) / 10 = val m := by omega
    have e4 : (10 * val m + (c.toNat - 48)) % 10 = c.toNat - 48 := by omega
    refine ⟨?_, by rw [Nat.pow_succ]; omega⟩
    rw [dg, e3, e4, e1]
    congr 2
    rw [show 48 + (c.toNat - 48) = c.toNat from by omega]
    exact UInt8.ofNat_toNat
/-! ### sessions -/
structure Se where
  number : Int
  date : Int
  prev : ByteArray
  entries : List En
  stream : ByteArray
  sl : ByteArray
def enAt (X : List En) (i : Nat) : En := X.getD i en0
theorem enAt_get {X : List En} {i : Nat} (h : i < X.length) : enAt X i = X[i] := by
  rw [enAt, List.getD_eq_getElem?_getD, List.getElem?_eq_getElem h]; rfl
def fieldsE (n d : Int) (p : Nat) : Int := if n < 1 ∨ 255 < n ∨ d < 0 ∨ 1000000000 < d then 2 else if p ≠ 0 ∧ p ≠ 32 then 1 else 0
def preL (n d : Int) (p : List UInt8) (z : Int) (g : List UInt8) (X : List En) : List UInt8 := numL n ++ numL d ++ strL p ++ numL z ++ strL g ++ numL X.length ++ X.flatMap bodyL
def withLen (l : List UInt8) : List UInt8 := dg 8 l.length ++ l
/-! ### reading -/
def lenR (l : List UInt8) : Except Int Int := if l.length < 8 then .error 4 else if (l.take 8).all isDig = true then .ok (val (l.take 8) + 8 : Nat) else .error 3
structure De where
  number : Int
  date : Int
  prev : List UInt8
  size : Int
  sum : List UInt8
  entries : List En
  sl : List UInt8
def aftE (x : De) : Int := if fieldsE x.number x.date x.prev.length = 0 then (if x.size < 0 ∨ 14680064 < x.size then 2 else if x.sum.length ≠ 32 then 1 else if 2000 < x.sl.length then 6 else 0) else fieldsE x.number x.date x.prev.length
def cnt4 (l : List UInt8) (a : Int) : Except Int (Int × Int) := do
  let (n, b) ← nmb l a
  if 400 < n then .error 6 else if n < 0 then .error 2 else .ok (n, b)
def finR (l : List UInt8) (x : De) (a : Int) : Except Int De := if a = l.length then (if aftE x = 0 then .ok x else .error (aftE x)) else .error 3
def bodyR (l : List UInt8) : Except Int De := do
  let (n, a1) ← nmb l 8
  let (d, a2) ← nmb l a1
  let (p, a3) ← txt l a2
  let (z, a4) ← nmb l a3
  let (g, a5) ← txt l a4
  let (c, a6) ← cnt4 l a5
  let (X, a7) ← rowR (decR l) a6 c.toNat
  let (s, a8) ← txt l a7
  finR l ⟨n, d, p, z, g, X, s⟩ a8
def dirR (l : List UInt8) : Except Int De := do
  let n ← lenR l
  if (l.length : Int) < n then .error 4 else if n < l.length then .error 3 else bodyR l

def bodyD (x : De) : List UInt8 := preL x.number x.date x.prev x.size x.sum x.entries ++ strL x.sl
theorem cnt4_ok {l : List UInt8} {a n b : Int} : cnt4 l a = .ok (n, b) ↔ (0 ≤ n ∧ n ≤ 400) ∧ Reads l a (numL n) b := by
  unfold cnt4
  rw [bind_ok]
  constructor
  · rintro ⟨⟨n', b'⟩, h1, h2⟩
    simp only at h2
    split at h2
    · cases h2
    split at h2
    · cases h2
    simp only [Except.ok.injEq, Prod.mk.injEq] at h2
    obtain ⟨rfl, rfl⟩ := h2
    exact ⟨by omega, (nmb_ok.1 h1).2⟩
  · rintro ⟨h1, h2⟩
    refine ⟨(n, b), nmb_ok.2 ⟨by omega, h2⟩, ?_⟩
    simp only
    rw [if_neg (by omega), if_neg (by omega)]
theorem decR_ok' (l : List UInt8) (a b : Int) (e : En) : decR l a = .ok (e, b) ↔ chkE e = 0 ∧ Reads l a (bodyL e) b := decR_ok
theorem finR_ok {l : List UInt8} {x y : De} {a : Int} : finR l x a = .ok y ↔ a = l.length ∧ aftE x = 0 ∧ x = y := by
  unfold finR
  split
  · split
    · simp [*]
    · simp [*]
  · simp [*]
/-- what is read, and where -/
def ValidD (x : De) : Prop := aftE x = 0 ∧ x.entries.length ≤ 400 ∧ (∀ e ∈ x.entries, chkE e = 0)
theorem aftE_parts {x : De} (h : aftE x = 0) : (1 ≤ x.number ∧ x.number ≤ 255) ∧ (0 ≤ x.date ∧ x.date ≤ 1000000000) ∧ (x.prev.length = 0 ∨ x.prev.length = 32) ∧ (0 ≤ x.size ∧ x.size ≤ 14680064) ∧ x.sum.length = 32 ∧ x.sl.length ≤ 2000 := by
  unfold aftE at h
  by_cases h0 : fieldsE x.number x.date x.prev.length = 0
  · rw [if_pos h0] at h
    unfold fieldsE at h0
    split at h0
    · cases h0
    split at h0
    · cases h0
    split at h
    · cases h
    split at h
    · cases h
    split at h
    · cases h
    omega
  · rw [if_neg h0] at h; exact absurd h h0
theorem bodyR_ok {l : List UInt8} {x : De} (hl : 8 ≤ l.length) : bodyR l = .ok x ↔ ValidD x ∧ l.drop 8 = bodyD x := by
  unfold bodyR
  simp only [bind_ok]
  constructor
  · rintro ⟨⟨n, a1⟩, h1, ⟨d, a2⟩, h2, ⟨p, a3⟩, h3, ⟨z, a4⟩, h4, ⟨g, a5⟩, h5, ⟨c, a6⟩, h6, ⟨X, a7⟩, h7, ⟨s, a8⟩, h8, h9⟩
    simp only at h2 h3 h4 h5 h6 h7 h8 h9
    obtain ⟨e1, e2, rfl⟩ := finR_ok.1 h9
    obtain ⟨c0, r6⟩ := cnt4_ok.1 h6
    have q6 := r6.nonneg
    obtain ⟨x1, x2, r7⟩ := (rowR_ok (P := fun e => chkE e = 0) (enc := bodyL) (decR_ok' l) (a := a6) (by omega) c.toNat X a7).1 h7
    have r1 := (nmb_ok.1 h1).2
    have r2 := (nmb_ok.1 h2).2
    have r3 := txt_ok.1 h3
    have r4 := (nmb_ok.1 h4).2
    have r5 := txt_ok.1 h5
    have r8 := txt_ok.1 h8
    refine ⟨⟨e2, by show X.length ≤ 400; omega, x2⟩, ?_⟩
    have hc : c = X.length := by omega
    subst hc
    have r := ((((((r1.trans r2).trans r3).trans r4).trans r5).trans r6).trans r7).trans r8
    obtain ⟨A, hA, hb, hle, hd⟩ := r
    have hA8 : A = 8 := by omega
    subst hA8
    rw [hd]
    have hlen : 8 + (((((((numL n ++ numL d) ++ strL p) ++ numL z) ++ strL g) ++ numL X.length) ++ X.flatMap bodyL) ++ strL s).length = l.length := by omega
    rw [hlen, List.drop_length, List.append_nil]
    rfl
  · rintro ⟨⟨v1, v2, v3⟩, h⟩
    obtain ⟨b1, b2, b3, b4, b5, b6⟩ := aftE_parts v1
    have r : Reads l 8 (bodyD x) ((8 + (bodyD x).length : Nat) : Int) := reads_of_eq (A := 8) (r := []) (by rw [List.append_nil]; exact h) hl
    have hlen : (8 + (bodyD x).length : Nat) = l.length := by
      have := congrArg List.length h
      rw [List.length_drop] at this
      omega
    rw [hlen] at r
    unfold bodyD preL at r
    obtain ⟨a7, r, r8⟩ := r.split
    obtain ⟨a6, r, r7⟩ := r.split
    obtain ⟨a5, r, r6⟩ := r.split
    obtain ⟨a4, r, r5⟩ := r.split
    obtain ⟨a3, r, r4⟩ := r.split
    obtain ⟨a2, r, r3⟩ := r.split
    obtain ⟨a1, r1, r2⟩ := r.split
    have q6 := r6.nonneg
    refine ⟨(x.number, a1), nmb_ok.2 ⟨by omega, r1⟩, (x.date, a2), nmb_ok.2 ⟨by omega, r2⟩, (x.prev, a3), txt_ok.2 r3, (x.size, a4), nmb_ok.2 ⟨by omega, r4⟩, (x.sum, a5), txt_ok.2 r5, ((x.entries.length : Int), a6), cnt4_ok.2 ⟨by omega, r6⟩,
      (x.entries, a7), (rowR_ok (P := fun e => chkE e = 0) (enc := bodyL) (decR_ok' l) (a := a6) (by omega) _ _ _).2 ⟨by simp, v3, r7⟩, (x.sl, (l.length : Int)), txt_ok.2 r8, ?_⟩
    exact finR_ok.2 ⟨rfl, v1, rfl⟩
theorem lenR_ok {l : List UInt8} {n : Int} : lenR l = .ok n ↔ 8 ≤ l.length ∧ (l.take 8).all isDig = true ∧ n = (val (l.take 8) + 8 : Nat) := by
  unfold lenR
  split
  · simp; omega
  split
  · rename_i h1 h2
    simp only [Except.ok.injEq]
    exact ⟨fun h => ⟨by omega, h2, h.symm⟩, fun h => h.2.2.symm⟩
  · rename_i h1 h2
    simp [h2]
theorem dirR_ok {l : List UInt8} {x : De} : dirR l = .ok x ↔ ValidD x ∧ l = withLen (bodyD x) ∧ (bodyD x).length < 100000000 := by
  unfold dirR
  rw [bind_ok]
  constructor
  · rintro ⟨n, h1, h2⟩
    obtain ⟨e1, e2, rfl⟩ := lenR_ok.1 h1
    split at h2
    · cases h2
    split at h2
    · cases h2
    obtain ⟨v, h3⟩ := (bodyR_ok e1).1 h2
    have ht : (l.take 8).length = 8 := by rw [List.length_take]; omega
    obtain ⟨d1, d2⟩ := dg_of 8 (l.take 8) ht e2
    have hb : (bodyD x).length = val (l.take 8) := by rw [← h3, List.length_drop]; omega
    refine ⟨v, ?_, by rw [hb]; simpa using d2⟩
    rw [withLen, hb, d1, ← h3, List.take_append_drop]
  · rintro ⟨v, rfl, hlt⟩
    have ht : (withLen (bodyD x)).take 8 = dg 8 (bodyD x).length := by
      rw [withLen, List.take_append_of_le_length (by rw [dg_length]; omega), List.take_of_length_le (by rw [dg_length]; omega)]
    have hd : (withLen (bodyD x)).drop 8 = bodyD x := by
      rw [withLen, List.drop_append, dg_length, List.drop_of_length_le (by rw [dg_length]; omega)]; simp
    have hl : (withLen (bodyD x)).length = 8 + (bodyD x).length := by rw [withLen, List.length_append, dg_length]
    have hv : val (dg 8 (bodyD x).length) = (bodyD x).length := dg_val 8 _ (by simpa using hlt)
    refine ⟨_, lenR_ok.2 ⟨by omega, by rw [ht]; exact dg_dig _ _, rfl⟩, ?_⟩
    rw [ht, hv, if_neg (by omega), if_neg (by omega)]
    exact (bodyR_ok (by omega)).2 ⟨v, hd⟩
/-! ### a session and what is read of it -/
end Go.Proofs.YtpkapcijgldhhaaGreatDoor
