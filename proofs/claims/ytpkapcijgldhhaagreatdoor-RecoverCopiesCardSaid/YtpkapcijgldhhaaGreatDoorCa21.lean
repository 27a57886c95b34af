/-
  
  BLAKE2s in plain words: the compression of sixteen message words, and the digest of a list of bytes.
-/
import Derived.Test.YtpkapcijgldhhaaGreatDoorCa20
import Derived.Deep.QuietTactic
import Derived.BigQuiet
import Derived.StillTailTactics
import Derived.Handy
import Derived.Deep.MidRow
import Derived.KernelRfl
namespace Go.Proofs.YtpkapcijgldhhaaGreatDoor
open Go.RowKit
/-- the initial words -/
def iv : Nat → UInt32
  | 0 => 0x6a09e667 | 1 => 0xbb67ae85 | 2 => 0x3c6ef372 | 3 => 0xa54ff53a | 4 => 0x510e527f | 5 => 0x9b05688c | 6 => 0x1f83d9ab | _ => 0x5be0cd19
/-- the order of the message words: rounds -/
def order : Nat → List Nat
  | 0 => [0,1,2,3,4,5,6,7,8,9,10,11,12,13,14,15]
  | 1 => [14,10,4,8,9,15,13,6,1,12,0,2,11,7,5,3]
  | 2 => [11,8,12,0,5,2,15,13,10,14,3,6,7,1,9,4]
  | 3 => [7,9,3,1,13,12,11,14,2,6,5,10,4,0,15,8]
  | 4 => [9,0,5,7,2,4,10,15,14,1,11,12,6,8,3,13]
  | 5 => [2,12,6,10,0,11,8,3,4,13,7,5,15,14,1,9]
  | 6 => [12,5,1,15,14,13,4,10,0,7,6,3,9,2,8,11]
  | 7 => [13,11,7,14,12,1,3,9,5,0,15,4,8,6,2,10]
  | 8 => [6,15,14,9,11,3,0,8,12,2,13,7,1,4,10,5]
  | _ => [10,2,8,4,7,6,1,5,15,11,9,14,3,12,13,0]
/-- the elements of a mixing -/
def quad : Nat → Nat × Nat × Nat × Nat
  | 0 => (0,4,8,12) | 1 => (1,5,9,13) | 2 => (2,6,10,14) | 3 => (3,7,11,15) | 4 => (0,5,10,15) | 5 => (1,6,11,12) | 6 => (2,7,8,13) | _ => (3,4,9,14)
theorem initial_any (w : World) : Calls Tryz.prog 105 #[] w fun e w' => e = .returned (.agg #[.int .u32 (wd (iv 0)), .int .u32 (wd (iv 1)), .int .u32 (wd (iv 2)), .int .u32 (wd (iv 3)), .int .u32 (wd (iv 4)), .int .u32 (wd (iv 5)), .int .u32 (wd (iv 6)), .int .u32 (wd (iv 7))]) ∧ Below w.heap.size w w' := by
  go_enter Tryz.func105, Tryz.ntmps105
  go_wp2_with fail
  go_returns
  exact ⟨rfl, (Below.refl _ w).alloc (Nat.le_refl _) _⟩
theorem initialR_any (w : World) : Calls Tryz.prog 83 #[] w fun e w' => e = .returned (.agg #[.int .u32 (wd (iv 0)), .int .u32 (wd (iv 1)), .int .u32 (wd (iv 2)), .int .u32 (wd (iv 3)), .int .u32 (wd (iv 4)), .int .u32 (wd (iv 5)), .int .u32 (wd (iv 6)), .int .u32 (wd (iv 7))]) ∧ Below w.heap.size w w' := by
  go_enter Tryz.func83, Tryz.ntmps83
  go_wp2_with fail
  go_returns
  exact ⟨rfl, (Below.refl _ w).alloc (Nat.le_refl _) _⟩
theorem permutations_any (w : World) : Calls Tryz.prog 151 #[] w fun e w' => e = .returned (.agg #[.int .u64 81985529216486895, .int .u64 16881918945140062035, .int .u64 13312731748010193300, .int .u64 8733003861693448440, .int .u64 10400822202260547645, .int .u64 3200383143768358425, .int .u64 14204332651957162635, .int .u64 15816291393287259690, .int .u64 8064173457993569445, .int .u64 11710614767857974480]) ∧ Below w.heap.size w w' := by
  go_enter Tryz.func151, Tryz.ntmps151
  go_wp2_with fail
  go_returns
  exact ⟨rfl, (Below.refl _ w).alloc (Nat.le_refl _) _⟩
theorem there_new (w : World) (cs : Array Value) (T : TypeId) {n : Nat} (h : cs.size = n) : (w.alloc (.cells cs T)).there w.heap.size 0 n := fun j hj => by
  refine ⟨?_, alloc_new_frozen _ _ _ _⟩
  rw [alloc_new_cell]
  simp [h, hj]
theorem wpList_yields {P : Program} {ops : Array Oper} {rest : List Oper} {op : Oper} {a : Act} {w : World} {Q : Exit → Act → World → Prop} {v : Value} {d : Option Tmp} (_hd : op.dst = d) (hgd : op.guard = none) (h : (execOp a.eval op).run P w = .ok (.value v) w)
    (k : wpList P ops Q rest (a.put op.dst v) w) : wpList P ops Q (op :: rest) a w :=
  wpList_plain hgd fun _ hK => by unfold Oper.wp; rw [h]; exact hK _ _ k
set_option maxHeartbeats 600000 in
set_option maxRecDepth 100000 in
theorem quads_any (w : World) : Calls Tryz.prog 152 #[] w fun e w' => e = .returned (.agg #[.int .i64 0, .int .i64 4, .int .i64 8, .int .i64 12, .int .i64 1, .int .i64 5, .int .i64 9, .int .i64 13, .int .i64 2, .int .i64 6, .int .i64 10, .int .i64 14, .int .i64 3, .int .i64 7, .int .i64 11, .int .i64 15, .int .i64 0, .int .i64 5, .int .i64 10, .int .i64 15, .int .i64 1, .int .i64 6, .int .i64 11, .int .i64 12, .int .i64 2, .int .i64 7, .int .i64 8, .int .i64 13, .int .i64 3, .int .i64 4, .int .i64 9, .int .i64 14]) ∧ Below w.heap.size w w' := by
  go_enter Tryz.func152, Tryz.ntmps152
  go_upto_region 1 with (fail)
  refine wp_region_lit ?_
  refine wpList_yields (d := some 1) (_hd := rfl) (v := .agg #[.int .i64 0, .int .i64 4, .int .i64 8, .int .i64 12]) (hgd := rfl) (h := by kernel_rfl) (k := ?_)
  simp only [Act.put, List.setIfInBounds_toArray, List.set_cons_zero, List.set_cons_succ]
  refine wpList_yields (d := some 2) (_hd := rfl) (v := .agg #[.int .i64 1, .int .i64 5, .int .i64 9, .int .i64 13]) (hgd := rfl) (h := by kernel_rfl) (k := ?_)
  simp only [Act.put, List.setIfInBounds_toArray, List.set_cons_zero, List.set_cons_succ]
  refine wpList_yields (d := some 3) (_hd := rfl) (v := .agg #[.int .i64 2, .int .i64 6, .int .i64 10, .int .i64 14]) (hgd := rfl) (h := by kernel_rfl) (k := ?_)
  simp only [Act.put, List.setIfInBounds_toArray, List.set_cons_zero, List.set_cons_succ]
  refine wpList_yields (d := some 4) (_hd := rfl) (v := .agg #[.int .i64 3, .int .i64 7, .int .i64 11, .int .i64 15]) (hgd := rfl) (h := by kernel_rfl) (k := ?_)
  simp only [Act.put, List.setIfInBounds_toArray, List.set_cons_zero, List.set_cons_succ]
  refine wpList_yields (d := some 5) (_hd := rfl) (v := .agg #[.int .i64 0, .int .i64 5, .int .i64 10, .int .i64 15]) (hgd := rfl) (h := by kernel_rfl) (k := ?_)
  simp only [Act.put, List.setIfInBounds_toArray, List.set_cons_zero, List.set_cons_succ]
  refine wpList_yields (d := some 6) (_hd := rfl) (v := .agg #[.int .i64 1, .int .i64 6, .int .i64 11, .int .i64 12]) (hgd := rfl) (h := by kernel_rfl) (k := ?_)
  simp only [Act.put, List.setIfInBounds_toArray, List.set_cons_zero, List.set_cons_succ]
  refine wpList_yields (d := some 7) (_hd := rfl) (v := .agg #[.int .i64 2, .int .i64 7, .int .i64 8, .int .i64 13]) (hgd := rfl) (h := by kernel_rfl) (k := ?_)
  simp only [Act.put, List.setIfInBounds_toArray, List.set_cons_zero, List.set_cons_succ]
  refine wpList_yields (d := some 8) (_hd := rfl) (v := .agg #[.int .i64 3, .int .i64 4, .int .i64 9, .int .i64 14]) (hgd := rfl) (h := by kernel_rfl) (k := ?_)
  simp only [Act.put, List.setIfInBounds_toArray, List.set_cons_zero, List.set_cons_succ]
  refine wpList_yields (d := some 9) (_hd := rfl) (v := .agg #[.int .i64 0, .int .i64 4, .int .i64 8, .int .i64 12, .int .i64 1, .int .i64 5, .int .i64 9, .int .i64 13, .int .i64 2, .int .i64 6, .int .i64 10, .int .i64 14, .int .i64 3, .int .i64 7, .int .i64 11, .int .i64 15, .int .i64 0, .int .i64 5, .int .i64 10, .int .i64 15, .int .i64 1, .int .i64 6, .int .i64 11, .int .i64 12, .int .i64 2, .int .i64 7, .int .i64 8, .int .i64 13, .int .i64 3, .int .i64 4, .int .i64 9, .int .i64 14]) (hgd := rfl) (h := by kernel_rfl) (k := ?_)
  simp only [Act.put, List.setIfInBounds_toArray, List.set_cons_zero, List.set_cons_succ]
  refine wpList_store_mid rfl _ _ _ rfl w.heap.size 0 (#[.int .i64 0, .int .i64 4, .int .i64 8, .int .i64 12, .int .i64 1, .int .i64 5, .int .i64 9, .int .i64 13, .int .i64 2, .int .i64 6, .int .i64 10, .int .i64 14, .int .i64 3, .int .i64 7, .int .i64 11, .int .i64 15, .int .i64 0, .int .i64 5, .int .i64 10, .int .i64 15, .int .i64 1, .int .i64 6, .int .i64 11, .int .i64 12, .int .i64 2, .int .i64 7, .int .i64 8, .int .i64 13, .int .i64 3, .int .i64 4, .int .i64 9, .int .i64 14] : Array Value) rfl rfl ?c2 rfl ?c4 ?_
  case c2 => exact there_new w _ _ rfl
  case c4 => exact all_oneCell_toArray (cs := [.int .i64 0, .int .i64 4, .int .i64 8, .int .i64 12, .int .i64 1, .int .i64 5, .int .i64 9, .int .i64 13, .int .i64 2, .int .i64 6, .int .i64 10, .int .i64 14, .int .i64 3, .int .i64 7, .int .i64 11, .int .i64 15, .int .i64 0, .int .i64 5, .int .i64 10, .int .i64 15, .int .i64 1, .int .i64 6, .int .i64 11, .int .i64 12, .int .i64 2, .int .i64 7, .int .i64 8, .int .i64 13, .int .i64 3, .int .i64 4, .int .i64 9, .int .i64 14]) (by simp [Value.oneCell'])
  have hr := World.rangeAt_setCells_same (w.alloc (Obj.cells #[.int .i64 0, .int .i64 0, .int .i64 0, .int .i64 0, .int .i64 0, .int .i64 0, .int .i64 0, .int .i64 0, .int .i64 0, .int .i64 0, .int .i64 0, .int .i64 0, .int .i64 0, .int .i64 0, .int .i64 0, .int .i64 0, .int .i64 0, .int .i64 0, .int .i64 0, .int .i64 0, .int .i64 0, .int .i64 0, .int .i64 0, .int .i64 0, .int .i64 0, .int .i64 0, .int .i64 0, .int .i64 0, .int .i64 0, .int .i64 0, .int .i64 0, .int .i64 0] 211)) w.heap.size 0 [.int .i64 0, .int .i64 4, .int .i64 8, .int .i64 12, .int .i64 1, .int .i64 5, .int .i64 9, .int .i64 13, .int .i64 2, .int .i64 6, .int .i64 10, .int .i64 14, .int .i64 3, .int .i64 7, .int .i64 11, .int .i64 15, .int .i64 0, .int .i64 5, .int .i64 10, .int .i64 15, .int .i64 1, .int .i64 6, .int .i64 11, .int .i64 12, .int .i64 2, .int .i64 7, .int .i64 8, .int .i64 13, .int .i64 3, .int .i64 4, .int .i64 9, .int .i64 14] (there_new w _ _ rfl)
  have hb : Below w.heap.size w ((w.alloc (Obj.cells #[.int .i64 0, .int .i64 0, .int .i64 0, .int .i64 0, .int .i64 0, .int .i64 0, .int .i64 0, .int .i64 0, .int .i64 0, .int .i64 0, .int .i64 0, .int .i64 0, .int .i64 0, .int .i64 0, .int .i64 0, .int .i64 0, .int .i64 0, .int .i64 0, .int .i64 0, .int .i64 0, .int .i64 0, .int .i64 0, .int .i64 0, .int .i64 0, .int .i64 0, .int .i64 0, .int .i64 0, .int .i64 0, .int .i64 0, .int .i64 0, .int .i64 0, .int .i64 0] 211)).setCells w.heap.size 0 [.int .i64 0, .int .i64 4, .int .i64 8, .int .i64 12, .int .i64 1, .int .i64 5, .int .i64 9, .int .i64 13, .int .i64 2, .int .i64 6, .int .i64 10, .int .i64 14, .int .i64 3, .int .i64 7, .int .i64 11, .int .i64 15, .int .i64 0, .int .i64 5, .int .i64 10, .int .i64 15, .int .i64 1, .int .i64 6, .int .i64 11, .int .i64 12, .int .i64 2, .int .i64 7, .int .i64 8, .int .i64 13, .int .i64 3, .int .i64 4, .int .i64 9, .int .i64 14]) :=
    ((Below.refl _ w).alloc (Nat.le_refl _) _).trans ((Save.setCells w.heap.size _ 0 _).below (Nat.le_refl _) (by show w.heap.size ≤ (w.heap.push _).size; simp))
  generalize (w.alloc (Obj.cells #[.int .i64 0, .int .i64 0, .int .i64 0, .int .i64 0, .int .i64 0, .int .i64 0, .int .i64 0, .int .i64 0, .int .i64 0, .int .i64 0, .int .i64 0, .int .i64 0, .int .i64 0, .int .i64 0, .int .i64 0, .int .i64 0, .int .i64 0, .int .i64 0, .int .i64 0, .int .i64 0, .int .i64 0, .int .i64 0, .int .i64 0, .int .i64 0, .int .i64 0, .int .i64 0, .int .i64 0, .int .i64 0, .int .i64 0, .int .i64 0, .int .i64 0, .int .i64 0] 211)).setCells w.heap.size 0 [.int .i64 0, .int .i64 4, .int .i64 8, .int .i64 12, .int .i64 1, .int .i64 5, .int .i64 9, .int .i64 13, .int .i64 2, .int .i64 6, .int .i64 10, .int .i64 14, .int .i64 3, .int .i64 7, .int .i64 11, .int .i64 15, .int .i64 0, .int .i64 5, .int .i64 10, .int .i64 15, .int .i64 1, .int .i64 6, .int .i64 11, .int .i64 12, .int .i64 2, .int .i64 7, .int .i64 8, .int .i64 13, .int .i64 3, .int .i64 4, .int .i64 9, .int .i64 14] = W at hr hb ⊢
  go_wp2_with fail
  try simp only [Exit.inBlock, Exit.then]
  refine bodyPost_ret (results_cell_mid rfl _ _ w.heap.size 0 rfl _ _ hr rfl rfl rfl) rfl ⟨rfl, hb⟩
/-- the code of a hexadecimal digit -/
def hexc : Nat → Int
  | 0 => 48 | 1 => 49 | 2 => 50 | 3 => 51 | 4 => 52 | 5 => 53 | 6 => 54 | 7 => 55 | 8 => 56 | 9 => 57 | 10 => 97 | 11 => 98 | 12 => 99 | 13 => 100 | 14 => 101 | _ => 102
set_option maxRecDepth 10000 in
theorem digit_any (d : Nat) (hd : d < 16) (w : World) : Calls Tryz.prog 136 #[.int .u8 (hexc d)] w fun e w' => e = .returned (.int .i64 d) ∧ w = w' := by
  rcases d with _|_|_|_|_|_|_|_|_|_|_|_|_|_|_|_|d
  all_goals first | (exfalso; omega; done) | skip
  all_goals (simp only [hexc]; go_enter Tryz.func136, Tryz.ntmps136; go_wp2_with fail; go_returns; exact ⟨rfl, rfl⟩)
set_option maxRecDepth 10000 in
theorem columns_any (k : Nat) (hk : k < 8) (w : World) : Calls Tryz.prog 134 #[.int .i64 k] w fun e w' => e = .returned (.agg #[.int .i64 (quad k).1, .int .i64 (quad k).2.1, .int .i64 (quad k).2.2.1, .int .i64 (quad k).2.2.2]) ∧ Below w.heap.size w w' := by
  rcases k with _|_|_|_|_|_|_|_|k
  all_goals first | (exfalso; omega; done) | skip
  all_goals (go_enter Tryz.func134, Tryz.ntmps134; go_wp2_with fail; go_returns; exact ⟨rfl, (Below.refl _ w).alloc (Nat.le_refl _) _⟩)
/-- the order of the message words, as hexadecimal digits -/
def permStr : Nat → ByteArray
  | 0 => ⟨#[48, 49, 50, 51, 52, 53, 54, 55, 56, 57, 97, 98, 99, 100, 101, 102]⟩
  | 1 => ⟨#[101, 97, 52, 56, 57, 102, 100, 54, 49, 99, 48, 50, 98, 55, 53, 51]⟩
  | 2 => ⟨#[98, 56, 99, 48, 53, 50, 102, 100, 97, 101, 51, 54, 55, 49, 57, 52]⟩
  | 3 => ⟨#[55, 57, 51, 49, 100, 99, 98, 101, 50, 54, 53, 97, 52, 48, 102, 56]⟩
  | 4 => ⟨#[57, 48, 53, 55, 50, 52, 97, 102, 101, 49, 98, 99, 54, 56, 51, 100]⟩
  | 5 => ⟨#[50, 99, 54, 97, 48, 98, 56, 51, 52, 100, 55, 53, 102, 101, 49, 57]⟩
  | 6 => ⟨#[99, 53, 49, 102, 101, 100, 52, 97, 48, 55, 54, 51, 57, 50, 56, 98]⟩
  | 7 => ⟨#[100, 98, 55, 101, 99, 49, 51, 57, 53, 48, 102, 52, 56, 54, 50, 97]⟩
  | 8 => ⟨#[54, 102, 101, 57, 98, 51, 48, 56, 99, 50, 100, 55, 49, 52, 97, 53]⟩
  | _ => ⟨#[97, 50, 56, 52, 55, 54, 49, 53, 102, 98, 57, 101, 51, 99, 100, 48]⟩
set_option maxRecDepth 10000 in
theorem permutation_any (r : Nat) (hr : r < 10) (w : World) : Calls Tryz.prog 133 #[.int .i64 r] w fun e w' => e = .returned (.string (permStr r)) ∧ w = w' := by
  rcases r with _|_|_|_|_|_|_|_|_|_|r
  all_goals first | (exfalso; omega; done) | skip
  all_goals (go_enter Tryz.func133, Tryz.ntmps133; go_wp2_with fail; go_returns; exact ⟨rfl, rfl⟩)
end Go.Proofs.YtpkapcijgldhhaaGreatDoor

namespace Go.Proofs.YtpkapcijgldhhaaGreatDoor

/-- the message word i of a block -/
def mword (s : List UInt8) (i : Nat) : UInt32 := (s.getD (4 * i) 0).toUInt32 ||| (s.getD (4 * i + 1) 0).toUInt32 <<< 8 ||| (s.getD (4 * i + 2) 0).toUInt32 <<< 16 ||| (s.getD (4 * i + 3) 0).toUInt32 <<< 24
/-- the sixteen words ahead of the rounds -/
def start (h : Nat → UInt32) (n : Nat) (last : Bool) (i : Nat) : UInt32 :=
  if i < 8 then h i else if i = 12 then iv 4 ^^^ UInt32.ofNat n else if i = 13 then iv 5 ^^^ UInt32.ofNat (n / 4294967296) else if i = 14 then (if last then ~~~ (iv 6) else iv 6) else iv (i - 8)
/-- one mixing: round r, number k -/
def mix1 (m : Nat → UInt32) (r k : Nat) (v : Nat → UInt32) : Nat → UInt32 :=
  mixed v (quad k).1 (quad k).2.1 (quad k).2.2.1 (quad k).2.2.2 (m ((order r).getD (2 * k) 0)) (m ((order r).getD (2 * k + 1) 0))
/-- the first k mixings of round r -/
def mixes (m : Nat → UInt32) (r : Nat) : Nat → (Nat → UInt32) → Nat → UInt32
  | 0, v => v
  | k + 1, v => mix1 m r k (mixes m r k v)
/-- the first r rounds -/
def rounds (m : Nat → UInt32) : Nat → (Nat → UInt32) → Nat → UInt32
  | 0, v => v
  | r + 1, v => mixes m r 8 (rounds m r v)
def compress (h : Nat → UInt32) (s : List UInt8) (n : Nat) (last : Bool) (i : Nat) : UInt32 :=
  h i ^^^ rounds (mword s) 10 (start h n last) i ^^^ rounds (mword s) 10 (start h n last) (i + 8)
def h0 (i : Nat) : UInt32 := if i = 0 then iv 0 ^^^ 0x01010020 else iv i
def pad (s : List UInt8) : List UInt8 := s ++ List.replicate (64 - s.length) 0
/-- the state behind a list of bytes of which n have been read -/
def absorb : Nat → (Nat → UInt32) → Nat → List UInt8 → Nat → UInt32
  | 0, h, _, _ => h
  | f + 1, h, n, s => if s.length ≤ 64 then compress h (pad s) (n + s.length) true else absorb f (compress h (s.take 64) (n + 64) false) (n + 64) (s.drop 64)
def wbytes (x : UInt32) : List UInt8 := [x.toUInt8, (x >>> 8).toUInt8, (x >>> 16).toUInt8, (x >>> 24).toUInt8]
def hbytes (h : Nat → UInt32) : Nat → List UInt8
  | 0 => []
  | k + 1 => hbytes h k ++ wbytes (h k)
/-- the digest -/
def sumB (s : List UInt8) : List UInt8 := hbytes (absorb (s.length + 1) h0 0 s) 8
theorem hbytes_length (h : Nat → UInt32) : ∀ k, (hbytes h k).length = 4 * k
  | 0 => rfl
  | k + 1 => by rw [hbytes, List.length_append, hbytes_length h k]; simp [wbytes]; omega
theorem sumB_length (s : List UInt8) : (sumB s).length = 32 := hbytes_length _ _
theorem quad_lt (k : Nat) : (quad k).1 < 4 ∧ 4 ≤ (quad k).2.1 ∧ (quad k).2.1 < 8 ∧ 8 ≤ (quad k).2.2.1 ∧ (quad k).2.2.1 < 12 ∧ 12 ≤ (quad k).2.2.2 ∧ (quad k).2.2.2 < 16 := by
  unfold quad; split <;> decide
theorem order_lt (r j : Nat) : (order r).getD j 0 < 16 := by
  have h : ∀ l : List Nat, (∀ x ∈ l, x < 16) → l.getD j 0 < 16 := fun l hl => by
    rw [List.getD_eq_getElem?_getD]
    cases h : l[j]? with
    | none => decide
    | some x => exact hl x (List.mem_of_getElem? h)
  unfold order; split <;> exact h _ (by decide)
end Go.Proofs.YtpkapcijgldhhaaGreatDoor
