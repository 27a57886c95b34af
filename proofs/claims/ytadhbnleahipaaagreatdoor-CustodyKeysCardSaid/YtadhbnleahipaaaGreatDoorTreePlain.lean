/-
  A signature of a key tree is accepted: plain functions only, no program in sight.
-/
import Derived.Test.YtadhbnleahipaaaGreatDoorVerifyPlain
import Derived.Test.YtadhbnleahipaaaGreatDoorKeySignR
namespace Go.Proofs.YtadhbnleahipaaaGreatDoor
open Go.RowKit
theorem chainL_add (x : List UInt8) (a : Nat) : ∀ b, chainL (chainL x a) b = chainL x (a + b)
  | 0 => rfl
  | b + 1 => by rw [chainL, chainL_add x a b, ← Nat.add_assoc, chainL]
theorem sigL_part (s : List UInt8) (k : Int) (D : List Nat) : ∀ n i, i < n → ((sigL s k D n).drop (16 * i)).take 16 = chainL (secretL s k i) (D.getD i 0) := by
  intro n
  induction n with
  | zero => intro i h; omega
  | succ n ih =>
    intro i hi
    have hl := sigL_length s k D n
    have hc : (chainL (secretL s k n) (D.getD n 0)).length = 16 := chainL16 (secretL_length _ _ _) _
    rw [sigL]
    by_cases h : i < n
    · rw [List.drop_append_of_le_length (by omega), List.take_append_of_le_length (by rw [List.length_drop]; omega)]
      exact ih i h
    · obtain rfl : i = n := by omega
      rw [show 16 * i = (sigL s k D i).length from hl.symm, List.drop_left, List.take_of_length_le (by omega)]
theorem endsR_sign (s : List UInt8) (k : Int) (D : List Nat) (hD : ∀ i, D.getD i 0 ≤ 15) (N : Nat) : ∀ n, n ≤ N → endsR D (sigL s k D N) n = endsL s k n
  | 0, _ => rfl
  | n + 1, h => by
    rw [endsR, endsL, endsR_sign s k D hD N n (by omega), sigL_part s k D N n (by omega), chainL_add]
    have := hD n
    rw [show D.getD n 0 + (15 - D.getD n 0) = 15 from by omega]
theorem recover_sign (s : List UInt8) (k : Nat) (m : List UInt8) : recoverE (signL s k m) = 0 ∧ recoverL m (signL s k m) = publicL s k := by
  have h0 : ¬ (k : Int) < 0 := by omega
  have hl : (signL s k m).length = 560 := by rw [signL, if_neg h0, sigL_length]
  refine ⟨by rw [recoverE, if_pos hl], ?_⟩
  rw [recoverL, if_pos hl, publicL, if_neg h0, signL, if_neg h0, endsR_sign s k _ (digitsL_getD m) 35 35 (Nat.le_refl _)]
/-- a node of a tree -/
def nodeAt (T : List (List (List UInt8))) (i j : Nat) : List UInt8 := (T.getD i []).getD j []
def sibI (a : Nat) : Nat := if a % 2 = 1 then a - 1 else a + 1
/-- the siblings from a level on -/
def sibs (T : List (List (List UInt8))) (k : Nat) : Nat → Nat → List (List UInt8)
  | _, 0 => []
  | i, d + 1 => nodeAt T i (sibI (k / 2 ^ i)) :: sibs T k (i + 1) d
theorem sibs_length (T : List (List (List UInt8))) (k : Nat) : ∀ d i, (sibs T k i d).length = d
  | 0, _ => rfl
  | d + 1, i => by rw [sibs, List.length_cons, sibs_length T k d (i + 1)]
theorem path_sibs (T : List (List (List UInt8))) (k : Nat) : ∀ d i, pathL T k (i + d) = pathL T k i ++ ((sibs T k i d).map strL).flatten
  | 0, i => by simp [sibs]
  | d + 1, i => by
    rw [show i + (d + 1) = (i + 1) + d from by omega, path_sibs T k d (i + 1), pathL, sibs, List.map_cons, List.flatten_cons, List.append_assoc]; rfl
theorem leaves_get (s : List UInt8) : ∀ n j, j < n → (leavesL s n).getD j [] = publicL s j := by
  intro n
  induction n with
  | zero => intro j h; omega
  | succ n ih =>
    intro j hj
    rw [leavesL, List.getD_eq_getElem?_getD]
    by_cases h : j < n
    · rw [List.getElem?_append_left (by rw [leavesL_length]; exact h), ← List.getD_eq_getElem?_getD]; exact ih j h
    · obtain rfl : j = n := by omega
      rw [List.getElem?_append_right (by rw [leavesL_length]; exact Nat.le_refl _), leavesL_length]; simp
theorem pairN_get (l : List (List UInt8)) : ∀ n j, j < n → (pairN l n).getD j [] = nodeL (l.getD (2 * j) []) (l.getD (2 * j + 1) []) := by
  intro n
  induction n with
  | zero => intro j h; omega
  | succ n ih =>
    intro j hj
    rw [pairN, List.getD_eq_getElem?_getD]
    by_cases h : j < n
    · rw [List.getElem?_append_left (by rw [pairN_length]; exact h), ← List.getD_eq_getElem?_getD]; exact ih j h
    · obtain rfl : j = n := by omega
      rw [List.getElem?_append_right (by rw [pairN_length]; exact Nat.le_refl _), pairN_length]; simp
theorem tree_leaf (s : List UInt8) (h k : Nat) (hk : k < 2 ^ h) : nodeAt (treeL s h) 0 k = publicL s k := by
  obtain ⟨m, h1, _⟩ := levelsL_get h (leavesL s (2 ^ h)) (leavesL_length _ _) 0 (by omega)
  have : (treeL s h).getD 0 [] = leavesL s (2 ^ h) := by
    rw [treeL]; cases h with
    | zero => rfl
    | succ h => rw [levelsL]; rfl
  rw [nodeAt, this]; exact leaves_get s _ k hk
theorem tree_next (s : List UInt8) (h i j : Nat) (hi : i < h) (hj : j < 2 ^ (h - i - 1)) : nodeAt (treeL s h) (i + 1) j = nodeL (nodeAt (treeL s h) i (2 * j)) (nodeAt (treeL s h) i (2 * j + 1)) := by
  obtain ⟨m, h1, h2⟩ := levelsL_get h (leavesL s (2 ^ h)) (leavesL_length _ _) i (by omega)
  have h3 := levelsL_next h (leavesL s (2 ^ h)) i m hi h1
  have e1 : (treeL s h).getD i [] = m := by rw [treeL, List.getD_eq_getElem?_getD, h1]; rfl
  have e2 : (treeL s h).getD (i + 1) [] = pairUp m := by rw [treeL, List.getD_eq_getElem?_getD, h3]; rfl
  rw [nodeAt, nodeAt, nodeAt, e1, e2, pairUp]
  refine pairN_get m _ j ?_
  rw [h2, show h - i = (h - i - 1) + 1 from by omega, Nat.pow_succ]
  omega
theorem tree_len (s : List UInt8) (h : Nat) : ∀ i j, i ≤ h → j < 2 ^ (h - i) → (nodeAt (treeL s h) i j).length = 16 := by
  intro i
  cases i with
  | zero =>
    intro j _ hj
    rw [tree_leaf s h j hj, publicL, if_neg (by omega), hashL_length]
  | succ i =>
    intro j hi hj
    rw [tree_next s h i j hi (by rw [show h - i - 1 = h - (i + 1) from by omega]; exact hj), nodeL, hashL_length]
theorem climb_tree (s : List UInt8) (h k : Nat) (hk : k < 2 ^ h) : ∀ d i, i + d = h → climb k (sibs (treeL s h) k i d) i (nodeAt (treeL s h) i (k / 2 ^ i)) = some (nodeAt (treeL s h) h 0) := by
  intro d
  induction d with
  | zero =>
    intro i hi
    obtain rfl : i = h := by omega
    rw [sibs, climb, Nat.div_eq_of_lt hk]
  | succ d ih =>
    intro i hi
    have ha := div_lt_pow (j := i) hk (by omega)
    have hp : 2 ^ (h - i) = 2 * 2 ^ (h - i - 1) := by
      rw [show h - i = (h - i - 1) + 1 from by omega, Nat.pow_succ, Nat.add_sub_cancel]; omega
    have hdiv : k / 2 ^ (i + 1) = k / 2 ^ i / 2 := by rw [Nat.pow_succ, Nat.div_div_eq_div_mul]
    have hs : sibI (k / 2 ^ i) < 2 ^ (h - i) := sib_lt ha hp
    rw [sibs, climb, if_pos (tree_len s h i _ (by omega) hs)]
    have hn := ih (i + 1) (by omega)
    have hq : k / 2 ^ i / 2 < 2 ^ (h - i - 1) := by
      rw [hp] at ha
      generalize k / 2 ^ i = a at ha ⊢
      omega
    have ht := tree_next s h i (k / 2 ^ i / 2) (by omega) hq
    rw [hdiv, ht] at hn
    rw [← hn]
    by_cases hz : k / 2 ^ i % 2 = 0
    · rw [if_pos hz, sibI, if_neg (by generalize k / 2 ^ i = a at hz ⊢; omega), show 2 * (k / 2 ^ i / 2) = k / 2 ^ i from (by generalize k / 2 ^ i = a at hz ⊢; omega)]
    · rw [if_neg hz, sibI, if_pos (by generalize k / 2 ^ i = a at hz ⊢; omega), show 2 * (k / 2 ^ i / 2) = k / 2 ^ i - 1 from (by generalize k / 2 ^ i = a at hz ⊢; omega), show k / 2 ^ i - 1 + 1 = k / 2 ^ i from (by generalize k / 2 ^ i = a at hz ⊢; omega)]
theorem rdStrs_flat (L : List (List UInt8)) : rdStrs (L.map strL).flatten = (L, 0) := by
  have h := rdStrs_strsL (L.map bA)
  rw [strsL_map, map_bA] at h
  rw [h]
theorem parse_sign (s m : List UInt8) (h k : Nat) (hh : h ≤ 6) (hk : k < 2 ^ h) : parseL (treeSignL s h k m) = some ((k : Int), signL s k m :: sibs (treeL s h) k 0 h) := by
  have h64 : 2 ^ h ≤ 64 := pow_le h hh
  have e1 : treeSignL s h k m = numL k ++ numL h ++ ((signL s k m :: sibs (treeL s h) k 0 h).map strL).flatten := by
    have hp := path_sibs (treeL s h) k h 0
    rw [Nat.zero_add] at hp
    rw [treeSignL, if_neg (by omega), if_neg (by rw [Int.toNat_natCast]; omega), Int.toNat_natCast, Int.toNat_natCast, hp, List.map_cons, List.flatten_cons, pathL]
    simp only [List.nil_append, List.append_assoc]
  have n1 : rdNum (treeSignL s h k m) 0 = ((k : Int), (((numL (k : Int)).length : Nat) : Int), 0) := by
    have := rdNum_numL [] (numL h ++ ((signL s k m :: sibs (treeL s h) k 0 h).map strL).flatten) k (by omega) (by omega)
    rw [List.nil_append, ← List.append_assoc, ← e1] at this
    rw [show (([] : List UInt8).length : Int) = 0 from rfl] at this
    rw [this]; simp
  have n2 : rdNum (treeSignL s h k m) (((numL (k : Int)).length : Nat) : Int) = ((h : Int), (((numL (k : Int)).length + (numL (h : Int)).length : Nat) : Int), 0) := by
    rw [e1, rdNum_numL _ _ _ (by omega) (by omega)]
  have hd : (treeSignL s h k m).drop ((((numL (k : Int)).length + (numL (h : Int)).length : Nat) : Int)).toNat = ((signL s k m :: sibs (treeL s h) k 0 h).map strL).flatten := by
    rw [Int.toNat_natCast, e1, show (numL (k : Int)).length + (numL (h : Int)).length = (numL (k : Int) ++ numL (h : Int)).length from by rw [List.length_append], List.drop_left]
  rw [parseL_3 (p := signL s k m :: sibs (treeL s h) k 0 h) (e := 0) n1 n2 (by rw [Int.toNat_natCast]; omega) (by rw [hd]; exact rdStrs_flat _), if_pos ⟨rfl, by rw [List.length_cons, sibs_length]; rfl⟩]
theorem rootL_at (s : List UInt8) (h : Nat) (hh : h ≤ 6) : rootL s h = nodeAt (treeL s h) h 0 := by rw [rootL, if_neg (by omega), Int.toNat_natCast]; rfl
theorem verify_sign (r s m : List UInt8) (h k : Nat) (hh : h ≤ 6) (hk : k < 2 ^ h) : verifyL r m (treeSignL s h k m) = if rootL s h = r then ((k : Int), 0) else (0, 17) := by
  obtain ⟨h1, h2⟩ := recover_sign s k m
  refine verifyL_root (parse_sign s m h k hh hk) h1 ?_
  have hc := climb_tree s h k hk h 0 (by omega)
  rw [Nat.pow_zero, Nat.div_one, tree_leaf s h k hk] at hc
  rw [rootL_at s h hh, Int.toNat_natCast]
  show climb k (sibs (treeL s h) k 0 h) 0 (recoverL m (signL s k m)) = _
  rw [h2]; exact hc
end Go.Proofs.YtadhbnleahipaaaGreatDoor
