/-
  Signatures of key trees: the reference.
  A signature of a key tree is accepted: plain functions only, no program in sight.
-/
import Derived.Test.YtpkapcijgldhhaaGreatDoorCf01
import Derived.Test.YtpkapcijgldhhaaGreatDoorCf03
import Derived.Test.YtpkapcijgldhhaaGreatDoorCf19
import Derived.Test.YtpkapcijgldhhaaGreatDoorCf05
import Derived.Test.YtpkapcijgldhhaaGreatDoorCf06
import Derived.Test.YtpkapcijgldhhaaGreatDoorCf07
import Derived.Test.YtpkapcijgldhhaaGreatDoorCf08
import Derived.Test.YtpkapcijgldhhaaGreatDoorCf14
import Derived.Deep.CutBlock
import Derived.Deep.CutRange
import Derived.Test.YtpkapcijgldhhaaGreatDoorCe18
namespace Go.Proofs.YtpkapcijgldhhaaGreatDoor
open Go.RowKit
set_option maxHeartbeats 1000000 in
set_option maxRecDepth 100000 in
theorem treeSignR_any (s : ByteArray) (h key : Int) (m : ByteArray) (w : World) (hs : s.size ≤ 1073741824) (hm : m.size ≤ 1073741824) (hh : -9223372036854775808 ≤ h ∧ h ≤ 9223372036854775807) (hk : -9223372036854775808 ≤ key ∧ key ≤ 9223372036854775807) :
    Calls Tryz.prog 27 #[.string s, .int .i64 h, .int .i64 key, .string m] w (RootP (treeSignL s.data.toList h key m.data.toList) (treeSignE h key) w) := by
  by_cases h0 : h < 0
  · have e1 := Lib.hid (show treeSignE h key = 2 by rw [treeSignE, if_pos (.inl h0)])
    have e2 := Lib.hid (show treeSignL s.data.toList h key m.data.toList = [] by rw [treeSignL, if_pos (.inl h0)])
    rw [e1.out, e2.out]
    go_enter Tryz.func27, Tryz.ntmps27
    go_wp2_with fail
    go_ret2
    exact ⟨_, rfl, rfl, below_refl _⟩
  by_cases h6 : 6 < h
  · have e1 := Lib.hid (show treeSignE h key = 2 by rw [treeSignE, if_pos (.inr h6)])
    have e2 := Lib.hid (show treeSignL s.data.toList h key m.data.toList = [] by rw [treeSignL, if_pos (.inr h6)])
    rw [e1.out, e2.out]
    have h0' : 0 ≤ h := by omega
    go_enter Tryz.func27, Tryz.ntmps27
    go_wp2_with fail
    go_ret2
    exact ⟨_, rfl, rfl, below_refl _⟩
  obtain ⟨n, rfl⟩ := Int.eq_ofNat_of_zero_le (Int.not_lt.1 h0)
  have hn : n ≤ 6 := by omega
  have hno : ¬ ((n : Int) < 0 ∨ 6 < (n : Int)) := by omega
  by_cases k0 : key < 0
  · have e1 := Lib.hid (show treeSignE n key = 1 by rw [treeSignE, if_neg hno, if_pos (.inl k0)])
    have e2 := Lib.hid (show treeSignL s.data.toList n key m.data.toList = [] by rw [treeSignL, if_neg hno, if_pos (.inl k0)])
    rw [e1.out, e2.out]
    clear hno h0 h6
    go_enter Tryz.func27, Tryz.ntmps27
    go_wp2_with fail
    go_ret2
    exact ⟨_, rfl, rfl, below_refl _⟩
  have hwp := wrap_pow n hn
  have hpl := pow_le n hn
  by_cases k1 : (2 ^ n : Nat) ≤ key
  · have e1 := Lib.hid (show treeSignE n key = 1 by rw [treeSignE, if_neg hno, if_pos (.inr k1)])
    have e2 := Lib.hid (show treeSignL s.data.toList n key m.data.toList = [] by rw [treeSignL, if_neg hno, if_pos (.inr k1)])
    rw [e1.out, e2.out]
    obtain ⟨N, hN⟩ : ∃ N, 2 ^ n = N := ⟨_, rfl⟩
    have hsz := Lib.hid (fun w => size_any n N w (by omega) hN)
    rw [hN] at hwp hpl k1
    clear hno h0 h6 hN hwp
    have k0' : 0 ≤ key := by omega
    go_enter Tryz.func27, Tryz.ntmps27
    go_wp2_with fail
    refine (hsz.out _).mono ?_
    rintro e w1 ⟨rfl, rfl⟩
    go_wp2_with fail
    go_ret2
    exact ⟨_, rfl, rfl, below_refl _⟩
  obtain ⟨k, rfl⟩ := Int.eq_ofNat_of_zero_le (Int.not_lt.1 k0)
  obtain ⟨N, hN⟩ : ∃ N, 2 ^ n = N := ⟨_, rfl⟩
  have hkN : k < N := by rw [← hN]; omega
  have e1 := Lib.hid (show treeSignE n k = 0 by rw [treeSignE, if_neg hno, if_neg (by simp only [Int.toNat_natCast]; omega)])
  have e2 := Lib.hid (show treeSignL s.data.toList n k m.data.toList = numL k ++ numL n ++ strL (signL s.data.toList k m.data.toList) ++ pathL (treeL s.data.toList n) k n by rw [treeSignL, if_neg hno, if_neg (by simp only [Int.toNat_natCast]; omega)]; rfl)
  rw [e1.out, e2.out]
  rw [hN] at hwp hpl k1
  have HN := Lib.hid hN
  have hsz := Lib.hid (fun w => size_any n N w (by omega) hN)
  clear hno h0 h6 hN k0 hwp
  have hn1 := numL_length (k : Int)
  have hn2 := itoa_len hk.1 hk.2
  have hn3 := numL_length (n : Int)
  have hn4 := itoa_len (n := (n : Int)) (by omega) (by omega)
  have l1 : (numL (k : Int)).length ≤ 30 := by omega
  have l2 : (numL (n : Int)).length ≤ 30 := by omega
  clear hn1 hn2 hn3 hn4
  go_enter Tryz.func27, Tryz.ntmps27
  go_wp2_with fail
  refine (hsz.out _).mono ?_
  rintro e w1 ⟨rfl, rfl⟩
  go_wp2_with fail
  refine (levelsR_any s n _ hs hn).mono ?_
  rintro e w5 ⟨vo, vs, rfl, hown, hlv, hb5⟩
  have hvl : vs.length = n + 1 := hlv.1.trans (levelsL_length _ _)
  rw [hvl] at hown
  have hown0 := hown
  obtain ⟨hxl, hrow⟩ := hown
  rcases hrow with ⟨_, hz⟩ | ⟨go, co, cur, rfl, _, hg, hnc, hcm, hcs, htake⟩
  · omega
  have hlevel : Hid (∀ i, i < n → ∃ gx cx, w5.cell? ⟨go, i, none⟩ = some (.slice (some ⟨gx, 0, none⟩) (2 ^ (n - i)) cx) ∧ ∀ j, j < 2 ^ (n - i) → w5.cell? ⟨gx, j, none⟩ = some (.string (bA (((treeL s.data.toList n).getD i []).getD j [])))) := fun i hi => by
    obtain ⟨mm, hm1, hm2⟩ := levelsL_get n (leavesL s.data.toList (2 ^ n)) (leavesL_length _ _) i (by omega)
    obtain ⟨x, hx⟩ : ∃ x, vs[i]? = some x := ⟨_, List.getElem?_eq_getElem (by omega)⟩
    have hox := hlv.2 i x mm hx hm1
    obtain ⟨gx, cx, rfl, _, _⟩ := World.ownsRow.form hox (by rw [hm2]; exact Nat.two_pow_pos _)
    have hadd : ∀ g j, (⟨g, 0, none⟩ : Addr).add j = ⟨g, j, none⟩ := fun g j => by unfold Addr.add; split <;> simp_all
    have c1 := World.ownsRow.cells hown0 (g := go) rfl i _ hx
    rw [hadd, hm2] at c1
    have htd : (treeL s.data.toList n).getD i [] = mm := by rw [treeL, List.getD_eq_getElem?_getD, hm1]; rfl
    refine ⟨gx, cx, c1, fun j hj => ?_⟩
    have := World.ownsRow.cells hox (g := gx) rfl j (.string (bA (mm.getD j []))) (by
      rw [List.getElem?_map, List.getElem?_map, List.getD_eq_getElem?_getD, List.getElem?_eq_getElem (by rw [hm2]; exact hj)]; rfl)
    rw [hadd] at this
    rw [htd]; exact this
  clear hxl hg hcs htake hlv hvl hown0
  go_wp2_with fail
  refine (refNumber_any k _ hk.1 hk.2).mono ?_
  rintro e w6 ⟨t1, rfl, ht1, rfl⟩
  have z1 : t1.size ≤ 30 := by rw [← toList_size, ht1.out]; exact l1
  go_wp2_with fail
  refine (refNumber_any n _ (by omega) (by omega)).mono ?_
  rintro e w6 ⟨t2, rfl, ht2, rfl⟩
  have z2 : t2.size ≤ 30 := by rw [← toList_size, ht2.out]; exact l2
  go_wp2_with fail
  refine (signR_any s k m _ hs hm hk).mono ?_
  rintro e w6 ⟨t3, rfl, ht3, hb6⟩
  have z3 : t3.size ≤ 560 := by
    rw [← toList_size, ht3.out, signL]
    split
    · exact Nat.zero_le _
    · rw [sigL_length]; decide
  go_wp2_with fail
  refine (refString_any t3 _ (by omega)).mono ?_
  rintro e w7 ⟨t4, rfl, ht4, rfl⟩
  have z4 : t4.size ≤ 2000 := by
    rw [← toList_size, ht4.out]
    have := strL_le t3 (by omega)
    omega
  have HLT : Hid ((t1 ++ t2 ++ t4).data.toList = numL k ++ numL n ++ strL (signL s.data.toList k m.data.toList)) := by
    rw [Hid, append_list, append_list, ht1.out, ht2.out, ht4.out, ht3.out]
  go_upto_block 0 with (fail)
  have bs0 : Below w6.heap.size w6 w6 := Below.refl _ _
  have zz : (t1 ++ t2 ++ t4).size ≤ 3000 := by simp; omega
  generalize t1 ++ t2 ++ t4 = tz at *
  have hbx0 : Hid (Below w5.heap.size w5 w6) := hb6
  go_cut [11] from 42 to 65 (fun v10 wc => ∃ u : ByteArray, v10 = .string u ∧ Hid (u.data.toList = tz.data.toList ++ pathL (treeL s.data.toList n) k n) ∧ Hid (w6 = wc))
  case first =>
    go_wp2_with fail
    go_loopg [2, 11, 12] n (fun kk a o i wr => ∃ (j : Nat) (u : ByteArray), kk + j = n ∧ i = .int .i64 j ∧ o = .string u ∧ a = .int .i64 (k / 2 ^ j : Nat) ∧ u.size ≤ 3000 + 2000 * j ∧ Hid (u.data.toList = tz.data.toList ++ pathL (treeL s.data.toList n) k j) ∧ Hid (w6 = wr))
    case atStart => exact ⟨0, tz, rfl, rfl, rfl, by simp, by omega, by rw [Hid]; simp [pathL], rfl⟩
    case round =>
      obtain ⟨j, u, hkj, rfl, rfl, rfl, hus, hu, hwr⟩ := hrel
      obtain rfl := hwr.out
      clear hwr
      by_cases hlt : j < n
      · have hgk : n - (j + 1) < gk := by omega
        have HK := Lib.hid hkj; clear hkj
        obtain ⟨gx, cx, c0, hc0⟩ := hlevel.out j hlt
        have haj : k / 2 ^ j < 2 ^ (n - j) := div_lt_pow (by rw [HN.out]; exact hkN) (by omega)
        have hpow : 2 ^ (n - j) = 2 * 2 ^ (n - j - 1) := by
          have e9 : n - j = (n - j - 1) + 1 := by omega
          generalize n - j - 1 = z9 at e9 ⊢
          rw [e9, Nat.pow_succ]; omega
        have hp64 : 2 ^ (n - j) ≤ 64 := Nat.le_trans (Nat.pow_le_pow_right (by decide) (by omega)) (pow_le n hn)
        have hdiv : k / 2 ^ (j + 1) = k / 2 ^ j / 2 := by rw [Nat.pow_succ, Nat.div_div_eq_div_mul]
        have hqdef : ∃ q, (if k / 2 ^ j % 2 = 1 then k / 2 ^ j - 1 else k / 2 ^ j + 1) = q := ⟨_, rfl⟩
        obtain ⟨q, hqd⟩ := hqdef
        have hpath : pathL (treeL s.data.toList n) k (j + 1) = pathL (treeL s.data.toList n) k j ++ strL (((treeL s.data.toList n).getD j []).getD (if k / 2 ^ j % 2 = 1 then k / 2 ^ j - 1 else k / 2 ^ j + 1) []) := rfl
        have hq : (if k / 2 ^ j % 2 = 1 then k / 2 ^ j - 1 else k / 2 ^ j + 1) < 2 ^ (n - j) := sib_lt haj hpow
        have c2 := hc0 _ hq
        have ca := (hb6.cell (World.block_lt_of_cell? w5 _ c0)).trans c0
        have cb := (hb6.cell (World.block_lt_of_cell? w5 _ c2)).trans c2
        have hsb0 : ∀ q, (bA (((treeL s.data.toList n).getD j []).getD q [])).size ≤ 100 := fun q => Nat.le_trans (treeL_le s.data.toList n j q) (by decide)
        have hsb := hsb0 (if k / 2 ^ j % 2 = 1 then k / 2 ^ j - 1 else k / 2 ^ j + 1)
        clear hsb0
        rw [← bA_list (((treeL s.data.toList n).getD j []).getD (if k / 2 ^ j % 2 = 1 then k / 2 ^ j - 1 else k / 2 ^ j + 1) [])] at hpath
        rw [hqd] at hpath hq c2 cb hsb
        generalize bA (((treeL s.data.toList n).getD j []).getD q []) = sb at *
        generalize 2 ^ (n - j) = P at *
        generalize k / 2 ^ j = a at *
        have HD := Lib.hid hdiv
        have HP := Lib.hid hpath
        have hst := Lib.hid (refString_any sb w6 (by omega))
        clear c0 c2 hc0 hdiv hpath hpow
        have q1 : (q : Int) < P := by omega
        have HQD := Lib.hid hqd; clear hqd
        go_upto_if 51 with (fail)
        go_cut [13] from 52 to 53 (fun v13 wc => v13 = .int .i64 q ∧ Hid (w6 = wc))
        case first =>
          by_cases hodd : a % 2 = 1
          · have hb : (((a : Int) % 2) == 1) = true := by simp; omega
            have hqe : q = a - 1 := by have := HQD.out; rw [if_pos hodd] at this; omega
            have HQE := Lib.hid hqe; clear hqe
            have ha1 : 1 ≤ a := by omega
            go_wp2_with fail
            go_meet
            case rel => exact ⟨by rw [HQE.out]; congr 1; omega, rfl⟩
          · have hb : (((a : Int) % 2) == 1) = false := by simp; omega
            have hqe : q = a + 1 := by have := HQD.out; rw [if_neg hodd] at this; omega
            have HQE := Lib.hid hqe; clear hqe
            go_wp2_with fail
            go_meet
            case rel => exact ⟨by rw [HQE.out]; go_num, rfl⟩
        case rest =>
          obtain ⟨rfl, hwc⟩ := hcut
          obtain rfl := hwc.out
          go_wp2_with fail
          refine hst.out.mono ?_
          rintro e w8 ⟨y, rfl, hy, rfl⟩
          have hys : y.size ≤ 2000 := by
            rw [← toList_size, hy.out]
            have := strL_le sb (by omega)
            omega
          clear hst ca cb
          go_wp2_with fail
          go_roundg (n - (j + 1))
          case measure => exact hgk
          case rel => exact ⟨j + 1, u ++ y, by have := HK.out; omega, by go_num, rfl, by rw [HD.out]; go_num, by rw [ByteArray.size_append]; omega, by rw [Hid, append_list, hu.out, hy.out, HP.out, List.append_assoc], rfl⟩
      · obtain rfl : j = n := by omega
        have hdn := Lib.hid hkj
        clear hkj
        go_wp2_with fail
        go_meet
        case rel => exact ⟨u, rfl, hu, rfl⟩
  case rest =>
    obtain ⟨u, rfl, hu, hwr⟩ := hcut
    obtain rfl := hwr.out
    have HU : Hid (u.data.toList = numL k ++ numL n ++ strL (signL s.data.toList k m.data.toList) ++ pathL (treeL s.data.toList n) k n) := by rw [Hid, hu.out, HLT.out]
    go_wp2_with fail
    go_ret2
    exact ⟨u, rfl, by rw [Hid]; simpa using HU.out, step2 hb5 hb6⟩
end Go.Proofs.YtpkapcijgldhhaaGreatDoor

namespace Go.Proofs.YtpkapcijgldhhaaGreatDoor
open Go.RowKit
theorem chainL_add (x : List UInt8) (a : Nat) : ∀ b, chainL (chainL x a) b = chainL x (a + b)
  | 0 => rfl
  | b + 1 => by rw [chainL, chainL_add x a b, ← Nat.add_assoc, chainL]
theorem sigL_part (s : List UInt8) (k : Int) (D : List Nat) : ∀ n i, i < n → ((sigL s k D n).drop (16 * i)).take 16 = chainL (secretL s k i) (D.getD i 0) := by
  intro n
  induction n with
  | zero => intro i h; omega
  | succ n ih =>
    intro i hi
    have hl := sigL_length s k D n
    have hc : (chainL (secretL s k n) (D.getD n 0)).length = 16 := chainL16 (secretL_length _ _ _) _
    rw [sigL]
    by_cases h : i < n
    · rw [List.drop_append_of_le_length (by omega), List.take_append_of_le_length (by rw [List.length_drop]; omega)]
      exact ih i h
    · obtain rfl : i = n := by omega
      rw [show 16 * i = (sigL s k D i).length from hl.symm, List.drop_left, List.take_of_length_le (by omega)]
theorem endsR_sign (s : List UInt8) (k : Int) (D : List Nat) (hD : ∀ i, D.getD i 0 ≤ 15) (N : Nat) : ∀ n, n ≤ N → endsR D (sigL s k D N) n = endsL s k n
  | 0, _ => rfl
  | n + 1, h => by
    rw [endsR, endsL, endsR_sign s k D hD N n (by omega), sigL_part s k D N n (by omega), chainL_add]
    have := hD n
    rw [show D.getD n 0 + (15 - D.getD n 0) = 15 from by omega]
theorem recover_sign (s : List UInt8) (k : Nat) (m : List UInt8) : recoverE (signL s k m) = 0 ∧ recoverL m (signL s k m) = publicL s k := by
  have h0 : ¬ (k : Int) < 0 := by omega
  have hl : (signL s k m).length = 560 := by rw [signL, if_neg h0, sigL_length]
  refine ⟨by rw [recoverE, if_pos hl], ?_⟩
  rw [recoverL, if_pos hl, publicL, if_neg h0, signL, if_neg h0, endsR_sign s k _ (digitsL_getD m) 35 35 (Nat.le_refl _)]
/-- a node of a tree -/
def nodeAt (T : List (List (List UInt8))) (i j : Nat) : List UInt8 := (T.getD i []).getD j []
def sibI (a : Nat) : Nat := if a % 2 = 1 then a - 1 else a + 1
/-- the siblings from a level on -/
def sibs (T : List (List (List UInt8))) (k : Nat) : Nat → Nat → List (List UInt8)
  | _, 0 => []
  | i, d + 1 => nodeAt T i (sibI (k / 2 ^ i)) :: sibs T k (i + 1) d
theorem sibs_length (T : List (List (List UInt8))) (k : Nat) : ∀ d i, (sibs T k i d).length = d
  | 0, _ => rfl
  | d + 1, i => by rw [sibs, List.length_cons, sibs_length T k d (i + 1)]
theorem path_sibs (T : List (List (List UInt8))) (k : Nat) : ∀ d i, pathL T k (i + d) = pathL T k i ++ ((sibs T k i d).map strL).flatten
  | 0, i => by simp [sibs]
  | d + 1, i => by
    rw [show i + (d + 1) = (i + 1) + d from by omega, path_sibs T k d (i + 1), pathL, sibs, List.map_cons, List.flatten_cons, List.append_assoc]; rfl
theorem leaves_get (s : List UInt8) : ∀ n j, j < n → (leavesL s n).getD j [] = publicL s j := by
  intro n
  induction n with
  | zero => intro j h; omega
  | succ n ih =>
    intro j hj
    rw [leavesL, List.getD_eq_getElem?_getD]
    by_cases h : j < n
    · rw [List.getElem?_append_left (by rw [leavesL_length]; exact h), ← List.getD_eq_getElem?_getD]; exact ih j h
    · obtain rfl : j = n := by omega
      rw [List.getElem?_append_right (by rw [leavesL_length]; exact Nat.le_refl _), leavesL_length]; simp
theorem pairN_get (l : List (List UInt8)) : ∀ n j, j < n → (pairN l n).getD j [] = nodeL (l.getD (2 * j) []) (l.getD (2 * j + 1) []) := by
  intro n
  induction n with
  | zero => intro j h; omega
  | succ n ih =>
    intro j hj
    rw [pairN, List.getD_eq_getElem?_getD]
    by_cases h : j < n
    · rw [List.getElem?_append_left (by rw [pairN_length]; exact h), ← List.getD_eq_getElem?_getD]; exact ih j h
    · obtain rfl : j = n := by omega
      rw [List.getElem?_append_right (by rw [pairN_length]; exact Nat.le_refl _), pairN_length]; simp
theorem tree_leaf (s : List UInt8) (h k : Nat) (hk : k < 2 ^ h) : nodeAt (treeL s h) 0 k = publicL s k := by
  obtain ⟨m, h1, _⟩ := levelsL_get h (leavesL s (2 ^ h)) (leavesL_length _ _) 0 (by omega)
  have : (treeL s h).getD 0 [] = leavesL s (2 ^ h) := by
    rw [treeL]; cases h with
    | zero => rfl
    | succ h => rw [levelsL]; rfl
  rw [nodeAt, this]; exact leaves_get s _ k hk
theorem tree_next (s : List UInt8) (h i j : Nat) (hi : i < h) (hj : j < 2 ^ (h - i - 1)) : nodeAt (treeL s h) (i + 1) j = nodeL (nodeAt (treeL s h) i (2 * j)) (nodeAt (treeL s h) i (2 * j + 1)) := by
  obtain ⟨m, h1, h2⟩ := levelsL_get h (leavesL s (2 ^ h)) (leavesL_length _ _) i (by omega)
  have h3 := levelsL_next h (leavesL s (2 ^ h)) i m hi h1
  have e1 : (treeL s h).getD i [] = m := by rw [treeL, List.getD_eq_getElem?_getD, h1]; rfl
  have e2 : (treeL s h).getD (i + 1) [] = pairUp m := by rw [treeL, List.getD_eq_getElem?_getD, h3]; rfl
  rw [nodeAt, nodeAt, nodeAt, e1, e2, pairUp]
  refine pairN_get m _ j ?_
  rw [h2, show h - i = (h - i - 1) + 1 from by omega, Nat.pow_succ]
  omega
theorem tree_len (s : List UInt8) (h : Nat) : ∀ i j, i ≤ h → j < 2 ^ (h - i) → (nodeAt (treeL s h) i j).length = 16 := by
  intro i
  cases i with
  | zero =>
    intro j _ hj
    rw [tree_leaf s h j hj, publicL, if_neg (by omega), hashL_length]
  | succ i =>
    intro j hi hj
    rw [tree_next s h i j hi (by rw [show h - i - 1 = h - (i + 1) from by omega]; exact hj), nodeL, hashL_length]
theorem climb_tree (s : List UInt8) (h k : Nat) (hk : k < 2 ^ h) : ∀ d i, i + d = h → climb k (sibs (treeL s h) k i d) i (nodeAt (treeL s h) i (k / 2 ^ i)) = some (nodeAt (treeL s h) h 0) := by
  intro d
  induction d with
  | zero =>
    intro i hi
    obtain rfl : i = h := by omega
    rw [sibs, climb, Nat.div_eq_of_lt hk]
  | succ d ih =>
    intro i hi
    have ha := div_lt_pow (j := i) hk (by omega)
    have hp : 2 ^ (h - i) = 2 * 2 ^ (h - i - 1) := by
      rw [show h - i = (h - i - 1) + 1 from by omega, Nat.pow_succ, Nat.add_sub_cancel]; omega
    have hdiv : k / 2 ^ (i + 1) = k / 2 ^ i / 2 := by rw [Nat.pow_succ, Nat.div_div_eq_div_mul]
    have hs : sibI (k / 2 ^ i) < 2 ^ (h - i) := sib_lt ha hp
    rw [sibs, climb, if_pos (tree_len s h i _ (by omega) hs)]
    have hn := ih (i + 1) (by omega)
    have hq : k / 2 ^ i / 2 < 2 ^ (h - i - 1) := by
      rw [hp] at ha
      generalize k / 2 ^ i = a at ha ⊢
      omega
    have ht := tree_next s h i (k / 2 ^ i / 2) (by omega) hq
    rw [hdiv, ht] at hn
    rw [← hn]
    by_cases hz : k / 2 ^ i % 2 = 0
    · rw [if_pos hz, sibI, if_neg (by generalize k / 2 ^ i = a at hz ⊢; omega), show 2 * (k / 2 ^ i / 2) = k / 2 ^ i from (by generalize k / 2 ^ i = a at hz ⊢; omega)]
    · rw [if_neg hz, sibI, if_pos (by generalize k / 2 ^ i = a at hz ⊢; omega), show 2 * (k / 2 ^ i / 2) = k / 2 ^ i - 1 from (by generalize k / 2 ^ i = a at hz ⊢; omega), show k / 2 ^ i - 1 + 1 = k / 2 ^ i from (by generalize k / 2 ^ i = a at hz ⊢; omega)]
theorem rdStrs_flat (L : List (List UInt8)) : rdStrs (L.map strL).flatten = (L, 0) := by
  have h := rdStrs_strsL (L.map bA)
  rw [strsL_map, map_bA] at h
  rw [h]
theorem parse_sign (s m : List UInt8) (h k : Nat) (hh : h ≤ 6) (hk : k < 2 ^ h) : parseL (treeSignL s h k m) = some ((k : Int), signL s k m :: sibs (treeL s h) k 0 h) := by
  have h64 : 2 ^ h ≤ 64 := pow_le h hh
  have e1 : treeSignL s h k m = numL k ++ numL h ++ ((signL s k m :: sibs (treeL s h) k 0 h).map strL).flatten := by
    have hp := path_sibs (treeL s h) k h 0
    rw [Nat.zero_add] at hp
    rw [treeSignL, if_neg (by omega), if_neg (by rw [Int.toNat_natCast]; omega), Int.toNat_natCast, Int.toNat_natCast, hp, List.map_cons, List.flatten_cons, pathL]
    simp only [List.nil_append, List.append_assoc]
  have n1 : rdNum (treeSignL s h k m) 0 = ((k : Int), (((numL (k : Int)).length : Nat) : Int), 0) := by
    have := rdNum_numL [] (numL h ++ ((signL s k m :: sibs (treeL s h) k 0 h).map strL).flatten) k (by omega) (by omega)
    rw [List.nil_append, ← List.append_assoc, ← e1] at this
    rw [show (([] : List UInt8).length : Int) = 0 from rfl] at this
    rw [this]; simp
  have n2 : rdNum (treeSignL s h k m) (((numL (k : Int)).length : Nat) : Int) = ((h : Int), (((numL (k : Int)).length + (numL (h : Int)).length : Nat) : Int), 0) := by
    rw [e1, rdNum_numL _ _ _ (by omega) (by omega)]
  have hd : (treeSignL s h k m).drop ((((numL (k : Int)).length + (numL (h : Int)).length : Nat) : Int)).toNat = ((signL s k m :: sibs (treeL s h) k 0 h).map strL).flatten := by
    rw [Int.toNat_natCast, e1, show (numL (k : Int)).length + (numL (h : Int)).length = (numL (k : Int) ++ numL (h : Int)).length from by rw [List.length_append], List.drop_left]
  rw [parseL_3 (p := signL s k m :: sibs (treeL s h) k 0 h) (e := 0) n1 n2 (by rw [Int.toNat_natCast]; omega) (by rw [hd]; exact rdStrs_flat _), if_pos ⟨rfl, by rw [List.length_cons, sibs_length]; rfl⟩]
theorem rootL_at (s : List UInt8) (h : Nat) (hh : h ≤ 6) : rootL s h = nodeAt (treeL s h) h 0 := by rw [rootL, if_neg (by omega), Int.toNat_natCast]; rfl
theorem verify_sign (r s m : List UInt8) (h k : Nat) (hh : h ≤ 6) (hk : k < 2 ^ h) : verifyL r m (treeSignL s h k m) = if rootL s h = r then ((k : Int), 0) else (0, 17) := by
  obtain ⟨h1, h2⟩ := recover_sign s k m
  refine verifyL_root (parse_sign s m h k hh hk) h1 ?_
  have hc := climb_tree s h k hk h 0 (by omega)
  rw [Nat.pow_zero, Nat.div_one, tree_leaf s h k hk] at hc
  rw [rootL_at s h hh, Int.toNat_natCast]
  show climb k (sibs (treeL s h) k 0 h) 0 (recoverL m (signL s k m)) = _
  rw [h2]; exact hc
end Go.Proofs.YtpkapcijgldhhaaGreatDoor
