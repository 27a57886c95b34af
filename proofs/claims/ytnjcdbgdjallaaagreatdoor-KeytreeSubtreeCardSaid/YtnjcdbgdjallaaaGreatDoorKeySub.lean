/-
  Chapter 30: the law Subtree, walked out of the contracts.
-/
import Derived.Test.YtnjcdbgdjallaaaGreatDoorKeyLawsZ
namespace Go.Proofs.YtnjcdbgdjallaaaGreatDoor
open Go.RowKit
theorem path_sub (s : List UInt8) (n k : Nat) (hn : n ≤ 1) (hk : k < 2 ^ n) : pathL (treeL s (n + 1)) k n = pathL (treeL s n) k n := by
  rcases Nat.le_one_iff_eq_zero_or_eq_one.1 hn with rfl | rfl
  · rw [pathL, pathL]
  · have hj : (if k / 2 ^ 0 % 2 = 1 then k / 2 ^ 0 - 1 else k / 2 ^ 0 + 1) < 2 := by
      rw [Nat.pow_zero, Nat.div_one]; split <;> omega
    have e1 := tree_leaf s 2 (if k / 2 ^ 0 % 2 = 1 then k / 2 ^ 0 - 1 else k / 2 ^ 0 + 1) (Nat.lt_trans hj (by decide))
    have e2 := tree_leaf s 1 (if k / 2 ^ 0 % 2 = 1 then k / 2 ^ 0 - 1 else k / 2 ^ 0 + 1) hj
    rw [nodeAt] at e1 e2
    rw [pathL, pathL, pathL, pathL, show 1 + 1 = 2 from rfl, e1, e2]
theorem root_sub (s : List UInt8) (n : Nat) (hn : n ≤ 1) : nodeAt (treeL s (n + 1)) n 0 = nodeAt (treeL s n) n 0 := by
  rcases Nat.le_one_iff_eq_zero_or_eq_one.1 hn with rfl | rfl
  · rw [tree_leaf s 1 0 (by decide), tree_leaf s 0 0 (by decide)]
  · rw [show 1 + 1 = 2 from rfl, tree_next s 2 0 0 (by decide) (by decide), tree_next s 1 0 0 (by decide) (by decide), tree_leaf s 2 _ (by decide), tree_leaf s 2 _ (by decide), tree_leaf s 1 _ (by decide), tree_leaf s 1 _ (by decide)]
/-- a signature of the smaller tree, one of the greater, the greater root -/
theorem sub_tree (s m : List UInt8) (n k : Nat) (hn : n ≤ 1) (hk : k < 2 ^ n) : ∃ S, treeSignL s n k m = numL k ++ numL n ++ S ∧ treeSignL s ((n : Int) + 1) k m = numL k ++ numL ((n : Int) + 1) ++ S ++ strL (nodeAt (treeL s (n + 1)) n 1) ∧
    rootL s ((n : Int) + 1) = nodeL (rootL s n) (nodeAt (treeL s (n + 1)) n 1) ∧ (nodeAt (treeL s (n + 1)) n 1).length = 16 ∧ S.length ≤ 1000 := by
  refine ⟨strL (signL s k m) ++ pathL (treeL s n) k n, ?_, ?_, ?_, ?_, ?_⟩
  · rw [treeSignL, if_neg (by omega), if_neg (by rw [Int.toNat_natCast]; omega), Int.toNat_natCast, Int.toNat_natCast]; simp only [List.append_assoc]
  · have hd : k / 2 ^ n = 0 := Nat.div_eq_of_lt hk
    rw [show (n : Int) + 1 = ((n + 1 : Nat) : Int) from rfl, treeSignL, if_neg (by omega), if_neg (by rw [Int.toNat_natCast, Nat.pow_succ]; omega), Int.toNat_natCast, Int.toNat_natCast, pathL, path_sub s n k hn hk, hd]
    simp only [List.append_assoc]; rfl
  · rw [show (n : Int) + 1 = ((n + 1 : Nat) : Int) from rfl, rootL_at s (n + 1) (by omega), rootL_at s n (by omega), tree_next s (n + 1) n 0 (by omega) (Nat.two_pow_pos _), root_sub s n hn]
  · exact tree_len s (n + 1) n 1 (by omega) (by rw [show n + 1 - n = 1 from by omega]; decide)
  · have l3 : (strL (signL s k m)).length ≤ 590 := strL_len (n := 560) (by
      rw [signL]
      split
      · exact Nat.zero_le _
      · rw [sigL_length]; decide) (by decide)
    have l4 := pathL_len s n k n
    rw [List.length_append]; omega
theorem ext_tail (A M : ByteArray) (i j : Nat) (hi : i = A.size) (hj : j = A.size + M.size) : (A ++ M).extract i j = M := by
  subst hi; subst hj
  apply list_inj
  rw [extract_list, append_list, show A.size = A.data.toList.length from rfl, List.drop_left, List.take_of_length_le (by rw [toList_size]; omega)]
set_option maxRecDepth 100000 in
set_option maxHeartbeats 2000000 in
theorem lawKeySub_any (s m : ByteArray) (h k : Int) (w : World) (he : Env w) (hs : s.size ≤ 140737488355328) (hm : m.size ≤ 140737488355328) (hh : -9223372036854775808 ≤ h ∧ h ≤ 9223372036854775807) (hk : -9223372036854775808 ≤ k ∧ k ≤ 9223372036854775807) :
    Calls Tryz.prog 3 #[.agg #[.string s, .string m, .int .i64 h, .int .i64 k]] w (TrueP w) := by
  have k0 : (w.alloc (.cells #[.string s, .string m, .int .i64 h, .int .i64 k] 23)).cell? ⟨w.heap.size, 0, none⟩ = some (.string s) := by rw [alloc_new_cell]; rfl
  have k1 : (w.alloc (.cells #[.string s, .string m, .int .i64 h, .int .i64 k] 23)).cell? ⟨w.heap.size, 1, none⟩ = some (.string m) := by rw [alloc_new_cell]; rfl
  have k2 : (w.alloc (.cells #[.string s, .string m, .int .i64 h, .int .i64 k] 23)).cell? ⟨w.heap.size, 2, none⟩ = some (.int .i64 h) := by rw [alloc_new_cell]; rfl
  have k3 : (w.alloc (.cells #[.string s, .string m, .int .i64 h, .int .i64 k] 23)).cell? ⟨w.heap.size, 3, none⟩ = some (.int .i64 k) := by rw [alloc_new_cell]; rfl
  go_enter Tryz.func3, Tryz.ntmps3
  go_wp2_with fail
  go_quiet (fail)
  have hbn : ∀ n, Below w.heap.size w (((w.alloc (.cells #[.string s, .string m, .int .i64 h, .int .i64 k] 23)).drewN n).alloc (.cells #[.string s, .string m] 9)) := fun n => (below_drewN ((below_refl w).alloc (Nat.le_refl _) _) n).alloc (by simp) _
  have hb0 := hbn nq
  have hgr := Lib.hid (great_str2 s m ((w.alloc (.cells #[.string s, .string m, .int .i64 h, .int .i64 k] 23)).drewN nq) (w.heap.size + 1) (by simp) hs hm)
  have HF := Lib.hid (show ∀ W, Below w.heap.size w W → Calls Tryz.prog 9 #[] W (TrueP W) from fun W hW => awake_any W (he.below hW))
  clear k0 k1 k2 k3 hbn
  go_wp2_with fail
  refine hgr.out.mono ?_
  rintro e w1 ⟨b, rfl, hb, rfl⟩
  clear hgr
  cases b with
  | true =>
    go_wp2_with fail
    refine (HF.out _ hb0).mono ?_
    rintro e w9 ⟨rfl, hb9⟩
    go_wp2_with fail
    go_ret
    exact ⟨rfl, step2 hb0 hb9⟩
  | false =>
    have hz1 : s.size + m.size ≤ 300 := by simpa [totZ] using hb.out rfl
    clear hb
    by_cases h0 : h < 0
    · go_wp2_with fail
      refine (HF.out _ hb0).mono ?_
      rintro e w9 ⟨rfl, hb9⟩
      go_wp2_with fail
      go_ret
      exact ⟨rfl, step2 hb0 hb9⟩
    by_cases h2 : 1 < h
    · have h0' : 0 ≤ h := by omega
      go_wp2_with fail
      refine (HF.out _ hb0).mono ?_
      rintro e w9 ⟨rfl, hb9⟩
      go_wp2_with fail
      go_ret
      exact ⟨rfl, step2 hb0 hb9⟩
    obtain ⟨n, rfl⟩ := Int.eq_ofNat_of_zero_le (Int.not_lt.1 h0)
    have hn : n ≤ 1 := by omega
    by_cases k0 : k < 0
    · clear h0 h2
      go_wp2_with fail
      refine (HF.out _ hb0).mono ?_
      rintro e w9 ⟨rfl, hb9⟩
      go_wp2_with fail
      go_ret
      exact ⟨rfl, step2 hb0 hb9⟩
    have hwp := wrap_pow n (by omega)
    have hpl := pow_le n (by omega)
    obtain ⟨k, rfl⟩ := Int.eq_ofNat_of_zero_le (Int.not_lt.1 k0)
    have hst := Lib.hid (fun hk => sub_tree s.data.toList m.data.toList n k hn hk)
    have hse := Lib.hid (show k < 2 ^ n → treeSignE n k = 0 from fun hk => by rw [treeSignE, if_neg (by omega), if_neg (by rw [Int.toNat_natCast]; omega)])
    have hse2 := Lib.hid (show k < 2 ^ n → treeSignE ((n : Int) + 1) k = 0 from fun hk => by
      rw [treeSignE, if_neg (by omega), if_neg (by rw [show (n : Int) + 1 = ((n + 1 : Nat) : Int) from rfl, Int.toNat_natCast, Nat.pow_succ]; omega)])
    have hre : rootE n = 0 := by rw [rootE, if_neg (by omega)]
    have hre2 : rootE ((n : Int) + 1) = 0 := by rw [rootE, if_neg (by omega)]
    obtain ⟨N, hN⟩ : ∃ N, 2 ^ n = N := ⟨_, rfl⟩
    rw [hN] at hwp hpl hst hse hse2
    clear hN h0 h2 k0
    by_cases k1 : N ≤ k
    · have k1' : (N : Int) ≤ k := by omega
      go_wp2_with fail
      refine (HF.out _ hb0).mono ?_
      rintro e w9 ⟨rfl, hb9⟩
      go_wp2_with fail
      go_ret
      exact ⟨rfl, step2 hb0 hb9⟩
    have k1' : (k : Int) < N := by omega
    obtain ⟨S, hs1, hs2, hs3, hsl, hSl⟩ := hst.out (by omega)
    have hse1 := hse.out (by omega)
    have hse3 := hse2.out (by omega)
    have HS1 := Lib.hid hs1
    have HS2 := Lib.hid hs2
    have HS3 := Lib.hid hs3
    have ra := Lib.hid (fun W hW => root_any s n W (he.below hW) (by omega) (by omega))
    have rb := Lib.hid (fun W hW => root_any s ((n : Int) + 1) W (he.below hW) (by omega) (by omega))
    have sa := Lib.hid (fun W hW => treeSign_any s n k m W (he.below hW) (by omega) (by omega) (by omega) hk)
    have sb := Lib.hid (fun W hW => treeSign_any s ((n : Int) + 1) k m W (he.below hW) (by omega) (by omega) (by omega) hk)
    have hN : ∀ j : Int, 0 ≤ j → j ≤ 1000 → ∀ W, Below w.heap.size w W → _ := fun j h0 h1 W hW => number_any j W (he.below hW) (by omega) (by omega)
    have HN := Lib.hid hN
    rw [hre] at ra
    rw [hre2] at rb
    rw [hse1] at sa
    rw [hse3] at sb
    clear hst hse hse2 hse1 hse3 hre hre2 hs1 hs2 hs3 hN
    go_wp2_with fail
    refine (ra.out _ hb0).mono ?_
    rintro e w1 ⟨r1, rfl, hr1, hb1⟩
    have hb1 := step2 hb0 hb1
    go_wp2_with fail
    refine (rb.out _ hb1).mono ?_
    rintro e w2 ⟨r2, rfl, hr2, hb2⟩
    have hb2 := step2 hb1 hb2
    go_wp2_with fail
    refine (sa.out _ hb2).mono ?_
    rintro e w3 ⟨a, rfl, ha, hb3⟩
    have hb3 := step2 hb2 hb3
    go_wp2_with fail
    refine (sb.out _ hb3).mono ?_
    rintro e w4 ⟨b, rfl, hbb, hb4⟩
    have hb4 := step2 hb3 hb4
    clear ra rb sa sb
    go_wp2_with fail
    refine (HN.out k (by omega) (by omega) _ hb4).mono ?_
    rintro e w5 ⟨n1, rfl, hn1, hb5⟩
    have hb5 := step2 hb4 hb5
    have z1 : n1.size ≤ 30 := by rw [← toList_size, hn1.out, numL_length]; have := itoa_len (n := (k : Int)) (by omega) (by omega); omega
    go_wp2_with fail
    refine (HN.out n (by omega) (by omega) _ hb5).mono ?_
    rintro e w6 ⟨n2, rfl, hn2, hb6⟩
    have hb6 := step2 hb5 hb6
    have z2 : n2.size ≤ 30 := by rw [← toList_size, hn2.out, numL_length]; have := itoa_len (n := (n : Int)) (by omega) (by omega); omega
    go_wp2_with fail
    refine (HN.out k (by omega) (by omega) _ hb6).mono ?_
    rintro e w7 ⟨n3, rfl, hn3, hb7⟩
    have hb7 := step2 hb6 hb7
    obtain rfl : n1 = n3 := list_inj (by rw [hn1.out, hn3.out])
    clear hn3
    go_wp2_with fail
    refine (HN.out ((n : Int) + 1) (by omega) (by omega) _ hb7).mono ?_
    rintro e w8 ⟨n4, rfl, hn4, hb8⟩
    have hb8 := step2 hb7 hb8
    have z4 : n4.size ≤ 30 := by rw [← toList_size, hn4.out, numL_length]; have := itoa_len (n := (n : Int) + 1) (by omega) (by omega); omega
    obtain ⟨M, hM⟩ : ∃ M : ByteArray, M.data.toList = S := ⟨⟨S.toArray⟩, rfl⟩
    obtain ⟨P, hP⟩ : ∃ P : ByteArray, P.data.toList = strL (nodeAt (treeL s.data.toList (n + 1)) n 1) := ⟨⟨(strL (nodeAt (treeL s.data.toList (n + 1)) n 1)).toArray⟩, rfl⟩
    obtain rfl : a = n1 ++ n2 ++ M := list_inj (by rw [ha.out, HS1.out, append_list, append_list, hn1.out, hn2.out, hM])
    obtain rfl : b = n1 ++ n4 ++ M ++ P := list_inj (by rw [hbb.out, HS2.out, append_list, append_list, append_list, hn1.out, hn4.out, hM, hP])
    have zM : M.size ≤ 1000 := by rw [← toList_size, hM]; exact hSl
    have zP : P.size ≤ 46 := by rw [← toList_size, hP]; exact strL_len (n := 16) (Nat.le_of_eq hsl) (by decide)
    have HM := Lib.hid hM
    have HP := Lib.hid hP
    have hXl := hsl
    clear ha hbb hM hP hSl hsl
    have hpre := Lib.hid (show ∀ a b : ByteArray, Lib.hasPrefix (a ++ b).data.toList a.data.toList = true from fun a b => by rw [append_list, Lib.hasPrefix]; simp)
    have hp1 : Lib.hasPrefix (n1 ++ n2 ++ M).data.toList (n1 ++ n2).data.toList = true := hpre.out _ _
    go_wp2_with fail
    refine (Tryz.strings_HasPrefix _ _ _).mono ?_
    rintro e w9 ⟨rfl, rfl⟩
    rw [hp1]
    clear hp1
    go_wp2_with fail
    have hex : (n1 ++ n2 ++ M).extract (n1.size + n2.size) (n1.size + n2.size + M.size) = M := ext_tail (n1 ++ n2) M _ _ (by simp) (by simp)
    rw [hex]
    clear hex
    have hp2 : Lib.hasPrefix (n1 ++ n4 ++ M ++ P).data.toList (n1 ++ n4 ++ M).data.toList = true := hpre.out _ _
    refine (Tryz.strings_HasPrefix _ _ _).mono ?_
    rintro e w9 ⟨rfl, rfl⟩
    rw [hp2]
    clear hp2
    go_wp2_with fail
    have hex : (n1 ++ n4 ++ M ++ P).extract (n1.size + n4.size + (n1.size + n2.size + M.size) - (n1.size + n2.size)) (n1.size + n4.size + M.size + P.size) = P :=
      ext_tail (n1 ++ n4 ++ M) P _ _ (by simp; omega) (by simp)
    rw [hex]
    clear hex
    have hrd := Lib.hid (readStrings_any P _ (he.below hb8) (by omega))
    rw [HP.out] at hrd
    refine hrd.out.mono ?_
    rintro e w10 ⟨v, q, x, rfl, hq, hown, hb10⟩
    have hb10 := step2 hb8 hb10
    obtain ⟨X, hX⟩ : ∃ X, nodeAt (treeL s.data.toList (n + 1)) n 1 = X := ⟨_, rfl⟩
    rw [hX] at hq HS3 hXl
    clear HP hX
    obtain ⟨B, hB, rfl, rfl⟩ : ∃ B : ByteArray, Hid (B.data.toList = X) ∧ q = [B] ∧ x = 0 := by
      have h1 := hq.out
      have h2 := rdStrs_flat [X]
      rw [show ([X].map strL).flatten = strL X from by simp] at h2
      rw [h2] at h1
      simp only [Prod.mk.injEq] at h1
      obtain ⟨h1, rfl⟩ := h1
      match q, h1 with
      | [B], h1 => exact ⟨B, Lib.hid (by simpa using h1.symm), rfl, rfl⟩
    obtain ⟨g, cap, rfl, _, _⟩ := World.ownsRow.form hown Nat.zero_lt_one
    have hadd : (⟨g, 0, none⟩ : Addr).add 0 = ⟨g, 0, none⟩ := rfl
    have hc := World.ownsRow.cells hown (g := g) rfl 0 (.string B) rfl
    rw [hadd] at hc
    have zB : B.size ≤ 1073741824 := by rw [← toList_size, hB.out, hXl]; decide
    have zr1 : r1.size ≤ 1073741824 := by
      rw [← toList_size, hr1.out, rootL_at _ _ (by omega), tree_len _ _ n 0 (Nat.le_refl _) (Nat.two_pow_pos _)]; decide
    have hnd := Lib.hid (nodeR_any r1 B w10 zr1 zB)
    clear hown hq hrd hadd hXl
    go_wp2_with fail
    refine hnd.out.mono ?_
    rintro e w11 ⟨c, rfl, hcc, hb11⟩
    have hb11 := step2 hb10 hb11
    obtain rfl : c = r2 := list_inj (by rw [hcc.out, hr2.out, HS3.out, hr1.out, hB.out]; rfl)
    clear hcc hnd hc
    go_wp2_with fail
    refine (HF.out _ hb11).mono ?_
    rintro e w12 ⟨rfl, hb12⟩
    go_wp2_with fail
    go_ret
    exact ⟨rfl, step2 hb11 hb12⟩
end Go.Proofs.YtnjcdbgdjallaaaGreatDoor
