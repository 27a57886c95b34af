/-
  Chapter 30: the laws Subtree, Verify, Validity, OtherMessage, OtherRoot, walked out of the contracts.
-/
import Derived.Test.YtnjcdbgdjallaaaGreatDoorAwake
import Derived.Test.YtnjcdbgdjallaaaGreatDoorVerifyR
import Derived.Test.YtnjcdbgdjallaaaGreatDoorTreePlain
import Derived.Deep.QuietTactic
import Derived.Deep.CutBlock
namespace Go.Proofs.YtnjcdbgdjallaaaGreatDoor
open Go.RowKit
theorem great_str1 (s : ByteArray) (w : World) (b : Nat) (hb : w.heap.size = b) (hs : s.size ≤ 140737488355328) :
    Calls Tryz.prog 8 #[.slice (some ⟨b, 0, none⟩) 1 1] (w.alloc (.cells #[.string s] 9)) (GreatP [s] (w.alloc (.cells #[.string s] 9))) := by
  subst hb
  exact great_any _ [s] _ (strs_new w [s] #[.string s] 9 1 rfl rfl (by simp [maxLen])) (by simp [totZ]; omega)
theorem great_str2 (s m : ByteArray) (w : World) (b : Nat) (hb : w.heap.size = b) (hs : s.size ≤ 140737488355328) (hm : m.size ≤ 140737488355328) :
    Calls Tryz.prog 8 #[.slice (some ⟨b, 0, none⟩) 2 2] (w.alloc (.cells #[.string s, .string m] 9)) (GreatP [s, m] (w.alloc (.cells #[.string s, .string m] 9))) := by
  subst hb
  exact great_any _ [s, m] _ (strs_new w [s, m] #[.string s, .string m] 9 2 rfl rfl (by simp [maxLen])) (by simp [totZ]; omega)
theorem great_str3 (s m o : ByteArray) (w : World) (b : Nat) (hb : w.heap.size = b) (hs : s.size ≤ 140737488355328) (hm : m.size ≤ 140737488355328) (ho : o.size ≤ 140737488355328) :
    Calls Tryz.prog 8 #[.slice (some ⟨b, 0, none⟩) 3 3] (w.alloc (.cells #[.string s, .string m, .string o] 9)) (GreatP [s, m, o] (w.alloc (.cells #[.string s, .string m, .string o] 9))) := by
  subst hb
  exact great_any _ [s, m, o] _ (strs_new w [s, m, o] #[.string s, .string m, .string o] 9 3 rfl rfl (by simp [maxLen])) (by simp [totZ]; omega)
theorem strL_len {l : List UInt8} {n : Nat} (h : l.length ≤ n) (hn : n ≤ 1000000) : (strL l).length ≤ n + 30 := by
  have e : (strL l).length = (strL (bA l).data.toList).length := rfl
  have z : (bA l).size = l.length := rfl
  rw [e, strL_length, toList_size, z]
  have := itoa_len (n := l.length) (by omega) (by omega)
  omega
theorem pathL_len (s : List UInt8) (h k : Nat) : ∀ n, (pathL (treeL s h) k n).length ≤ 46 * n
  | 0 => Nat.le_refl _
  | n + 1 => by
    have h1 := pathL_len s h k n
    have h2 := strL_len (n := 16) (treeL_le s h n (if k / 2 ^ n % 2 = 1 then k / 2 ^ n - 1 else k / 2 ^ n + 1)) (by decide)
    rw [pathL, List.length_append]
    omega
theorem treeSign_len (s m : List UInt8) (h k : Nat) (hh : h ≤ 6) : (treeSignL s h k m).length ≤ 1073741824 := by
  rw [treeSignL]
  split
  · exact Nat.zero_le _
  · split
    · exact Nat.zero_le _
    · rename_i h1 h2
      have l1 : (numL (k : Int)).length ≤ 30 := by
        rw [numL_length]
        have : 2 ^ h ≤ 64 := pow_le h hh
        rw [Int.toNat_natCast] at h2
        have := itoa_len (n := (k : Int)) (by omega) (by omega); omega
      have l2 : (numL (h : Int)).length ≤ 30 := by rw [numL_length]; have := itoa_len (n := (h : Int)) (by omega) (by omega); omega
      have l3 : (strL (signL s k m)).length ≤ 590 := strL_len (n := 560) (by
        rw [signL]
        split
        · exact Nat.zero_le _
        · rw [sigL_length]; decide) (by decide)
      have l4 := pathL_len s h k h
      rw [Int.toNat_natCast, Int.toNat_natCast]
      simp only [List.length_append]
      omega
set_option maxHeartbeats 2000000 in
theorem lawKeyValid_any (s m : ByteArray) (h k : Int) (w : World) (he : Env w) (hs : s.size ≤ 140737488355328) (hm : m.size ≤ 140737488355328) (hh : -9223372036854775808 ≤ h ∧ h ≤ 9223372036854775807) (hk : -9223372036854775808 ≤ k ∧ k ≤ 9223372036854775807) :
    Calls Tryz.prog 5 #[.agg #[.string s, .string m, .int .i64 h, .int .i64 k]] w (TrueP w) := by
  have k0 : (w.alloc (.cells #[.string s, .string m, .int .i64 h, .int .i64 k] 23)).cell? ⟨w.heap.size, 0, none⟩ = some (.string s) := by rw [alloc_new_cell]; rfl
  have k1 : (w.alloc (.cells #[.string s, .string m, .int .i64 h, .int .i64 k] 23)).cell? ⟨w.heap.size, 1, none⟩ = some (.string m) := by rw [alloc_new_cell]; rfl
  have k2 : (w.alloc (.cells #[.string s, .string m, .int .i64 h, .int .i64 k] 23)).cell? ⟨w.heap.size, 2, none⟩ = some (.int .i64 h) := by rw [alloc_new_cell]; rfl
  have k3 : (w.alloc (.cells #[.string s, .string m, .int .i64 h, .int .i64 k] 23)).cell? ⟨w.heap.size, 3, none⟩ = some (.int .i64 k) := by rw [alloc_new_cell]; rfl
  go_enter Tryz.func5, Tryz.ntmps5
  go_wp2_with fail
  go_quiet (fail)
  have hbn : ∀ n, Below w.heap.size w (((w.alloc (.cells #[.string s, .string m, .int .i64 h, .int .i64 k] 23)).drewN n).alloc (.cells #[.string s, .string m] 9)) := fun n => (below_drewN ((below_refl w).alloc (Nat.le_refl _) _) n).alloc (by simp) _
  have hb0 := hbn nq
  have hgr := Lib.hid (great_str2 s m ((w.alloc (.cells #[.string s, .string m, .int .i64 h, .int .i64 k] 23)).drewN nq) (w.heap.size + 1) (by simp) hs hm)
  have HF := Lib.hid (show ∀ W, Below w.heap.size w W → Calls Tryz.prog 9 #[] W (TrueP W) from fun W hW => awake_any W (he.below hW))
  clear k0 k1 k2 k3 hbn
  go_wp2_with fail
  refine hgr.out.mono ?_
  rintro e w1 ⟨b, rfl, hb, rfl⟩
  clear hgr
  cases b with
  | true =>
    go_wp2_with fail
    refine (HF.out _ hb0).mono ?_
    rintro e w9 ⟨rfl, hb9⟩
    go_wp2_with fail
    go_ret
    exact ⟨rfl, step2 hb0 hb9⟩
  | false =>
    have hz1 : s.size + m.size ≤ 300 := by simpa [totZ] using hb.out rfl
    clear hb
    by_cases h0 : h < 0
    · go_wp2_with fail
      refine (HF.out _ hb0).mono ?_
      rintro e w9 ⟨rfl, hb9⟩
      go_wp2_with fail
      go_ret
      exact ⟨rfl, step2 hb0 hb9⟩
    by_cases h2 : 2 < h
    · have h0' : 0 ≤ h := by omega
      go_wp2_with fail
      refine (HF.out _ hb0).mono ?_
      rintro e w9 ⟨rfl, hb9⟩
      go_wp2_with fail
      go_ret
      exact ⟨rfl, step2 hb0 hb9⟩
    obtain ⟨n, rfl⟩ := Int.eq_ofNat_of_zero_le (Int.not_lt.1 h0)
    have hn : n ≤ 2 := by omega
    by_cases k0 : k < 0
    · clear h0 h2
      go_wp2_with fail
      refine (HF.out _ hb0).mono ?_
      rintro e w9 ⟨rfl, hb9⟩
      go_wp2_with fail
      go_ret
      exact ⟨rfl, step2 hb0 hb9⟩
    have hwp := wrap_pow n (by omega)
    have hpl := pow_le n (by omega)
    obtain ⟨k, rfl⟩ := Int.eq_ofNat_of_zero_le (Int.not_lt.1 k0)
    have hvs := Lib.hid (fun hk => verify_sign (rootL s.data.toList n) s.data.toList m.data.toList n k (by omega) hk)
    have hse := Lib.hid (show k < 2 ^ n → treeSignE n k = 0 from fun hk => by rw [treeSignE, if_neg (by omega), if_neg (by rw [Int.toNat_natCast]; omega)])
    have hre : rootE n = 0 := by rw [rootE, if_neg (by omega)]
    obtain ⟨N, hN⟩ : ∃ N, 2 ^ n = N := ⟨_, rfl⟩
    rw [hN] at hwp hpl hvs hse
    clear hN h0 h2 k0
    by_cases k1 : N ≤ k
    · have k1' : (N : Int) ≤ k := by omega
      go_wp2_with fail
      refine (HF.out _ hb0).mono ?_
      rintro e w9 ⟨rfl, hb9⟩
      go_wp2_with fail
      go_ret
      exact ⟨rfl, step2 hb0 hb9⟩
    have k1' : (k : Int) < N := by omega
    have hvs1 := hvs.out (by omega)
    have hse1 := hse.out (by omega)
    rw [if_pos rfl] at hvs1
    have HVS := Lib.hid hvs1
    have HRL : Hid ((rootL s.data.toList n).length = 16) := by rw [Hid, rootL_at _ _ (by omega)]; exact tree_len _ _ n 0 (Nat.le_refl _) (Nat.two_pow_pos _)
    have hr1 := Lib.hid (root_any s n _ (he.below hb0) (by omega) (by omega))
    have hs1 := Lib.hid (fun W hW => treeSign_any s n k m W (he.below hW) (by omega) (by omega) (by omega) hk)
    rw [hre] at hr1
    rw [hse1] at hs1
    clear hvs hse hvs1 hse1 hre
    go_wp2_with fail
    refine hr1.out.mono ?_
    rintro e w1 ⟨r, rfl, hr, hb1⟩
    have hb1 := step2 hb0 hb1
    go_wp2_with fail
    refine (hs1.out _ hb1).mono ?_
    rintro e w2 ⟨g, rfl, hg, hb2⟩
    have hb2 := step2 hb1 hb2
    have hgs : g.size ≤ 1073741824 := by rw [← toList_size, hg.out]; exact treeSign_len _ _ _ _ (by omega)
    have hve := Lib.hid (verify_any r m g w2 (he.below hb2) (by omega) hgs)
    rw [hr.out, hg.out, HVS.out] at hve
    clear hr1 hs1
    go_wp2_with fail
    refine hve.out.mono ?_
    rintro e w3 ⟨x, y, rfl, hxy, hb3⟩
    have hb3 := step2 hb2 hb3
    obtain ⟨rfl, rfl⟩ : x = k ∧ y = 0 := by have := hxy.out; simp only [Prod.mk.injEq] at this; exact ⟨this.1.symm, this.2.symm⟩
    have hr16 : (((r.size : Nat) : Int) == 16) = true := by
      have : r.size = 16 := by rw [← toList_size, hr.out, HRL.out]
      rw [this]; rfl
    clear hxy hve
    go_wp2_with fail
    refine (HF.out _ hb3).mono ?_
    rintro e w9 ⟨rfl, hb9⟩
    go_wp2_with fail
    go_ret
    exact ⟨rfl, step2 hb3 hb9⟩
end Go.Proofs.YtnjcdbgdjallaaaGreatDoor
