/-
  Chapter 30: the laws Root, Sign, Path, walked out of the contracts.
-/
import Derived.Test.YtnjcdbgdjallaaaDoorAwake
import Derived.Deep.QuietTactic
namespace Go.Proofs.YtnjcdbgdjallaaaDoor
open Go.RowKit
theorem great_str1 (s : ByteArray) (w : World) (b : Nat) (hb : w.heap.size = b) (hs : s.size ≤ 140737488355328) :
    Calls Tryd.prog 6 #[.slice (some ⟨b, 0, none⟩) 1 1] (w.alloc (.cells #[.string s] 9)) (GreatP [s] (w.alloc (.cells #[.string s] 9))) := by
  subst hb
  exact great_any _ [s] _ (strs_new w [s] #[.string s] 9 1 rfl rfl (by simp [maxLen])) (by simp [totZ]; omega)
theorem great_str2 (s m : ByteArray) (w : World) (b : Nat) (hb : w.heap.size = b) (hs : s.size ≤ 140737488355328) (hm : m.size ≤ 140737488355328) :
    Calls Tryd.prog 6 #[.slice (some ⟨b, 0, none⟩) 2 2] (w.alloc (.cells #[.string s, .string m] 9)) (GreatP [s, m] (w.alloc (.cells #[.string s, .string m] 9))) := by
  subst hb
  exact great_any _ [s, m] _ (strs_new w [s, m] #[.string s, .string m] 9 2 rfl rfl (by simp [maxLen])) (by simp [totZ]; omega)
theorem great_str3 (s m o : ByteArray) (w : World) (b : Nat) (hb : w.heap.size = b) (hs : s.size ≤ 140737488355328) (hm : m.size ≤ 140737488355328) (ho : o.size ≤ 140737488355328) :
    Calls Tryd.prog 6 #[.slice (some ⟨b, 0, none⟩) 3 3] (w.alloc (.cells #[.string s, .string m, .string o] 9)) (GreatP [s, m, o] (w.alloc (.cells #[.string s, .string m, .string o] 9))) := by
  subst hb
  exact great_any _ [s, m, o] _ (strs_new w [s, m, o] #[.string s, .string m, .string o] 9 3 rfl rfl (by simp [maxLen])) (by simp [totZ]; omega)
set_option maxHeartbeats 1000000 in
theorem lawKeyRoot_any (s : ByteArray) (h : Int) (w : World) (he : Env w) (hs : s.size ≤ 140737488355328) (hh : -9223372036854775808 ≤ h ∧ h ≤ 9223372036854775807) :
    Calls Tryd.prog 3 #[.string s, .int .i64 h] w (TrueP w) := by
  have hgr := Lib.hid (great_str1 s w _ rfl hs)
  have hb0 : Below w.heap.size w (w.alloc (.cells #[.string s] 9)) := (below_refl w).alloc (Nat.le_refl _) _
  have he0 := he.below hb0
  have haw := Lib.hid (awake_any _ he0)
  go_enter Tryd.func3, Tryd.ntmps3
  go_wp2_with fail
  refine hgr.out.mono ?_
  rintro e w1 ⟨b, rfl, hb, rfl⟩
  cases b with
  | true =>
    go_wp2_with fail
    refine haw.out.mono ?_
    rintro e w1 ⟨rfl, hb1⟩
    go_wp2_with fail
    go_ret
    exact ⟨rfl, step2 hb0 hb1⟩
  | false =>
    have hz := hb.out rfl
    have hz1 : s.size ≤ 300 := by simpa [totZ] using hz
    clear hz hb
    by_cases h36 : 3 < h ∧ h ≤ 6
    · obtain ⟨h3, h6⟩ := h36
      go_wp2_with fail
      refine haw.out.mono ?_
      rintro e w1 ⟨rfl, hb1⟩
      go_wp2_with fail
      go_ret
      exact ⟨rfl, step2 hb0 hb1⟩
    have hfin : ∀ W, Below w.heap.size w W → Calls Tryd.prog 7 #[] W (TrueP W) := fun W hW => awake_any W (he.below hW)
    have HF := Lib.hid hfin; clear hfin
    have hr1 := Lib.hid (root_any s h _ he0 (by omega) hh)
    have hr2 := fun W => rootR_any s h W (by omega) hh
    have HR2 := Lib.hid hr2; clear hr2
    by_cases h3 : 3 < h
    · have h6 : 6 < h := by omega
      clear h36
      go_wp2_with fail
      refine hr1.out.mono ?_
      rintro e w1 ⟨t, rfl, ht, hb1⟩
      have hb01 := step2 hb0 hb1
      go_wp2_with fail
      refine (HR2.out _).mono ?_
      rintro e w2 ⟨p, rfl, hp, hb2⟩
      have hb02 := step2 hb01 hb2
      obtain rfl : t = p := list_inj (by rw [ht.out, hp.out])
      clear ht hp
      go_wp2_with fail
      refine (HF.out _ hb02).mono ?_
      rintro e w3 ⟨rfl, hb3⟩
      go_wp2_with fail
      go_ret
      exact ⟨rfl, step2 hb02 hb3⟩
    · clear h36
      go_wp2_with fail
      refine hr1.out.mono ?_
      rintro e w1 ⟨t, rfl, ht, hb1⟩
      have hb01 := step2 hb0 hb1
      go_wp2_with fail
      refine (HR2.out _).mono ?_
      rintro e w2 ⟨p, rfl, hp, hb2⟩
      have hb02 := step2 hb01 hb2
      obtain rfl : t = p := list_inj (by rw [ht.out, hp.out])
      clear ht hp
      go_wp2_with fail
      refine (HF.out _ hb02).mono ?_
      rintro e w3 ⟨rfl, hb3⟩
      go_wp2_with fail
      go_ret
      exact ⟨rfl, step2 hb02 hb3⟩
set_option maxHeartbeats 1000000 in
theorem lawKeySign_any (s m : ByteArray) (h k : Int) (w : World) (he : Env w) (hs : s.size ≤ 140737488355328) (hm : m.size ≤ 140737488355328) (hh : -9223372036854775808 ≤ h ∧ h ≤ 9223372036854775807) (hk : -9223372036854775808 ≤ k ∧ k ≤ 9223372036854775807) :
    Calls Tryd.prog 4 #[.agg #[.string s, .string m, .int .i64 h, .int .i64 k]] w (TrueP w) := by
  have k0 : (w.alloc (.cells #[.string s, .string m, .int .i64 h, .int .i64 k] 29)).cell? ⟨w.heap.size, 0, none⟩ = some (.string s) := by rw [alloc_new_cell]; rfl
  have k1 : (w.alloc (.cells #[.string s, .string m, .int .i64 h, .int .i64 k] 29)).cell? ⟨w.heap.size, 1, none⟩ = some (.string m) := by rw [alloc_new_cell]; rfl
  have k2 : (w.alloc (.cells #[.string s, .string m, .int .i64 h, .int .i64 k] 29)).cell? ⟨w.heap.size, 2, none⟩ = some (.int .i64 h) := by rw [alloc_new_cell]; rfl
  have k3 : (w.alloc (.cells #[.string s, .string m, .int .i64 h, .int .i64 k] 29)).cell? ⟨w.heap.size, 3, none⟩ = some (.int .i64 k) := by rw [alloc_new_cell]; rfl
  go_enter Tryd.func4, Tryd.ntmps4
  go_wp2_with fail
  go_quiet (fail)
  have hbn : ∀ n, Below w.heap.size w (((w.alloc (.cells #[.string s, .string m, .int .i64 h, .int .i64 k] 29)).drewN n).alloc (.cells #[.string s, .string m] 9)) := fun n => (below_drewN ((below_refl w).alloc (Nat.le_refl _) _) n).alloc (by simp) _
  have hb0 := hbn nq
  have hgr := Lib.hid (great_str2 s m ((w.alloc (.cells #[.string s, .string m, .int .i64 h, .int .i64 k] 29)).drewN nq) (w.heap.size + 1) (by simp) hs hm)
  have he0 := he.below hb0
  have haw := Lib.hid (awake_any _ he0)
  clear k0 k1 k2 k3 hbn
  go_wp2_with fail
  refine hgr.out.mono ?_
  rintro e w1 ⟨b, rfl, hb, rfl⟩
  cases b with
  | true =>
    go_wp2_with fail
    refine haw.out.mono ?_
    rintro e w1 ⟨rfl, hb1⟩
    go_wp2_with fail
    go_ret
    exact ⟨rfl, step2 hb0 hb1⟩
  | false =>
    have hz := hb.out rfl
    have hz1 : s.size + m.size ≤ 300 := by simpa [totZ] using hz
    clear hz hb
    by_cases h36 : 2 < h ∧ h ≤ 6
    · obtain ⟨h3, h6⟩ := h36
      go_wp2_with fail
      refine haw.out.mono ?_
      rintro e w1 ⟨rfl, hb1⟩
      go_wp2_with fail
      go_ret
      exact ⟨rfl, step2 hb0 hb1⟩
    have hfin : ∀ W, Below w.heap.size w W → Calls Tryd.prog 7 #[] W (TrueP W) := fun W hW => awake_any W (he.below hW)
    have HF := Lib.hid hfin; clear hfin
    have hr1 := Lib.hid (treeSign_any s h k m _ he0 (by omega) (by omega) hh hk)
    have hr2 := fun W => treeSignR_any s h k m W (by omega) (by omega) hh hk
    have HR2 := Lib.hid hr2; clear hr2
    by_cases h3 : 2 < h
    · have h6 : 6 < h := by omega
      clear h36
      go_wp2_with fail
      refine hr1.out.mono ?_
      rintro e w1 ⟨t, rfl, ht, hb1⟩
      have hb01 := step2 hb0 hb1
      go_wp2_with fail
      refine (HR2.out _).mono ?_
      rintro e w2 ⟨p, rfl, hp, hb2⟩
      have hb02 := step2 hb01 hb2
      obtain rfl : t = p := list_inj (by rw [ht.out, hp.out])
      clear ht hp
      go_wp2_with fail
      refine (HF.out _ hb02).mono ?_
      rintro e w3 ⟨rfl, hb3⟩
      go_wp2_with fail
      go_ret
      exact ⟨rfl, step2 hb02 hb3⟩
    · clear h36
      go_wp2_with fail
      refine hr1.out.mono ?_
      rintro e w1 ⟨t, rfl, ht, hb1⟩
      have hb01 := step2 hb0 hb1
      go_wp2_with fail
      refine (HR2.out _).mono ?_
      rintro e w2 ⟨p, rfl, hp, hb2⟩
      have hb02 := step2 hb01 hb2
      obtain rfl : t = p := list_inj (by rw [ht.out, hp.out])
      clear ht hp
      go_wp2_with fail
      refine (HF.out _ hb02).mono ?_
      rintro e w3 ⟨rfl, hb3⟩
      go_wp2_with fail
      go_ret
      exact ⟨rfl, step2 hb02 hb3⟩
theorem treeL_one (s : List UInt8) : treeL s 1 = [[publicL s 0, publicL s 1], [nodeL (publicL s 0) (publicL s 1)]] := by
  rw [treeL, levelsL, levelsL]
  show [leavesL s 2, pairUp (leavesL s 2)] = _
  rw [show leavesL s 2 = [publicL s 0, publicL s 1] from by rw [leavesL, leavesL, leavesL]; rfl]
  rw [pairUp, show ([publicL s 0, publicL s 1] : List (List UInt8)).length / 2 = 1 from (by simp), pairN, pairN]; rfl
theorem rootL_one (s : List UInt8) : rootL s 1 = nodeL (publicL s 0) (publicL s 1) := by
  rw [rootL, if_neg (by decide), show (1 : Int).toNat = 1 from rfl, treeL_one]; rfl
theorem sign_left (s m : List UInt8) : treeSignL s 1 0 m = numL 0 ++ numL 1 ++ strL (signL s 0 m) ++ strL (publicL s 1) := by
  rw [treeSignL, if_neg (by decide), if_neg (by decide), show (1 : Int).toNat = 1 from rfl, treeL_one]; rfl
theorem sign_right (s m : List UInt8) : treeSignL s 1 1 m = numL 1 ++ numL 1 ++ strL (signL s 1 m) ++ strL (publicL s 0) := by
  rw [treeSignL, if_neg (by decide), if_neg (by decide), show (1 : Int).toNat = 1 from rfl, treeL_one]; rfl
theorem suffix_app (a b : List UInt8) : Lib.hasSuffix (a ++ b) b = true := by simp [Lib.hasSuffix]
theorem rootE_one : rootE 1 = 0 := by decide
theorem treeSignE_one0 : treeSignE 1 0 = 0 := by decide
theorem treeSignE_one1 : treeSignE 1 1 = 0 := by decide
theorem strL_len {l : List UInt8} {n : Nat} (h : l.length ≤ n) (hn : n ≤ 1000000) : (strL l).length ≤ n + 30 := by
  have e : (strL l).length = (strL (bA l).data.toList).length := rfl
  have z : (bA l).size = l.length := rfl
  rw [e, strL_length, toList_size, z]
  have := itoa_len (n := l.length) (by omega) (by omega)
  omega
theorem num01_len {k : Int} (hk : k = 0 ∨ k = 1) : (numL k).length ≤ 30 := by
  rw [numL_length]; have := itoa_len (n := k) (by omega) (by omega); omega
theorem signL_len (s : List UInt8) (k : Int) (m : List UInt8) : (signL s k m).length ≤ 560 := by
  rw [signL]
  split
  · exact Nat.zero_le _
  · rw [sigL_length]; decide
theorem sign_len (s m : List UInt8) (k : Int) (hk : k = 0 ∨ k = 1) : (treeSignL s 1 k m).length ≤ 1000000 := by
  have l0 : (numL 0).length ≤ 30 := by rw [numL_length]; have := itoa_len (n := 0) (by decide) (by decide); omega
  have l1 : (numL 1).length ≤ 30 := by rw [numL_length]; have := itoa_len (n := 1) (by decide) (by decide); omega
  have hsl : ∀ k, (signL s k m).length ≤ 560 := fun k => by
    rw [signL]
    split
    · exact Nat.zero_le _
    · rw [sigL_length]; decide
  have hsg : ∀ k, (strL (signL s k m)).length ≤ 590 := fun k => strL_len (n := 560) (hsl k) (by decide)
  have hpb : ∀ k, (strL (publicL s k)).length ≤ 46 := fun k => strL_len (n := 16) (publicL_le _ _) (by decide)
  rcases hk with rfl | rfl
  · rw [sign_left]; simp only [List.length_append]; have := hsg 0; have := hpb 1; omega
  · rw [sign_right]; simp only [List.length_append]; have := hsg 1; have := hpb 0; omega
set_option maxHeartbeats 2000000 in
theorem lawKeyPath_any (s m : ByteArray) (right : Bool) (w : World) (he : Env w) (hs : s.size ≤ 140737488355328) (hm : m.size ≤ 140737488355328) :
    Calls Tryd.prog 5 #[.string s, .string m, .bool right] w (TrueP w) := by
  have hgr := Lib.hid (great_str2 s m w _ rfl hs hm)
  have hb0 : Below w.heap.size w (w.alloc (.cells #[.string s, .string m] 9)) := (below_refl w).alloc (Nat.le_refl _) _
  have he0 := he.below hb0
  have haw := Lib.hid (awake_any _ he0)
  go_enter Tryd.func5, Tryd.ntmps5
  go_wp2_with fail
  refine hgr.out.mono ?_
  rintro e w1 ⟨b, rfl, hb, rfl⟩
  cases b with
  | true =>
    go_wp2_with fail
    refine haw.out.mono ?_
    rintro e w1 ⟨rfl, hb1⟩
    go_wp2_with fail
    go_ret
    exact ⟨rfl, step2 hb0 hb1⟩
  | false =>
    have hz := hb.out rfl
    have hz1 : s.size + m.size ≤ 300 := by simpa [totZ] using hz
    clear hz hb haw
    have HF := Lib.hid (show ∀ W, Below w.heap.size w W → Calls Tryd.prog 7 #[] W (TrueP W) from fun W hW => awake_any W (he.below hW))
    have P0 := Lib.hid (show ∀ W, Below w.heap.size w W → _ from fun W hW => publicOf_any s 0 W (he.below hW) (by omega) (by decide))
    have P1 := Lib.hid (show ∀ W, Below w.heap.size w W → _ from fun W hW => publicOf_any s 1 W (he.below hW) (by omega) (by decide))
    have R1 := Lib.hid (show ∀ W, Below w.heap.size w W → _ from fun W hW => root_any s 1 W (he.below hW) (by omega) (by decide))
    have S1 := Lib.hid (show ∀ k : Int, (k = 0 ∨ k = 1) → ∀ W, Below w.heap.size w W → _ from fun k hk W hW => treeSign_any s 1 k m W (he.below hW) (by omega) (by omega) (by decide) (by omega))
    have W1 := Lib.hid (show ∀ k : Int, (k = 0 ∨ k = 1) → ∀ W, Below w.heap.size w W → _ from fun k hk W hW => sign_any s k m W (he.below hW) (by omega) (by omega) (by omega))
    go_wp2_with fail
    refine (P0.out _ hb0).mono ?_
    rintro e w1 ⟨a, rfl, ha, hb1⟩
    have hb1 := step2 hb0 hb1
    go_wp2_with fail
    refine (P1.out _ hb1).mono ?_
    rintro e w2 ⟨b, rfl, hbb, hb2⟩
    have hb2 := step2 hb1 hb2
    have za : a.size ≤ 1073741824 := by rw [← toList_size, ha.out]; exact Nat.le_trans (publicL_le _ _) (by decide)
    have zb : b.size ≤ 1073741824 := by rw [← toList_size, hbb.out]; exact Nat.le_trans (publicL_le _ _) (by decide)
    cases right with
    | true =>
      go_wp2_with fail
      refine (R1.out _ hb2).mono ?_
      rintro e w3 ⟨t, rfl, ht, hb3⟩
      rw [rootE_one]
      have hb3 := step2 hb2 hb3
      go_wp2_with fail
      refine (S1.out 1 (by decide) _ hb3).mono ?_
      rintro e w4 ⟨g, rfl, hg, hb4⟩
      rw [treeSignE_one1]
      have hb4 := step2 hb3 hb4
      rw [sign_right] at hg
      go_wp2_with fail
      refine (nodeR_any a b _ za zb).mono ?_
      rintro e w5 ⟨p, rfl, hp, hb5⟩
      have hb5 := step2 hb4 hb5
      obtain rfl : t = p := list_inj (by rw [ht.out, hp.out, rootL_one, ha.out, hbb.out]; rfl)
      clear hp ht
      go_wp2_with fail
      refine (string_any a _ (he.below hb5) (by omega)).mono ?_
      rintro e w6 ⟨y, rfl, hy, hb6⟩
      have hb6 := step2 hb5 hb6
      rw [ha.out] at hy
      have zg : g.size ≤ 9223372036854775807 := by
        rw [← toList_size, hg.out]; exact Nat.le_trans (sign_len s.data.toList m.data.toList 1 (by decide)) (by decide)
      go_wp2_with fail
      refine (Tryd.strings_HasSuffix _ _ _ zg).mono ?_
      rintro e w7 ⟨rfl, rfl⟩
      have hsuf : Lib.hasSuffix g.data.toList y.data.toList = true := by rw [hg.out, hy.out]; exact suffix_app _ _
      go_wp2_with fail
      refine (number_any 1 _ (he.below hb6) (by decide) (by decide)).mono ?_
      rintro e w8 ⟨n1, rfl, hn1, hb8⟩
      have hb8 := step2 hb6 hb8
      have z1 : n1.size ≤ 30 := by rw [← toList_size, hn1.out]; exact num01_len (by decide)
      go_wp2_with fail
      refine (number_any 1 _ (he.below hb8) (by decide) (by decide)).mono ?_
      rintro e w9 ⟨n2, rfl, hn2, hb9⟩
      have hb9 := step2 hb8 hb9
      have z2 : n2.size ≤ 30 := by rw [← toList_size, hn2.out]; exact num01_len (by decide)
      go_wp2_with fail
      refine (W1.out 1 (by decide) _ hb9).mono ?_
      rintro e w10 ⟨u, rfl, hu, hb10⟩
      have hb10 := step2 hb9 hb10
      have zu : u.size ≤ 140737488355328 := by
        rw [← toList_size, hu.out, signL]
        split
        · exact Nat.zero_le _
        · rw [sigL_length]; decide
      go_wp2_with fail
      refine (string_any u _ (he.below hb10) zu).mono ?_
      rintro e w11 ⟨x, rfl, hx, hb11⟩
      have hb11 := step2 hb10 hb11
      rw [hu.out] at hx
      have z3 : x.size ≤ 590 := by rw [← toList_size, hx.out]; exact strL_len (n := 560) (signL_len _ _ _) (by decide)
      go_wp2_with fail
      refine (string_any a _ (he.below hb11) (by omega)).mono ?_
      rintro e w12 ⟨z, rfl, hzz, hb12⟩
      have hb12 := step2 hb11 hb12
      rw [ha.out] at hzz
      have z4 : z.size ≤ 46 := by rw [← toList_size, hzz.out]; exact strL_len (n := 16) (publicL_le _ _) (by decide)
      obtain rfl : g = n1 ++ n2 ++ x ++ z := list_inj (by rw [hg.out, append_list, append_list, append_list, hn1.out, hn2.out, hx.out, hzz.out])
      clear hg hsuf zg
      go_wp2_with fail
      refine (HF.out _ hb12).mono ?_
      rintro e w13 ⟨rfl, hb13⟩
      go_wp2_with fail
      go_ret
      exact ⟨rfl, step2 hb12 hb13⟩
    | false =>
      go_wp2_with fail
      refine (R1.out _ hb2).mono ?_
      rintro e w3 ⟨t, rfl, ht, hb3⟩
      rw [rootE_one]
      have hb3 := step2 hb2 hb3
      go_wp2_with fail
      refine (S1.out 0 (by decide) _ hb3).mono ?_
      rintro e w4 ⟨g, rfl, hg, hb4⟩
      rw [treeSignE_one0]
      have hb4 := step2 hb3 hb4
      rw [sign_left] at hg
      go_wp2_with fail
      refine (nodeR_any a b _ za zb).mono ?_
      rintro e w5 ⟨p, rfl, hp, hb5⟩
      have hb5 := step2 hb4 hb5
      obtain rfl : t = p := list_inj (by rw [ht.out, hp.out, rootL_one, ha.out, hbb.out]; rfl)
      clear hp ht
      go_wp2_with fail
      refine (string_any b _ (he.below hb5) (by omega)).mono ?_
      rintro e w6 ⟨y, rfl, hy, hb6⟩
      have hb6 := step2 hb5 hb6
      rw [hbb.out] at hy
      have zg : g.size ≤ 9223372036854775807 := by
        rw [← toList_size, hg.out]; exact Nat.le_trans (sign_len s.data.toList m.data.toList 0 (by decide)) (by decide)
      go_wp2_with fail
      refine (Tryd.strings_HasSuffix _ _ _ zg).mono ?_
      rintro e w7 ⟨rfl, rfl⟩
      have hsuf : Lib.hasSuffix g.data.toList y.data.toList = true := by rw [hg.out, hy.out]; exact suffix_app _ _
      go_wp2_with fail
      refine (number_any 0 _ (he.below hb6) (by decide) (by decide)).mono ?_
      rintro e w8 ⟨n1, rfl, hn1, hb8⟩
      have hb8 := step2 hb6 hb8
      have z1 : n1.size ≤ 30 := by rw [← toList_size, hn1.out]; exact num01_len (by decide)
      go_wp2_with fail
      refine (number_any 1 _ (he.below hb8) (by decide) (by decide)).mono ?_
      rintro e w9 ⟨n2, rfl, hn2, hb9⟩
      have hb9 := step2 hb8 hb9
      have z2 : n2.size ≤ 30 := by rw [← toList_size, hn2.out]; exact num01_len (by decide)
      go_wp2_with fail
      refine (W1.out 0 (by decide) _ hb9).mono ?_
      rintro e w10 ⟨u, rfl, hu, hb10⟩
      have hb10 := step2 hb9 hb10
      have zu : u.size ≤ 140737488355328 := by
        rw [← toList_size, hu.out, signL]
        split
        · exact Nat.zero_le _
        · rw [sigL_length]; decide
      go_wp2_with fail
      refine (string_any u _ (he.below hb10) zu).mono ?_
      rintro e w11 ⟨x, rfl, hx, hb11⟩
      have hb11 := step2 hb10 hb11
      rw [hu.out] at hx
      have z3 : x.size ≤ 590 := by rw [← toList_size, hx.out]; exact strL_len (n := 560) (signL_len _ _ _) (by decide)
      go_wp2_with fail
      refine (string_any b _ (he.below hb11) (by omega)).mono ?_
      rintro e w12 ⟨z, rfl, hzz, hb12⟩
      have hb12 := step2 hb11 hb12
      rw [hbb.out] at hzz
      have z4 : z.size ≤ 46 := by rw [← toList_size, hzz.out]; exact strL_len (n := 16) (publicL_le _ _) (by decide)
      obtain rfl : g = n1 ++ n2 ++ x ++ z := list_inj (by rw [hg.out, append_list, append_list, append_list, hn1.out, hn2.out, hx.out, hzz.out])
      clear hg hsuf zg
      go_wp2_with fail
      refine (HF.out _ hb12).mono ?_
      rintro e w13 ⟨rfl, hb13⟩
      go_wp2_with fail
      go_ret
      exact ⟨rfl, step2 hb12 hb13⟩
end Go.Proofs.YtnjcdbgdjallaaaDoor
