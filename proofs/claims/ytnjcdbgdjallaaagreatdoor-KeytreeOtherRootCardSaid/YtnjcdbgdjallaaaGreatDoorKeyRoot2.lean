/-
  Chapter 30: the law OtherRoot, walked out of the contracts.
-/
import Derived.Test.YtnjcdbgdjallaaaGreatDoorKeyLawsZ
import Derived.Deep.CutBlock
import Derived.Deep.CutRange
import Derived.Deep.RegionHeld3
import Derived.Lib.IndexBytes
namespace Go.Proofs.YtnjcdbgdjallaaaGreatDoor
open Go.RowKit
theorem sign_formO (s m : List UInt8) (h k : Nat) (hh : h ≤ 6) (hk : k < 2 ^ h) : ∃ R, treeSignL s h k m = numL k ++ (numL h ++ R) := by
  refine ⟨strL (signL s k m) ++ pathL (treeL s h) k h, ?_⟩
  rw [treeSignL, if_neg (by omega), if_neg (by rw [Int.toNat_natCast]; omega), Int.toNat_natCast, Int.toNat_natCast]
  simp only [List.append_assoc]
theorem cut_num (k : Nat) (R : List UInt8) : (Lib.cut (numL k ++ R) [32]).2.1 = R := by
  have h1 : (32 : UInt8) ∉ Lib.itoa (k : Int) := itoa_no (by decide) (by decide)
  have h2 : Lib.index (numL k ++ R) [32] = ((Lib.itoa (k : Int)).length : Nat) := by
    rw [Lib.index_one, numL, List.append_assoc]; exact indexByte_append h1
  rw [Lib.cut, h2, if_pos (by omega), Int.toNat_natCast]
  show (numL k ++ R).drop _ = R
  rw [show (Lib.itoa (k : Int)).length + [(32 : UInt8)].length = (numL (k : Int)).length from by rw [numL_length]; rfl, List.drop_left]
theorem verify_high (r m R : List UInt8) (h k : Nat) (hh : h ≤ 6) (hk : 2 ^ h ≤ k) (hk2 : k ≤ 1000000) : verifyL r m (numL k ++ (numL h ++ R)) = (0, 17) := by
  refine verifyL_none ?_
  have n1 : rdNum (numL k ++ (numL h ++ R)) 0 = ((k : Int), (((numL (k : Int)).length : Nat) : Int), 0) := by
    have := rdNum_numL [] (numL h ++ R) k (by omega) (by omega)
    rw [List.nil_append, show (([] : List UInt8).length : Int) = 0 from rfl] at this
    rw [this]; simp
  have n2 : rdNum (numL k ++ (numL h ++ R)) (((numL (k : Int)).length : Nat) : Int) = ((h : Int), (((numL (k : Int)).length + (numL (h : Int)).length : Nat) : Int), 0) := by
    rw [← List.append_assoc, rdNum_numL _ _ _ (by omega) (by omega)]
  exact parseL_2 n1 n2 (.inr (.inr (.inr (.inr (by rw [Int.toNat_natCast]; omega)))))
theorem nat64O {q : Nat} (h : q ≤ 64) : -9223372036854775808 ≤ (q : Int) ∧ (q : Int) ≤ 9223372036854775807 := by omega
theorem treeSign_leO (s m : List UInt8) (h k : Nat) (hh : h ≤ 6) : (treeSignL s h k m).length ≤ 10000 := by
  rw [treeSignL]
  split
  · exact Nat.zero_le _
  · split
    · exact Nat.zero_le _
    · rename_i h1 h2
      have l1 : (numL (k : Int)).length ≤ 30 := by
        rw [numL_length]
        have : 2 ^ h ≤ 64 := pow_le h hh
        rw [Int.toNat_natCast] at h2
        have := itoa_len (n := (k : Int)) (by omega) (by omega); omega
      have l2 : (numL (h : Int)).length ≤ 30 := by rw [numL_length]; have := itoa_len (n := (h : Int)) (by omega) (by omega); omega
      have l3 : (strL (signL s k m)).length ≤ 590 := strL_len (n := 560) (by
        rw [signL]
        split
        · exact Nat.zero_le _
        · rw [sigL_length]; decide) (by decide)
      have l4 := pathL_len s h k h
      rw [Int.toNat_natCast, Int.toNat_natCast]
      simp only [List.length_append]
      omega
set_option maxRecDepth 100000 in
theorem wrapEqO (x : Int) : IntKind.i64.wrap x = wrap64 x := by rw [IntKind.wrap_i64]; unfold wrap64; omega
set_option maxRecDepth 100000 in
theorem wrap64_idO {x : Int} (h0 : -9223372036854775808 ≤ x) (h1 : x ≤ 9223372036854775807) : wrap64 x = x := by unfold wrap64; omega
theorem below_drew1 {B : Nat} {a w : World} (h : Below B a w) : Below B a w.drew := h.trans (Below.drew (Below.refl _ _))
set_option maxRecDepth 100000 in
set_option maxHeartbeats 2000000 in
theorem lawKeyOtherRoot_any (s m : ByteArray) (h k at_ by_ : Int) (o : ByteArray) (w : World) (he : Env w) (hmx : ∃ m : Int, w.cell? ⟨0, 0, none⟩ = some (.int .i64 m)) (hs : s.size ≤ 140737488355328) (hm : m.size ≤ 140737488355328) (ho : o.size ≤ 140737488355328) (hh : 0 ≤ h ∧ h ≤ 255) (hk : 0 ≤ k ∧ k ≤ 255) (_hat : 0 ≤ at_ ∧ at_ ≤ 65535) (hby : 0 ≤ by_ ∧ by_ ≤ 255) :
    Calls Tryz.prog 7 #[.agg #[.string s, .string m, .int .u8 h, .int .u8 k, .int .u16 at_, .int .u8 by_, .string o]] w (TrueP w) := by
  have hcells : ∀ W, Below (w.alloc (.cells #[.string s, .string m, .int .u8 h, .int .u8 k, .int .u16 at_, .int .u8 by_, .string o] 39)).heap.size (w.alloc (.cells #[.string s, .string m, .int .u8 h, .int .u8 k, .int .u16 at_, .int .u8 by_, .string o] 39)) W → W.cell? ⟨w.heap.size, 0, none⟩ = some (.string s) ∧ W.cell? ⟨w.heap.size, 1, none⟩ = some (.string m) ∧ W.cell? ⟨w.heap.size, 2, none⟩ = some (.int .u8 h) ∧ W.cell? ⟨w.heap.size, 3, none⟩ = some (.int .u8 k) ∧ W.cell? ⟨w.heap.size, 4, none⟩ = some (.int .u16 at_) ∧ W.cell? ⟨w.heap.size, 5, none⟩ = some (.int .u8 by_) ∧ W.cell? ⟨w.heap.size, 6, none⟩ = some (.string o) := fun W hW => by
    have hc := fun i => (hW.cell (p := ⟨w.heap.size, i, none⟩) (by simp)).trans (alloc_new_cell w #[.string s, .string m, .int .u8 h, .int .u8 k, .int .u16 at_, .int .u8 by_, .string o] 39 i)
    exact ⟨hc 0, hc 1, hc 2, hc 3, hc 4, hc 5, hc 6⟩
  have hbs : Below w.heap.size w (w.alloc (.cells #[.string s, .string m, .int .u8 h, .int .u8 k, .int .u16 at_, .int .u8 by_, .string o] 39)) := (below_refl w).alloc (Nat.le_refl _) _
  have hsz0 : (w.alloc (.cells #[.string s, .string m, .int .u8 h, .int .u8 k, .int .u16 at_, .int .u8 by_, .string o] 39)).heap.size = w.heap.size + 1 := by simp
  obtain ⟨W0, hW0⟩ : ∃ W0, w.alloc (.cells #[.string s, .string m, .int .u8 h, .int .u8 k, .int .u16 at_, .int .u8 by_, .string o] 39) = W0 := ⟨_, rfl⟩
  rw [hW0] at hcells hbs hsz0
  have HW := Lib.hid (show ∀ W, Below W0.heap.size W0 W → Below w.heap.size w W from fun W hW => hbs.trans (hW.mono (by omega)))
  have hgr := Lib.hid (great_str3 s m o W0 W0.heap.size rfl hs hm ho)
  have hb0 : Below W0.heap.size W0 (W0.alloc (.cells #[.string s, .string m, .string o] 9)) := (below_refl W0).alloc (Nat.le_refl _) _
  have HC := Lib.hid hcells
  have HF := Lib.hid (show ∀ W, Below W0.heap.size W0 W → Calls Tryz.prog 9 #[] W (TrueP W) from fun W hW => awake_any W (he.below (HW.out W hW)))
  have HE := Lib.hid (show ∀ W, Below W0.heap.size W0 W → Env W from fun W hW => he.below (HW.out W hW))
  have HMX := Lib.hid (show ∃ m : Int, ∀ W, Below W0.heap.size W0 W → W.cell? ⟨0, 0, none⟩ = some (.int .i64 m) from by
    obtain ⟨m, h0⟩ := hmx
    exact ⟨m, fun W hW => ((HW.out W hW).cell (World.block_lt_of_cell? w _ h0)).trans h0⟩)
  clear hcells hsz0 hbs hmx
  obtain ⟨h, rfl⟩ := Int.eq_ofNat_of_zero_le hh.1
  obtain ⟨k, rfl⟩ := Int.eq_ofNat_of_zero_le hk.1
  go_enter Tryz.func7, Tryz.ntmps7
  obtain ⟨c0, c1, c2, c3, c4, c5, c6⟩ := HC.out W0 (below_refl _)
  go_wp2_with fail
  refine hgr.out.mono ?_
  rintro e w1 ⟨b, rfl, hb, rfl⟩
  clear hgr c0 c1 c2 c3 c4 c5 c6
  cases b with
  | true =>
    go_wp2_with fail
    refine (HF.out _ hb0).mono ?_
    rintro e w9 ⟨rfl, hb9⟩
    go_wp2_with fail
    go_ret
    exact ⟨rfl, HW.out _ (step2 hb0 hb9)⟩
  | false =>
    have hz1 : s.size + (m.size + o.size) ≤ 300 := by simpa [totZ] using hb.out rfl
    clear hb
    obtain ⟨n, hn⟩ : ∃ n, h % 3 = n := ⟨_, rfl⟩
    have hn2 : n ≤ 2 := by omega
    have hwp := wrap_pow n (by omega)
    have hpl := pow_le n (by omega)
    have hp0 := Nat.two_pow_pos n
    have hse := Lib.hid (show ∀ q : Nat, q < 2 ^ n → treeSignE n q = 0 from fun q hq => by rw [treeSignE, if_neg (by omega), if_neg (by rw [Int.toNat_natCast]; omega)])
    have hrq : rootE n = 0 := by rw [rootE, if_neg (by omega)]
    have hsf := Lib.hid (show ∀ q : Nat, q < 2 ^ n → _ from fun q hq => sign_formO s.data.toList m.data.toList n q (by omega) hq)
    have hvv := Lib.hid (show ∀ q : Nat, q < 2 ^ n → ∀ r, _ from fun q hq r => verify_sign r s.data.toList m.data.toList n q (by omega) hq)
    have hvh := Lib.hid (show ∀ q : Nat, 2 ^ n ≤ q → q ≤ 1000000 → ∀ r R, _ from fun q hq h2 r R => verify_high r m.data.toList R n q (by omega) hq h2)
    obtain ⟨N, hN⟩ : ∃ N, 2 ^ n = N := ⟨_, rfl⟩
    rw [hN] at hwp hpl hp0 hse hsf hvv hvh
    clear hN
    obtain ⟨q, hq⟩ : ∃ q, k % N = q := ⟨_, rfl⟩
    have hqN : q < N := by rw [← hq]; exact Nat.mod_lt _ (by omega)
    have hn3 : (h : Int) % 3 = n := by omega
    have hq3 := Lib.hid (show (k : Int) % N = q by rw [← hq]; simp)
    clear hq
    have hn3 := Lib.hid hn3
    clear hn
    have hsq := hse.out q hqN
    have HVS := Lib.hid (hvv.out q hqN)
    obtain ⟨R, hR⟩ := hsf.out q hqN
    have HR := Lib.hid hR
    obtain ⟨mx, hmx⟩ := HMX.out
    have hmx := Lib.hid hmx
    have hs30 : s.size ≤ 1073741824 := by omega
    have hm30 : m.size ≤ 1073741824 := by omega
    have hq64 : q ≤ 64 := Nat.le_of_lt (Nat.lt_of_lt_of_le hqN hpl)
    have hn6 : n ≤ 6 := by omega
    have hr1 := Lib.hid (fun W hW => root_any s n W (HE.out W hW) hs30 (nat64O (by omega)))
    have hs1 := Lib.hid (fun W hW => treeSign_any s n q m W (HE.out W hW) hs30 hm30 (nat64O (by omega)) (nat64O hq64))
    rw [hrq] at hr1
    rw [hsq] at hs1
    clear hrq hsq hR hse hsf hvv
    obtain ⟨c0, c1, c2, c3, c4, c5, c6⟩ := HC.out _ hb0
    go_wp2_with fail
    rw [hn3.out]
    go_wp2_with fail
    go_quiet (fail)
    go_wp2_with fail
    rw [hq3.out]
    have hwp := Lib.hid hwp
    have hb0 := below_drewN hb0 nq
    refine (hr1.out _ hb0).mono ?_
    rintro e w2 ⟨r, rfl, hr, hb1⟩
    have hb1 := step2 hb0 hb1
    clear hr1 c0 c1 c2 c3 c4 c5 c6
    obtain ⟨c0, c1, c2, c3, c4, c5, c6⟩ := HC.out _ hb1
    go_wp2_with fail
    refine (hs1.out _ hb1).mono ?_
    rintro e w3 ⟨g, rfl, hg, hb2⟩
    have hb2 := step2 hb1 hb2
    have hgs : g.size ≤ 10000 := by rw [← toList_size, hg.out]; exact treeSign_leO _ _ _ _ hn6
    clear hs1 c0 c1 c2 c3 c4 c5 c6
    obtain ⟨c0, c1, c2, c3, c4, c5, c6⟩ := HC.out _ hb2
    by_cases hne : o.data.toList = r.data.toList
    · have x1 : (o.toList == r.toList) = true := by rw [beq_lists]; simpa using hne
      have x2 : (o.toList != r.toList) = false := by rw [bne, x1]; rfl
      clear hne
      go_wp2_with fail
      refine ((Tryz.strings_Cut g ⟨#[32]⟩ mx _ (by omega) (hmx.out _ hb2))).mono ?_
      rintro e w5 ⟨rfl, nd, rfl⟩
      have hb5 := below_drewN hb2 nd
      generalize (World.drewN _ nd) = W5 at *
      have HCR : Hid ((⟨(Lib.cut g.data.toList [32]).2.1.toArray⟩ : ByteArray).data.toList = numL n ++ R) := by rw [Hid, hg.out, HR.out]; exact cut_num q _
      have hcl : (⟨(Lib.cut g.data.toList (⟨#[32]⟩ : ByteArray).data.toList).2.1.toArray⟩ : ByteArray) = ⟨(Lib.cut g.data.toList [32]).2.1.toArray⟩ := rfl
      rw [hcl]
      clear hcl x1 x2 c0 c1 c2 c3 c4 c5 c6
      generalize (⟨(Lib.cut g.data.toList [32]).2.1.toArray⟩ : ByteArray) = rs at *
      generalize (⟨(Lib.cut g.data.toList (⟨#[32]⟩ : ByteArray).data.toList).1.toArray⟩ : ByteArray) = rs1 at *
      generalize (Lib.cut g.data.toList (⟨#[32]⟩ : ByteArray).data.toList).2.2 = rs2 at *
      have zr : rs.size ≤ 20000 := by
        rw [← toList_size, HCR.out]
        have h1 := hgs
        rw [← toList_size, hg.out, HR.out] at h1
        simp only [List.length_append] at h1 ⊢
        omega
      obtain ⟨bn, rfl⟩ := Int.eq_ofNat_of_zero_le hby.1
      have HNU := Lib.hid (show ∀ W, Below W0.heap.size W0 W → Calls Tryz.prog 12 #[.int .i64 ((N : Int) + bn)] W (StrP (numL ((N : Int) + bn)) W) from fun W hW => number_any ((N : Int) + bn) W (HE.out W hW) (by omega) (by omega))
      have HVE := Lib.hid (show ∀ (t : ByteArray) W, t.data.toList = numL ((N : Int) + bn) → Below W0.heap.size W0 W → Calls Tryz.prog 18 #[.string r, .string m, .string (t ++ rs)] W (VerP (0, 17) W) from fun t W ht hW => by
        have zt : t.size ≤ 30 := by rw [← toList_size, ht, numL_length]; have := itoa_len (n := ((N : Int) + bn)) (by omega) (by omega); omega
        have hv : verifyL r.data.toList m.data.toList (t ++ rs).data.toList = (0, 17) := by
          rw [append_list, ht, HCR.out]
          have := hvh.out (N + bn) (by omega) (by omega) r.data.toList R
          simpa using this
        have := verify_any r m (t ++ rs) W (HE.out W hW) hm30 (by rw [ByteArray.size_append]; omega)
        rw [hv] at this
        exact this)
      have HZT := Lib.hid (show ∀ t : ByteArray, t.data.toList = numL ((N : Int) + bn) → ∀ W : World, (Op.stringOp .add t rs).run Tryz.prog W = .ok (.string (t ++ rs)) W from fun t ht W => by
        have zt : t.size ≤ 30 := by rw [← toList_size, ht, numL_length]; have := itoa_len (n := ((N : Int) + bn)) (by omega) (by omega); omega
        exact run_string_add_sum W t rs (by omega))
      have HK := Lib.hid (show ∀ W, Below W0.heap.size W0 W → W.cell? ⟨w.heap.size, 1, none⟩ = some (.string m) ∧ W.cell? ⟨w.heap.size, 5, none⟩ = some (.int .u8 bn) from fun W hW => by
        obtain ⟨_, k1, _, _, _, k5, _⟩ := HC.out W hW
        exact ⟨k1, k5⟩)
      have hw1 : IntKind.i64.wrap ((2 : Int) ^ n) = N := by rw [wrapEqO]; exact hwp.out
      have hw2 : IntKind.i64.wrap ((N : Int) + bn) = (N : Int) + bn := by rw [wrapEqO]; exact wrap64_idO (by omega) (by omega)
      have hw3 := hwp.out
      have hw0 : IntKind.i64.wrap (bn : Int) = bn := by rw [wrapEqO]; exact wrap64_idO (by omega) (by omega)
      obtain ⟨_, K1, _, _, _, K5, _⟩ := HC.out _ hb5
      go_wp2_with fail
      go_region_held3 (fun w' => w'.cell? ⟨w.heap.size, 1, none⟩ = some (.string m) ∧ w'.cell? ⟨w.heap.size, 5, none⟩ = some (.int .u8 bn))
        ((refine HK.out _ ?_; first | exact hb5 | exact below_drew1 hb5 | exact step2 (below_drew1 hb5) hb6 | exact step2 (step2 (below_drew1 hb5) hb6) hb7))
        (first | (go_at_call 12; refine (HNU.out _ (below_drew1 hb5)).mono ?_; rintro e w6 ⟨t, rfl, ht, hb6⟩; have hadd := HZT.out t ht.out) | (go_at_call 18; refine (HVE.out _ _ ht.out (step2 (below_drew1 hb5) hb6)).mono ?_; rintro e w7 ⟨x, y, rfl, hxy, hb7⟩))
      have hb7 := step2 (step2 (below_drew1 hb5) hb6) hb7
      obtain ⟨rfl, rfl⟩ : x = 0 ∧ y = 17 := by have := hxy.out; simp only [Prod.mk.injEq] at this; exact ⟨this.1.symm, this.2.symm⟩
      clear hxy K1 K5
      go_wp2_with fail
      refine (HF.out _ hb7).mono ?_
      rintro e w9 ⟨rfl, hb9⟩
      go_wp2_with fail
      go_ret
      exact ⟨rfl, HW.out _ (step2 hb7 hb9)⟩
    · have x1 : (o.toList == r.toList) = false := by rw [beq_lists]; simpa using hne
      have x2 : (o.toList != r.toList) = true := by rw [bne, x1]; rfl
      have hve := Lib.hid (fun W hW => verify_any o m g W (HE.out W hW) hm30 (by omega))
      rw [hg.out, HVS.out, if_neg (by rw [← hr.out]; exact fun h => hne h.symm)] at hve
      clear hne
      go_wp2_with fail
      refine (hve.out _ hb2).mono ?_
      rintro e w4 ⟨x, y, rfl, hxy, hb4⟩
      have hb4 := step2 hb2 hb4
      obtain ⟨rfl, rfl⟩ : x = 0 ∧ y = 17 := by have := hxy.out; simp only [Prod.mk.injEq] at this; exact ⟨this.1.symm, this.2.symm⟩
      clear hxy hve c0 c1 c2 c3 c4 c5 c6
      obtain ⟨c0, c1, c2, c3, c4, c5, c6⟩ := HC.out _ hb4
      go_wp2_with fail
      refine ((Tryz.strings_Cut g ⟨#[32]⟩ mx _ (by omega) (hmx.out _ hb4))).mono ?_
      rintro e w5 ⟨rfl, nd, rfl⟩
      have hb5 := below_drewN hb4 nd
      generalize (World.drewN _ nd) = W5 at *
      have HCR : Hid ((⟨(Lib.cut g.data.toList [32]).2.1.toArray⟩ : ByteArray).data.toList = numL n ++ R) := by rw [Hid, hg.out, HR.out]; exact cut_num q _
      have hcl : (⟨(Lib.cut g.data.toList (⟨#[32]⟩ : ByteArray).data.toList).2.1.toArray⟩ : ByteArray) = ⟨(Lib.cut g.data.toList [32]).2.1.toArray⟩ := rfl
      rw [hcl]
      clear hcl x1 x2 c0 c1 c2 c3 c4 c5 c6
      generalize (⟨(Lib.cut g.data.toList [32]).2.1.toArray⟩ : ByteArray) = rs at *
      generalize (⟨(Lib.cut g.data.toList (⟨#[32]⟩ : ByteArray).data.toList).1.toArray⟩ : ByteArray) = rs1 at *
      generalize (Lib.cut g.data.toList (⟨#[32]⟩ : ByteArray).data.toList).2.2 = rs2 at *
      have zr : rs.size ≤ 20000 := by
        rw [← toList_size, HCR.out]
        have h1 := hgs
        rw [← toList_size, hg.out, HR.out] at h1
        simp only [List.length_append] at h1 ⊢
        omega
      obtain ⟨bn, rfl⟩ := Int.eq_ofNat_of_zero_le hby.1
      have HNU := Lib.hid (show ∀ W, Below W0.heap.size W0 W → Calls Tryz.prog 12 #[.int .i64 ((N : Int) + bn)] W (StrP (numL ((N : Int) + bn)) W) from fun W hW => number_any ((N : Int) + bn) W (HE.out W hW) (by omega) (by omega))
      have HVE := Lib.hid (show ∀ (t : ByteArray) W, t.data.toList = numL ((N : Int) + bn) → Below W0.heap.size W0 W → Calls Tryz.prog 18 #[.string r, .string m, .string (t ++ rs)] W (VerP (0, 17) W) from fun t W ht hW => by
        have zt : t.size ≤ 30 := by rw [← toList_size, ht, numL_length]; have := itoa_len (n := ((N : Int) + bn)) (by omega) (by omega); omega
        have hv : verifyL r.data.toList m.data.toList (t ++ rs).data.toList = (0, 17) := by
          rw [append_list, ht, HCR.out]
          have := hvh.out (N + bn) (by omega) (by omega) r.data.toList R
          simpa using this
        have := verify_any r m (t ++ rs) W (HE.out W hW) hm30 (by rw [ByteArray.size_append]; omega)
        rw [hv] at this
        exact this)
      have HZT := Lib.hid (show ∀ t : ByteArray, t.data.toList = numL ((N : Int) + bn) → ∀ W : World, (Op.stringOp .add t rs).run Tryz.prog W = .ok (.string (t ++ rs)) W from fun t ht W => by
        have zt : t.size ≤ 30 := by rw [← toList_size, ht, numL_length]; have := itoa_len (n := ((N : Int) + bn)) (by omega) (by omega); omega
        exact run_string_add_sum W t rs (by omega))
      have HK := Lib.hid (show ∀ W, Below W0.heap.size W0 W → W.cell? ⟨w.heap.size, 1, none⟩ = some (.string m) ∧ W.cell? ⟨w.heap.size, 5, none⟩ = some (.int .u8 bn) from fun W hW => by
        obtain ⟨_, k1, _, _, _, k5, _⟩ := HC.out W hW
        exact ⟨k1, k5⟩)
      have hw1 : IntKind.i64.wrap ((2 : Int) ^ n) = N := by rw [wrapEqO]; exact hwp.out
      have hw2 : IntKind.i64.wrap ((N : Int) + bn) = (N : Int) + bn := by rw [wrapEqO]; exact wrap64_idO (by omega) (by omega)
      have hw3 := hwp.out
      have hw0 : IntKind.i64.wrap (bn : Int) = bn := by rw [wrapEqO]; exact wrap64_idO (by omega) (by omega)
      obtain ⟨_, K1, _, _, _, K5, _⟩ := HC.out _ hb5
      go_wp2_with fail
      go_region_held3 (fun w' => w'.cell? ⟨w.heap.size, 1, none⟩ = some (.string m) ∧ w'.cell? ⟨w.heap.size, 5, none⟩ = some (.int .u8 bn))
        ((refine HK.out _ ?_; first | exact hb5 | exact below_drew1 hb5 | exact step2 (below_drew1 hb5) hb6 | exact step2 (step2 (below_drew1 hb5) hb6) hb7))
        (first | (go_at_call 12; refine (HNU.out _ (below_drew1 hb5)).mono ?_; rintro e w6 ⟨t, rfl, ht, hb6⟩; have hadd := HZT.out t ht.out) | (go_at_call 18; refine (HVE.out _ _ ht.out (step2 (below_drew1 hb5) hb6)).mono ?_; rintro e w7 ⟨x, y, rfl, hxy, hb7⟩))
      have hb7 := step2 (step2 (below_drew1 hb5) hb6) hb7
      obtain ⟨rfl, rfl⟩ : x = 0 ∧ y = 17 := by have := hxy.out; simp only [Prod.mk.injEq] at this; exact ⟨this.1.symm, this.2.symm⟩
      clear hxy K1 K5
      go_wp2_with fail
      refine (HF.out _ hb7).mono ?_
      rintro e w9 ⟨rfl, hb9⟩
      go_wp2_with fail
      go_ret
      exact ⟨rfl, HW.out _ (step2 hb7 hb9)⟩
end Go.Proofs.YtnjcdbgdjallaaaGreatDoor
