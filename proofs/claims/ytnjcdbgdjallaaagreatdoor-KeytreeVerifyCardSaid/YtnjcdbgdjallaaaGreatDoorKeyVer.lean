/-
  Chapter 30: the law Verify, walked out of the contracts.
-/
import Derived.Test.YtnjcdbgdjallaaaGreatDoorKeyLawsZ
import Derived.Deep.CutBlock
import Derived.Deep.CutRange
import Derived.BigQuiet
import Derived.BigRegion
namespace Go.Proofs.YtnjcdbgdjallaaaGreatDoor
open Go.RowKit
theorem xor_u8 : ∀ a b : Fin 256, 0 ≤ bits BinOp.xor IntKind.u8 (a.val : Int) (b.val : Int) ∧ bits BinOp.xor IntKind.u8 (a.val : Int) (b.val : Int) ≤ 255 := by decide +kernel
set_option maxRecDepth 100000 in
theorem wrap64_id {x : Int} (h0 : -9223372036854775808 ≤ x) (h1 : x ≤ 9223372036854775807) : wrap64 x = x := by unfold wrap64; omega
set_option maxRecDepth 100000 in
theorem wrap_succ (p : Nat) (h : p ≤ 20000) : IntKind.i64.wrap ((p : Int) + 1) = (p : Int) + 1 := by
  have e : IntKind.i64.wrap ((p : Int) + 1) = wrap64 ((p : Int) + 1) := by rw [IntKind.wrap_i64]; unfold wrap64; omega
  rw [e]; exact wrap64_id (by omega) (by omega)
def KB (a w : World) : Prop := Below a.heap.size a w ∧ a.heap.size ≤ w.heap.size
theorem kb_refl (a : World) : KB a a := ⟨below_refl _, Nat.le_refl _⟩
theorem kb_drew {a w : World} (h : KB a w) : KB a w.drew := ⟨h.1.trans (Below.drew (Below.refl _ _)), h.2⟩
theorem kb_alloc {a w : World} (o : Obj) (h : KB a w) : KB a (w.alloc o) := ⟨h.1.alloc h.2 o, by have := h.2; simp; omega⟩
def bS (c : Nat) : ByteArray := ⟨#[UInt8.ofNat c]⟩
theorem conv_at (W : World) (b c : Nat) (hc : c ≤ 255) (h : W.cell? ⟨b, 0, none⟩ = some (.int .u8 c)) : (convert 40 9 (.slice (some ⟨b, 0, none⟩) 1 1)).run Tryz.prog W = .ok (.string (bS c)) W :=
  run_convert_bytes_back W 40 9 5 ⟨b, 0, none⟩ 1 [UInt8.ofNat c] Tryz.underlying40 Tryz.underlying5 Tryz.underlying9 (fun j hj => by
    obtain rfl : j = 0 := by simp at hj; omega
    show W.cell? ⟨b, 0, none⟩ = _
    rw [h]
    show some (Value.int IntKind.u8 (c : Int)) = some (Value.int IntKind.u8 ((UInt8.ofNat c).toNat : Int))
    rw [UInt8.toNat_ofNat']; congr 3; omega)
theorem drew_cell (W : World) (a : Addr) : W.drew.cell? a = W.cell? a := rfl
theorem conv_a (W : World) (c : Nat) (d : Value) (hc : c ≤ 255) : (convert 40 9 (.slice (some ⟨W.heap.size, 0, none⟩) 1 1)).run Tryz.prog ((W.alloc (.cells #[.int .u8 c] 5)).alloc (.cells #[d] 5)).drew = .ok (.string (bS c)) ((W.alloc (.cells #[.int .u8 c] 5)).alloc (.cells #[d] 5)).drew :=
  conv_at _ _ _ hc (by rw [drew_cell]; exact alloc_old_cell _ (by rw [alloc_new_cell]; rfl))
theorem conv_b (W : World) (c : Nat) (hc : c ≤ 255) : (convert 40 9 (.slice (some ⟨W.heap.size, 0, none⟩) 1 1)).run Tryz.prog (W.alloc (.cells #[.int .u8 c] 5)).drew = .ok (.string (bS c)) (W.alloc (.cells #[.int .u8 c] 5)).drew :=
  conv_at _ _ _ hc (by rw [drew_cell, alloc_new_cell]; rfl)
theorem conv_c (W : World) (c : Nat) (d : Value) (hc : c ≤ 255) : (convert 40 9 (.slice (some ⟨W.heap.size + 1, 0, none⟩) 1 1)).run Tryz.prog ((W.alloc (.cells #[d] 5)).alloc (.cells #[.int .u8 c] 5)).drew = .ok (.string (bS c)) ((W.alloc (.cells #[d] 5)).alloc (.cells #[.int .u8 c] 5)).drew :=
  conv_at _ _ _ hc (by
    rw [drew_cell]
    have h := alloc_new_cell (W.alloc (.cells #[d] 5)) #[.int .u8 c] 5 0
    rw [show (W.alloc (.cells #[d] 5)).heap.size = W.heap.size + 1 from by simp] at h
    rw [h]; rfl)
theorem five_cells (W : World) (b : Nat) (hb : W.heap.size = b) (x1 x2 x3 x4 x5 : ByteArray) (h1 : x1.size ≤ 30000) (h2 : x2.size ≤ 30000) (h3 : x3.size ≤ 30000) (h4 : x4.size ≤ 30000) (h5 : x5.size ≤ 30000) :
    ∀ k, k < 5 → ∃ x : ByteArray, x.size ≤ 30000 ∧ ((W.alloc (.cells #[.string x1, .string x2, .string x3, .string x4, .string x5] 9)).drew).cell? ⟨b, k, none⟩ = some (.string x) := fun k hk => by
  subst hb
  rw [drew_cell, alloc_new_cell]
  match k, hk with
  | 0, _ => exact ⟨x1, h1, rfl⟩
  | 1, _ => exact ⟨x2, h2, rfl⟩
  | 2, _ => exact ⟨x3, h3, rfl⟩
  | 3, _ => exact ⟨x4, h4, rfl⟩
  | 4, _ => exact ⟨x5, h5, rfl⟩
theorem sign_form (s m : List UInt8) (h k : Nat) (hh : h ≤ 6) (hk : k < 2 ^ h) : ∃ R, treeSignL s h k m = numL k ++ (numL h ++ R) := by
  refine ⟨strL (signL s k m) ++ pathL (treeL s h) k h, ?_⟩
  rw [treeSignL, if_neg (by omega), if_neg (by rw [Int.toNat_natCast]; omega), Int.toNat_natCast, Int.toNat_natCast]
  simp only [List.append_assoc]
theorem nat64 {q : Nat} (h : q ≤ 64) : -9223372036854775808 ≤ (q : Int) ∧ (q : Int) ≤ 9223372036854775807 := by omega
theorem treeSign_le (s m : List UInt8) (h k : Nat) (hh : h ≤ 6) : (treeSignL s h k m).length ≤ 10000 := by
  rw [treeSignL]
  split
  · exact Nat.zero_le _
  · split
    · exact Nat.zero_le _
    · rename_i h1 h2
      have l1 : (numL (k : Int)).length ≤ 30 := by
        rw [numL_length]
        have : 2 ^ h ≤ 64 := pow_le h hh
        rw [Int.toNat_natCast] at h2
        have := itoa_len (n := (k : Int)) (by omega) (by omega); omega
      have l2 : (numL (h : Int)).length ≤ 30 := by rw [numL_length]; have := itoa_len (n := (h : Int)) (by omega) (by omega); omega
      have l3 : (strL (signL s k m)).length ≤ 590 := strL_len (n := 560) (by
        rw [signL]
        split
        · exact Nat.zero_le _
        · rw [sigL_length]; decide) (by decide)
      have l4 := pathL_len s h k h
      rw [Int.toNat_natCast, Int.toNat_natCast]
      simp only [List.length_append]
      omega
set_option maxRecDepth 100000 in
set_option maxHeartbeats 2000000 in
theorem lawKeyVerify_any (s m : ByteArray) (h k at_ by_ : Int) (o : ByteArray) (w : World) (he : Env w) (hs : s.size ≤ 140737488355328) (hm : m.size ≤ 140737488355328) (ho : o.size ≤ 140737488355328) (hh : 0 ≤ h ∧ h ≤ 255) (hk : 0 ≤ k ∧ k ≤ 255) (hat : 0 ≤ at_ ∧ at_ ≤ 65535) (hby : 0 ≤ by_ ∧ by_ ≤ 255) :
    Calls Tryz.prog 4 #[.agg #[.string s, .string m, .int .u8 h, .int .u8 k, .int .u16 at_, .int .u8 by_, .string o]] w (TrueP w) := by
  have hcells : ∀ W, Below (w.alloc (.cells #[.string s, .string m, .int .u8 h, .int .u8 k, .int .u16 at_, .int .u8 by_, .string o] 39)).heap.size (w.alloc (.cells #[.string s, .string m, .int .u8 h, .int .u8 k, .int .u16 at_, .int .u8 by_, .string o] 39)) W → W.cell? ⟨w.heap.size, 0, none⟩ = some (.string s) ∧ W.cell? ⟨w.heap.size, 1, none⟩ = some (.string m) ∧ W.cell? ⟨w.heap.size, 2, none⟩ = some (.int .u8 h) ∧ W.cell? ⟨w.heap.size, 3, none⟩ = some (.int .u8 k) ∧ W.cell? ⟨w.heap.size, 4, none⟩ = some (.int .u16 at_) ∧ W.cell? ⟨w.heap.size, 5, none⟩ = some (.int .u8 by_) ∧ W.cell? ⟨w.heap.size, 6, none⟩ = some (.string o) := fun W hW => by
    have hc := fun i => (hW.cell (p := ⟨w.heap.size, i, none⟩) (by simp)).trans (alloc_new_cell w #[.string s, .string m, .int .u8 h, .int .u8 k, .int .u16 at_, .int .u8 by_, .string o] 39 i)
    exact ⟨hc 0, hc 1, hc 2, hc 3, hc 4, hc 5, hc 6⟩
  have hbs : Below w.heap.size w (w.alloc (.cells #[.string s, .string m, .int .u8 h, .int .u8 k, .int .u16 at_, .int .u8 by_, .string o] 39)) := (below_refl w).alloc (Nat.le_refl _) _
  have hsz0 : (w.alloc (.cells #[.string s, .string m, .int .u8 h, .int .u8 k, .int .u16 at_, .int .u8 by_, .string o] 39)).heap.size = w.heap.size + 1 := by simp
  obtain ⟨W0, hW0⟩ : ∃ W0, w.alloc (.cells #[.string s, .string m, .int .u8 h, .int .u8 k, .int .u16 at_, .int .u8 by_, .string o] 39) = W0 := ⟨_, rfl⟩
  rw [hW0] at hcells hbs hsz0
  have HW := Lib.hid (show ∀ W, Below W0.heap.size W0 W → Below w.heap.size w W from fun W hW => hbs.trans (hW.mono (by omega)))
  have hgr := Lib.hid (great_str3 s m o W0 W0.heap.size rfl hs hm ho)
  have hb0 : Below W0.heap.size W0 (W0.alloc (.cells #[.string s, .string m, .string o] 9)) := (below_refl W0).alloc (Nat.le_refl _) _
  have HC := Lib.hid hcells
  have HF := Lib.hid (show ∀ W, Below W0.heap.size W0 W → Calls Tryz.prog 9 #[] W (TrueP W) from fun W hW => awake_any W (he.below (HW.out W hW)))
  have HE := Lib.hid (show ∀ W, Below W0.heap.size W0 W → Env W from fun W hW => he.below (HW.out W hW))
  clear hcells hsz0 hbs
  obtain ⟨h, rfl⟩ := Int.eq_ofNat_of_zero_le hh.1
  obtain ⟨k, rfl⟩ := Int.eq_ofNat_of_zero_le hk.1
  go_enter Tryz.func4, Tryz.ntmps4
  obtain ⟨c0, c1, c2, c3, c4, c5, c6⟩ := HC.out W0 (below_refl _)
  go_wp2_with fail
  refine hgr.out.mono ?_
  rintro e w1 ⟨b, rfl, hb, rfl⟩
  clear hgr c0 c1 c2 c3 c4 c5 c6
  cases b with
  | true =>
    go_wp2_with fail
    refine (HF.out _ hb0).mono ?_
    rintro e w9 ⟨rfl, hb9⟩
    go_wp2_with fail
    go_ret
    exact ⟨rfl, HW.out _ (step2 hb0 hb9)⟩
  | false =>
    have hz1 : s.size + (m.size + o.size) ≤ 300 := by simpa [totZ] using hb.out rfl
    clear hb
    obtain ⟨n, hn⟩ : ∃ n, h % 3 = n := ⟨_, rfl⟩
    have hn2 : n ≤ 2 := by omega
    have hwp := wrap_pow n (by omega)
    have hpl := pow_le n (by omega)
    have hp0 := Nat.two_pow_pos n
    have hse := Lib.hid (show ∀ q : Nat, q < 2 ^ n → treeSignE n q = 0 from fun q hq => by rw [treeSignE, if_neg (by omega), if_neg (by rw [Int.toNat_natCast]; omega)])
    have hrq : rootE n = 0 := by rw [rootE, if_neg (by omega)]
    have hsf := Lib.hid (show ∀ q : Nat, q < 2 ^ n → _ from fun q hq => sign_form s.data.toList m.data.toList n q (by omega) hq)
    obtain ⟨N, hN⟩ : ∃ N, 2 ^ n = N := ⟨_, rfl⟩
    rw [hN] at hwp hpl hp0 hse hsf
    clear hN
    obtain ⟨q, hq⟩ : ∃ q, k % N = q := ⟨_, rfl⟩
    have hqN : q < N := by rw [← hq]; exact Nat.mod_lt _ (by omega)
    have hn3 : (h : Int) % 3 = n := by omega
    have hq3 := Lib.hid (show (k : Int) % N = q by rw [← hq]; simp)
    clear hq
    have hn3 := Lib.hid hn3
    clear hn
    have hsq := hse.out q hqN
    obtain ⟨R, hR⟩ := hsf.out q hqN
    have hs30 : s.size ≤ 1073741824 := by omega
    have hm30 : m.size ≤ 1073741824 := by omega
    have hq64 : q ≤ 64 := Nat.le_of_lt (Nat.lt_of_lt_of_le hqN hpl)
    have hn6 : n ≤ 6 := by omega
    have hr1 := Lib.hid (fun W => rootR_any s n W hs30 (nat64 (by omega)))
    have hs1 := Lib.hid (fun W => treeSignR_any s n q m W hs30 hm30 (nat64 (by omega)) (nat64 hq64))
    rw [hrq] at hr1
    rw [hsq] at hs1
    have HR := Lib.hid hR
    clear hrq hsq hR hse hsf
    obtain ⟨c0, c1, c2, c3, c4, c5, c6⟩ := HC.out _ hb0
    go_wp2_with fail
    rw [hn3.out]
    go_wp2_with fail
    go_quiet (fail)
    go_wp2_with fail
    rw [hq3.out]
    have hb0 := below_drewN hb0 nq
    refine (hr1.out _).mono ?_
    rintro e w2 ⟨r, rfl, hr, hb1⟩
    have hb1 := step2 hb0 hb1
    clear hr1 c0 c1 c2 c3 c4 c5 c6
    obtain ⟨c0, c1, c2, c3, c4, c5, c6⟩ := HC.out _ hb1
    go_wp2_with fail
    refine (hs1.out _).mono ?_
    rintro e w3 ⟨g, rfl, hg, hb2⟩
    have hb2 := step2 hb1 hb2
    have hgs : g.size ≤ 10000 := by rw [← toList_size, hg.out]; exact treeSign_le _ _ _ _ hn6
    have hg0 : 0 < g.size := by
      rw [← toList_size, hg.out, HR.out, List.length_append, numL_length]; omega
    clear hs1 HR c0 c1 c2 c3 c4 c5 c6
    obtain ⟨c0, c1, c2, c3, c4, c5, c6⟩ := HC.out _ hb2
    go_upto_block 0 with (fail)
    obtain ⟨p, hp⟩ : ∃ p : Nat, at_ % (g.size : Int) = p := ⟨(at_ % (g.size : Int)).toNat, (Int.toNat_of_nonneg (Int.emod_nonneg _ (by omega))).symm⟩
    have hpg : p < g.size := by
      have := Int.emod_lt_of_pos at_ (show (0 : Int) < g.size by omega)
      rw [hp] at this; omega
    rw [hp]
    clear hp hat c0 c1 c2 c3 c4 c5 c6
    go_cut [107, 108, 109] from 64 to 106 (fun v l i wc => (∃ b, v = .slice (some ⟨b, 0, none⟩) 5 5 ∧ ∀ k, k < 5 → ∃ x : ByteArray, x.size ≤ 30000 ∧ wc.cell? ⟨b, k, none⟩ = some (.string x)) ∧ l = .int .i64 5 ∧ i = .int .i64 0 ∧ KB w3 wc)
    case first =>
      obtain ⟨bn, rfl⟩ := Int.eq_ofNat_of_zero_le hby.1
      have hx := xor_u8 ⟨g[p].toNat, g[p].toNat_lt⟩ ⟨bn, by omega⟩
      simp only at hx
      obtain ⟨c1, hc1⟩ : ∃ c, bits BinOp.xor IntKind.u8 (g[p].toNat : Int) (bn : Int) = c := ⟨_, rfl⟩
      rw [hc1] at hx
      obtain ⟨c1, rfl⟩ := Int.eq_ofNat_of_zero_le hx.1
      have hwr : IntKind.i64.wrap ((p : Int) + 1) = (p : Int) + 1 := by exact wrap_succ p (by omega)
      obtain ⟨E1, hE1⟩ : ∃ E, g.extract 0 p = E := ⟨_, rfl⟩
      obtain ⟨T1, hT1⟩ : ∃ E, g.extract (p + 1) g.size = E := ⟨_, rfl⟩
      obtain ⟨T2, hT2⟩ : ∃ E, g.extract p g.size = E := ⟨_, rfl⟩
      have zE1 : E1.size ≤ 10000 := by rw [← hE1, ByteArray.size_extract]; omega
      have zT1 : T1.size ≤ 10000 := by rw [← hT1, ByteArray.size_extract]; omega
      have zT2 : T2.size ≤ 10000 := by rw [← hT2, ByteArray.size_extract]; omega
      have fs1 : ∀ W : World, (Instr.slice 9 (.string g) none (some (.int .i64 p)) none).run Tryz.prog W = .ok (.string E1) W := fun W => by
        rw [run_slice_string_h (P := Tryz.prog) W 9 g Tryz.underlying9 .i64 p (by omega) (by omega), ← hE1]; rfl
      have fs2 : ∀ W : World, (Instr.slice 9 (.string g) (some (.int .i64 ((p : Int) + 1))) none none).run Tryz.prog W = .ok (.string T1) W := fun W => by
        rw [run_slice_string_l (P := Tryz.prog) W 9 g Tryz.underlying9 .i64 ((p : Int) + 1) (by omega) (by omega), ← hT1]; rfl
      have fs3 : ∀ W : World, (Instr.slice 9 (.string g) (some (.int .i64 p)) none none).run Tryz.prog W = .ok (.string T2) W := fun W => by
        rw [run_slice_string_l (P := Tryz.prog) W 9 g Tryz.underlying9 .i64 p (by omega) (by omega), ← hT2]; rfl
      clear hE1 hT1 hT2
      have hcat : ∀ (a b : ByteArray), a.size ≤ 30000 → b.size ≤ 30000 → ∃ c : ByteArray, c.size ≤ a.size + b.size ∧ ∀ W : World, (Op.stringOp .add a b).run Tryz.prog W = .ok (.string c) W := fun a b ha hb =>
        ⟨a ++ b, by rw [ByteArray.size_append]; exact Nat.le_refl _, fun W => run_string_add_sum W a b (by omega)⟩
      have hB : ∀ c : Nat, (bS c).size = 1 := fun _ => rfl
      obtain ⟨B1, hB1⟩ : ∃ B, bS c1 = B := ⟨_, rfl⟩
      obtain ⟨B2, hB2⟩ : ∃ B, bS bn = B := ⟨_, rfl⟩
      have zB1 : B1.size ≤ 1 := by rw [← hB1]; exact Nat.le_refl _
      have zB2 : B2.size ≤ 1 := by rw [← hB2]; exact Nat.le_refl _
      have k1 := fun W d => conv_a W c1 d (by omega)
      have k2 := fun W => conv_b W c1 (by omega)
      have k3 := fun W d => conv_c W c1 d (by omega)
      have k4 := fun W d => conv_a W bn d (by omega)
      have k5 := fun W => conv_b W bn (by omega)
      have k6 := fun W d => conv_c W bn d (by omega)
      rw [hB1] at k1 k2 k3
      rw [hB2] at k4 k5 k6
      obtain ⟨A1, zA1, a1⟩ := hcat E1 B1 (by omega) (by omega)
      obtain ⟨S1, zS1, a2⟩ := hcat A1 T1 (by omega) (by omega)
      obtain ⟨S2, zS2, a3⟩ := hcat E1 T1 (by omega) (by omega)
      obtain ⟨A2, zA2, a4⟩ := hcat E1 B2 (by omega) (by omega)
      obtain ⟨S3, zS3, a5⟩ := hcat A2 T2 (by omega) (by omega)
      obtain ⟨S5, zS5, a6⟩ := hcat g o (by omega) (by omega)
      have y1 : S1.size ≤ 30000 := by omega
      have y2 : S2.size ≤ 30000 := by omega
      have y3 : S3.size ≤ 30000 := by omega
      have y5 : S5.size ≤ 30000 := by omega
      have y4 : o.size ≤ 30000 := by omega
      clear hcat hB hB1 hB2 zA1 zS1 zS2 zA2 zS3 zS5 zB1 zB2 zE1 zT1 zT2 hx
      obtain ⟨_, _, _, _, _, c5, c6⟩ := HC.out _ hb2
      have HK := Lib.hid (show ∀ W, KB w3 W → W.cell? ⟨w.heap.size, 5, none⟩ = some (.int .u8 bn) ∧ W.cell? ⟨w.heap.size, 6, none⟩ = some (.string o) from fun W hW => by
        obtain ⟨_, _, _, _, _, k5, k6⟩ := HC.out W (step2 hb2 hW.1)
        exact ⟨k5, k6⟩)
      have hlt : w.heap.size < w3.heap.size := World.block_lt_of_cell? w3 _ c5
      go_region
      all_goals
        go_wp2_with fail
        go_meet
        case rel => exact ⟨⟨_, rfl, five_cells _ _ (by simp) S1 S2 S3 o S5 y1 y2 y3 y4 y5⟩, rfl, rfl, by repeat (first | exact kb_refl _ | refine kb_drew ?_ | refine kb_alloc _ ?_)⟩
    case rest =>
      obtain ⟨⟨b, rfl, hcell⟩, rfl, rfl, hkb⟩ := hcut
      have hb3 := step2 hb2 hkb.1
      have HCL := Lib.hid hcell
      clear hcell hkb
      go_wp2_with fail
      go_loopw [109] (fun i wr => ∃ k : Nat, k ≤ 5 ∧ i = .int .i64 k ∧ Below wc.heap.size wc wr) (fun i _ => 5 - (intOf i).toNat)
      case atStart => exact ⟨0, by omega, rfl, below_refl _⟩
      case round =>
        obtain ⟨k, hk5, rfl, hbw⟩ := hrel
        have hbr := step2 hb3 hbw
        by_cases hlt : k < 5
        · obtain ⟨x, zx, hx⟩ := HCL.out k hlt
          have ck := (hbw.cell (World.block_lt_of_cell? _ _ hx)).trans hx
          have hva := Lib.hid (fun W hW => verify_any r m x W (HE.out W hW) hm30 (by omega))
          have hvb := Lib.hid (fun W => verifyR_any r m x W hm30 (by omega))
          obtain ⟨C0, C1, C2, C3, C4, C5, C6⟩ := HC.out _ hbr
          go_wp2_with fail
          refine (hva.out _ hbr).mono ?_
          rintro e w4 ⟨a1, a2, rfl, ha, hb4⟩
          have hb5 := step2 hbr hb4
          have hbx := step2 hbw hb4
          clear C0 C1 C2 C3 C4 C5 C6
          obtain ⟨C0, C1, C2, C3, C4, C5, C6⟩ := HC.out _ hb5
          go_wp2_with fail
          refine (hvb.out _).mono ?_
          rintro e w5 ⟨b1, b2, rfl, hbb, hb6⟩
          have hb7 := step2 hbx hb6
          rw [ha.out] at hbb
          obtain ⟨rfl, rfl⟩ : a1 = b1 ∧ a2 = b2 := by have := hbb.out; simpa using this
          clear C0 C1 C2 C3 C4 C5 C6 hva hvb ck hx
          go_wp2_with fail
          go_roundw
          case rel => exact ⟨k + 1, by omega, by go_num, hb7⟩
          case measure => simp [intOf]; omega
        · go_wp2_with fail
          refine (HF.out _ hbr).mono ?_
          rintro e w9 ⟨rfl, hb9⟩
          go_wp2_with fail
          go_ret
          exact ⟨rfl, HW.out _ (step2 hbr hb9)⟩
end Go.Proofs.YtnjcdbgdjallaaaGreatDoor
