/-
  Chapter 45: the law of ranges of a stream, walked out of the contracts. Under way.
-/
import Derived.Test.YtpkapcijgldhhaaGreatDoorStmRow
import Derived.Test.YtpkapcijgldhhaaGreatDoorCe45
import Derived.Test.YtpkapcijgldhhaaGreatDoorCe33
namespace Go.Proofs.YtpkapcijgldhhaaGreatDoor
open Go.RowKit Go.Shelf
theorem ext_cut (t : ByteArray) (i j : Nat) : t.extract i j = bA' ((t.data.toList.drop i).take (j - i)) := bA'_ext (extract_list t i j)
theorem cut_join (l : List UInt8) {i j k : Nat} (hij : i ≤ j) (hjk : j ≤ k) : (l.drop i).take (j - i) ++ (l.drop j).take (k - j) = (l.drop i).take (k - i) := by
  have e1 : k - i = (j - i) + (k - j) := by omega
  rw [e1, List.take_add, List.drop_drop]
  congr 3
  omega
theorem ext_join (t : ByteArray) {i j k : Nat} (hij : i ≤ j) (hjk : j ≤ k) : t.extract i j ++ t.extract j k = t.extract i k := by
  rw [ext_cut t i k]
  refine (bA'_ext ?_)
  rw [ByteArray.data_append, Array.toList_append, extract_list, extract_list, cut_join _ hij hjk]
theorem rng_call {d sp : Nat} {t : ByteArray} (hd : 1 ≤ d) (hd8 : d ≤ 8) (hs : sp ≤ 7) (ht : t.size ≤ 600) {F : List Fr} (hF : F = frL d sp t.data.toList 3 (nStr d t.size)) {W : World} {v : Value} (hr : FrRow W v F) {i j : Nat} (hij : i ≤ j) (hj : j ≤ t.size) :
    Calls Tryz.prog 17 #[.agg #[.int .u32 1, v], .agg #[.int .i64 3, .int .i64 (i : Int), .int .i64 ((j : Int) - (i : Int))]] W (fun e w' => e = .returned (.tuple #[.string (t.extract i j), .int .i64 0]) ∧ Below W.heap.size W w') := by
  subst hF
  have hb : bytR (frL d sp t.data.toList 3 (nStr d t.size)) 3 (i : Int) ((j : Int) - (i : Int)) = .ok ((t.data.toList.drop i).take (j - i)) := by
    have := byt_all (sp := sp) (t := t.data.toList) hd hd8 hs (by show t.size ≤ 60000; omega) hij (show j ≤ t.data.toList.length from hj)
    have e : ((j - i : Nat) : Int) = (j : Int) - (i : Int) := by omega
    rw [e] at this
    exact this
  have hl : (frL d sp t.data.toList 3 (nStr d t.size)).length ≤ 1000 := by
    rw [frL_len]; have := (nStr_bound hd hd8 hs ht).1; omega
  refine (bytes_any 1 v _ 3 (i : Int) ((j : Int) - (i : Int)) W hr (small_of (fun _ hf => hf) hl) (layWf_of hd8 hs fun _ hf => hf)).mono fun e w' h => ?_
  rw [hb] at h
  have h := h.form
  rw [ext_cut]
  exact h
set_option maxRecDepth 100000 in
set_option maxHeartbeats 4000000 in
theorem lawRng45_any (d sp : Int) (t : ByteArray) (x0 x1 x2 : Int) (w : World) (he : Env w) (hm : HasMax w) (h0 : 0 ≤ x0 ∧ x0 ≤ 65535) (h1 : 0 ≤ x1 ∧ x1 ≤ 65535) (h2 : 0 ≤ x2 ∧ x2 ≤ 65535) :
    Calls Tryz.prog 6 #[.agg #[.int .i64 d, .int .i64 sp], .string t, .agg #[.int .u16 x0, .int .u16 x1, .int .u16 x2]] w (TrueP w) := by
  have HA := Lib.hid (show ∀ W, Below w.heap.size w W → _ from fun W hW => alive45_any W (he.below hW) (hm.below hW))
  have HC := Lib.hid (fun W => check16_any d sp W)
  have HB := Lib.hid (show ∀ (W : World) (v : Value) (F : List Fr), FrRow W v F → SmallF F → LayWf F → ∀ st n : Int, Calls _ _ _ _ _ from fun W v F hr hs hl st n => (bytes_any 1 v F 3 st n W hr hs hl).mono fun _ _ h => h.form)
  clear he hm
  obtain ⟨k1, b1⟩ := boxr w [.int .i64 d, .int .i64 sp] 39
  obtain ⟨k2, b2⟩ := boxr (w.alloc (.cells [.int .i64 d, .int .i64 sp].toArray 39)) [.int .u16 x0, .int .u16 x1, .int .u16 x2] 49
  have kb := step2 k1 k2
  replace b1 := b1.below k2
  rw [World.size_alloc] at b2
  clear k1 k2
  go_enter Tryz.func6, Tryz.ntmps6
  go_upto_region 1 with (fail)
  change Code.wp _ _ _ _ ((w.alloc (.cells [.int .i64 d, .int .i64 sp].toArray 39)).alloc (.cells [.int .u16 x0, .int .u16 x1, .int .u16 x2].toArray 49))
  generalize (w.alloc (.cells [.int .i64 d, .int .i64 sp].toArray 39)).alloc (.cells [.int .u16 x0, .int .u16 x1, .int .u16 x2].toArray 49) = W0 at *
  go_wp2_with fail
  refine (HA.out _ kb).mono ?_
  rintro e w1 ⟨rfl, hb1⟩
  replace kb := step2 kb hb1
  replace b1 := b1.below hb1
  replace b2 := b2.below hb1
  clear HA hb1
  obtain ⟨l0, l1⟩ := b1.cells2
  go_wp2_with fail
  refine (HC.out _).mono ?_
  rintro e w2 ⟨cx, rfl, hcx, hb2⟩
  replace kb := step2 kb hb2
  replace b1 := b1.below hb2
  replace b2 := b2.below hb2
  clear HC hb2 l0 l1
  rcases hcx.out with ⟨rfl, d1, d2, d3, d4⟩ | rfl
  case inr =>
    clear HB hcx
    go_wp2_with fail
    go_ret
    exact ⟨rfl, kb⟩
  clear hcx
  by_cases hl : 600 < t.size
  · clear HB
    go_wp2_with fail
    go_ret
    exact ⟨rfl, kb⟩
  by_cases hz : t.size = 0
  · clear HB
    go_wp2_with fail
    go_ret
    exact ⟨rfl, kb⟩
  have hz' : ((t.size : Int) == 0) = false := by rw [beq_eq_false_iff_ne]; omega
  obtain ⟨d, rfl⟩ := Int.eq_ofNat_of_zero_le (show 0 ≤ d by omega)
  obtain ⟨sp, rfl⟩ := Int.eq_ofNat_of_zero_le d3
  obtain ⟨l0, l1⟩ := b1.cells2
  have HF := Lib.hid (framesR_any 3 d sp t w2 (by omega) (by omega) (by omega))
  go_wp2_with fail
  refine HF.out.mono ?_
  rintro e w3 ⟨va, rfl, hown, hb3⟩
  replace kb := step2 kb hb3
  replace b1 := b1.below hb3
  replace b2 := b2.below hb3
  clear HF l0 l1 hz'
  have hGl := (nStr_bound (d := d) (sp := sp) (l := t.size) (by omega) (by omega) (by omega) (by omega)).1
  rw [← frL_len d sp t.data.toList 3] at hGl
  obtain ⟨G, hG⟩ : ∃ G, frL d sp t.data.toList 3 (nStr d t.size) = G := ⟨_, rfl⟩
  have HG := Lib.hid hG
  rw [hG] at hown hGl
  clear hG
  have hown' : OwnG w2.heap.size 46 9 Fr.vals w3 va G := hown
  have hrow : FrRow w3 va G := OwnG.row (n := 9) (f := Fr.vals) (d := fr0) (fun _ => rfl) hown'
  obtain ⟨oa, oc, rfl⟩ := own_form hown
  clear hown hown'
  obtain ⟨k3, b3⟩ := boxr w3 [.int .u32 1, .slice oa G.length oc] 25
  go_upto_region 6 with (fail)
  change Code.wp _ _ _ _ (w3.alloc (.cells [.int .u32 1, .slice oa G.length oc].toArray 25))
  replace kb := step2 kb k3
  replace b2 := b2.below k3
  replace hrow := hrow.below k3
  obtain ⟨w4, hw4⟩ : ∃ w4, w3.alloc (.cells [.int .u32 1, .slice oa G.length oc].toArray 25) = w4 := ⟨_, rfl⟩
  rw [hw4] at kb b2 b3 hrow ⊢
  clear hw4 b1 HB
  have HR := Lib.hid (show ∀ (W : World), Below w4.heap.size w4 W → ∀ i j : Nat, i ≤ j → j ≤ t.size → Calls _ _ _ _ _ from fun W hW i j hij hj => rng_call (d := d) (sp := sp) (by omega) (by omega) (by omega) (by omega) HG.out.symm (hrow.below hW) hij hj)
  clear hrow HG hGl
  obtain ⟨X0, rfl⟩ := Int.eq_ofNat_of_zero_le h0.1
  obtain ⟨X1, rfl⟩ := Int.eq_ofNat_of_zero_le h1.1
  obtain ⟨X2, rfl⟩ := Int.eq_ofNat_of_zero_le h2.1
  obtain ⟨a0, ha0⟩ : ∃ a, X0 % (t.size + 1) = a := ⟨_, rfl⟩
  obtain ⟨a1, ha1⟩ : ∃ a, X1 % (t.size + 1) = a := ⟨_, rfl⟩
  obtain ⟨a2, ha2⟩ : ∃ a, X2 % (t.size + 1) = a := ⟨_, rfl⟩
  have hb0 : a0 ≤ t.size := by have := Nat.mod_lt X0 (show 0 < t.size + 1 by omega); omega
  have hb1 : a1 ≤ t.size := by have := Nat.mod_lt X1 (show 0 < t.size + 1 by omega); omega
  have hb2 : a2 ≤ t.size := by have := Nat.mod_lt X2 (show 0 < t.size + 1 by omega); omega
  have hn0 : ¬ t.size + 1 = 0 := by omega
  have hn1 : ¬ (t.size : Int) + 1 = 0 := by omega
  have ht0 : (X0 : Int).tmod ((t.size : Int) + 1) = (a0 : Int) := by rw [Int.tmod_eq_emod_of_nonneg (by omega), ← ha0]; rfl
  have ht1 : (X1 : Int).tmod ((t.size : Int) + 1) = (a1 : Int) := by rw [Int.tmod_eq_emod_of_nonneg (by omega), ← ha1]; rfl
  have ht2 : (X2 : Int).tmod ((t.size : Int) + 1) = (a2 : Int) := by rw [Int.tmod_eq_emod_of_nonneg (by omega), ← ha2]; rfl
  clear ha0 ha1 ha2
  obtain ⟨x0, x1, x2⟩ : w4.cell? ⟨w.heap.size + 1, 0, none⟩ = some (.int .u16 X0) ∧ w4.cell? ⟨w.heap.size + 1, 1, none⟩ = some (.int .u16 X1) ∧ w4.cell? ⟨w.heap.size + 1, 2, none⟩ = some (.int .u16 X2) := ⟨b2.cell 0, b2.cell 1, b2.cell 2⟩
  go_upto_region 7 with (fail)
  go_cut [9, 10, 11] from 40 to 54 (fun u v z wc => u = .int .i64 a0 ∧ v = .int .i64 a1 ∧ z = .int .i64 a2 ∧ Below w4.heap.size w4 wc)
  case first =>
    go_quiet (fail)
    go_wp2_with fail
    go_meet
    case rel => exact ⟨rfl, rfl, rfl, below_drewN (below_refl _) _⟩
  case rest =>
    obtain ⟨rfl, rfl, rfl, hb5⟩ := hcut
    replace kb := step2 kb hb5
    replace b3 := b3.below hb5
    replace HR := Lib.hid (show ∀ (W : World), Below wc.heap.size wc W → ∀ i j : Nat, i ≤ j → j ≤ t.size → Calls _ _ _ _ _ from fun W hW i j => HR.out W (step2 hb5 hW) i j)
    clear x0 x1 x2 ht0 ht1 ht2 hn0 hn1 hb5 b2
    obtain ⟨i, hi⟩ : ∃ i, min a0 (min a1 a2) = i := ⟨_, rfl⟩
    obtain ⟨k, hk⟩ : ∃ i, max a0 (max a1 a2) = i := ⟨_, rfl⟩
    obtain ⟨j, hj⟩ : ∃ j, a0 + a1 + a2 - i - k = j := ⟨_, rfl⟩
    have hij : i ≤ j := by omega
    have hjk : j ≤ k := by omega
    have hkt : k ≤ t.size := by omega
    go_upto_region 8 with (fail)
    go_cut [9, 10, 11] from 55 to 77 (fun u v z W => u = .int .i64 i ∧ v = .int .i64 j ∧ z = .int .i64 k ∧ wc = W)
    case first =>
      go_wp2_with fail
      all_goals (go_meet; case rel => exact ⟨by congr 1; omega, by congr 1; omega, by congr 1; omega, rfl⟩)
    case rest =>
      obtain ⟨rfl, rfl, rfl, rfl⟩ := hcut
      clear hi hj hk hb0 hb1 hb2 h0 h1 h2
      have H1 := Lib.hid (show ∀ W, Below wc.heap.size wc W → _ from fun W hW => HR.out W hW i j hij (by omega))
      have H2 := Lib.hid (show ∀ W, Below wc.heap.size wc W → _ from fun W hW => HR.out W hW j k hjk hkt)
      have H3 := Lib.hid (show ∀ W, Below wc.heap.size wc W → _ from fun W hW => HR.out W hW i k (by omega) hkt)
      have hJ := ext_join t hij hjk
      have HJ := Lib.hid hJ
      clear HR hJ
      have hi1 : (0 : Int) ≤ i ∧ (i : Int) ≤ j ∧ (j : Int) ≤ k ∧ (k : Int) ≤ t.size := by omega
      obtain ⟨c0, c1⟩ := b3.cells2
      go_wp2_with fail
      refine (H1.out _ (below_refl _)).mono ?_
      rintro e w5 ⟨rfl, hb5⟩
      replace kb := step2 kb hb5
      replace b3 := b3.below hb5
      clear H1 c0 c1
      obtain ⟨c0, c1⟩ := b3.cells2
      go_wp2_with fail
      refine (H2.out _ hb5).mono ?_
      rintro e w6 ⟨rfl, hb6⟩
      replace kb := step2 kb hb6
      replace b3 := b3.below hb6
      replace hb6 := step2 hb5 hb6
      clear H2 c0 c1 hb5
      obtain ⟨c0, c1⟩ := b3.cells2
      go_wp2_with fail
      refine (H3.out _ hb6).mono ?_
      rintro e w7 ⟨rfl, hb7⟩
      replace kb := step2 kb hb7
      clear H3 c0 c1 hb6 hb7 b3
      go_wp2_with fail
      go_ret
      exact ⟨rfl, kb⟩
theorem lawRng45_card (d sp : Int) (t : ByteArray) (x0 x1 x2 : Int) (w : World) (he : Env w) (hm : HasMax w) (_ : -9223372036854775808 ≤ d ∧ d ≤ 9223372036854775807) (_ : -9223372036854775808 ≤ sp ∧ sp ≤ 9223372036854775807) (_ : t.size ≤ 140737488355328) (h0 : 0 ≤ x0 ∧ x0 ≤ 65535) (h1 : 0 ≤ x1 ∧ x1 ≤ 65535) (h2 : 0 ≤ x2 ∧ x2 ≤ 65535) :
    Calls Tryz.prog 6 #[.agg #[.int .i64 d, .int .i64 sp], .string t, .agg #[.int .u16 x0, .int .u16 x1, .int .u16 x2]] w (TrueP w) :=
  lawRng45_any d sp t x0 x1 x2 w he hm h0 h1 h2
end Go.Proofs.YtpkapcijgldhhaaGreatDoor
