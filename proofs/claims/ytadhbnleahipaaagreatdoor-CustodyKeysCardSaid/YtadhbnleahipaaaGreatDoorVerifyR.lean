/-
  Verify: the reference.
-/
import Derived.Test.YtadhbnleahipaaaGreatDoorVerify
import Derived.Deep.CutBlock
import Derived.Deep.CutRange
namespace Go.Proofs.YtadhbnleahipaaaGreatDoor
open Go.RowKit
theorem climb_none (key : Nat) (P : List (List UInt8)) : ∀ (n i : Nat) (a : List UInt8), P.length ≤ i + n → (∃ k, i ≤ k ∧ ∃ o, P[k]? = some o ∧ o.length ≠ 16) → climb key (P.drop i) i a = none := by
  intro n
  induction n with
  | zero =>
    rintro i a h ⟨k, hk, o, ho, _⟩
    have := (List.getElem?_eq_some_iff.1 ho).1
    omega
  | succ n ih =>
    rintro i a h ⟨k, hk, o, ho, h16⟩
    have hlt := (List.getElem?_eq_some_iff.1 ho).1
    rw [climb_snoc key P i P[i] a (List.getElem?_eq_getElem (by omega))]
    split
    · rename_i hl
      refine ih (i + 1) _ (by omega) ⟨k, ?_, o, ho, h16⟩
      rcases Nat.lt_or_ge i k with h' | h'
      · exact h'
      · exfalso
        obtain rfl : k = i := by omega
        rw [List.getElem?_eq_getElem (by omega)] at ho
        injection ho with ho
        exact h16 (ho ▸ hl)
    · rfl
set_option maxHeartbeats 1000000 in
set_option maxRecDepth 100000 in
theorem verifyR_any (root m sig : ByteArray) (w : World) (hm : m.size ≤ 1073741824) (hs : sig.size ≤ 1073741824) :
    Calls Tryz.prog 77 #[.string root, .string m, .string sig] w (VerP (verifyL root.data.toList m.data.toList sig.data.toList) w) := by
  have hno : ∀ w', parseL sig.data.toList = none → Below w.heap.size w w' → VerP (verifyL root.data.toList m.data.toList sig.data.toList) w (.returned (.tuple #[.int .i64 0, .int .i64 17])) w' := fun w' h hb => ⟨0, 17, rfl, verifyL_none h, hb⟩
  have HNO := Lib.hid hno; clear hno
  go_enter Tryz.func77, Tryz.ntmps77
  go_wp2_with fail
  refine (refReadNumber_any sig 0 _ (by omega)).mono ?_
  rintro e w1 ⟨k, a, x, rfl, h1, rfl⟩
  by_cases hx : x = 0
  case neg =>
    obtain ⟨x1, x2⟩ := neq0 hx
    have hp := HNO.out w (parseL_1 h1.out hx) (below_refl _)
    have HP := Lib.hid hp
    clear hx h1 hp
    go_wp2_with fail
    go_ret2
    exact HP.out
  subst hx
  obtain ⟨a, rfl, ha0, ha1, hk0, hk1⟩ := rdNum_next (a := 0) h1.out
  rw [toList_size] at ha1
  go_wp2_with fail
  refine (refReadNumber_any sig a _ (by omega)).mono ?_
  rintro e w2 ⟨h, b, y, rfl, h2, rfl⟩
  have H2 := Lib.hid (fun hf => HNO.out w (parseL_2 h1.out h2.out hf) (below_refl _))
  by_cases hy : y = 0
  case neg =>
    obtain ⟨x1, x2⟩ := neq0 hy
    have hp := Lib.hid (H2.out (.inl hy))
    clear hy h1 h2 H2
    go_wp2_with fail
    go_ret2
    exact hp.out
  subst hy
  by_cases h0 : h < 0
  · have hp := Lib.hid (H2.out (.inr (.inl h0)))
    clear h1 h2 H2
    go_wp2_with fail
    go_ret2
    exact hp.out
  by_cases h6 : 6 < h
  · have hp := Lib.hid (H2.out (.inr (.inr (.inl h6))))
    clear h1 h2 H2
    have h0' : 0 ≤ h := by omega
    go_wp2_with fail
    go_ret2
    exact hp.out
  obtain ⟨n, rfl⟩ := Int.eq_ofNat_of_zero_le (Int.not_lt.1 h0)
  have hn : n ≤ 6 := by omega
  by_cases k0 : k < 0
  · have hp := Lib.hid (H2.out (.inr (.inr (.inr (.inl k0)))))
    clear h1 h2 h0 h6 H2
    go_wp2_with fail
    go_ret2
    exact hp.out
  have hpl := pow_le n hn
  obtain ⟨N, hN⟩ : ∃ N, 2 ^ n = N := ⟨_, rfl⟩
  have hsz := Lib.hid (fun w => size_any n N w (by omega) hN)
  by_cases k1 : (2 ^ n : Nat) ≤ k
  · have hp := Lib.hid (H2.out (.inr (.inr (.inr (.inr k1)))))
    rw [hN] at hpl k1
    have k0' : 0 ≤ k := by omega
    clear h1 h2 h0 h6 hN H2
    go_wp2_with fail
    refine (hsz.out _).mono ?_
    rintro e w1 ⟨rfl, rfl⟩
    go_wp2_with fail
    go_ret2
    exact hp.out
  obtain ⟨b, rfl, hb0, hbs, _⟩ := rdNum_next (a := a) h2.out
  rw [toList_size] at hbs
  have H3 := Lib.hid (show ∀ one c f, rdStr sig.data.toList b = (one, c, f) → _ from fun one c f h3 => parse_tail h1.out h2.out (by omega) (by rw [toList_size]; exact hbs) h3)
  rw [hN] at hpl k1
  obtain ⟨k, rfl⟩ := Int.eq_ofNat_of_zero_le (Int.not_lt.1 k0)
  clear h1 h2 h0 h6 hN ha0 ha1 H2 k0
  go_wp2_with fail
  refine (hsz.out _).mono ?_
  rintro e w1 ⟨rfl, rfl⟩
  go_wp2_with fail
  refine (refReadString_any sig b _ (by omega)).mono ?_
  rintro e w1 ⟨one, c, f, rfl, h3, rfl⟩
  have h4 := H3.out _ _ _ h3.out
  have hones : one.size ≤ 1073741824 := by
    have := rdStr_le sig.data.toList b
    rw [h3.out, toList_size, toList_size] at this
    omega
  by_cases hf : f = 0
  case neg =>
    obtain ⟨x1, x2⟩ := neq0 hf
    have hp := Lib.hid (HNO.out w (h4.1 hf) (below_refl _))
    clear hf h3 h4 H3
    go_wp2_with fail
    go_ret2
    exact hp.out
  subst hf
  obtain ⟨c, rfl, hc0, hcs⟩ := rdStr_next h3.out
  rw [toList_size] at hcs
  have h5 := h4.2 rfl
  rw [Int.toNat_natCast] at h5
  have H5 := Lib.hid h5
  clear h3 h4 H3 h5
  go_wp2_with fail
  refine (recoverR_any m one _ hm (by omega)).mono ?_
  rintro e w2 ⟨a0, rfl, ha0, hb2⟩
  by_cases hE : recoverE one.data.toList = 0
  case neg =>
    obtain ⟨x1, x2⟩ := neq0 hE
    have hp : Hid (verifyL root.data.toList m.data.toList sig.data.toList = (0, 17)) := by
      rcases hrs : rdStrs (sig.data.toList.drop c) with ⟨p, e⟩
      have h6 := H5.out p e hrs
      by_cases hq : e = 0 ∧ p.length = n
      · rw [if_pos hq] at h6; exact verifyL_short h6 hE
      · rw [if_neg hq] at h6; exact verifyL_none h6
    clear hE
    go_wp2_with fail
    go_ret2
    exact ⟨_, _, rfl, hp, hb2⟩
  rw [hE]
  have za0 : a0.size ≤ 1073741824 := by
    rw [← toList_size, ha0.out, recoverL]
    split
    · rw [hashL_length]; decide
    · exact Nat.zero_le _
  have HE := Lib.hid hE
  clear hE
  obtain ⟨t, ht⟩ : ∃ t, sig.extract c sig.size = t := ⟨_, rfl⟩
  have htl : Hid (t.data.toList = sig.data.toList.drop c) := by
    rw [Hid, ← ht, extract_list, List.take_of_length_le]
    rw [List.length_drop, toList_size]; exact Nat.le_refl _
  have hts : t.size ≤ 1073741824 := by rw [← ht, ByteArray.size_extract]; omega
  go_wp2_with fail
  refine (refReadStrings_any t w2 (by omega)).mono ?_
  rintro e w3 ⟨v, p, x, rfl, h6, hown, hb3⟩
  have hb23 := step2 hb2 hb3
  have h7 := H5.out _ _ (htl.out ▸ h6.out)
  have hle : Hid (∀ (i : Nat) (u : ByteArray), p[i]? = some u → u.size ≤ 1073741824) := fun i u hu => by
    have := rdStrs_le t.data.toList u.data.toList (by rw [h6.out]; exact List.mem_map_of_mem (List.mem_of_getElem? hu))
    rw [toList_size, toList_size] at this; omega
  have H7 := Lib.hid h7
  clear ht h6 h7 H5
  by_cases hx : x = 0
  case neg =>
    obtain ⟨x1, x2⟩ := neq0 hx
    have hp : Hid (verifyL root.data.toList m.data.toList sig.data.toList = (0, 17)) := verifyL_none (by rw [H7.out, if_neg (fun h => hx h.1)])
    clear hx
    go_wp2_with fail
    go_ret2
    exact ⟨_, _, rfl, hp, hb23⟩
  subst hx
  obtain ⟨hpm, fa, fc, hv⟩ := hown.form'
  unfold maxLen at hpm
  by_cases hl : p.length = n
  case neg =>
    have hp : Hid (verifyL root.data.toList m.data.toList sig.data.toList = (0, 17)) := verifyL_none (by rw [H7.out, if_neg (fun h => hl (by have := h.2; rw [List.length_map] at this; exact this))])
    have hq : ((p.length : Int) == (n : Int)) = false := by
      have : ¬ (p.length : Int) = (n : Int) := by omega
      simpa using this
    have hq2 : ((p.length : Int) != (n : Int)) = true := by rw [bne, hq]; rfl
    rw [hv]
    clear hl hv
    go_wp2_with fail
    go_ret2
    exact ⟨_, _, rfl, hp, hb23⟩
  have hps : Hid (parseL sig.data.toList = some ((k : Int), one.data.toList :: p.map fun s => s.data.toList)) := by
    rw [Hid, H7.out, if_pos ⟨rfl, by rw [List.length_map]; exact hl⟩]
  have HCN := Lib.hid (fun h => verifyL_path (root := root.data.toList) (m := m.data.toList) hps.out HE.out h)
  have HCS := Lib.hid (fun a h => verifyL_root (root := root.data.toList) (m := m.data.toList) (a := a) hps.out HE.out h)
  rw [show (one.data.toList :: p.map fun s => s.data.toList).getD 0 [] = one.data.toList from rfl, ← ha0.out, Int.toNat_natCast, show (one.data.toList :: p.map fun s => s.data.toList).drop 1 = p.map fun s => s.data.toList from rfl] at HCN HCS
  obtain ⟨P, hP⟩ : ∃ P, (p.map fun s => s.data.toList) = P := ⟨_, rfl⟩
  have hPl : Hid (P.length = n) := by rw [Hid, ← hP, List.length_map]; exact hl
  rw [hP] at HCN HCS
  have HPP := Lib.hid hP
  have HLL := Lib.hid hl
  have hk64 : k < 64 := by omega
  have hroot : ∀ b : ByteArray, Hid (climb k P 0 a0.data.toList = some b.data.toList) → (b.toList == root.toList) = true ∧ (b.toList != root.toList) = false ∧ Hid (verifyL root.data.toList m.data.toList sig.data.toList = ((k : Int), 0)) ∨
      (b.toList == root.toList) = false ∧ (b.toList != root.toList) = true ∧ Hid (verifyL root.data.toList m.data.toList sig.data.toList = (0, 17)) := fun b hb => by
    have hv := HCS.out _ hb.out
    rw [bne, beq_lists]
    by_cases hr : b.data.toList = root.data.toList
    · left; rw [if_pos hr] at hv; exact ⟨by simpa using hr, by simpa using hr, hv⟩
    · right; rw [if_neg hr] at hv; exact ⟨by simpa using hr, by simpa using hr, hv⟩
  have HR := Lib.hid hroot; clear hroot
  have hcells : Hid (∀ g cap, v = .slice (some ⟨g, 0, none⟩) n cap → ∀ (i : Nat) (u : ByteArray), p[i]? = some u → w3.cell? ⟨g, i, none⟩ = some (.string u)) := fun g cap hg i u hu => by
    have hadd : (⟨g, 0, none⟩ : Addr).add i = ⟨g, i, none⟩ := by unfold Addr.add; split <;> simp_all
    have := World.ownsRow.cells hown (g := g) (by rw [hg]; rfl) i (.string u) (by rw [List.getElem?_map, hu]; rfl)
    rw [hadd] at this; exact this
  have hown2 := hown
  unfold OwnStrs at hown2
  rw [hl] at hown2 hv hpm
  have hform : Hid (0 < n → ∃ g cap, v = .slice (some ⟨g, 0, none⟩) n cap) := fun h0 => by
    obtain ⟨g, cap, e, _⟩ := World.ownsRow.form hown2 h0
    exact ⟨g, cap, e⟩
  clear hP hl hown hown2 H7 hps
  by_cases hn0 : n = 0
  · subst hn0
    rw [hv]
    have hP0 : P = [] := List.eq_nil_of_length_eq_zero hPl.out
    have hcl : Hid (climb k P 0 a0.data.toList = some a0.data.toList) := by rw [Hid, hP0, climb]
    clear hv hP0
    rcases HR.out a0 hcl with ⟨x1, x2, hv⟩ | ⟨x1, x2, hv⟩
    · go_wp2_with fail
      refine wp_loop_rounds 1 ?_; rw [rounds_succ]
      go_wp2_with fail
      go_ret2
      exact ⟨_, _, rfl, hv, hb23⟩
    · go_wp2_with fail
      refine wp_loop_rounds 1 ?_; rw [rounds_succ]
      go_wp2_with fail
      go_ret2
      exact ⟨_, _, rfl, hv, hb23⟩
  obtain ⟨g, cap, hg⟩ := hform.out (by omega)
  have hcl0 := Lib.hid (hcells.out g cap hg)
  rw [hg]
  clear hv hg hcells hform
  go_wp2_with fail
  go_loopw [13, 15, 16] (fun o q i wr => ∃ (j : Nat) (b : ByteArray), j ≤ n ∧ i = .int .i64 j ∧ q = .int .i64 (k / 2 ^ j : Nat) ∧ o = .string b ∧ b.size ≤ 1073741824 ∧ Hid (climb k P 0 a0.data.toList = climb k (P.drop j) j b.data.toList) ∧ Below w3.heap.size w3 wr) (fun _ _ i _ => n - (intOf i).toNat)
  case atStart => exact ⟨0, a0, by omega, rfl, by simp, rfl, za0, rfl, below_refl _⟩
  case round =>
    obtain ⟨j, b, hj2, rfl, rfl, rfl, hbz, hcl, hbw⟩ := hrel
    by_cases hlt : j < n
    · obtain ⟨o, ho⟩ : ∃ o : ByteArray, p[j]? = some o := ⟨_, List.getElem?_eq_getElem (by rw [HLL.out]; exact hlt)⟩
      have co := hcl0.out _ o ho
      have ck := (hbw.cell (World.block_lt_of_cell? w3 _ co)).trans co
      have hPk : P[j]? = some o.data.toList := by rw [← HPP.out, List.getElem?_map, ho]; rfl
      have hos := hle.out _ o ho
      have hstep := climb_snoc k P j o.data.toList b.data.toList hPk
      rw [← hcl.out] at hstep
      have hdiv : k / 2 ^ (j + 1) = k / 2 ^ j / 2 := by rw [Nat.pow_succ, Nat.div_div_eq_div_mul]
      have hq64 : k / 2 ^ j < 64 := Nat.lt_of_le_of_lt (Nat.div_le_self _ _) (by omega)
      generalize k / 2 ^ j = q at *
      have HD := Lib.hid hdiv
      clear co ho hPk hdiv
      by_cases h16 : o.size = 16
      case neg =>
        have hv : Hid (verifyL root.data.toList m.data.toList sig.data.toList = (0, 17)) := HCN.out (by rw [hstep, if_neg (by rw [toList_size]; exact h16)])
        have hne : ((o.size : Int) == 16) = false := by
          have : ¬ (o.size : Int) = 16 := fun e => h16 (by omega)
          simpa using this
        have hne2 : ((o.size : Int) != 16) = true := by rw [bne, hne]; rfl
        clear h16 hstep
        go_wp2_with fail
        go_ret2
        exact ⟨_, _, rfl, hv, step2 hb23 hbw⟩
      rw [if_pos (by rw [toList_size]; exact h16)] at hstep
      have hne : ((o.size : Int) == 16) = true := by
        have : (o.size : Int) = 16 := by omega
        simpa using this
      have hne2 : ((o.size : Int) != 16) = false := by rw [bne, hne]; rfl
      clear h16
      by_cases hz : q % 2 = 0
      · rw [if_pos hz] at hstep
        have hbit : (((q : Int) % 2) == 0) = true := by simp; omega
        have hnd := Lib.hid (nodeR_any b o wr (by omega) (by omega))
        clear hz
        go_wp2_with fail
        refine hnd.out.mono ?_
        rintro e w4 ⟨c, rfl, hc, hb4⟩
        have hcs : c.size ≤ 1073741824 := by rw [← toList_size, hc.out, hashL_length]; decide
        have HST : Hid (climb k P 0 a0.data.toList = climb k (P.drop (j + 1)) (j + 1) c.data.toList) := by rw [Hid, hc.out]; exact hstep
        clear hnd hstep ck
        go_wp2_with fail
        go_roundw
        case rel => exact ⟨j + 1, c, by omega, by go_num, by rw [HD.out]; go_num, rfl, hcs, HST, step2 hbw hb4⟩
        case measure => simp [intOf]; omega
      · rw [if_neg hz] at hstep
        have hbit : (((q : Int) % 2) == 0) = false := by simp; omega
        have hnd := Lib.hid (nodeR_any o b wr (by omega) (by omega))
        clear hz
        go_wp2_with fail
        refine hnd.out.mono ?_
        rintro e w4 ⟨c, rfl, hc, hb4⟩
        have hcs : c.size ≤ 1073741824 := by rw [← toList_size, hc.out, hashL_length]; decide
        have HST : Hid (climb k P 0 a0.data.toList = climb k (P.drop (j + 1)) (j + 1) c.data.toList) := by rw [Hid, hc.out]; exact hstep
        clear hnd hstep ck
        go_wp2_with fail
        go_roundw
        case rel => exact ⟨j + 1, c, by omega, by go_num, by rw [HD.out]; go_num, rfl, hcs, HST, step2 hbw hb4⟩
        case measure => simp [intOf]; omega
    · obtain rfl : j = n := by omega
      have hdr : P.drop j = [] := List.drop_eq_nil_of_le (by rw [hPl.out]; exact Nat.le_refl _)
      rw [hdr, climb] at hcl
      rcases HR.out b hcl with ⟨x1, x2, hv⟩ | ⟨x1, x2, hv⟩
      · go_wp2_with fail
        go_ret2
        exact ⟨_, _, rfl, hv, step2 hb23 hbw⟩
      · go_wp2_with fail
        go_ret2
        exact ⟨_, _, rfl, hv, step2 hb23 hbw⟩
end Go.Proofs.YtadhbnleahipaaaGreatDoor
