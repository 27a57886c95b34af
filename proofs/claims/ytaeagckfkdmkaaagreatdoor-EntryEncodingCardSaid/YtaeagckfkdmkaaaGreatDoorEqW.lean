/-
  The walks of the equalities: Same, slices.Equal at attributes and at extents.
-/
import Derived.Test.YtaeagckfkdmkaaaGreatDoorAttrR
namespace Go.Proofs.YtaeagckfkdmkaaaGreatDoor
open Go.RowKit Go.Shelf

theorem ex_ext {x y : Ex} (h1 : x.s = y.s) (h2 : x.o = y.o) (h3 : x.l = y.l) : x = y := by cases x; cases y; simp_all
theorem list_ext_ex {A B : List Ex} (hl : A.length = B.length) (h : ∀ j, j < A.length → exAt A j = exAt B j) : A = B := by
  refine List.ext_getElem hl fun i h1 h2 => ?_
  have := h i h1
  rwa [exAt_get h1, exAt_get h2] at this
theorem same_any (va vb : Value) (A B : List At) (w : World) (ha : AtRow w va A) (hb : AtRow w vb B) :
    Calls Tryz.prog 47 #[va, vb] w (BoolP (isB (A = B)) w) := by
  obtain ⟨a, ca, rfl⟩ := ha.form
  obtain ⟨b, cb, rfl⟩ := hb.form
  by_cases hl : A.length = B.length
  · rcases ha.2 with ⟨rfl, _⟩ | ⟨h0, b1, o1, c1, e1, _, _, hb1, hA⟩
    · have hB : B = [] := List.eq_nil_of_length_eq_zero hl.symm
      subst hB
      have HR : Hid (isB (([] : List At) = []) = true) := isB_yes rfl
      clear ha hb hl
      go_enter Tryz.func47, Tryz.ntmps47
      go_wp2_with fail
      refine wp_loop_rounds 1 ?_; rw [rounds_succ]
      go_wp2_with fail
      go_ret
      exact ⟨ret_bool HR.out.symm, below_refl _⟩
    · rcases hb.2 with ⟨rfl, _⟩ | ⟨h0', b2, o2, c2, e2, _, _, hb2, hB⟩
      · rw [hl] at h0; exact absurd h0 (by decide)
      · cases e1
        cases e2
        rw [← hl]
        exact same1 b1 o1 ca b2 o2 cb A B w h0 hl ha.1 hb1 hb2 hA hB
  · have HR := Lib.hid (isB_no (fun e : A = B => hl (by rw [e])))
    have hla := ha.1
    have hlb := hb.1
    unfold maxLen at hla hlb
    clear ha hb
    have q1 : ((A.length : Int) == (B.length : Int)) = false := by simp; exact fun e => hl (by omega)
    have q2 : ((A.length : Int) != (B.length : Int)) = true := by simp; exact fun e => hl (by omega)
    generalize A.length = n at *
    generalize B.length = m at *
    have Hl := Lib.hid hl; clear hl
    go_enter Tryz.func47, Tryz.ntmps47
    go_wp2_with fail
    go_ret
    exact ⟨ret_bool HR.out.symm, below_refl _⟩
set_option maxRecDepth 100000 in
set_option maxHeartbeats 2000000 in
theorem eqAttr1 (b o cap b2 o2 cap2 : Nat) (A B : List At) (w : World) (h0 : 0 < A.length) (hl : A.length = B.length) (hmax : A.length ≤ maxLen) (hb : b < w.heap.size) (hb2 : b2 < w.heap.size) (hA : AtAt w b o A) (hB : AtAt w b2 o2 B) :
    Calls Tryz.prog 48 #[.slice (some ⟨b, o, none⟩) A.length cap, .slice (some ⟨b2, o2, none⟩) A.length cap2] w (BoolP (isB (A = B)) w) := by
  unfold maxLen at hmax
  have HA := Lib.hid hA
  have HB := Lib.hid hB
  have HL := Lib.hid hl
  clear hA hB hl
  go_enter Tryz.func48, Tryz.ntmps48
  go_wp2_with fail
  go_loopw [13] (fun i wr => ∃ k : Nat, k ≤ A.length ∧ i = .int .i64 k ∧ Hid (∀ j, j < k → atAt A j = atAt B j) ∧ Below w.heap.size w wr) (fun i _ => A.length - (intOf i).toNat)
  case atStart => exact ⟨0, by omega, rfl, fun j hj => absurd hj (Nat.not_lt_zero _), below_refl _⟩
  case round =>
    obtain ⟨k, hk, rfl, hE, hbw⟩ := hrel
    by_cases hlt : k < A.length
    · obtain ⟨c0, c1⟩ := atCells (show AtAt wr b o A from HA.out.below hbw hb) hlt
      obtain ⟨d0, d1⟩ := atCells (show AtAt wr b2 o2 B from HB.out.below hbw hb2) (i := k) (by have := HL.out; omega)
      have HN := Lib.hid (show atAt A k ≠ atAt B k → isB (A = B) = false from fun h => isB_no fun e => h (by rw [e]))
      have HY := Lib.hid (show atAt A k = atAt B k → ∀ j, j < k + 1 → atAt A j = atAt B j from fun h j hj => by
        by_cases e : j = k
        · rw [e]; exact h
        · exact hE.out j (by omega))
      have HX := Lib.hid (@at_ext (atAt A k) (atAt B k))
      have HX2 := Lib.hid (show atAt A k = atAt B k → (atAt A k).key = (atAt B k).key ∧ (atAt A k).value = (atAt B k).value from fun h => by rw [h]; exact ⟨rfl, rfl⟩)
      generalize (atAt A k).key = ka at *
      generalize (atAt A k).value = va at *
      generalize (atAt B k).key = kb at *
      generalize (atAt B k).value = vb at *
      go_upto_region 6 with (fail)
      by_cases e1 : ka.data.toList = kb.data.toList
      · by_cases e2 : va.data.toList = vb.data.toList
        · have q1 : (ka.toList == kb.toList) = true := by rw [str_eq]; exact decide_eq_true e1
          have q2 : (va.toList == vb.toList) = true := by rw [str_eq]; exact decide_eq_true e2
          have HE2 := Lib.hid (HY.out (HX.out (list_inj e1) (list_inj e2)))
          clear HN HY HX HX2 e1 e2
          go_quiet (fail)
          go_wp2_with fail
          go_roundw
          case rel => exact ⟨k + 1, by omega, by go_num, HE2, below_drewN hbw _⟩
          case measure => simp [intOf]; omega
        · have q1 : (ka.toList == kb.toList) = true := by rw [str_eq]; exact decide_eq_true e1
          have q2 : (va.toList == vb.toList) = false := by rw [str_eq]; exact decide_eq_false e2
          have HE2 := Lib.hid (HN.out fun h => e2 (by rw [(HX2.out h).2]))
          clear HN HY HX HX2 e1 e2
          go_quiet (fail)
          go_wp2_with fail
          go_ret
          exact ⟨ret_bool HE2.out.symm, below_drewN hbw _⟩
      · have q1 : (ka.toList == kb.toList) = false := by rw [str_eq]; exact decide_eq_false e1
        have HE2 := Lib.hid (HN.out fun h => e1 (by rw [(HX2.out h).1]))
        clear HN HY HX HX2 e1
        go_quiet (fail)
        go_wp2_with fail
        go_ret
        exact ⟨ret_bool HE2.out.symm, below_drewN hbw _⟩
    · obtain rfl : k = A.length := by omega
      have HR := Lib.hid (isB_yes (list_ext_at HL.out hE.out))
      go_wp2_with fail
      go_ret
      exact ⟨ret_bool HR.out.symm, hbw⟩
theorem eqAttr_any (va vb : Value) (A B : List At) (w : World) (ha : AtRow w va A) (hb : AtRow w vb B) :
    Calls Tryz.prog 48 #[va, vb] w (BoolP (isB (A = B)) w) := by
  obtain ⟨a, ca, rfl⟩ := ha.form
  obtain ⟨b, cb, rfl⟩ := hb.form
  by_cases hl : A.length = B.length
  · rcases ha.2 with ⟨rfl, _⟩ | ⟨h0, b1, o1, c1, e1, _, _, hb1, hA⟩
    · have hB : B = [] := List.eq_nil_of_length_eq_zero hl.symm
      subst hB
      have HR : Hid (isB (([] : List At) = []) = true) := isB_yes rfl
      clear ha hb hl
      go_enter Tryz.func48, Tryz.ntmps48
      go_wp2_with fail
      refine wp_loop_rounds 1 ?_; rw [rounds_succ]
      go_wp2_with fail
      go_ret
      exact ⟨ret_bool HR.out.symm, below_refl _⟩
    · rcases hb.2 with ⟨rfl, _⟩ | ⟨h0', b2, o2, c2, e2, _, _, hb2, hB⟩
      · rw [hl] at h0; exact absurd h0 (by decide)
      · cases e1
        cases e2
        rw [← hl]
        exact eqAttr1 b1 o1 ca b2 o2 cb A B w h0 hl ha.1 hb1 hb2 hA hB
  · have HR := Lib.hid (isB_no (fun e : A = B => hl (by rw [e])))
    have hla := ha.1
    have hlb := hb.1
    unfold maxLen at hla hlb
    clear ha hb
    have q1 : ((A.length : Int) == (B.length : Int)) = false := by simp; exact fun e => hl (by omega)
    have q2 : ((A.length : Int) != (B.length : Int)) = true := by simp; exact fun e => hl (by omega)
    generalize A.length = n at *
    generalize B.length = m at *
    have Hl := Lib.hid hl; clear hl
    go_enter Tryz.func48, Tryz.ntmps48
    go_wp2_with fail
    go_ret
    exact ⟨ret_bool HR.out.symm, below_refl _⟩
set_option maxRecDepth 100000 in
set_option maxHeartbeats 2000000 in
theorem eqExt1 (b o cap b2 o2 cap2 : Nat) (A B : List Ex) (w : World) (h0 : 0 < A.length) (hl : A.length = B.length) (hmax : A.length ≤ maxLen) (hb : b < w.heap.size) (hb2 : b2 < w.heap.size) (hA : ExAt w b o A) (hB : ExAt w b2 o2 B) :
    Calls Tryz.prog 49 #[.slice (some ⟨b, o, none⟩) A.length cap, .slice (some ⟨b2, o2, none⟩) A.length cap2] w (BoolP (isB (A = B)) w) := by
  unfold maxLen at hmax
  have HA := Lib.hid hA
  have HB := Lib.hid hB
  have HL := Lib.hid hl
  clear hA hB hl
  go_enter Tryz.func49, Tryz.ntmps49
  go_wp2_with fail
  go_loopw [13] (fun i wr => ∃ k : Nat, k ≤ A.length ∧ i = .int .i64 k ∧ Hid (∀ j, j < k → exAt A j = exAt B j) ∧ Below w.heap.size w wr) (fun i _ => A.length - (intOf i).toNat)
  case atStart => exact ⟨0, by omega, rfl, fun j hj => absurd hj (Nat.not_lt_zero _), below_refl _⟩
  case round =>
    obtain ⟨k, hk, rfl, hE, hbw⟩ := hrel
    by_cases hlt : k < A.length
    · obtain ⟨c0, c1, c2⟩ := exCells (show ExAt wr b o A from HA.out.below hbw hb) hlt
      obtain ⟨d0, d1, d2⟩ := exCells (show ExAt wr b2 o2 B from HB.out.below hbw hb2) (i := k) (by have := HL.out; omega)
      have HN := Lib.hid (show exAt A k ≠ exAt B k → isB (A = B) = false from fun h => isB_no fun e => h (by rw [e]))
      have HY := Lib.hid (show exAt A k = exAt B k → ∀ j, j < k + 1 → exAt A j = exAt B j from fun h j hj => by
        by_cases e : j = k
        · rw [e]; exact h
        · exact hE.out j (by omega))
      have HX := Lib.hid (@ex_ext (exAt A k) (exAt B k))
      have HX2 := Lib.hid (show exAt A k = exAt B k → (exAt A k).s = (exAt B k).s ∧ (exAt A k).o = (exAt B k).o ∧ (exAt A k).l = (exAt B k).l from fun h => by rw [h]; exact ⟨rfl, rfl, rfl⟩)
      generalize (exAt A k).s = sa at *
      generalize (exAt A k).o = oa at *
      generalize (exAt A k).l = la at *
      generalize (exAt B k).s = sb at *
      generalize (exAt B k).o = ob at *
      generalize (exAt B k).l = lb at *
      go_upto_region 6 with (fail)
      by_cases e1 : sa = sb
      case neg =>
        have q1 : (sa == sb) = false := by simpa using e1
        have HE2 := Lib.hid (HN.out fun h => e1 (HX2.out h).1)
        clear HN HY HX HX2 e1
        go_quiet (fail)
        go_wp2_with fail
        go_ret
        exact ⟨ret_bool HE2.out.symm, below_drewN hbw _⟩
      by_cases e2 : oa = ob
      case neg =>
        have q1 : (sa == sb) = true := by simpa using e1
        have q2 : (oa == ob) = false := by simpa using e2
        have HE2 := Lib.hid (HN.out fun h => e2 (HX2.out h).2.1)
        clear HN HY HX HX2 e1 e2
        go_quiet (fail)
        go_wp2_with fail
        go_ret
        exact ⟨ret_bool HE2.out.symm, below_drewN hbw _⟩
      by_cases e3 : la = lb
      case neg =>
        have q1 : (sa == sb) = true := by simpa using e1
        have q2 : (oa == ob) = true := by simpa using e2
        have q3 : (la == lb) = false := by simpa using e3
        have HE2 := Lib.hid (HN.out fun h => e3 (HX2.out h).2.2)
        clear HN HY HX HX2 e1 e2 e3
        go_quiet (fail)
        go_wp2_with fail
        go_ret
        exact ⟨ret_bool HE2.out.symm, below_drewN hbw _⟩
      have q1 : (sa == sb) = true := by simpa using e1
      have q2 : (oa == ob) = true := by simpa using e2
      have q3 : (la == lb) = true := by simpa using e3
      have HE2 := Lib.hid (HY.out (HX.out e1 e2 e3))
      clear HN HY HX HX2 e1 e2 e3
      go_quiet (fail)
      go_wp2_with fail
      go_roundw
      case rel => exact ⟨k + 1, by omega, by go_num, HE2, below_drewN hbw _⟩
      case measure => simp [intOf]; omega
    · obtain rfl : k = A.length := by omega
      have HR := Lib.hid (isB_yes (list_ext_ex HL.out hE.out))
      go_wp2_with fail
      go_ret
      exact ⟨ret_bool HR.out.symm, hbw⟩
theorem eqExt_any (va vb : Value) (A B : List Ex) (w : World) (ha : ExRow w va A) (hb : ExRow w vb B) :
    Calls Tryz.prog 49 #[va, vb] w (BoolP (isB (A = B)) w) := by
  obtain ⟨a, ca, rfl⟩ := ha.form
  obtain ⟨b, cb, rfl⟩ := hb.form
  by_cases hl : A.length = B.length
  · rcases ha.2 with ⟨rfl, _⟩ | ⟨h0, b1, o1, c1, e1, _, _, hb1, hA⟩
    · have hB : B = [] := List.eq_nil_of_length_eq_zero hl.symm
      subst hB
      have HR : Hid (isB (([] : List Ex) = []) = true) := isB_yes rfl
      clear ha hb hl
      go_enter Tryz.func49, Tryz.ntmps49
      go_wp2_with fail
      refine wp_loop_rounds 1 ?_; rw [rounds_succ]
      go_wp2_with fail
      go_ret
      exact ⟨ret_bool HR.out.symm, below_refl _⟩
    · rcases hb.2 with ⟨rfl, _⟩ | ⟨h0', b2, o2, c2, e2, _, _, hb2, hB⟩
      · rw [hl] at h0; exact absurd h0 (by decide)
      · cases e1
        cases e2
        rw [← hl]
        exact eqExt1 b1 o1 ca b2 o2 cb A B w h0 hl ha.1 hb1 hb2 hA hB
  · have HR := Lib.hid (isB_no (fun e : A = B => hl (by rw [e])))
    have hla := ha.1
    have hlb := hb.1
    unfold maxLen at hla hlb
    clear ha hb
    have q1 : ((A.length : Int) == (B.length : Int)) = false := by simp; exact fun e => hl (by omega)
    have q2 : ((A.length : Int) != (B.length : Int)) = true := by simp; exact fun e => hl (by omega)
    generalize A.length = n at *
    generalize B.length = m at *
    have Hl := Lib.hid hl; clear hl
    go_enter Tryz.func49, Tryz.ntmps49
    go_wp2_with fail
    go_ret
    exact ⟨ret_bool HR.out.symm, below_refl _⟩
end Go.Proofs.YtaeagckfkdmkaaaGreatDoor
