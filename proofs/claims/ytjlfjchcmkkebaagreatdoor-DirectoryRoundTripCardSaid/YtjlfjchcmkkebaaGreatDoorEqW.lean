/-
  The walks of the equalities: Same, slices.Equal at attributes and at extents.
-/
import Derived.Test.YtjlfjchcmkkebaaGreatDoorAttrR
namespace Go.Proofs.YtjlfjchcmkkebaaGreatDoor
open Go.RowKit Go.Shelf

theorem ex_ext {x y : Ex} (h1 : x.s = y.s) (h2 : x.o = y.o) (h3 : x.l = y.l) : x = y := by cases x; cases y; simp_all
theorem list_ext_ex {A B : List Ex} (hl : A.length = B.length) (h : ∀ j, j < A.length → exAt A j = exAt B j) : A = B := by
  refine List.ext_getElem hl fun i h1 h2 => ?_
  have := h i h1
  rwa [exAt_get h1, exAt_get h2] at this
theorem same_any (va vb : Value) (A B : List At) (w : World) (ha : AtRow w va A) (hb : AtRow w vb B) :
    Calls Tryz.prog 64 #[va, vb] w (BoolP (isB (A = B)) w) := by
  obtain ⟨a, ca, rfl⟩ := ha.form
  obtain ⟨b, cb, rfl⟩ := hb.form
  by_cases hl : A.length = B.length
  · rcases ha.2 with ⟨rfl, _⟩ | ⟨h0, b1, o1, c1, e1, _, _, hb1, hA⟩
    · have hB : B = [] := List.eq_nil_of_length_eq_zero hl.symm
      subst hB
      have HR : Hid (isB (([] : List At) = []) = true) := isB_yes rfl
      clear ha hb hl
      go_enter Tryz.func64, Tryz.ntmps64
      go_wp2_with fail
      refine wp_loop_rounds 1 ?_; rw [rounds_succ]
      go_wp2_with fail
      go_ret
      exact ⟨ret_bool HR.out.symm, below_refl _⟩
    · rcases hb.2 with ⟨rfl, _⟩ | ⟨h0', b2, o2, c2, e2, _, _, hb2, hB⟩
      · rw [hl] at h0; exact absurd h0 (by decide)
      · cases e1
        cases e2
        rw [← hl]
        exact same1 b1 o1 ca b2 o2 cb A B w h0 hl ha.1 hb1 hb2 hA hB
  · have HR := Lib.hid (isB_no (fun e : A = B => hl (by rw [e])))
    have hla := ha.1
    have hlb := hb.1
    unfold maxLen at hla hlb
    clear ha hb
    have q1 : ((A.length : Int) == (B.length : Int)) = false := by simp; exact fun e => hl (by omega)
    have q2 : ((A.length : Int) != (B.length : Int)) = true := by simp; exact fun e => hl (by omega)
    generalize A.length = n at *
    generalize B.length = m at *
    have Hl := Lib.hid hl; clear hl
    go_enter Tryz.func64, Tryz.ntmps64
    go_wp2_with fail
    go_ret
    exact ⟨ret_bool HR.out.symm, below_refl _⟩
end Go.Proofs.YtjlfjchcmkkebaaGreatDoor
