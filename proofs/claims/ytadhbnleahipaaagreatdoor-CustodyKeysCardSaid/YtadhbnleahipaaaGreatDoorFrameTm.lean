/-
  Chapter 47: a slice of terms among the arguments, opened.
-/
import Derived.Test.YtadhbnleahipaaaGreatDoorFrameCu
import Derived.Test.YtadhbnleahipaaaGreatDoorChain
namespace Go.Proofs.YtadhbnleahipaaaGreatDoor
open Go.ChangeShapes Go.WideShapes Go.ChangeAt Go.RowKit Go.Deep
theorem tm0_ok : TmOk tm0 := ⟨by decide, by decide, by decide⟩
theorem tmAt_get {T : List Tm} {i : Nat} (h : i < T.length) : tmAt T i = T[i] := by
  rw [tmAt, List.getD_eq_getElem?_getD, List.getElem?_eq_getElem h]; rfl
theorem tmsOk_of {T : List Tm} (h : ∀ c ∈ T, TmOk c) (j : Nat) : TmOk (tmAt T j) := by
  by_cases hj : j < T.length
  · rw [tmAt_get hj]; exact h _ (List.getElem_mem hj)
  · rw [tmAt, List.getD_eq_getElem?_getD, List.getElem?_eq_none (by omega)]; exact tm0_ok
theorem tmRow_nil (w : World) : TmRow w (.slice none 0 0) [] := ⟨by decide, .inl ⟨rfl, none, 0, rfl, fun _ => rfl⟩⟩
theorem bool_cells : Tryz.prog.cellsOf 4 = 1 := by kernel_rfl
section
variable {H : Type} {enc : TypeId × Value → H} {w : World} {base : Nat} {spare : Nat → Bool} {held : Bool}
set_option maxRecDepth 100000 in
theorem tm_elem {n : Nat} {cs : List Value} {y : DataW H × List MemPlace} (hl : cs.length = 4) (h : DataW.trod enc Tryz.prog w base spare held n 43 cs = some y) :
    ∃ c : Tm, cs = c.vals ∧ TmOk c ∧ True := by
  obtain ⟨xs, k, _, hy, _, hxl, hf⟩ := DataW.trod_struct Tryz.underlying43 h
  match xs, hxl, cs, hl with
  | [y0, y1, y2, y3], _, [v0, v1, v2, v3], _ =>
    have g0 := hf 0 _ rfl
    have g1 := hf 1 _ rfl
    have g2 := hf 2 _ rfl
    have g3 := hf 3 _ rfl
    simp [bool_cells, int_cells] at g0 g1 g2 g3
    obtain ⟨s0, e0, q0, z0⟩ := DataW.trod_int Tryz.underlying3 g0
    obtain ⟨s1, e1, q1, z1⟩ := DataW.trod_int Tryz.underlying3 g1
    obtain ⟨s2, e2, q2⟩ := DataW.trod_bool Tryz.underlying4 g2
    obtain ⟨s3, e3, q3, z3⟩ := DataW.trod_int Tryz.underlying3 g3
    simp only [List.cons.injEq, and_true] at e0 e1 e2 e3
    subst e0 e1 e2 e3
    exact ⟨⟨s0, s1, s2, s3⟩, rfl, ⟨wf_boundsi64 z0, wf_boundsi64 z1, wf_boundsi64 z3⟩, trivial⟩
set_option maxRecDepth 100000 in
theorem termRow_of {v : Value} {d : DataW H} {p : List MemPlace} {base0 : Nat} {r : Reach}
    (hval : Value.okWide Tryz.prog w r base0 34 v) (h : DataW.Trod enc Tryz.prog w 0 (fun _ => true) true 34 v d p) :
    ∃ L : List Tm, TmRow w v L ∧ ∀ j, TmOk (tmAt L j) := by
  obtain ⟨a0, len, cap, rfl⟩ := okWide_slice Tryz.underlying34 hval
  obtain ⟨fuel, hf⟩ := h
  rcases open_slice Tryz.underlying34 hf with ⟨hcs, _⟩ | ⟨a, len', cap', m, n, D, Pl, hcs, _, hl, hm, hmm, _, hx⟩
  · have hcs' : Value.slice a0 len cap = Value.slice none 0 0 := by simpa [Value.cells] using hcs
    rw [hcs']
    exact ⟨[], tmRow_nil w, tmsOk_of (fun c hc => by cases hc)⟩
  · have hcs' : Value.slice a0 len cap = Value.slice (some a) len' cap' := by simpa [Value.cells] using hcs
    rw [hcs']
    simp only [if_true] at hmm
    subst hmm
    have hC : Tryz.prog.cellsOf 43 = 4 := by kernel_rfl
    by_cases h0 : len' = 0
    · subst h0
      exact ⟨[], ⟨by decide, .inl ⟨rfl, some a, m, rfl, fun e => by cases e⟩⟩, tmsOk_of (fun c hc => by cases hc)⟩
    have each : ∀ i, i < m → ∃ c : Tm, TmOk c ∧ ∀ j v, c.vals[j]? = some v → w.cell? ((a.add (i * 4)).add j) = some v := fun i hi => by
      obtain ⟨cs', h1, h2⟩ := hx i hi
      rw [hC] at h1
      obtain ⟨_, hlen, hcell⟩ := World.cells?_some h1
      obtain ⟨c, rfl, hwf, _⟩ := tm_elem hlen h2
      refine ⟨c, hwf, fun j v hv => ?_⟩
      have hj : j < 4 := by have := (List.getElem?_eq_some_iff.1 hv).1; simpa [Tm.vals] using this
      rw [← hv]; exact hcell j hj
    haveI : Inhabited Tm := ⟨tm0⟩
    obtain ⟨q, hq⟩ := choose_lt each
    have hsp : a.spot = none := by
      have := (hq 0 (by omega)).2 0 _ rfl
      unfold World.cell? at this
      split at this
      · split at this
        · cases this
        · rename_i hs
          cases hsp : a.spot with
          | none => rfl
          | some x => exfalso; apply hs; unfold Addr.add; simp [hsp]
      · cases this
    obtain ⟨b, o, sp⟩ := a
    simp only at hsp
    subst hsp
    have hget : ∀ i, i < len' → tmAt ((List.range len').map q) i = q i := fun i hi => by
      rw [tmAt_get (by simpa using hi)]; simp
    have hcellq : ∀ i, i < len' → w.rangeAt b (o + i * 4) (q i).vals := fun i hi j v hv => by
      have h1 := (hq i (by omega)).2 j v hv
      rw [Addr.add_mid, Addr.add_mid] at h1; exact h1
    refine ⟨(List.range len').map q, ⟨by simp; omega, .inr ⟨by simp; omega, b, o, m, by simp, by simpa using hl, hm, ?_, ?_⟩⟩, fun j => ?_⟩
    · exact World.block_lt_of_cell? w _ (hcellq 0 (by omega) 0 _ rfl)
    · intro i hi
      have hi' : i < len' := by simpa using hi
      rw [hget i hi']; exact hcellq i hi'
    · by_cases hj : j < len'
      · rw [hget j hj]; exact (hq j (by omega)).1
      · rw [tmAt, List.getD_eq_getElem?_getD, List.getElem?_eq_none (by simp; omega)]; exact tm0_ok
end
end Go.Proofs.YtadhbnleahipaaaGreatDoor
