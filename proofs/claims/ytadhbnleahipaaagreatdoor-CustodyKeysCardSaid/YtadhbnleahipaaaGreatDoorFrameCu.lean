/-
  Chapter 47: a slice of statements among the arguments, opened.
-/
import Derived.Test.YtadhbnleahipaaaGreatDoorFrame
import Derived.Test.YtadhbnleahipaaaGreatDoorCuSign
import Derived.Deep.Slices
import Derived.Deep.Fields
import Derived.ChangeSame
namespace Go.Proofs.YtadhbnleahipaaaGreatDoor
open Go.ChangeShapes Go.WideShapes Go.ChangeAt Go.RowKit Go.Deep
theorem sized_agg {H : Type} {P : Program} {ts : List TypeId} {ds : List (DataW H)} (h : (DataW.weightsEach P ts ds).all (· ≤ reachBytes) = true) {j : Nat} {t : TypeId} {fs : Array Field} {parts : List (DataW H)} (ht : ts[j]? = some t) (hd : ds[j]? = some (.agg parts)) (hs : P.underlying t = some (.struct fs)) :
    (DataW.weightsEach P (fs.toList.map (·.type)) parts).all (· ≤ reachBytes) = true := by
  rw [List.all_eq_true] at *
  intro n hn
  exact h n (DataW.weights_mem_each ht hd n (by simp [DataW.weights, hs]; exact hn))
section
variable {H : Type} {enc : TypeId × Value → H} {w : World} {base : Nat} {spare : Nat → Bool} {held : Bool}
set_option maxRecDepth 100000 in
theorem cu_elem {n : Nat} {cs : List Value} {y : DataW H × List MemPlace} (hl : cs.length = 5) (h : DataW.trod enc Tryz.prog w base spare held n 29 cs = some y) :
    ∃ c : Cu, cs = c.vals ∧ CuWf c ∧ y = (.agg [.lit (.string c.root.data.toList), .lit (.string c.media.data.toList), .lit (.int .i64 c.fr), .lit (.int .i64 c.un), .lit (.string c.sig.data.toList)], []) := by
  obtain ⟨xs, k, _, hy, _, hxl, hf⟩ := DataW.trod_struct Tryz.underlying29 h
  match xs, hxl, cs, hl with
  | [y0, y1, y2, y3, y4], _, [v0, v1, v2, v3, v4], _ =>
    have g0 := hf 0 _ rfl
    have g1 := hf 1 _ rfl
    have g2 := hf 2 _ rfl
    have g3 := hf 3 _ rfl
    have g4 := hf 4 _ rfl
    simp [str_cells, int_cells] at g0 g1 g2 g3 g4
    obtain ⟨s0, e0, q0, z0⟩ := DataW.trod_string Tryz.underlying9 g0
    obtain ⟨s1, e1, q1, z1⟩ := DataW.trod_string Tryz.underlying9 g1
    obtain ⟨s2, e2, q2, z2⟩ := DataW.trod_int Tryz.underlying3 g2
    obtain ⟨s3, e3, q3, z3⟩ := DataW.trod_int Tryz.underlying3 g3
    obtain ⟨s4, e4, q4, z4⟩ := DataW.trod_string Tryz.underlying9 g4
    simp only [List.cons.injEq, and_true] at e0 e1 e2 e3 e4
    subst e0 e1 e2 e3 e4
    unfold maxLen at z0 z1 z4
    refine ⟨⟨s0, s1, s2, s3, s4⟩, rfl, ⟨z0, z1, z4, wf_boundsi64 z2, wf_boundsi64 z3⟩, ?_⟩
    rw [hy, q0, q1, q2, q3, q4]; rfl
set_option maxRecDepth 100000 in
theorem open_custody {r : Reach} {b0 : Nat} {v : Value} {d : DataW H} {p : List MemPlace} (hv : Value.okWide Tryz.prog w r b0 29 v) (h : DataW.Trod enc Tryz.prog w base spare held 29 v d p) :
    ∃ c : Cu, v = .agg c.vals.toArray ∧ d = .agg [.lit (.string c.root.data.toList), .lit (.string c.media.data.toList), .lit (.int .i64 c.fr), .lit (.int .i64 c.un), .lit (.string c.sig.data.toList)] ∧ p = [] ∧ CuWf c := by
  obtain ⟨cs, rfl, hsz⟩ := okWide_struct Tryz.underlying29 hv
  obtain ⟨fuel, hf⟩ := h
  have hC : Tryz.prog.cellsOf 29 = 5 := by kernel_rfl
  obtain ⟨c, hc, hwf, hy⟩ := cu_elem (cs := cs.toList) (by rw [hC] at hsz; simpa using hsz) hf
  simp only [Prod.mk.injEq] at hy
  exact ⟨c, by rw [← hc], hy.1, hy.2, hwf⟩
set_option maxRecDepth 100000 in
theorem cuRow_of {v : Value} {d : DataW H} {p : List MemPlace} {base0 : Nat} {r : Reach}
    (hval : Value.okWide Tryz.prog w r base0 22 v) (h : DataW.Trod enc Tryz.prog w 0 (fun _ => true) true 22 v d p) :
    ∃ L : List Cu, CuRow w v L ∧ ∀ j, CuWf (cuAt L j) := by
  obtain ⟨a0, len, cap, rfl⟩ := okWide_slice Tryz.underlying22 hval
  obtain ⟨fuel, hf⟩ := h
  rcases open_slice Tryz.underlying22 hf with ⟨hcs, _⟩ | ⟨a, len', cap', m, n, D, Pl, hcs, _, hl, hm, hmm, _, hx⟩
  · have hcs' : Value.slice a0 len cap = Value.slice none 0 0 := by simpa [Value.cells] using hcs
    rw [hcs']
    exact ⟨[], cuRow_nil w, cusWf_of (fun c hc => by cases hc)⟩
  · have hcs' : Value.slice a0 len cap = Value.slice (some a) len' cap' := by simpa [Value.cells] using hcs
    rw [hcs']
    simp only [if_true] at hmm
    subst hmm
    have hC : Tryz.prog.cellsOf 29 = 5 := by kernel_rfl
    by_cases h0 : len' = 0
    · subst h0
      exact ⟨[], ⟨by decide, .inl ⟨rfl, some a, m, rfl, fun e => by cases e⟩⟩, cusWf_of (fun c hc => by cases hc)⟩
    have each : ∀ i, i < m → ∃ c : Cu, CuWf c ∧ ∀ j v, c.vals[j]? = some v → w.cell? ((a.add (i * 5)).add j) = some v := fun i hi => by
      obtain ⟨cs', h1, h2⟩ := hx i hi
      rw [hC] at h1
      obtain ⟨_, hlen, hcell⟩ := World.cells?_some h1
      obtain ⟨c, rfl, hwf, _⟩ := cu_elem hlen h2
      refine ⟨c, hwf, fun j v hv => ?_⟩
      have hj : j < 5 := by have := (List.getElem?_eq_some_iff.1 hv).1; simpa [Cu.vals] using this
      rw [← hv]; exact hcell j hj
    haveI : Inhabited Cu := ⟨cu0⟩
    obtain ⟨q, hq⟩ := choose_lt each
    have hsp : a.spot = none := by
      have := (hq 0 (by omega)).2 0 _ rfl
      unfold World.cell? at this
      split at this
      · split at this
        · cases this
        · rename_i hs
          cases hsp : a.spot with
          | none => rfl
          | some x => exfalso; apply hs; unfold Addr.add; simp [hsp]
      · cases this
    obtain ⟨b, o, sp⟩ := a
    simp only at hsp
    subst hsp
    have hget : ∀ i, i < len' → cuAt ((List.range len').map q) i = q i := fun i hi => by
      rw [cuAt_get (by simpa using hi)]; simp
    have hcellq : ∀ i, i < len' → w.rangeAt b (o + i * 5) (q i).vals := fun i hi j v hv => by
      have h1 := (hq i (by omega)).2 j v hv
      rw [Addr.add_mid, Addr.add_mid] at h1; exact h1
    refine ⟨(List.range len').map q, ⟨by simp; omega, .inr ⟨by simp; omega, b, o, m, by simp, by simpa using hl, hm, ?_, ?_⟩⟩, fun j => ?_⟩
    · exact World.block_lt_of_cell? w _ (hcellq 0 (by omega) 0 _ rfl)
    · intro i hi
      have hi' : i < len' := by simpa using hi
      rw [hget i hi']; exact hcellq i hi'
    · by_cases hj : j < len'
      · rw [hget j hj]; exact (hq j (by omega)).1
      · rw [cuAt, List.getD_eq_getElem?_getD, List.getElem?_eq_none (by simp; omega)]; exact cu0_wf
end
end Go.Proofs.YtadhbnleahipaaaGreatDoor
