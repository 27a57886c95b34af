/-
  Chapter 45: two slices of booleans, three short numbers, a slice of bytes, two strings among the arguments.
-/
import Derived.Test.YtpkapcijgldhhaaGreatDoorCe45
import Derived.Test.YtpkapcijgldhhaaGreatDoorCe34
namespace Go.Proofs.YtpkapcijgldhhaaGreatDoor
open Go.ChangeShapes Go.WideShapes Go.ChangeAt Go.RowKit Go.Deep
theorem pbs_cells : Tryz.prog.cellsOf 69 = 2 := by kernel_rfl
theorem lay_bools_cells : Tryz.prog.cellsOf 40 = 1 := by kernel_rfl
theorem u16s_cells : Tryz.prog.cellsOf 49 = 3 := by kernel_rfl
theorem lay_u16_cells : Tryz.prog.cellsOf 48 = 1 := by kernel_rfl
theorem lay_u8_cells : Tryz.prog.cellsOf 5 = 1 := by kernel_rfl
section
variable {H : Type} {enc : TypeId × Value → H} {w : World} {base : Nat}
set_option maxRecDepth 100000 in
/-- a slice of elements of one cell, read as data, is a row -/
theorem row_at {α : Type} {T E : TypeId} {f : α → Value} {P : α → Prop} (hT : Tryz.prog.underlying T = some (.slice E)) (hE : Tryz.prog.cellsOf E = 1) (d0 : α)
    (elem : ∀ {k : Nat} {u : Value} {z : DataW H × List MemPlace}, DataW.trod enc Tryz.prog w base (fun _ => true) true k E [u] = some z → ∃ c, u = f c ∧ P c)
    {v : Value} {fuel : Nat} {y : DataW H × List MemPlace} (hf : DataW.trod enc Tryz.prog w base (fun _ => true) true fuel T [v] = some y) :
    ∃ L : List α, Row w v (L.map f) ∧ ∀ x ∈ L, P x := by
  rcases open_slice1 hT hE hf with ⟨hcs, _⟩ | ⟨a, len', cap', m, n, V, D, Pl, hcs, _, hl, hm, hmm, _, hx⟩
  · have hcs' : v = Value.slice none 0 0 := by simpa [Value.cells] using hcs
    rw [hcs']
    exact ⟨[], Row.nil w, fun x hx => (nomatch hx)⟩
  · have hcs' : v = Value.slice (some a) len' cap' := by simpa [Value.cells] using hcs
    rw [hcs']
    simp only [if_true] at hmm
    subst hmm
    by_cases h0 : len' = 0
    · subst h0
      exact ⟨[], ⟨some a, m, rfl, by simp, hm, .inl ⟨rfl, fun e => by cases e⟩⟩, fun x hx => (nomatch hx)⟩
    have each : ∀ i, i < len' → ∃ c : α, w.cell? (a.add i) = some (f c) ∧ P c := fun i hi => by
      obtain ⟨h1, h2⟩ := hx i (by omega)
      obtain ⟨c, hc, hp⟩ := elem h2
      exact ⟨c, by rw [h1, hc], hp⟩
    haveI : Inhabited α := ⟨d0⟩
    obtain ⟨q, hq⟩ := choose_lt each
    have hsp : a.spot = none := by
      have := (hq 0 (by omega)).1
      unfold World.cell? at this
      split at this
      · split at this
        · cases this
        · rename_i hs
          cases hsp : a.spot with
          | none => rfl
          | some x => exfalso; apply hs; unfold Addr.add; simp [hsp]
      · cases this
    obtain ⟨b, o, sp⟩ := a
    simp only at hsp
    subst hsp
    refine ⟨(List.range len').map q, ⟨some ⟨b, o, none⟩, m, by simp, by simpa using hl, hm, .inr ⟨b, o, rfl, fun i u hu => ?_⟩⟩, fun x hx => ?_⟩
    · rw [List.getElem?_map, List.getElem?_map] at hu
      by_cases hi : i < len'
      · rw [List.getElem?_eq_getElem (by simpa using hi)] at hu
        simp only [List.getElem_range, Option.map_some, Option.some.injEq] at hu
        rw [← hu, ← (hq i hi).1, Addr.add_mid]
      · rw [List.getElem?_eq_none (by simpa using hi)] at hu; cases hu
    · obtain ⟨i, hi, rfl⟩ := List.mem_map.1 hx
      exact (hq i (List.mem_range.1 hi)).2
set_option maxRecDepth 100000 in
theorem open_pairb {r : Reach} {b0 : Nat} {v : Value} {d : DataW H} {p : List MemPlace} (hv : Value.okWide Tryz.prog w r b0 69 v) (h : DataW.Trod enc Tryz.prog w base (fun _ => true) true 69 v d p) :
    ∃ (v0 v1 : Value) (K0 K1 : List Bool), v = .agg #[v0, v1] ∧ Row w v0 (K0.map Value.bool) ∧ Row w v1 (K1.map Value.bool) := by
  simp only [Value.okWide, Tryz.underlying69] at hv
  obtain ⟨cs, rfl, hsz, _⟩ := hv
  obtain ⟨fuel, hf0⟩ := h
  rw [pbs_cells] at hsz
  obtain ⟨xs, k, _, _, _, hxl, hf⟩ := DataW.trod_array Tryz.underlying69 hf0
  have hl : cs.toList.length = 2 := by simpa using hsz
  obtain ⟨cs⟩ := cs
  match xs, hxl, cs, hl with
  | [y0, y1], _, [v0, v1], _ =>
    have g0 := hf 0 (by decide)
    have g1 := hf 1 (by decide)
    simp [Value.cells, lay_bools_cells] at g0 g1
    have el : ∀ {k : Nat} {u : Value} {z : DataW H × List MemPlace}, DataW.trod enc Tryz.prog w base (fun _ => true) true k 4 [u] = some z → ∃ c, u = Value.bool c ∧ True := fun h2 => by
      obtain ⟨b, hb, _⟩ := DataW.trod_bool Tryz.underlying4 h2
      simp only [List.cons.injEq, and_true] at hb
      exact ⟨b, hb, trivial⟩
    obtain ⟨K0, h0, _⟩ := row_at (P := fun _ => True) Tryz.underlying40 lay_bool_cells false el g0
    obtain ⟨K1, h1, _⟩ := row_at (P := fun _ => True) Tryz.underlying40 lay_bool_cells false el g1
    exact ⟨v0, v1, K0, K1, rfl, h0, h1⟩
theorem wf_u16 {k : Int} (h : (Lit.int .u16 k).wf = true) : 0 ≤ k ∧ k ≤ 65535 := by
  simp only [Lit.wf, Bool.and_eq_true, decide_eq_true_eq] at h
  exact ⟨Int.le_trans (by decide) h.1, Int.le_trans h.2 (by decide)⟩
theorem wf_u8 {k : Int} (h : (Lit.int .u8 k).wf = true) : 0 ≤ k ∧ k ≤ 255 := by
  simp only [Lit.wf, Bool.and_eq_true, decide_eq_true_eq] at h
  exact ⟨Int.le_trans (by decide) h.1, Int.le_trans h.2 (by decide)⟩
set_option maxRecDepth 100000 in
theorem open_u16s {r : Reach} {b0 : Nat} {v : Value} {d : DataW H} {p : List MemPlace} {spare : Nat → Bool} {held : Bool} (hv : Value.okWide Tryz.prog w r b0 49 v) (h : DataW.Trod enc Tryz.prog w base spare held 49 v d p) :
    ∃ (x0 x1 x2 : Int), v = .agg #[.int .u16 x0, .int .u16 x1, .int .u16 x2] ∧ (0 ≤ x0 ∧ x0 ≤ 65535) ∧ (0 ≤ x1 ∧ x1 ≤ 65535) ∧ (0 ≤ x2 ∧ x2 ≤ 65535) := by
  simp only [Value.okWide, Tryz.underlying49] at hv
  obtain ⟨cs, rfl, hsz, _⟩ := hv
  obtain ⟨fuel, hf0⟩ := h
  rw [u16s_cells] at hsz
  obtain ⟨xs, k, _, _, _, hxl, hf⟩ := DataW.trod_array Tryz.underlying49 hf0
  have hl : cs.toList.length = 3 := by simpa using hsz
  obtain ⟨cs⟩ := cs
  match xs, hxl, cs, hl with
  | [y0, y1, y2], _, [v0, v1, v2], _ =>
    have g0 := hf 0 (by decide)
    have g1 := hf 1 (by decide)
    have g2 := hf 2 (by decide)
    simp [Value.cells, lay_u16_cells] at g0 g1 g2
    obtain ⟨k0, e0, q0, z0⟩ := DataW.trod_int Tryz.underlying48 g0
    obtain ⟨k1, e1, q1, z1⟩ := DataW.trod_int Tryz.underlying48 g1
    obtain ⟨k2, e2, q2, z2⟩ := DataW.trod_int Tryz.underlying48 g2
    simp only [List.cons.injEq, and_true] at e0 e1 e2
    subst e0 e1 e2
    exact ⟨k0, k1, k2, rfl, wf_u16 z0, wf_u16 z1, wf_u16 z2⟩
def U8 (n : Int) : Prop := 0 ≤ n ∧ n ≤ 255
set_option maxRecDepth 100000 in
theorem u8s_of {v : Value} {d : DataW H} {p : List MemPlace} {base0 : Nat} {r : Reach} (_hval : Value.okWide Tryz.prog w r base0 60 v) (h : DataW.Trod enc Tryz.prog w base (fun _ => true) true 60 v d p) :
    ∃ (u : Value) (L : List Int), u = v ∧ Row w u (L.map fun x => Value.int .u8 x) ∧ ∀ x ∈ L, U8 x := by
  obtain ⟨a0, len, cap, rfl⟩ := okWide_slice Tryz.underlying60 _hval
  obtain ⟨fuel, hf⟩ := h
  obtain ⟨L, h1, h2⟩ := row_at (f := fun x : Int => Value.int .u8 x) (P := U8) Tryz.underlying60 lay_u8_cells 0 (fun h2 => by
    obtain ⟨k0, e0, q0, z0⟩ := DataW.trod_int Tryz.underlying5 h2
    simp only [List.cons.injEq, and_true] at e0
    exact ⟨k0, e0, wf_u8 z0⟩) hf
  exact ⟨_, L, rfl, h1, h2⟩
end
end Go.Proofs.YtpkapcijgldhhaaGreatDoor
