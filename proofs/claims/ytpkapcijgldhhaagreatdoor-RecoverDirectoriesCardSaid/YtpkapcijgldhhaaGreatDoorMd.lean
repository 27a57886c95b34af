/-
  What the frames of this seat's statements share: the world of the witness, and what the listed variables give.
  The variable internal/bytealg.MaxLen holds some int, whatever it be.
  Chapter 36: an entry among the arguments, opened: a struct with two slices of structs.
  Chapter 45: a collection among the arguments, opened: a struct with a slice of frames.
-/
import Derived.Test.YtpkapcijgldhhaaGreatDoorBase
import Derived.Test.YtpkapcijgldhhaaGreatDoorCards
import Derived.Test.YtpkapcijgldhhaaGreatDoorTie
import Derived.ProofKit
import Derived.OpenShut
import Derived.LaidMore
import Derived.Deep.DeepHandedRow
import Derived.Deep.DeepWitnessRowRef
import Derived.Lib.LaidTab
import Derived.Stop.LaidErr
import Derived.SizedLaws
import Derived.Test.YtpkapcijgldhhaaGreatDoorMc
import Derived.Deep.Slices
import Derived.Deep.Fields
import Derived.ChangeSame
import Derived.Test.YtpkapcijgldhhaaGreatDoorMh
namespace Go.Proofs.YtpkapcijgldhhaaGreatDoor
open Go.ChangeShapes Go.WideShapes Go.ChangeAt Go.RowKit

theorem own : ownKnob Tryz.prog.godebug = none := by kernel_rfl

/-- the door's own heap, and the one table that it does not lay -/
noncomputable def laidWorld (os : Os) : World :=
  { World.doorLaid Tryz.prog 72 os with heap := (World.doorLaid Tryz.prog 72 os).heap.modify 4 fun
      | .cells _ t frozen => .cells (Pinned.utf8FirstZ.map fun (n : Nat) => Value.int .u8 (n : Int)).toArray t frozen
      | o => o }

theorem world_vars (os : Os) (args : Array Value) : ((laidWorld os).forCall (fun _ _ => 0) ⟨#[], args, []⟩).variablesRefB Tryz.checked.prog = true := by kernel_rfl
theorem world_rest (os : Os) (args : Array Value) : (((laidWorld os).forCall (fun _ _ => 0) ⟨#[], args, []⟩).heap.toList.drop Tryz.checked.prog.globals.size).take ((begin Tryz.checked.prog (fun _ _ => 0) default).world.heap.size - Tryz.checked.prog.globals.size) =
      (begin Tryz.checked.prog (fun _ _ => 0) default).world.heap.toList.drop Tryz.checked.prog.globals.size := by kernel_rfl
theorem laid_met (os : Os) (args : Array Value) : laidMetH Tryz.prog [("math/bits.deBruijn32tab", Rows.laid_math_bits_deBruijn32tab), ("math/bits.deBruijn64tab", Rows.laid_math_bits_deBruijn64tab), ("internal/strconv.uint64pow10", Rows.laid_internal_strconv_uint64pow10), ("unicode/utf8.acceptRanges", Rows.laid_unicode_utf8_acceptRanges), ("strconv.ErrRange", Rows.laid_strconv_ErrRange), ("strconv.ErrSyntax", Rows.laid_strconv_ErrSyntax), ("unicode/utf8.first", Rows.laid_unicode_utf8_first)] ((laidWorld os).forCall (fun _ _ => 0) ⟨#[], args, []⟩).memory :=
  laidMetH_of_parts3 (fuel := 8) (laidMet_of_run' 8 (by kernel_rfl) (by kernel_rfl)) (by kernel_rfl) (by kernel_rfl)

theorem wf_boundsi64 {x : Int} (h : (Lit.int .i64 x).wf = true) : -9223372036854775808 ≤ x ∧ x ≤ 9223372036854775807 := bounds_i64 h
theorem wf_boundsu8 {x : Int} (h : (Lit.int .u8 x).wf = true) : 0 ≤ x ∧ x ≤ 255 := bounds_u8 h
theorem wf_boundsu16 {x : Int} (h : (Lit.int .u16 x).wf = true) : 0 ≤ x ∧ x ≤ 65535 := bounds_u16 h
theorem tPow : (Tryz.prog.globals[3]?).map (·.type) = some 274 := by kernel_rfl
theorem tSyn : (Tryz.prog.globals[1]?).map (·.type) = some 95 := by kernel_rfl
theorem tRng : (Tryz.prog.globals[2]?).map (·.type) = some 95 := by kernel_rfl
theorem cellsPow : Tryz.prog.cellsOf 274 = 20 := by kernel_rfl
theorem cellsU64 : Tryz.prog.cellsOf 147 = 1 := by kernel_rfl
theorem cellsErr : Tryz.prog.cellsOf 284 = 1 := by kernel_rfl
theorem cellsStr : Tryz.prog.cellsOf 9 = 1 := by kernel_rfl
theorem nameErr : Tryz.prog.typeName? 3 282 = some "*errors.errorString" := by kernel_rfl
theorem starErr : "*errors.errorString" = "*" ++ "errors.errorString" := by decide
theorem rowErr (u : TypeId) (h : Tryz.prog.typeName? 3 u = some "*errors.errorString") : u = 282 :=
  typeName_ptr_named (nm := "errors.errorString") (by rw [starErr.symm]; kernel_rfl) (by kernel_rfl) (by decide) u (by rw [starErr.symm]; exact h)

theorem env_of {W : World} (h : laidMet Tryz.prog [("math/bits.deBruijn32tab", Rows.laid_math_bits_deBruijn32tab), ("math/bits.deBruijn64tab", Rows.laid_math_bits_deBruijn64tab), ("internal/strconv.uint64pow10", Rows.laid_internal_strconv_uint64pow10), ("unicode/utf8.acceptRanges", Rows.laid_unicode_utf8_acceptRanges), ("strconv.ErrRange", Rows.laid_strconv_ErrRange), ("strconv.ErrSyntax", Rows.laid_strconv_ErrSyntax), ("unicode/utf8.first", Rows.laid_unicode_utf8_first)] W) : Env W := by
  have h1 := h.tail.tail
  have h2 := h1.tail.tail
  have h3 := h2.tail
  refine ⟨?_, ?_, ?_⟩
  · exact Lib.tabIs_of_head (zs := Lib.pow10Tab) gPow tPow Tryz.underlying274 Tryz.underlying147 cellsU64 cellsPow h1
  · obtain ⟨a, s, hv, _⟩ := laid_sentinel h3 gSyn tSyn Tryz.underlying95 rowErr Tryz.underlying282 Tryz.underlying284 rfl rfl Tryz.underlying9 cellsErr cellsStr
    exact ⟨_, _, hv⟩
  · obtain ⟨a, s, hv, _⟩ := laid_sentinel h2 gRng tRng Tryz.underlying95 rowErr Tryz.underlying282 Tryz.underlying284 rfl rfl Tryz.underlying9 cellsErr cellsStr
    exact ⟨_, _, hv⟩
end Go.Proofs.YtpkapcijgldhhaaGreatDoor

namespace Go.Proofs.YtpkapcijgldhhaaGreatDoor
open Go.ChangeShapes Go.WideShapes Go.ChangeAt Go.RowKit
theorem int_of_shape {P : Program} {w : World} {g : Nat} {t : TypeId} {zero : Array Value} {k : IntKind} (h : w.ShapedOpen P) (hg : g < P.globals.size)
    (h0 : ((begin P (fun _ _ => 0) default).world.heap[g]?).bind Obj.row? = some (zero, t)) (hz : zero.size = 1)
    (hb : P.buildable t = true) (hc : P.cellTypes P.depth t = some [t]) (hu : P.underlying t = some (.int k)) : ∃ m, w.cell? ⟨g, 0, none⟩ = some (.int k m) := by
  obtain ⟨cs, hh, hs, hr⟩ := h.1 g zero t hg h0
  obtain ⟨ts, hts, _, hall⟩ := hr hb
  rw [hc] at hts
  cases hts
  have h1 : 0 < cs.size := by omega
  obtain ⟨u, hu', hok⟩ := hall 0 cs[0] (by simp [h1])
  have : u = t := by simpa using hu'.symm
  subst this
  have hcell : w.cell? ⟨g, 0, none⟩ = some cs[0] := by simp [World.cell?, hh, h1]
  rw [hcell]
  unfold Cell.ok at hok
  rw [hu] at hok
  cases hv : cs[0] with
  | int k' n =>
    rw [hv] at hok
    dsimp only at hok
    obtain ⟨rfl, _⟩ := hok
    exact ⟨n, rfl⟩
  | _ => rw [hv] at hok; simp at hok
theorem maxlen_of {W : World} (h : W.ShapedOpen Tryz.prog) : ∃ m, W.cell? ⟨0, 0, none⟩ = some (.int .i64 m) :=
  int_of_shape (t := 3) (zero := #[.int .i64 0]) h (of_decide_eq_true (by kernel_rfl)) (by kernel_rfl) rfl (by kernel_rfl) (by kernel_rfl) Tryz.underlying3
end Go.Proofs.YtpkapcijgldhhaaGreatDoor

namespace Go.Proofs.YtpkapcijgldhhaaGreatDoor
open Go.ChangeShapes Go.WideShapes Go.ChangeAt Go.RowKit Go.Deep
theorem en_str_cells : Tryz.prog.cellsOf 9 = 1 := by kernel_rfl
theorem en_int_cells : Tryz.prog.cellsOf 3 = 1 := by kernel_rfl
theorem en_ats_cells : Tryz.prog.cellsOf 106 = 1 := by kernel_rfl
theorem en_exs_cells : Tryz.prog.cellsOf 107 = 1 := by kernel_rfl
def AtWf (x : At) : Prop := x.key.size ≤ 9223372036854775807 ∧ x.value.size ≤ 9223372036854775807
theorem at0_wf : AtWf at0 := ⟨Nat.zero_le _, Nat.zero_le _⟩
theorem ex0_okE : ExOk ex0 := by unfold ex0; constructor <;> decide
theorem grow_nil {α : Type} {n : Nat} {f : α → List Value} {d : α} (w : World) (a : Option Addr) (c : Nat) (h : a = none → c = 0) : GRow n f d w (.slice a 0 c) [] := ⟨Nat.zero_le _, .inl ⟨rfl, a, c, rfl, h⟩⟩
theorem getD_wf {α : Type} {P : α → Prop} {A : List α} {d : α} (h : ∀ x ∈ A, P x) (hd : P d) (i : Nat) : P (A.getD i d) := by
  rw [List.getD_eq_getElem?_getD]
  by_cases hi : i < A.length
  · rw [List.getElem?_eq_getElem hi]; exact h _ (List.getElem_mem hi)
  · rw [List.getElem?_eq_none (by omega)]; exact hd
section
variable {H : Type} {enc : TypeId × Value → H} {w : World} {base : Nat} {spare : Nat → Bool} {held : Bool}
set_option maxRecDepth 100000 in
theorem at_elem {n : Nat} {cs : List Value} {y : DataW H × List MemPlace} (hl : cs.length = 2) (h : DataW.trod enc Tryz.prog w base spare held n 192 cs = some y) : ∃ c : At, cs = c.vals ∧ AtWf c := by
  obtain ⟨xs, k, _, hy, _, hxl, hf⟩ := DataW.trod_struct Tryz.underlying192 h
  match xs, hxl, cs, hl with
  | [y0, y1], _, [v0, v1], _ =>
    have g0 := hf 0 _ rfl
    have g1 := hf 1 _ rfl
    simp [en_str_cells] at g0 g1
    obtain ⟨s0, e0, q0, z0⟩ := DataW.trod_string Tryz.underlying9 g0
    obtain ⟨s1, e1, q1, z1⟩ := DataW.trod_string Tryz.underlying9 g1
    simp only [List.cons.injEq, and_true] at e0 e1
    subst e0 e1
    unfold maxLen at z0 z1
    exact ⟨⟨s0, s1⟩, rfl, z0, z1⟩
set_option maxRecDepth 100000 in
theorem ex_elem {n : Nat} {cs : List Value} {y : DataW H × List MemPlace} (hl : cs.length = 3) (h : DataW.trod enc Tryz.prog w base spare held n 34 cs = some y) : ∃ c : Ex, cs = c.vals ∧ ExOk c := by
  obtain ⟨xs, k, _, hy, _, hxl, hf⟩ := DataW.trod_struct Tryz.underlying34 h
  match xs, hxl, cs, hl with
  | [y0, y1, y2], _, [v0, v1, v2], _ =>
    have g0 := hf 0 _ rfl
    have g1 := hf 1 _ rfl
    have g2 := hf 2 _ rfl
    simp [en_int_cells] at g0 g1 g2
    obtain ⟨s0, e0, q0, z0⟩ := DataW.trod_int Tryz.underlying3 g0
    obtain ⟨s1, e1, q1, z1⟩ := DataW.trod_int Tryz.underlying3 g1
    obtain ⟨s2, e2, q2, z2⟩ := DataW.trod_int Tryz.underlying3 g2
    simp only [List.cons.injEq, and_true] at e0 e1 e2
    subst e0 e1 e2
    exact ⟨⟨s0, s1, s2⟩, rfl, wf_boundsi64 z0, wf_boundsi64 z1, wf_boundsi64 z2⟩
set_option maxRecDepth 100000 in
/-- a slice of structs, read as data, is a row -/
theorem grow_of {α : Type} {n : Nat} {f : α → List Value} {d : α} {P : α → Prop} {T E : TypeId} (hT : Tryz.prog.underlying T = some (.slice E)) (hC : Tryz.prog.cellsOf E = n) (hn : 0 < n) (hf : ∀ x, (f x).length = n) (hd : P d)
    (elem : ∀ {k : Nat} {cs : List Value} {y : DataW H × List MemPlace}, cs.length = n → DataW.trod enc Tryz.prog w base (fun _ => true) true k E cs = some y → ∃ c : α, cs = f c ∧ P c)
    {a0 : Option Addr} {len cap fuel : Nat} {y : DataW H × List MemPlace} (h : DataW.trod enc Tryz.prog w base (fun _ => true) true fuel T [Value.slice a0 len cap] = some y) :
    ∃ L : List α, GRow n f d w (.slice a0 len cap) L ∧ ∀ j, P (L.getD j d) := by
  rcases open_slice hT h with ⟨hcs, _⟩ | ⟨a, len', cap', m, n', D, Pl, hcs, _, hl, hm, hmm, _, hx⟩
  · have hcs' : Value.slice a0 len cap = Value.slice none 0 0 := by simpa using hcs
    rw [hcs']
    exact ⟨[], grow_nil w none 0 (fun _ => rfl), fun j => by simpa using hd⟩
  · have hcs' : Value.slice a0 len cap = Value.slice (some a) len' cap' := by simpa using hcs
    rw [hcs']
    simp only [if_true] at hmm
    subst hmm
    by_cases h0 : len' = 0
    · subst h0
      exact ⟨[], grow_nil w (some a) m (fun e => by cases e), fun j => by simpa using hd⟩
    have each : ∀ i, i < m → ∃ c : α, P c ∧ ∀ j v, (f c)[j]? = some v → w.cell? ((a.add (i * n)).add j) = some v := fun i hi => by
      obtain ⟨cs', h1, h2⟩ := hx i hi
      rw [hC] at h1
      obtain ⟨_, hlen, hcell⟩ := World.cells?_some h1
      obtain ⟨c, rfl, hwf⟩ := elem hlen h2
      refine ⟨c, hwf, fun j v hv => ?_⟩
      have hj : j < n := by have := (List.getElem?_eq_some_iff.1 hv).1; rwa [hf] at this
      rw [← hv]; exact hcell j hj
    haveI : Inhabited α := ⟨d⟩
    obtain ⟨q, hq⟩ := choose_lt each
    have hsp : a.spot = none := by
      obtain ⟨v, hv⟩ : ∃ v, (f (q 0))[0]? = some v := ⟨_, List.getElem?_eq_getElem (by rw [hf]; exact hn)⟩
      have := (hq 0 (by omega)).2 0 _ hv
      unfold World.cell? at this
      split at this
      · split at this
        · cases this
        · rename_i hs
          cases hsp : a.spot with
          | none => rfl
          | some x => exfalso; apply hs; unfold Addr.add; simp [hsp]
      · cases this
    obtain ⟨b, o, sp⟩ := a
    simp only at hsp
    subst hsp
    have hget : ∀ i, i < len' → ((List.range len').map q).getD i d = q i := fun i hi => by
      rw [List.getD_eq_getElem?_getD, List.getElem?_eq_getElem (by simpa using hi)]; simp
    have hcellq : ∀ i, i < len' → w.rangeAt b (o + i * n) (f (q i)) := fun i hi j v hv => by
      have h1 := (hq i (by omega)).2 j v hv
      rw [Addr.add_mid, Addr.add_mid] at h1; exact h1
    refine ⟨(List.range len').map q, ⟨by simp; omega, .inr ⟨by simp; omega, b, o, m, by simp, by simpa using hl, hm, ?_, ?_⟩⟩, fun j => ?_⟩
    · obtain ⟨v, hv⟩ : ∃ v, (f (q 0))[0]? = some v := ⟨_, List.getElem?_eq_getElem (by rw [hf]; exact hn)⟩
      exact World.block_lt_of_cell? w _ (hcellq 0 (by omega) 0 _ hv)
    · intro i hi
      have hi' : i < len' := by simpa using hi
      rw [hget i hi']; exact hcellq i hi'
    · by_cases hj : j < len'
      · rw [hget j hj]; exact (hq j (by omega)).1
      · rw [List.getD_eq_getElem?_getD, List.getElem?_eq_none (by simp; omega)]; exact hd
set_option maxRecDepth 100000 in
theorem open_entry {r : Reach} {b0 : Nat} {v : Value} {d : DataW H} {p : List MemPlace} (hv : Value.okWide Tryz.prog w r b0 109 v) (h : DataW.Trod enc Tryz.prog w base (fun _ => true) true 109 v d p) :
    ∃ (e : En) (va vx : Value), v = .agg #[.int .i64 e.kind, .string e.path, va, .string e.target, .int .i64 e.size, .string e.digest, vx] ∧ AtRow w va e.attrs ∧ ExRow w vx e.exts ∧
      (-9223372036854775808 ≤ e.kind ∧ e.kind ≤ 9223372036854775807) ∧ (∀ i, AtWf (atAt e.attrs i)) ∧ (-9223372036854775808 ≤ e.size ∧ e.size ≤ 9223372036854775807) ∧ (∀ i, ExOk (exAt e.exts i)) ∧
      e.path.size ≤ 9223372036854775807 ∧ e.target.size ≤ 9223372036854775807 ∧ e.digest.size ≤ 9223372036854775807 := by
  obtain ⟨cs, rfl, hsz⟩ := okWide_struct Tryz.underlying109 hv
  obtain ⟨fuel, hf0⟩ := h
  have hC : Tryz.prog.cellsOf 109 = 7 := by kernel_rfl
  rw [hC] at hsz
  obtain ⟨xs, k, _, hy, _, hxl, hf⟩ := DataW.trod_struct Tryz.underlying109 hf0
  have hl : cs.toList.length = 7 := by simpa using hsz
  obtain ⟨cs⟩ := cs
  match xs, hxl, cs, hl with
  | [y0, y1, y2, y3, y4, y5, y6], _, [v0, v1, v2, v3, v4, v5, v6], _ =>
    have g0 := hf 0 _ rfl
    have g1 := hf 1 _ rfl
    have g2 := hf 2 _ rfl
    have g3 := hf 3 _ rfl
    have g4 := hf 4 _ rfl
    have g5 := hf 5 _ rfl
    have g6 := hf 6 _ rfl
    simp [Value.cells, en_str_cells, en_int_cells, en_ats_cells, en_exs_cells] at g0 g1 g2 g3 g4 g5 g6
    obtain ⟨k0, e0, q0, z0⟩ := DataW.trod_int Tryz.underlying3 g0
    obtain ⟨s1, e1, q1, z1⟩ := DataW.trod_string Tryz.underlying9 g1
    obtain ⟨s3, e3, q3, z3⟩ := DataW.trod_string Tryz.underlying9 g3
    obtain ⟨k4, e4, q4, z4⟩ := DataW.trod_int Tryz.underlying3 g4
    obtain ⟨s5, e5, q5, z5⟩ := DataW.trod_string Tryz.underlying9 g5
    simp only [List.cons.injEq, and_true] at e0 e1 e3 e4 e5
    subst e0 e1 e3 e4 e5
    unfold maxLen at z1 z3 z5
    have form : ∀ {T E : TypeId} {v : Value} {fuel : Nat} {y : DataW H × List MemPlace}, Tryz.prog.underlying T = some (.slice E) → DataW.trod enc Tryz.prog w base (fun _ => true) true fuel T [v] = some y → ∃ a l c, v = .slice a l c := fun hT h => by
      rcases open_slice hT h with ⟨hcs, _⟩ | ⟨a, len', cap', m, n', D, Pl, hcs, _⟩
      · exact ⟨none, 0, 0, by simpa using hcs⟩
      · exact ⟨some a, len', cap', by simpa using hcs⟩
    obtain ⟨a2, l2, c2, rfl⟩ := form Tryz.underlying106 g2
    obtain ⟨a6, l6, c6, rfl⟩ := form Tryz.underlying107 g6
    obtain ⟨A, hA, pA⟩ := grow_of (f := At.vals) (d := at0) (P := AtWf) Tryz.underlying106 (by kernel_rfl) (by decide) (fun _ => rfl) at0_wf (fun h1 h2 => at_elem h1 h2) g2
    obtain ⟨X, hX, pX⟩ := grow_of (f := Ex.vals) (d := ex0) (P := ExOk) Tryz.underlying107 (by kernel_rfl) (by decide) (fun _ => rfl) ex0_okE (fun h1 h2 => ex_elem h1 h2) g6
    exact ⟨⟨k0, s1, A, s3, k4, s5, X⟩, _, _, rfl, hA, hX, wf_boundsi64 z0, pA, wf_boundsi64 z4, pX, z1, z3, z5⟩
end
theorem laidOutE : laidOutB Tryz.prog = true := by kernel_rfl
set_option maxRecDepth 100000 in
theorem open_entry' {H : Type} {enc : TypeId × Value → H} {w : World} {base : Nat} {r : Reach} {b0 : Nat} {v : Value} {d : DataW H} {p : List MemPlace} (hv : Value.okWide Tryz.prog w r b0 109 v) (h : DataW.Trod enc Tryz.prog w base (fun _ => true) true 109 v d p) :
    ∃ (e : En) (va vx : Value), v = .agg #[.int .i64 e.kind, .string e.path, va, .string e.target, .int .i64 e.size, .string e.digest, vx] ∧ AtRow w va e.attrs ∧ ExRow w vx e.exts ∧ EnWf e := by
  obtain ⟨e, va, vx, h1, h2, h3, k, a, s, x, p1, p2, p3⟩ := open_entry hv h
  exact ⟨e, va, vx, h1, h2, h3, ⟨k, p1, a, p2, s, p3, x⟩⟩
end Go.Proofs.YtpkapcijgldhhaaGreatDoor

namespace Go.Proofs.YtpkapcijgldhhaaGreatDoor
open Go.ChangeShapes Go.WideShapes Go.ChangeAt Go.RowKit Go.Deep
theorem fr_lay_cells : Tryz.prog.cellsOf 39 = 2 := by kernel_rfl
theorem fr_u32_cells : Tryz.prog.cellsOf 22 = 1 := by kernel_rfl
theorem fr_frs_cells : Tryz.prog.cellsOf 23 = 1 := by kernel_rfl
section
variable {H : Type} {enc : TypeId × Value → H} {w : World} {base : Nat}
/-- the bounds of what came in -/
structure FrWf (f : Fr) : Prop where
  kd : -9223372036854775808 ≤ f.kind ∧ f.kind ≤ 9223372036854775807
  re : -9223372036854775808 ≤ f.reel ∧ f.reel ≤ 9223372036854775807
  se : -9223372036854775808 ≤ f.session ∧ f.session ≤ 9223372036854775807
  ix : -9223372036854775808 ≤ f.index ∧ f.index ≤ 9223372036854775807
  le : -9223372036854775808 ≤ f.length ∧ f.length ≤ 9223372036854775807
  da : -9223372036854775808 ≤ f.data ∧ f.data ≤ 9223372036854775807
  sp : -9223372036854775808 ≤ f.spare ∧ f.spare ≤ 9223372036854775807
  pl : f.payload.size ≤ 9223372036854775807
theorem fr0_wf : FrWf fr0 := ⟨by decide, by decide, by decide, by decide, by decide, by decide, by decide, by decide⟩
set_option maxRecDepth 100000 in
theorem fr_elem {n : Nat} {cs : List Value} {y : DataW H × List MemPlace} (hl : cs.length = 9) (h : DataW.trod enc Tryz.prog w base (fun _ => true) true n 46 cs = some y) : ∃ c : Fr, cs = c.vals ∧ FrWf c := by
  obtain ⟨xs, k, _, hy, _, hxl, hf⟩ := DataW.trod_struct Tryz.underlying46 h
  match xs, hxl, cs, hl with
  | [y0, y1, y2, y3, y4, y5, y6, y7], _, [v0, v1, v2, v3, v4, v5, v6, v7, v8], _ =>
    have g0 := hf 0 _ rfl
    have g1 := hf 1 _ rfl
    have g2 := hf 2 _ rfl
    have g3 := hf 3 _ rfl
    have g4 := hf 4 _ rfl
    have g5 := hf 5 _ rfl
    have g6 := hf 6 _ rfl
    have g7 := hf 7 _ rfl
    simp [en_str_cells, en_int_cells, fr_lay_cells, fr_u32_cells] at g0 g1 g2 g3 g4 g5 g6 g7
    obtain ⟨k0, e0, q0, z0⟩ := DataW.trod_int Tryz.underlying3 g0
    obtain ⟨k1, e1, q1, z1⟩ := DataW.trod_int Tryz.underlying3 g1
    obtain ⟨k2, e2, q2, z2⟩ := DataW.trod_int Tryz.underlying3 g2
    obtain ⟨k3, e3, q3, z3⟩ := DataW.trod_int Tryz.underlying3 g3
    obtain ⟨k4, e4, q4, z4⟩ := DataW.trod_int Tryz.underlying3 g4
    obtain ⟨k6, e6, q6, z6⟩ := DataW.trod_int Tryz.underlying22 g6
    obtain ⟨s7, e7, q7, z7⟩ := DataW.trod_string Tryz.underlying9 g7
    obtain ⟨xl, kl, _, _, _, hxl, hfl⟩ := DataW.trod_struct Tryz.underlying39 g5
    match xl, hxl with
    | [l0, l1], _ =>
      have f0 := hfl 0 _ rfl
      have f1 := hfl 1 _ rfl
      simp [en_int_cells] at f0 f1
      obtain ⟨m0, d0, p0, r0⟩ := DataW.trod_int Tryz.underlying3 f0
      obtain ⟨m1, d1, p1, r1⟩ := DataW.trod_int Tryz.underlying3 f1
      simp only [List.cons.injEq, and_true] at e0 e1 e2 e3 e4 e6 e7 d0 d1
      subst e0 e1 e2 e3 e4 e6 e7 d0 d1
      unfold maxLen at z7
      exact ⟨⟨k0, k1, k2, k3, k4, m0, m1, k6, s7⟩, rfl, ⟨wf_boundsi64 z0, wf_boundsi64 z1, wf_boundsi64 z2, wf_boundsi64 z3, wf_boundsi64 z4, wf_boundsi64 r0, wf_boundsi64 r1, z7⟩⟩
set_option maxRecDepth 100000 in
theorem open_collection {r : Reach} {b0 : Nat} {v : Value} {d : DataW H} {p : List MemPlace} (hv : Value.okWide Tryz.prog w r b0 25 v) (h : DataW.Trod enc Tryz.prog w base (fun _ => true) true 25 v d p) :
    ∃ (ar : Int) (va : Value) (F : List Fr), v = .agg #[.int .u32 ar, va] ∧ FrRow w va F ∧ ∀ i, i < F.length → (frAt F i).payload.size ≤ 9223372036854775807 := by
  obtain ⟨cs, rfl, hsz⟩ := okWide_struct Tryz.underlying25 hv
  obtain ⟨fuel, hf0⟩ := h
  have hC : Tryz.prog.cellsOf 25 = 2 := by kernel_rfl
  rw [hC] at hsz
  obtain ⟨xs, k, _, hy, _, hxl, hf⟩ := DataW.trod_struct Tryz.underlying25 hf0
  have hl : cs.toList.length = 2 := by simpa using hsz
  obtain ⟨cs⟩ := cs
  match xs, hxl, cs, hl with
  | [y0, y1], _, [v0, v1], _ =>
    have g0 := hf 0 _ rfl
    have g1 := hf 1 _ rfl
    simp [Value.cells, fr_u32_cells, fr_frs_cells] at g0 g1
    obtain ⟨k0, e0, q0, z0⟩ := DataW.trod_int Tryz.underlying22 g0
    simp only [List.cons.injEq, and_true] at e0
    subst e0
    obtain ⟨a, l, c, rfl⟩ : ∃ a l c, v1 = .slice a l c := by
      rcases open_slice Tryz.underlying23 g1 with ⟨hcs, _⟩ | ⟨a, len', cap', m, n', D, Pl, hcs, _⟩
      · exact ⟨none, 0, 0, by simpa using hcs⟩
      · exact ⟨some a, len', cap', by simpa using hcs⟩
    obtain ⟨F, hF, pF⟩ := grow_of (f := Fr.vals) (d := fr0) (P := FrWf) Tryz.underlying23 (by kernel_rfl) (by decide) (fun _ => rfl) fr0_wf (fun h1 h2 => fr_elem h1 h2) g1
    exact ⟨k0, _, F, rfl, hF, fun i _ => (pF i).pl⟩
end
end Go.Proofs.YtpkapcijgldhhaaGreatDoor
