/-
  Chapter 45: a session of any size among the arguments, opened with the bound that the reach gives its extents; slices of booleans; a layout.
  Chapter 45: two strings among the arguments, within the reach.
-/
import Derived.Test.YtpkapcijgldhhaaGreatDoorCf01
import Derived.Test.YtpkapcijgldhhaaGreatDoorCf02
import Derived.Test.YtpkapcijgldhhaaGreatDoorCf03
import Derived.Test.YtpkapcijgldhhaaGreatDoorCf19
import Derived.Test.YtpkapcijgldhhaaGreatDoorCf04
import Derived.Test.YtpkapcijgldhhaaGreatDoorCf05
import Derived.Test.YtpkapcijgldhhaaGreatDoorCf06
import Derived.Test.YtpkapcijgldhhaaGreatDoorCf07
import Derived.Test.YtpkapcijgldhhaaGreatDoorCf08
import Derived.Test.YtpkapcijgldhhaaGreatDoorCf09
import Derived.Test.YtpkapcijgldhhaaGreatDoorCf10
import Derived.Test.YtpkapcijgldhhaaGreatDoorCf11
import Derived.Test.YtpkapcijgldhhaaGreatDoorCf12
import Derived.Test.YtpkapcijgldhhaaGreatDoorCe20
import Derived.Test.YtpkapcijgldhhaaGreatDoorCe27
namespace Go.Proofs.YtpkapcijgldhhaaGreatDoor
open Go.ChangeShapes Go.WideShapes Go.ChangeAt Go.RowKit Go.Deep
theorem bytesEx : Tryz.prog.bytesOf 34 = 24 := by kernel_rfl
section
variable {H : Type} {enc : TypeId × Value → H} {w : World} {base : Nat}
set_option maxRecDepth 100000 in
/-- a slice of structs, read as data within the reach, is a row -/
theorem grow_ofW {α : Type} {n : Nat} {f : α → List Value} {d : α} {P : α → Prop} {T E : TypeId} (hT : Tryz.prog.underlying T = some (.slice E)) (hC : Tryz.prog.cellsOf E = n) (hn : 0 < n) (hf : ∀ x, (f x).length = n) (hd : P d)
    (elem : ∀ {k : Nat} {cs : List Value} {y : DataW H × List MemPlace}, cs.length = n → DataW.trod enc Tryz.prog w base (fun _ => true) true k E cs = some y → Wt Tryz.prog E y.1 → ∃ c : α, cs = f c ∧ P c)
    {a0 : Option Addr} {len cap fuel : Nat} {y : DataW H × List MemPlace} (h : DataW.trod enc Tryz.prog w base (fun _ => true) true fuel T [Value.slice a0 len cap] = some y) (hw : Wt Tryz.prog T y.1) :
    ∃ L : List α, GRow n f d w (.slice a0 len cap) L ∧ (∀ j, P (L.getD j d)) ∧ L.length * Tryz.prog.bytesOf E ≤ reachBytes := by
  rcases open_slice hT h with ⟨hcs, _⟩ | ⟨a, len', cap', m, n', D, Pl, hcs, _, hl, hm, hmm, hy, hx⟩
  · have hcs' : Value.slice a0 len cap = Value.slice none 0 0 := by simpa using hcs
    rw [hcs']
    exact ⟨[], grow_nil w none 0 (fun _ => rfl), fun j => by simpa using hd, by simp⟩
  · have hcs' : Value.slice a0 len cap = Value.slice (some a) len' cap' := by simpa using hcs
    rw [hcs']
    simp only [if_true] at hmm
    subst hmm
    subst hy
    obtain ⟨hz, hel⟩ := Wt.slice hw hT
    by_cases h0 : len' = 0
    · subst h0
      exact ⟨[], grow_nil w (some a) m (fun e => by cases e), fun j => by simpa using hd, by simp⟩
    have each : ∀ i, i < len' → ∃ c : α, P c ∧ ∀ j v, (f c)[j]? = some v → w.cell? ((a.add (i * n)).add j) = some v := fun i hi => by
      obtain ⟨cs', h1, h2⟩ := hx i (by omega)
      rw [hC] at h1
      obtain ⟨_, hlen, hcell⟩ := World.cells?_some h1
      obtain ⟨c, rfl, hwf⟩ := elem hlen h2 (hel _ (List.mem_map.2 ⟨i, List.mem_range.2 hi, rfl⟩))
      refine ⟨c, hwf, fun j v hv => ?_⟩
      have hj : j < n := by have := (List.getElem?_eq_some_iff.1 hv).1; rwa [hf] at this
      rw [← hv]; exact hcell j hj
    haveI : Inhabited α := ⟨d⟩
    obtain ⟨q, hq⟩ := choose_lt each
    have hsp : a.spot = none := by
      obtain ⟨v, hv⟩ : ∃ v, (f (q 0))[0]? = some v := ⟨_, List.getElem?_eq_getElem (by rw [hf]; exact hn)⟩
      have := (hq 0 (by omega)).2 0 _ hv
      unfold World.cell? at this
      split at this
      · split at this
        · cases this
        · rename_i hs
          cases hsp : a.spot with
          | none => rfl
          | some x => exfalso; apply hs; unfold Addr.add; simp [hsp]
      · cases this
    obtain ⟨b, o, sp⟩ := a
    simp only at hsp
    subst hsp
    have hget : ∀ i, i < len' → ((List.range len').map q).getD i d = q i := fun i hi => by
      rw [List.getD_eq_getElem?_getD, List.getElem?_eq_getElem (by simpa using hi)]; simp
    have hcellq : ∀ i, i < len' → w.rangeAt b (o + i * n) (f (q i)) := fun i hi j v hv => by
      have h1 := (hq i (by omega)).2 j v hv
      rw [Addr.add_mid, Addr.add_mid] at h1; exact h1
    refine ⟨(List.range len').map q, ⟨by simp; omega, .inr ⟨by simp; omega, b, o, m, by simp, by simpa using hl, hm, ?_, ?_⟩⟩, fun j => ?_, ?_⟩
    · obtain ⟨v, hv⟩ : ∃ v, (f (q 0))[0]? = some v := ⟨_, List.getElem?_eq_getElem (by rw [hf]; exact hn)⟩
      exact World.block_lt_of_cell? w _ (hcellq 0 (by omega) 0 _ hv)
    · intro i hi
      have hi' : i < len' := by simpa using hi
      rw [hget i hi']; exact hcellq i hi'
    · by_cases hj : j < len'
      · rw [hget j hj]; exact (hq j (by omega)).1
      · rw [List.getD_eq_getElem?_getD, List.getElem?_eq_none (by simp; omega)]; exact hd
    · refine Nat.le_trans (Nat.mul_le_mul_right _ ?_) hz
      simp only [List.length_map, List.length_range]; omega
def ErW (w : World) (x : ER) : Prop := ErP w x ∧ EnBig x.e
theorem er0_w (w : World) : ErW w er0 := by
  have h := er0_p w
  refine ⟨h, h.2.path, ⟨by decide, fun i => ⟨(h.2.attrs i).1, (h.2.attrs i).2⟩⟩, h.2.target, h.2.digest, by decide, h.2.exts⟩
set_option maxRecDepth 100000 in
theorem en_elemW {n : Nat} {cs : List Value} {y : DataW H × List MemPlace} (hl : cs.length = 7) (h : DataW.trod enc Tryz.prog w base (fun _ => true) true n 109 cs = some y) (hw : Wt Tryz.prog 109 y.1) : ∃ c : ER, cs = c.vals ∧ ErW w c := by
  obtain ⟨xs, k, _, hy, _, hxl, hf⟩ := DataW.trod_struct Tryz.underlying109 h
  subst hy
  match xs, hxl, cs, hl with
  | [y0, y1, y2, y3, y4, y5, y6], _, [v0, v1, v2, v3, v4, v5, v6], _ =>
    have w6 : Wt Tryz.prog 107 y6.1 := Wt.agg hw Tryz.underlying109 (j := 6) rfl rfl
    have g0 := hf 0 _ rfl
    have g1 := hf 1 _ rfl
    have g2 := hf 2 _ rfl
    have g3 := hf 3 _ rfl
    have g4 := hf 4 _ rfl
    have g5 := hf 5 _ rfl
    have g6 := hf 6 _ rfl
    simp [en_str_cells, en_int_cells, en_ats_cells, en_exs_cells] at g0 g1 g2 g3 g4 g5 g6
    obtain ⟨k0, e0, q0, z0⟩ := DataW.trod_int Tryz.underlying3 g0
    obtain ⟨s1, e1, q1, z1⟩ := DataW.trod_string Tryz.underlying9 g1
    obtain ⟨s3, e3, q3, z3⟩ := DataW.trod_string Tryz.underlying9 g3
    obtain ⟨k4, e4, q4, z4⟩ := DataW.trod_int Tryz.underlying3 g4
    obtain ⟨s5, e5, q5, z5⟩ := DataW.trod_string Tryz.underlying9 g5
    simp only [List.cons.injEq, and_true] at e0 e1 e3 e4 e5
    subst e0 e1 e3 e4 e5
    unfold maxLen at z1 z3 z5
    have form : ∀ {T E : TypeId} {v : Value} {fuel : Nat} {y : DataW H × List MemPlace}, Tryz.prog.underlying T = some (.slice E) → DataW.trod enc Tryz.prog w base (fun _ => true) true fuel T [v] = some y → ∃ a l c, v = .slice a l c := fun hT h => by
      rcases open_slice hT h with ⟨hcs, _⟩ | ⟨a, len', cap', m, n', D, Pl, hcs, _⟩
      · exact ⟨none, 0, 0, by simpa using hcs⟩
      · exact ⟨some a, len', cap', by simpa using hcs⟩
    obtain ⟨a2, l2, c2, rfl⟩ := form Tryz.underlying106 g2
    obtain ⟨a6, l6, c6, rfl⟩ := form Tryz.underlying107 g6
    obtain ⟨A, hA, pA⟩ := grow_of (f := At.vals) (d := at0) (P := AtWf) Tryz.underlying106 (by kernel_rfl) (by decide) (fun _ => rfl) at0_wf (fun h1 h2 => at_elem h1 h2) g2
    obtain ⟨X, hX, pX, zX⟩ := grow_ofW (f := Ex.vals) (d := ex0) (P := ExOk) Tryz.underlying107 (by kernel_rfl) (by decide) (fun _ => rfl) ex0_okE (fun h1 h2 _ => ex_elem h1 h2) g6 w6
    rw [bytesEx] at zX
    have hX' : X.length ≤ 10000000000000 := by unfold reachBytes at zX; omega
    have hA' : A.length ≤ 9223372036854775807 := hA.1
    exact ⟨⟨⟨k0, s1, A, s3, k4, s5, X⟩, _, _⟩, rfl, ⟨⟨hA, hX⟩, wf_boundsi64 z0, z1, pA, z3, wf_boundsi64 z4, z5, pX⟩, ⟨z1, ⟨hA', fun i => ⟨(pA i).1, (pA i).2⟩⟩, z3, z5, hX', pX⟩⟩
set_option maxRecDepth 100000 in
theorem open_sessionW {r : Reach} {b0 : Nat} {v : Value} {d : DataW H} {p : List MemPlace} (hv : Value.okWide Tryz.prog w r b0 53 v) (h : DataW.Trod enc Tryz.prog w base (fun _ => true) true 53 v d p) (hw : Wt Tryz.prog 53 d) :
    ∃ (s : Se) (a : Option Addr) (c : Nat), v = .agg #[.int .i64 s.number, .int .i64 s.date, .string s.prev, .slice a s.entries.length c, .string s.stream, .string s.sl] ∧ EnRow w (.slice a s.entries.length c) s.entries ∧ SeBig s ∧ SeWf s := by
  obtain ⟨cs, rfl, hsz⟩ := okWide_struct Tryz.underlying53 hv
  obtain ⟨fuel, hf0⟩ := h
  have hC : Tryz.prog.cellsOf 53 = 6 := by kernel_rfl
  rw [hC] at hsz
  obtain ⟨xs, k, _, hy, _, hxl, hf⟩ := DataW.trod_struct Tryz.underlying53 hf0
  simp only [Prod.mk.injEq] at hy
  obtain ⟨rfl, _⟩ := hy
  have hl : cs.toList.length = 6 := by simpa using hsz
  obtain ⟨cs⟩ := cs
  match xs, hxl, cs, hl with
  | [y0, y1, y2, y3, y4, y5], _, [v0, v1, v2, v3, v4, v5], _ =>
    have w3 : Wt Tryz.prog 51 y3.1 := Wt.agg hw Tryz.underlying53 (j := 3) rfl rfl
    have g0 := hf 0 _ rfl
    have g1 := hf 1 _ rfl
    have g2 := hf 2 _ rfl
    have g3 := hf 3 _ rfl
    have g4 := hf 4 _ rfl
    have g5 := hf 5 _ rfl
    simp [Value.cells, en_str_cells, en_int_cells, se_ens_cells] at g0 g1 g2 g3 g4 g5
    obtain ⟨k0, e0, q0, z0⟩ := DataW.trod_int Tryz.underlying3 g0
    obtain ⟨k1, e1, q1, z1⟩ := DataW.trod_int Tryz.underlying3 g1
    obtain ⟨s2, e2, q2, z2⟩ := DataW.trod_string Tryz.underlying9 g2
    obtain ⟨s4, e4, q4, z4⟩ := DataW.trod_string Tryz.underlying9 g4
    obtain ⟨s5, e5, q5, z5⟩ := DataW.trod_string Tryz.underlying9 g5
    simp only [List.cons.injEq, and_true] at e0 e1 e2 e4 e5
    subst e0 e1 e2 e4 e5
    unfold maxLen at z2 z4 z5
    obtain ⟨a3, l3, c3, rfl⟩ : ∃ a l c, v3 = .slice a l c := by
      rcases open_slice Tryz.underlying51 g3 with ⟨hcs, _⟩ | ⟨a, len', cap', m, n', D, Pl, hcs, _⟩
      · exact ⟨none, 0, 0, by simpa using hcs⟩
      · exact ⟨some a, len', cap', by simpa using hcs⟩
    obtain ⟨L, hL, pL, _⟩ := grow_ofW (f := ER.vals) (d := er0) (P := ErW w) Tryz.underlying51 (by kernel_rfl) (by decide) er_len (er0_w w) (fun h1 h2 h3 => en_elemW h1 h2 h3) g3 w3
    have hn : l3 = L.length := by
      rcases hL.2 with ⟨rfl, a, c, e, _⟩ | ⟨_, b, o, c, e, _⟩
      · cases e; rfl
      · cases e; rfl
    subst hn
    have hEn : EnRow w (.slice a3 L.length c3) (L.map ER.e) := ⟨L, rfl, hL, fun x hx => by
      obtain ⟨i, hi, rfl⟩ := List.getElem_of_mem hx
      have := pL i
      rw [List.getD_eq_getElem?_getD, List.getElem?_eq_getElem hi] at this
      exact this.1.1⟩
    have hl2 : (L.map ER.e).length = L.length := List.length_map _
    have hll : L.length ≤ 9223372036854775807 := hL.1
    have h2 : ∀ i, enAt (L.map ER.e) i = (L.getD i er0).e := fun i => by
      rw [enAt, List.getD_eq_getElem?_getD, List.getD_eq_getElem?_getD, List.getElem?_map]
      cases L[i]? <;> rfl
    refine ⟨⟨k0, k1, s2, L.map ER.e, s4, s5⟩, a3, c3, ?_, ?_, ⟨wf_boundsi64 z0, wf_boundsi64 z1, z2, z4, z5, ?_, fun i _ => ?_⟩, wf_boundsi64 z0, wf_boundsi64 z1, z2, z4, z5, fun i => ?_⟩
    · show _ = Value.agg #[_, _, _, .slice a3 (L.map ER.e).length c3, _, _]
      rw [hl2]
    · show EnRow w (.slice a3 (L.map ER.e).length c3) (L.map ER.e)
      rw [hl2]; exact hEn
    · show (L.map ER.e).length ≤ _
      rw [hl2]; exact hll
    · show EnBig (enAt (L.map ER.e) i)
      rw [h2]; exact (pL i).2
    · show EnWf (enAt (L.map ER.e) i)
      rw [h2]; exact (pL i).1.2
end
end Go.Proofs.YtpkapcijgldhhaaGreatDoor

namespace Go.Proofs.YtpkapcijgldhhaaGreatDoor
open Go.ChangeShapes Go.WideShapes Go.ChangeAt Go.RowKit Go.Deep
theorem pss_cells : Tryz.prog.cellsOf 62 = 2 := by kernel_rfl
theorem lay_str_cellsS : Tryz.prog.cellsOf 9 = 1 := by kernel_rfl
theorem Wt.arr {H : Type} {P : Program} {t e : TypeId} {n : Nat} {parts : List (DataW H)} (h : Wt P t (.agg parts)) (hu : P.underlying t = some (.array n e)) {d : DataW H} (hd : d ∈ parts) : Wt P e d := fun k hk => h k (by
  simp only [DataW.weights, hu]
  exact weightsAll_mem hd k hk)
section
variable {H : Type} {enc : TypeId × Value → H} {w : World} {base : Nat}
set_option maxRecDepth 100000 in
theorem open_pairs {r : Reach} {b0 : Nat} {v : Value} {d : DataW H} {p : List MemPlace} {spare : Nat → Bool} {held : Bool} (hv : Value.okWide Tryz.prog w r b0 62 v) (h : DataW.Trod enc Tryz.prog w base spare held 62 v d p) (hw : Wt Tryz.prog 62 d) :
    ∃ (s0 s1 : ByteArray), v = .agg #[.string s0, .string s1] ∧ s0.size ≤ 140737488355328 ∧ s1.size ≤ 140737488355328 := by
  simp only [Value.okWide, Tryz.underlying62] at hv
  obtain ⟨cs, rfl, hsz, _⟩ := hv
  obtain ⟨fuel, hf0⟩ := h
  rw [pss_cells] at hsz
  obtain ⟨xs, k, _, hy, _, hxl, hf⟩ := DataW.trod_array Tryz.underlying62 hf0
  simp only [Prod.mk.injEq] at hy
  obtain ⟨rfl, _⟩ := hy
  have hl : cs.toList.length = 2 := by simpa using hsz
  obtain ⟨cs⟩ := cs
  match xs, hxl, cs, hl with
  | [y0, y1], _, [v0, v1], _ =>
    have w0 : Wt Tryz.prog 9 y0.1 := Wt.arr hw Tryz.underlying62 (by simp)
    have w1 : Wt Tryz.prog 9 y1.1 := Wt.arr hw Tryz.underlying62 (by simp)
    have g0 := hf 0 (by decide)
    have g1 := hf 1 (by decide)
    simp [Value.cells, lay_str_cellsS] at g0 g1
    obtain ⟨s0, e0, q0, z0⟩ := DataW.trod_string Tryz.underlying9 g0
    obtain ⟨s1, e1, q1, z1⟩ := DataW.trod_string Tryz.underlying9 g1
    simp only [List.cons.injEq, and_true] at e0 e1
    subst e0 e1
    rw [q0] at w0
    rw [q1] at w1
    have l0 := Wt.string w0
    have l1 := Wt.string w1
    have h0 : s0.size ≤ reachBytes := l0
    have h1 : s1.size ≤ reachBytes := l1
    have hb := reachBytes_lt
    exact ⟨s0, s1, rfl, by omega, by omega⟩
end
end Go.Proofs.YtpkapcijgldhhaaGreatDoor
