/-
  The walks of Great and of Equal, the program's and the reference's.
  Chapter 36: an entry among the arguments, opened: a struct with two slices of structs.
-/
import Derived.Test.YtpkapcijgldhhaaGreatDoorCa08
import Derived.Test.YtpkapcijgldhhaaGreatDoorCa02
import Derived.Deep.Slices
import Derived.Deep.Fields
import Derived.ChangeSame
namespace Go.Proofs.YtpkapcijgldhhaaGreatDoor
open Go.RowKit Go.Shelf

/-- what Great = 0 says of attributes -/
def SmallA (A : List At) : Prop := A.length ≤ 30 ∧ ∀ i, i < A.length → (atAt A i).key.size ≤ 100 ∧ (atAt A i).value.size ≤ 100
def GreatP (p : Prop) (w : World) (e : Ending) (w' : World) : Prop := ∃ g : Int, e = .returned (.int .i64 g) ∧ Hid (g = 0 ∨ g = 1) ∧ Hid (g = 0 → p) ∧ Below w.heap.size w w'
set_option maxRecDepth 100000 in
set_option maxHeartbeats 1000000 in
theorem greatA1 (b o cap : Nat) (A : List At) (w : World) (h0 : 0 < A.length) (h30 : ¬ 30 < A.length) (_hb : b < w.heap.size) (hA : AtAt w b o A) (hs : ∀ i, (atAt A i).key.size ≤ 9223372036854775807 ∧ (atAt A i).value.size ≤ 9223372036854775807) :
    Calls Tryz.prog 82 #[.slice (some ⟨b, o, none⟩) A.length cap] w (GreatP (SmallA A) w) := by
  have HA := Lib.hid hA
  have HS := Lib.hid hs
  clear hA hs
  go_enter Tryz.func82, Tryz.ntmps82
  go_wp2_with fail
  go_loop [3] (fun i => ∃ k : Nat, k ≤ A.length ∧ i = .int .i64 k ∧ Hid (∀ j, j < k → (atAt A j).key.size ≤ 100 ∧ (atAt A j).value.size ≤ 100)) (fun i => A.length - (intOf i).toNat)
  case atStart => exact ⟨0, by omega, rfl, fun j hj => absurd hj (Nat.not_lt_zero _)⟩
  case round =>
    obtain ⟨k, hk, rfl, hE⟩ := hrel
    by_cases hlt : k < A.length
    · obtain ⟨c0, c1⟩ := atCells HA.out hlt
      obtain ⟨z0, z1⟩ := HS.out k
      have HN := Lib.hid (show (atAt A k).key.size ≤ 100 → (atAt A k).value.size ≤ 100 → ∀ j, j < k + 1 → (atAt A j).key.size ≤ 100 ∧ (atAt A j).value.size ≤ 100 from fun h1 h2 j hj => by
        by_cases e : j = k
        · rw [e]; exact ⟨h1, h2⟩
        · exact hE.out j (by omega))
      generalize (atAt A k).key = ka at *
      generalize (atAt A k).value = va at *
      by_cases h1 : 100 < ka.size
      · go_wp2_with fail
        go_ret
        exact ⟨1, rfl, .inr rfl, fun e => (by cases e), below_refl _⟩
      by_cases h2 : 100 < va.size
      · go_wp2_with fail
        go_ret
        exact ⟨1, rfl, .inr rfl, fun e => (by cases e), below_refl _⟩
      have HE2 := Lib.hid (HN.out (by omega) (by omega))
      go_wp2_with fail
      go_round
      case rel => exact ⟨k + 1, by omega, by go_num, HE2⟩
      case measure => simp [intOf]; omega
    · obtain rfl : k = A.length := by omega
      have HR : Hid (SmallA A) := ⟨by omega, hE.out⟩
      go_wp2_with fail
      go_ret
      exact ⟨0, rfl, .inl rfl, fun _ => HR.out, below_refl _⟩
theorem greatA_any (v : Value) (A : List At) (w : World) (hr : AtRow w v A) (hs : ∀ i, (atAt A i).key.size ≤ 9223372036854775807 ∧ (atAt A i).value.size ≤ 9223372036854775807) :
    Calls Tryz.prog 82 #[v] w (GreatP (SmallA A) w) := by
  obtain ⟨a, c, rfl⟩ := hr.form
  have hmax := hr.1
  unfold maxLen at hmax
  by_cases h30 : 30 < A.length
  · clear hr hs
    generalize SmallA A = p at *
    generalize A.length = n at *
    go_enter Tryz.func82, Tryz.ntmps82
    go_wp2_with fail
    go_ret
    exact ⟨1, rfl, .inr rfl, fun e => (by cases e), below_refl _⟩
  rcases hr.2 with ⟨rfl, _⟩ | ⟨h0, b, o, c1, e, _, _, hb, hA⟩
  · have HR : Hid (SmallA []) := ⟨by decide, fun i hi => absurd hi (Nat.not_lt_zero _)⟩
    clear hr hs
    go_enter Tryz.func82, Tryz.ntmps82
    go_wp2_with fail
    refine wp_loop_rounds 1 ?_; rw [rounds_succ]
    go_wp2_with fail
    go_ret
    exact ⟨0, rfl, .inl rfl, fun _ => HR.out, below_refl _⟩
  · cases e
    exact greatA1 b o c A w h0 h30 hb hA hs
/-- what Great = 0 says of an entry -/
def SmallE (e : En) : Prop := e.path.size ≤ 300 ∧ e.target.size ≤ 300 ∧ e.digest.size ≤ 100 ∧ e.exts.length ≤ 30 ∧ SmallA e.attrs
/-- the bounds of what came in -/
structure EnWf (e : En) : Prop where
  kind : -9223372036854775808 ≤ e.kind ∧ e.kind ≤ 9223372036854775807
  path : e.path.size ≤ 9223372036854775807
  attrs : ∀ i, (atAt e.attrs i).key.size ≤ 9223372036854775807 ∧ (atAt e.attrs i).value.size ≤ 9223372036854775807
  target : e.target.size ≤ 9223372036854775807
  size : -9223372036854775808 ≤ e.size ∧ e.size ≤ 9223372036854775807
  digest : e.digest.size ≤ 9223372036854775807
  exts : ∀ i, ExOk (exAt e.exts i)
set_option maxRecDepth 100000 in
set_option maxHeartbeats 1000000 in
theorem great_any (e : En) (va vx : Value) (w : World) (hwf : EnWf e) (ha : AtRow w va e.attrs) (hx : ExRow w vx e.exts) :
    Calls Tryz.prog 50 #[.agg #[.int .i64 e.kind, .string e.path, va, .string e.target, .int .i64 e.size, .string e.digest, vx]] w (GreatP (SmallE e) w) := by
  obtain ⟨x, cx, rfl⟩ := hx.form
  have hmax := hx.1
  unfold maxLen at hmax
  have hb0 : Below w.heap.size w (w.alloc (.cells #[.int .i64 e.kind, .string e.path, va, .string e.target, .int .i64 e.size, .string e.digest, .slice x e.exts.length cx] 109)) := (below_refl _).alloc (Nat.le_refl _) _
  have HG := Lib.hid (greatA_any va e.attrs _ (ha.below hb0) hwf.attrs)
  have hp := hwf.path
  have ht := hwf.target
  have hd := hwf.digest
  have HS : Hid (SmallE e = (e.path.size ≤ 300 ∧ e.target.size ≤ 300 ∧ e.digest.size ≤ 100 ∧ e.exts.length ≤ 30 ∧ SmallA e.attrs)) := rfl
  clear ha hx hwf
  generalize SmallE e = pe at *
  generalize SmallA e.attrs = pa at *
  generalize e.kind = kd at *
  generalize e.path = pt at *
  generalize e.target = tg at *
  generalize e.size = sz at *
  generalize e.digest = dg at *
  generalize e.exts.length = n at *
  by_cases h1 : 300 < pt.size
  · go_enter Tryz.func50, Tryz.ntmps50
    go_wp2_with fail
    go_ret
    exact ⟨1, rfl, .inr rfl, fun e => (by cases e), hb0⟩
  by_cases h2 : 300 < tg.size
  · go_enter Tryz.func50, Tryz.ntmps50
    go_wp2_with fail
    go_ret
    exact ⟨1, rfl, .inr rfl, fun e => (by cases e), hb0⟩
  by_cases h3 : 100 < dg.size
  · go_enter Tryz.func50, Tryz.ntmps50
    go_wp2_with fail
    go_ret
    exact ⟨1, rfl, .inr rfl, fun e => (by cases e), hb0⟩
  by_cases h4 : 30 < n
  · go_enter Tryz.func50, Tryz.ntmps50
    go_wp2_with fail
    go_ret
    exact ⟨1, rfl, .inr rfl, fun e => (by cases e), hb0⟩
  go_enter Tryz.func50, Tryz.ntmps50
  go_wp2_with fail
  refine HG.out.mono ?_
  rintro e w1 ⟨g, rfl, hg, hgs, hb1⟩
  rcases hg.out with rfl | rfl
  · have HP := Lib.hid (hgs.out rfl)
    go_wp2_with fail
    go_ret
    exact ⟨0, rfl, .inl rfl, fun _ => by rw [HS.out]; exact ⟨by omega, by omega, by omega, by omega, HP.out⟩, step2 hb0 hb1⟩
  · go_wp2_with fail
    go_ret
    exact ⟨1, rfl, .inr rfl, fun e => (by cases e), step2 hb0 hb1⟩
theorem size_one (w : World) (o : Obj) : (w.alloc o).heap.size = w.heap.size + 1 := by simp
end Go.Proofs.YtpkapcijgldhhaaGreatDoor

namespace Go.Proofs.YtpkapcijgldhhaaGreatDoor
open Go.ChangeShapes Go.WideShapes Go.ChangeAt Go.RowKit Go.Deep
theorem en_str_cells : Tryz.prog.cellsOf 9 = 1 := by kernel_rfl
theorem en_int_cells : Tryz.prog.cellsOf 3 = 1 := by kernel_rfl
theorem en_ats_cells : Tryz.prog.cellsOf 106 = 1 := by kernel_rfl
theorem en_exs_cells : Tryz.prog.cellsOf 107 = 1 := by kernel_rfl
def AtWf (x : At) : Prop := x.key.size ≤ 9223372036854775807 ∧ x.value.size ≤ 9223372036854775807
theorem at0_wf : AtWf at0 := ⟨Nat.zero_le _, Nat.zero_le _⟩
theorem ex0_okE : ExOk ex0 := by unfold ex0; constructor <;> decide
theorem grow_nil {α : Type} {n : Nat} {f : α → List Value} {d : α} (w : World) (a : Option Addr) (c : Nat) (h : a = none → c = 0) : GRow n f d w (.slice a 0 c) [] := ⟨Nat.zero_le _, .inl ⟨rfl, a, c, rfl, h⟩⟩
section
variable {H : Type} {enc : TypeId × Value → H} {w : World} {base : Nat} {spare : Nat → Bool} {held : Bool}
set_option maxRecDepth 100000 in
theorem at_elem {n : Nat} {cs : List Value} {y : DataW H × List MemPlace} (hl : cs.length = 2) (h : DataW.trod enc Tryz.prog w base spare held n 192 cs = some y) : ∃ c : At, cs = c.vals ∧ AtWf c := by
  obtain ⟨xs, k, _, hy, _, hxl, hf⟩ := DataW.trod_struct Tryz.underlying192 h
  match xs, hxl, cs, hl with
  | [y0, y1], _, [v0, v1], _ =>
    have g0 := hf 0 _ rfl
    have g1 := hf 1 _ rfl
    simp [en_str_cells] at g0 g1
    obtain ⟨s0, e0, q0, z0⟩ := DataW.trod_string Tryz.underlying9 g0
    obtain ⟨s1, e1, q1, z1⟩ := DataW.trod_string Tryz.underlying9 g1
    simp only [List.cons.injEq, and_true] at e0 e1
    subst e0 e1
    unfold maxLen at z0 z1
    exact ⟨⟨s0, s1⟩, rfl, z0, z1⟩
set_option maxRecDepth 100000 in
theorem ex_elem {n : Nat} {cs : List Value} {y : DataW H × List MemPlace} (hl : cs.length = 3) (h : DataW.trod enc Tryz.prog w base spare held n 34 cs = some y) : ∃ c : Ex, cs = c.vals ∧ ExOk c := by
  obtain ⟨xs, k, _, hy, _, hxl, hf⟩ := DataW.trod_struct Tryz.underlying34 h
  match xs, hxl, cs, hl with
  | [y0, y1, y2], _, [v0, v1, v2], _ =>
    have g0 := hf 0 _ rfl
    have g1 := hf 1 _ rfl
    have g2 := hf 2 _ rfl
    simp [en_int_cells] at g0 g1 g2
    obtain ⟨s0, e0, q0, z0⟩ := DataW.trod_int Tryz.underlying3 g0
    obtain ⟨s1, e1, q1, z1⟩ := DataW.trod_int Tryz.underlying3 g1
    obtain ⟨s2, e2, q2, z2⟩ := DataW.trod_int Tryz.underlying3 g2
    simp only [List.cons.injEq, and_true] at e0 e1 e2
    subst e0 e1 e2
    exact ⟨⟨s0, s1, s2⟩, rfl, wf_boundsi64 z0, wf_boundsi64 z1, wf_boundsi64 z2⟩
set_option maxRecDepth 100000 in
/-- a slice of structs, read as data, is a row -/
theorem grow_of {α : Type} {n : Nat} {f : α → List Value} {d : α} {P : α → Prop} {T E : TypeId} (hT : Tryz.prog.underlying T = some (.slice E)) (hC : Tryz.prog.cellsOf E = n) (hn : 0 < n) (hf : ∀ x, (f x).length = n) (hd : P d)
    (elem : ∀ {k : Nat} {cs : List Value} {y : DataW H × List MemPlace}, cs.length = n → DataW.trod enc Tryz.prog w base (fun _ => true) true k E cs = some y → ∃ c : α, cs = f c ∧ P c)
    {a0 : Option Addr} {len cap fuel : Nat} {y : DataW H × List MemPlace} (h : DataW.trod enc Tryz.prog w base (fun _ => true) true fuel T [Value.slice a0 len cap] = some y) :
    ∃ L : List α, GRow n f d w (.slice a0 len cap) L ∧ ∀ j, P (L.getD j d) := by
  rcases open_slice hT h with ⟨hcs, _⟩ | ⟨a, len', cap', m, n', D, Pl, hcs, _, hl, hm, hmm, _, hx⟩
  · have hcs' : Value.slice a0 len cap = Value.slice none 0 0 := by simpa using hcs
    rw [hcs']
    exact ⟨[], grow_nil w none 0 (fun _ => rfl), fun j => by simpa using hd⟩
  · have hcs' : Value.slice a0 len cap = Value.slice (some a) len' cap' := by simpa using hcs
    rw [hcs']
    simp only [if_true] at hmm
    subst hmm
    by_cases h0 : len' = 0
    · subst h0
      exact ⟨[], grow_nil w (some a) m (fun e => by cases e), fun j => by simpa using hd⟩
    have each : ∀ i, i < m → ∃ c : α, P c ∧ ∀ j v, (f c)[j]? = some v → w.cell? ((a.add (i * n)).add j) = some v := fun i hi => by
      obtain ⟨cs', h1, h2⟩ := hx i hi
      rw [hC] at h1
      obtain ⟨_, hlen, hcell⟩ := World.cells?_some h1
      obtain ⟨c, rfl, hwf⟩ := elem hlen h2
      refine ⟨c, hwf, fun j v hv => ?_⟩
      have hj : j < n := by have := (List.getElem?_eq_some_iff.1 hv).1; rwa [hf] at this
      rw [← hv]; exact hcell j hj
    haveI : Inhabited α := ⟨d⟩
    obtain ⟨q, hq⟩ := choose_lt each
    have hsp : a.spot = none := by
      obtain ⟨v, hv⟩ : ∃ v, (f (q 0))[0]? = some v := ⟨_, List.getElem?_eq_getElem (by rw [hf]; exact hn)⟩
      have := (hq 0 (by omega)).2 0 _ hv
      unfold World.cell? at this
      split at this
      · split at this
        · cases this
        · rename_i hs
          cases hsp : a.spot with
          | none => rfl
          | some x => exfalso; apply hs; unfold Addr.add; simp [hsp]
      · cases this
    obtain ⟨b, o, sp⟩ := a
    simp only at hsp
    subst hsp
    have hget : ∀ i, i < len' → ((List.range len').map q).getD i d = q i := fun i hi => by
      rw [List.getD_eq_getElem?_getD, List.getElem?_eq_getElem (by simpa using hi)]; simp
    have hcellq : ∀ i, i < len' → w.rangeAt b (o + i * n) (f (q i)) := fun i hi j v hv => by
      have h1 := (hq i (by omega)).2 j v hv
      rw [Addr.add_mid, Addr.add_mid] at h1; exact h1
    refine ⟨(List.range len').map q, ⟨by simp; omega, .inr ⟨by simp; omega, b, o, m, by simp, by simpa using hl, hm, ?_, ?_⟩⟩, fun j => ?_⟩
    · obtain ⟨v, hv⟩ : ∃ v, (f (q 0))[0]? = some v := ⟨_, List.getElem?_eq_getElem (by rw [hf]; exact hn)⟩
      exact World.block_lt_of_cell? w _ (hcellq 0 (by omega) 0 _ hv)
    · intro i hi
      have hi' : i < len' := by simpa using hi
      rw [hget i hi']; exact hcellq i hi'
    · by_cases hj : j < len'
      · rw [hget j hj]; exact (hq j (by omega)).1
      · rw [List.getD_eq_getElem?_getD, List.getElem?_eq_none (by simp; omega)]; exact hd
end
theorem laidOutE : laidOutB Tryz.prog = true := by kernel_rfl
end Go.Proofs.YtpkapcijgldhhaaGreatDoor
