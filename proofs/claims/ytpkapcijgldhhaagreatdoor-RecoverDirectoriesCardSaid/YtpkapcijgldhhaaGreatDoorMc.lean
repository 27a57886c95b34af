/-
  The walks of the equalities: Same, slices.Equal at attributes and at extents.
  The walks of Great and of Equal, the program's and the reference's.
  The walk of the reference's Equal.
-/
import Derived.Test.YtpkapcijgldhhaaGreatDoorAttrR
namespace Go.Proofs.YtpkapcijgldhhaaGreatDoor
open Go.RowKit Go.Shelf

theorem ex_ext {x y : Ex} (h1 : x.s = y.s) (h2 : x.o = y.o) (h3 : x.l = y.l) : x = y := by cases x; cases y; simp_all
theorem list_ext_ex {A B : List Ex} (hl : A.length = B.length) (h : ∀ j, j < A.length → exAt A j = exAt B j) : A = B := by
  refine List.ext_getElem hl fun i h1 h2 => ?_
  have := h i h1
  rwa [exAt_get h1, exAt_get h2] at this
end Go.Proofs.YtpkapcijgldhhaaGreatDoor

namespace Go.Proofs.YtpkapcijgldhhaaGreatDoor
open Go.RowKit Go.Shelf

/-- what Great = 0 says of attributes -/
def SmallA (A : List At) : Prop := A.length ≤ 30 ∧ ∀ i, i < A.length → (atAt A i).key.size ≤ 100 ∧ (atAt A i).value.size ≤ 100
def GreatP (p : Prop) (w : World) (e : Ending) (w' : World) : Prop := ∃ g : Int, e = .returned (.int .i64 g) ∧ Hid (g = 0 ∨ g = 1) ∧ Hid (g = 0 → p) ∧ Below w.heap.size w w'
set_option maxRecDepth 100000 in
set_option maxHeartbeats 1000000 in
theorem greatA1 (b o cap : Nat) (A : List At) (w : World) (h0 : 0 < A.length) (h30 : ¬ 30 < A.length) (_hb : b < w.heap.size) (hA : AtAt w b o A) (hs : ∀ i, (atAt A i).key.size ≤ 9223372036854775807 ∧ (atAt A i).value.size ≤ 9223372036854775807) :
    Calls Tryz.prog 82 #[.slice (some ⟨b, o, none⟩) A.length cap] w (GreatP (SmallA A) w) := by
  have HA := Lib.hid hA
  have HS := Lib.hid hs
  clear hA hs
  go_enter Tryz.func82, Tryz.ntmps82
  go_wp2_with fail
  go_loop [3] (fun i => ∃ k : Nat, k ≤ A.length ∧ i = .int .i64 k ∧ Hid (∀ j, j < k → (atAt A j).key.size ≤ 100 ∧ (atAt A j).value.size ≤ 100)) (fun i => A.length - (intOf i).toNat)
  case atStart => exact ⟨0, by omega, rfl, fun j hj => absurd hj (Nat.not_lt_zero _)⟩
  case round =>
    obtain ⟨k, hk, rfl, hE⟩ := hrel
    by_cases hlt : k < A.length
    · obtain ⟨c0, c1⟩ := atCells HA.out hlt
      obtain ⟨z0, z1⟩ := HS.out k
      have HN := Lib.hid (show (atAt A k).key.size ≤ 100 → (atAt A k).value.size ≤ 100 → ∀ j, j < k + 1 → (atAt A j).key.size ≤ 100 ∧ (atAt A j).value.size ≤ 100 from fun h1 h2 j hj => by
        by_cases e : j = k
        · rw [e]; exact ⟨h1, h2⟩
        · exact hE.out j (by omega))
      generalize (atAt A k).key = ka at *
      generalize (atAt A k).value = va at *
      by_cases h1 : 100 < ka.size
      · go_wp2_with fail
        go_ret
        exact ⟨1, rfl, .inr rfl, fun e => (by cases e), below_refl _⟩
      by_cases h2 : 100 < va.size
      · go_wp2_with fail
        go_ret
        exact ⟨1, rfl, .inr rfl, fun e => (by cases e), below_refl _⟩
      have HE2 := Lib.hid (HN.out (by omega) (by omega))
      go_wp2_with fail
      go_round
      case rel => exact ⟨k + 1, by omega, by go_num, HE2⟩
      case measure => simp [intOf]; omega
    · obtain rfl : k = A.length := by omega
      have HR : Hid (SmallA A) := ⟨by omega, hE.out⟩
      go_wp2_with fail
      go_ret
      exact ⟨0, rfl, .inl rfl, fun _ => HR.out, below_refl _⟩
theorem greatA_any (v : Value) (A : List At) (w : World) (hr : AtRow w v A) (hs : ∀ i, (atAt A i).key.size ≤ 9223372036854775807 ∧ (atAt A i).value.size ≤ 9223372036854775807) :
    Calls Tryz.prog 82 #[v] w (GreatP (SmallA A) w) := by
  obtain ⟨a, c, rfl⟩ := hr.form
  have hmax := hr.1
  unfold maxLen at hmax
  by_cases h30 : 30 < A.length
  · clear hr hs
    generalize SmallA A = p at *
    generalize A.length = n at *
    go_enter Tryz.func82, Tryz.ntmps82
    go_wp2_with fail
    go_ret
    exact ⟨1, rfl, .inr rfl, fun e => (by cases e), below_refl _⟩
  rcases hr.2 with ⟨rfl, _⟩ | ⟨h0, b, o, c1, e, _, _, hb, hA⟩
  · have HR : Hid (SmallA []) := ⟨by decide, fun i hi => absurd hi (Nat.not_lt_zero _)⟩
    clear hr hs
    go_enter Tryz.func82, Tryz.ntmps82
    go_wp2_with fail
    refine wp_loop_rounds 1 ?_; rw [rounds_succ]
    go_wp2_with fail
    go_ret
    exact ⟨0, rfl, .inl rfl, fun _ => HR.out, below_refl _⟩
  · cases e
    exact greatA1 b o c A w h0 h30 hb hA hs
/-- what Great = 0 says of an entry -/
def SmallE (e : En) : Prop := e.path.size ≤ 300 ∧ e.target.size ≤ 300 ∧ e.digest.size ≤ 100 ∧ e.exts.length ≤ 30 ∧ SmallA e.attrs
/-- the bounds of what came in -/
structure EnWf (e : En) : Prop where
  kind : -9223372036854775808 ≤ e.kind ∧ e.kind ≤ 9223372036854775807
  path : e.path.size ≤ 9223372036854775807
  attrs : ∀ i, (atAt e.attrs i).key.size ≤ 9223372036854775807 ∧ (atAt e.attrs i).value.size ≤ 9223372036854775807
  target : e.target.size ≤ 9223372036854775807
  size : -9223372036854775808 ≤ e.size ∧ e.size ≤ 9223372036854775807
  digest : e.digest.size ≤ 9223372036854775807
  exts : ∀ i, ExOk (exAt e.exts i)
theorem enOk_small {e : En} (h : EnWf e) (hs : SmallE e) : EnOk e := by
  obtain ⟨h1, h2, h3, h4, h5, h6⟩ := hs
  refine ⟨h.kind, by omega, ⟨by omega, fun i => ?_⟩, by omega, h.size, by omega, ⟨by omega, h.exts⟩⟩
  by_cases hi : i < e.attrs.length
  · exact ⟨by have := (h6 i hi).1; omega, by have := (h6 i hi).2; omega⟩
  · rw [atAt, List.getD_eq_getElem?_getD, List.getElem?_eq_none (by omega)]
    exact ⟨by decide, by decide⟩
set_option maxRecDepth 100000 in
set_option maxHeartbeats 1000000 in
theorem great_any (e : En) (va vx : Value) (w : World) (hwf : EnWf e) (ha : AtRow w va e.attrs) (hx : ExRow w vx e.exts) :
    Calls Tryz.prog 50 #[.agg #[.int .i64 e.kind, .string e.path, va, .string e.target, .int .i64 e.size, .string e.digest, vx]] w (GreatP (SmallE e) w) := by
  obtain ⟨x, cx, rfl⟩ := hx.form
  have hmax := hx.1
  unfold maxLen at hmax
  have hb0 : Below w.heap.size w (w.alloc (.cells #[.int .i64 e.kind, .string e.path, va, .string e.target, .int .i64 e.size, .string e.digest, .slice x e.exts.length cx] 109)) := (below_refl _).alloc (Nat.le_refl _) _
  have HG := Lib.hid (greatA_any va e.attrs _ (ha.below hb0) hwf.attrs)
  have hp := hwf.path
  have ht := hwf.target
  have hd := hwf.digest
  have HS : Hid (SmallE e = (e.path.size ≤ 300 ∧ e.target.size ≤ 300 ∧ e.digest.size ≤ 100 ∧ e.exts.length ≤ 30 ∧ SmallA e.attrs)) := rfl
  clear ha hx hwf
  generalize SmallE e = pe at *
  generalize SmallA e.attrs = pa at *
  generalize e.kind = kd at *
  generalize e.path = pt at *
  generalize e.target = tg at *
  generalize e.size = sz at *
  generalize e.digest = dg at *
  generalize e.exts.length = n at *
  by_cases h1 : 300 < pt.size
  · go_enter Tryz.func50, Tryz.ntmps50
    go_wp2_with fail
    go_ret
    exact ⟨1, rfl, .inr rfl, fun e => (by cases e), hb0⟩
  by_cases h2 : 300 < tg.size
  · go_enter Tryz.func50, Tryz.ntmps50
    go_wp2_with fail
    go_ret
    exact ⟨1, rfl, .inr rfl, fun e => (by cases e), hb0⟩
  by_cases h3 : 100 < dg.size
  · go_enter Tryz.func50, Tryz.ntmps50
    go_wp2_with fail
    go_ret
    exact ⟨1, rfl, .inr rfl, fun e => (by cases e), hb0⟩
  by_cases h4 : 30 < n
  · go_enter Tryz.func50, Tryz.ntmps50
    go_wp2_with fail
    go_ret
    exact ⟨1, rfl, .inr rfl, fun e => (by cases e), hb0⟩
  go_enter Tryz.func50, Tryz.ntmps50
  go_wp2_with fail
  refine HG.out.mono ?_
  rintro e w1 ⟨g, rfl, hg, hgs, hb1⟩
  rcases hg.out with rfl | rfl
  · have HP := Lib.hid (hgs.out rfl)
    go_wp2_with fail
    go_ret
    exact ⟨0, rfl, .inl rfl, fun _ => by rw [HS.out]; exact ⟨by omega, by omega, by omega, by omega, HP.out⟩, step2 hb0 hb1⟩
  · go_wp2_with fail
    go_ret
    exact ⟨1, rfl, .inr rfl, fun e => (by cases e), step2 hb0 hb1⟩
theorem size_one (w : World) (o : Obj) : (w.alloc o).heap.size = w.heap.size + 1 := by simp
theorem en_ext {x y : En} (h1 : x.kind = y.kind) (h2 : x.path = y.path) (h3 : x.attrs = y.attrs) (h4 : x.target = y.target) (h5 : x.size = y.size) (h6 : x.digest = y.digest) (h7 : x.exts = y.exts) : x = y := by cases x; cases y; simp_all
end Go.Proofs.YtpkapcijgldhhaaGreatDoor

namespace Go.Proofs.YtpkapcijgldhhaaGreatDoor
open Go.RowKit Go.Shelf

theorem two_cells {w w3 : World} {cs ds : Array Value} {T : TypeId} (hb3 : Below ((w.alloc (.cells cs T)).alloc (.cells ds T)).heap.size ((w.alloc (.cells cs T)).alloc (.cells ds T)) w3) :
    (∀ j, w3.cell? ⟨w.heap.size, j, none⟩ = cs[j]?) ∧ (∀ j, w3.cell? ⟨w.heap.size + 1, j, none⟩ = ds[j]?) := by
  refine ⟨fun j => ?_, fun j => ?_⟩
  · rw [hb3.cell (p := ⟨w.heap.size, j, none⟩) (by simp; omega), ((below_refl (w.alloc (.cells cs T))).alloc (Nat.le_refl _) _).cell (p := ⟨w.heap.size, j, none⟩) (by simp)]
    exact alloc_new_cell _ _ _ j
  · rw [hb3.cell (p := ⟨w.heap.size + 1, j, none⟩) (by simp), ← size_one w (.cells cs T)]
    exact alloc_new_cell _ _ _ j
end Go.Proofs.YtpkapcijgldhhaaGreatDoor
