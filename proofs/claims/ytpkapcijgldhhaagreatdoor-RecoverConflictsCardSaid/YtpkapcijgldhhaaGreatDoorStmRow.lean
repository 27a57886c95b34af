/-
  A collection in a box of the call's own, to which frames of a stream are appended.
  A collection in a box of the call's own beside a set of places and a map of counts.
-/
import Derived.Test.YtpkapcijgldhhaaGreatDoorStmPlain
import Derived.Test.YtpkapcijgldhhaaGreatDoorCe33
import Derived.Maps.AppendAt
namespace Go.Proofs.YtpkapcijgldhhaaGreatDoor
open Go.RowKit Go.Shelf
theorem nStr_bound {d sp l : Nat} (hd : 1 ≤ d) (hd8 : d ≤ 8) (hs : sp ≤ 7) (hl : l ≤ 600) : nStr d l * (d + sp) ≤ 300 ∧ nStr d l ≤ 600 := by
  have h := Nat.div_mul_le_self (l + 28 * d - 1) (28 * d)
  have h0 : nStr d l * (28 * d) ≤ l + 28 * d - 1 := h
  clear h
  generalize nStr d l = n at *
  have h1 : n * (28 * d) = 28 * (n * d) := by rw [← Nat.mul_assoc, Nat.mul_comm n 28, Nat.mul_assoc]
  have h2 : n * 1 ≤ n * d := Nat.mul_le_mul_left n hd
  have h3 : n * sp ≤ n * 7 := Nat.mul_le_mul_left n hs
  rw [Nat.mul_add]
  omega
theorem frO_small (d sp : Nat) (t : List UInt8) (s : Int) (k r : Nat) : (frO d sp t s k r).payload.size = 28 := by
  rw [frO_pay]
  show (bA' (stB d t k r)).data.toList.length = 28
  rw [bA'_list, stB_length]
theorem small_of {d sp n : Nat} {t : List UInt8} {s : Int} {F : List Fr} (h : ∀ f ∈ F, f ∈ frL d sp t s n) (hl : F.length ≤ 1000) : SmallF F := by
  refine ⟨hl, fun f hf => ?_⟩
  obtain ⟨k, r, _, _, rfl⟩ := frL_mem.1 (h f hf)
  rw [frO_small]; omega
theorem layWf_of {d sp n : Nat} {t : List UInt8} {s : Int} {F : List Fr} (hd : d ≤ 8) (hs : sp ≤ 7) (h : ∀ f ∈ F, f ∈ frL d sp t s n) : LayWf F := by
  intro k hk
  rw [frAt_get hk]
  obtain ⟨i, r, _, _, e⟩ := frL_mem.1 (h _ (List.getElem_mem hk))
  rw [e]
  show wf64 (d : Int) ∧ wf64 (sp : Int)
  unfold wf64
  omega
/-- what an append to the collection in the box C has done -/
structure App (base C : Nat) (W W8 : World) (cv v6 : Value) (F : List Fr) (f : Fr) : Prop where
  bx : Box W8 C [.int .u32 1, v6] 25
  ow : OwnG base 46 9 Fr.vals W8 v6 (F ++ [f])
  bel : ∀ n, n ≤ C → n ≤ base → Below n W W8
  size : W.heap.size ≤ W8.heap.size
  keep : ∀ j, j < W.heap.size → j ≠ C → some j ≠ cv.ownBlock → W8.heap[j]? = W.heap[j]?
  loc : v6.ownBlock = cv.ownBlock ∨ ∃ g, v6.ownBlock = some g ∧ W.heap.size ≤ g
theorem app_mk {base C : Nat} {W w6 : World} {cv v6 : Value} {F : List Fr} {f : Fr} (hCne : some C ≠ cv.ownBlock) (hB : base ≤ W.heap.size) (hb : Box W C [.int .u32 1, cv] 25) (ho : OwnG base 46 9 Fr.vals W cv F)
    (hown : w6.ownsRow base 46 9 v6 (F.length + 1) (F.flatMap Fr.vals ++ f.vals)) (hg : (W.alloc (.cells f.vals.toArray 46)).grownBy w6 cv.ownBlock)
    (hat : v6.ownBlock = cv.ownBlock ∨ v6.ownBlock = some (W.heap.size + 1)) : App base C W (w6.setCell ⟨C, 1, none⟩ v6) cv v6 F f := by
  have ka : Below W.heap.size W (W.alloc (.cells f.vals.toArray 46)) := (Below.refl _ _).alloc (Nat.le_refl _) _
  have hz := ka.size
  have hgz := hg.size
  have hC := hb.lt
  have hbC : w6.heap[C]? = W.heap[C]? := (hg.block C (by omega) hCne).trans (ka.block C (by omega))
  have hb6 : Box w6 C [.int .u32 1, cv] 25 := hbC.trans hb
  have hs : (w6.setCell ⟨C, 1, none⟩ v6).heap.size = w6.heap.size := by simp [World.setCell]
  refine ⟨hb6.set (j := 1) v6, ?_, fun n hn hnb => ?_, by omega, fun j hj hjC hjo => ?_, hat.imp id fun e => ⟨_, e, by omega⟩⟩
  · unfold OwnG
    rw [List.length_append, List.flatMap_append, List.flatMap_cons, List.flatMap_nil, List.append_nil]
    refine ⟨hown.1, hown.2.imp id ?_⟩
    rintro ⟨g, cap, cur, h1, h2, hh, r⟩
    refine ⟨g, cap, cur, h1, h2, (Below.heap_setCell _ _ _ g (fun e => ?_)).trans hh, r⟩
    have e : g = C := e
    subst h1
    rcases hat with h3 | h3
    · exact hCne (by rw [← h3, ← e]; rfl)
    · injection h3 with h3
      have h3 : g = W.heap.size + 1 := h3
      omega
  · have k1 : Below n W w6 := (ka.mono (by omega)).grown hg (by omega) (fun k hk => by have := (ho.lt k hk).1; omega)
    exact k1.setCell (p := ⟨C, 1, none⟩) hn _
  · exact (Below.heap_setCell _ _ _ j (fun e => hjC e)).trans ((hg.block j (by omega) hjo).trans (ka.block j hj))
theorem app_pre {base C : Nat} {W w6 : World} {cv : Value} {F : List Fr} {f : Fr} (hCne : some C ≠ cv.ownBlock) (hb : Box W C [.int .u32 1, cv] 25) (_ho : OwnG base 46 9 Fr.vals W cv F)
    (hg : (W.alloc (.cells f.vals.toArray 46)).grownBy w6 cv.ownBlock) : Box w6 C [.int .u32 1, cv] 25 := by
  have ka : Below W.heap.size W (W.alloc (.cells f.vals.toArray 46)) := (Below.refl _ _).alloc (Nat.le_refl _) _
  have hz := ka.size
  have hl := hb.lt
  have hbC : w6.heap[C]? = W.heap[C]? := (hg.block C (by omega) hCne).trans (ka.block C (by omega))
  exact hbC.trans hb
theorem App.row {base C : Nat} {W W8 : World} {cv v6 : Value} {F : List Fr} {f : Fr} (h : App base C W W8 cv v6 F f) {base' : Nat} {e : TypeId} {size n : Nat} {u : Value} {xs : List Value} (hu : W.ownsRow base' e size u n xs) (hC : some C ≠ u.ownBlock) (hne : ∀ q, u.ownBlock = some q → cv.ownBlock = some q → False) : W8.ownsRow base' e size u n xs := by
  refine ⟨hu.1, hu.2.imp id ?_⟩
  rintro ⟨g, cap, cur, rfl, h2, hh, r⟩
  exact ⟨g, cap, cur, rfl, h2, (h.keep g (Array.getElem?_eq_some_iff.1 hh).1 (fun e => hC (by rw [← e]; rfl)) (fun e => hne g rfl e.symm)).trans hh, r⟩
theorem App.box {base C : Nat} {W W8 : World} {cv v6 : Value} {F : List Fr} {f : Fr} (h : App base C W W8 cv v6 F f) {B : Nat} {cs : List Value} {T : TypeId} (hb : Box W B cs T) (hne : B ≠ C) (hlt : some B ≠ cv.ownBlock) : Box W8 B cs T := (h.keep B hb.lt hne hlt).trans hb
theorem App.map {base C : Nat} {W W8 : World} {cv v6 : Value} {F : List Fr} {f : Fr} (h : App base C W W8 cv v6 F f) {b n : Nat} {D : DataW Unit} {P : Program} {k : TypeId} {R : Value → Option (DataW Unit × List MemPlace)} (hm : W.ownsMap P k R b n D) (hne : b ≠ C) (hlt : some b ≠ cv.ownBlock) : W8.ownsMap P k R b n D := by
  have hl := hm.lt
  obtain ⟨es, clock, hh, r⟩ := hm
  exact ⟨es, clock, (h.keep b hl hne hlt).trans hh, r⟩
theorem App.apart {base C : Nat} {W W8 : World} {cv v6 : Value} {F : List Fr} {f : Fr} (h : App base C W W8 cv v6 F f) {base' : Nat} {e : TypeId} {size n : Nat} {u : Value} {xs : List Value} (hu : W.ownsRow base' e size u n xs) (hne : ∀ q, cv.ownBlock = some q → u.ownBlock = some q → False) : ∀ q, v6.ownBlock = some q → u.ownBlock = some q → False := fun q h1 h2 => by
  rcases h.loc with e | ⟨g, e, hg⟩
  · exact hne q (by rw [← e, h1]) h2
  · rw [e] at h1
    injection h1 with h1
    have := (hu.lt q h2).2
    omega
theorem pairKeyT : Tryz.prog.keyType 32 = true := by kernel_rfl
theorem pairRow : (32 : TypeId) < Tryz.prog.types.size := of_decide_eq_true (by kernel_rfl)
theorem pairKeyed : Maps.Keyed Tryz.prog 32 := Maps.Keyed.of_law (deep_law_gate layLaid laySmall pairRow pairKeyT (by simp only [Tryz.underlying32]))
theorem pairC : Tryz.prog.cellsOf 32 = 2 := by kernel_rfl
theorem pair_key {x : Int × Int} (h1 : wf64 x.1) (h2 : wf64 x.2) : keyOf Tryz.prog 32 (.agg #[.int .i64 x.1, .int .i64 x.2]) = some (keyP x) := by
  have hkt := pairKeyT
  obtain ⟨m, hm⟩ := layN
  unfold keyOf
  simp only [Tryz.underlying32]
  rw [if_pos (by simp [hkt, Value.formed, Tryz.underlying32, pairC]), hm]
  unfold Program.keyLits
  simp only [Tryz.underlying32, Value.cells]
  rw [if_pos (by rw [pairC]; rfl), show List.range 2 = [0, 1] from rfl, List.mapM_cons, List.mapM_cons, List.mapM_nil]
  simp [layI, Program.keyLits, Tryz.underlying3, lit_wf64 h1, lit_wf64 h2, keyP]
/-- the collection and the two maps -/
structure StmJ (w w7 : World) (C0 : Nat) (W : World) (u : Value) (A A1 A2 : List Fr) : Prop where
  bel : Below w.heap.size w W
  size : w7.heap.size ≤ W.heap.size
  same : ∀ j, j < w7.heap.size → j ≠ C0 → j ≠ C0 + 1 → j ≠ C0 + 2 → W.heap[j]? = w7.heap[j]?
  b0 : Box W C0 [.int .u32 1, u] 25
  o0 : OwnG w7.heap.size 46 9 Fr.vals W u A
  m1 : ∃ m, m ≤ A1.length ∧ W.ownsMap Tryz.prog 32 (plainElem (H := Unit) Tryz.prog 4) (C0 + 1) m (setP (A1.map posF))
  m2 : ∃ m D, m ≤ A2.length ∧ W.ownsMap Tryz.prog 3 (plainElem (H := Unit) Tryz.prog 3) (C0 + 2) m D ∧ CntM D A2
theorem StmJ.go {w w7 : World} {C0 : Nat} {W W' : World} {u : Value} {A A1 A2 : List Fr} (h : StmJ w w7 C0 W u A A1 A2) (hb : Below W.heap.size W W') : StmJ w w7 C0 W' u A A1 A2 := by
  refine ⟨step2 h.bel hb, Nat.le_trans h.size hb.size, fun j h1 h2 h3 h4 => (hb.block j (Nat.lt_of_lt_of_le h1 h.size)).trans (h.same j h1 h2 h3 h4), h.b0.below hb, owns_below h.o0 hb, ?_, ?_⟩
  · obtain ⟨m, hm, ho⟩ := h.m1
    exact ⟨m, hm, ownsMap_at ho (hb.block _ ho.lt)⟩
  · obtain ⟨m, D, hm, ho, hc⟩ := h.m2
    exact ⟨m, D, hm, ownsMap_at ho (hb.block _ ho.lt), hc⟩
theorem StmJ.app {w w7 : World} {C0 : Nat} {W W' : World} {u u' : Value} {A A1 A2 : List Fr} {f : Fr} (h : StmJ w w7 C0 W u A A1 A2) (hC : C0 + 2 < w7.heap.size) (hw : w.heap.size ≤ C0) (ha : App w7.heap.size C0 W W' u u' A f) : StmJ w w7 C0 W' u' (A ++ [f]) A1 A2 := by
  have hne : ∀ j, j < w7.heap.size → some j ≠ u.ownBlock := fun j hj e => by have := (h.o0.lt j e.symm).1; omega
  refine ⟨h.bel.trans (ha.bel _ hw (by omega)), Nat.le_trans h.size ha.size, fun j h1 h2 h3 h4 => (ha.keep j (Nat.lt_of_lt_of_le h1 h.size) h2 (hne j h1)).trans (h.same j h1 h2 h3 h4), ha.bx, ha.ow, ?_, ?_⟩
  · obtain ⟨m, hm, ho⟩ := h.m1
    exact ⟨m, hm, ha.map ho (by omega) (hne _ (by omega))⟩
  · obtain ⟨m, D, hm, ho, hc⟩ := h.m2
    exact ⟨m, D, hm, ha.map ho (by omega) (hne _ (by omega)), hc⟩
theorem StmJ.put1 {w w7 : World} {C0 : Nat} {W W' : World} {u : Value} {A A1 A2 : List Fr} {f : Fr} {m : Nat} (h : StmJ w w7 C0 W u A A1 A2) (hC : C0 + 2 < w7.heap.size) (hw : w.heap.size ≤ C0) (hm : m ≤ A1.length)
    (ho : W'.ownsMap Tryz.prog 32 (plainElem (H := Unit) Tryz.prog 4) (C0 + 1) (m + 1) ((setP (A1.map posF)).put (keyP (posF f)) (.lit (.bool true)))) (hg : W.grownBy W' (some (C0 + 1))) : StmJ w w7 C0 W' u A (A1 ++ [f]) A2 := by
  have hz := h.size
  refine ⟨h.bel.grown hg h.bel.size (fun q e => by injection e with e; omega), Nat.le_trans h.size hg.size, fun j h1 h2 h3 h4 => (hg.block j (by omega) (fun e => by injection e with e; exact h3 e)).trans (h.same j h1 h2 h3 h4), (hg.block C0 h.b0.lt (fun e => by injection e with e; omega)).trans h.b0, ?_, ⟨m + 1, by rw [List.length_append]; simp; exact hm, ?_⟩, ?_⟩
  · exact h.o0.kept hg (by
      cases hq : u.ownBlock with
      | none => exact .inl rfl
      | some q => exact .inr (fun e => by injection e with e; have := (h.o0.lt q hq).1; omega))
  · rw [List.map_append, List.map_cons, List.map_nil, setP_snoc]; exact ho
  · obtain ⟨m, D, hm, ho, hc⟩ := h.m2
    exact ⟨m, D, hm, ho.kept hg (fun e => by injection e with e; omega), hc⟩
theorem StmJ.put2 {w w7 : World} {C0 : Nat} {W W' : World} {u : Value} {A A1 A2 : List Fr} {f : Fr} {m : Nat} {D : DataW Unit} (h : StmJ w w7 C0 W u A A1 A2) (hC : C0 + 2 < w7.heap.size) (hw : w.heap.size ≤ C0) (hm : m ≤ A2.length) (hc : CntM D A2)
    (ho : W'.ownsMap Tryz.prog 3 (plainElem (H := Unit) Tryz.prog 3) (C0 + 2) (m + 1) (D.put (.int .i64 f.index) (.lit (.int .i64 ((cntF A2 f.index : Nat) + 1 : Int))))) (hg : W.grownBy W' (some (C0 + 2))) : StmJ w w7 C0 W' u A A1 (A2 ++ [f]) := by
  have hz := h.size
  refine ⟨h.bel.grown hg h.bel.size (fun q e => by injection e with e; omega), Nat.le_trans h.size hg.size, fun j h1 h2 h3 h4 => (hg.block j (by omega) (fun e => by injection e with e; exact h4 e)).trans (h.same j h1 h2 h3 h4), (hg.block C0 h.b0.lt (fun e => by injection e with e; omega)).trans h.b0, ?_, ?_, ⟨m + 1, _, by rw [List.length_append]; simp; exact hm, ho, hc.snoc f⟩⟩
  · exact h.o0.kept hg (by
      cases hq : u.ownBlock with
      | none => exact .inl rfl
      | some q => exact .inr (fun e => by injection e with e; have := (h.o0.lt q hq).1; omega))
  · obtain ⟨m, hm, ho⟩ := h.m1
    exact ⟨m, hm, ho.kept hg (fun e => by injection e with e; omega)⟩
/-- what the look-ups in the two maps give -/
theorem StmJ.look2 {w w7 : World} {C0 : Nat} {W : World} {u : Value} {A A1 A2 : List Fr} (h : StmJ w w7 C0 W u A A1 A2) (i : Int) (hi : wf64 i) :
    (Instr.lookup 43 (.map (some (C0 + 2))) (.int .i64 i) false).run Tryz.prog W = .ok (.int .i64 (cntF A2 i : Nat)) W := by
  obtain ⟨m, D, hm, ho, hc⟩ := h.m2
  obtain ⟨c, hrun, hat, _⟩ := ho.lookup_int (Maps.int_keyed Tryz.underlying3) Tryz.underlying43 Tryz.underlying3 (Tryz.zeroValue3 _) (Maps.keyOf_int_mk Tryz.underlying3 (lit_wf64 hi))
  rw [hc.2 i] at hat
  simp only [DataW.lit.injEq, Lit.int.injEq, true_and] at hat
  rw [hat]; exact hrun
theorem plainElem_bool_inv' {P : Program} {e : TypeId} (he : P.underlying e = some .bool) {v : Value} {z : DataW Unit × List MemPlace} (h : plainElem P e v = some z) : ∃ c, v = .bool c ∧ z = (.lit (.bool c), []) := by
  unfold plainElem at h
  rw [he] at h
  cases v <;> simp at h
  exact ⟨_, rfl, h.symm⟩
theorem StmJ.look1 {w w7 : World} {C0 : Nat} {W : World} {u : Value} {A A1 A2 : List Fr} (h : StmJ w w7 C0 W u A A1 A2) (hA : ∀ y ∈ A1.map posF, wf64 y.1 ∧ wf64 y.2) {x : Int × Int} (hx : wf64 x.1 ∧ wf64 x.2) :
    (Instr.lookup 42 (.map (some (C0 + 1))) (.agg #[.int .i64 x.1, .int .i64 x.2]) false).run Tryz.prog W = .ok (.bool (decide (x ∈ A1.map posF))) W := by
  obtain ⟨m, hm, ho⟩ := h.m1
  obtain ⟨v, ps, hrun, hv⟩ := ho.lookup pairKeyed Tryz.underlying42 (Tryz.zeroValue4 _) (plainElem_bool Tryz.underlying4 false) (pair_key hx.1 hx.2)
  obtain ⟨c, rfl, hc⟩ := plainElem_bool_inv' Tryz.underlying4 hv
  rw [setP_at hA hx] at hc
  simp only [Prod.mk.injEq, DataW.lit.injEq, Lit.bool.injEq] at hc
  rw [hc.1]; exact hrun
end Go.Proofs.YtpkapcijgldhhaaGreatDoor
