/-
  A collection in a box of the call's own, with frames of a stream and altered ones, beside two maps.
-/
import Derived.Test.YtpkapcijgldhhaaGreatDoorStmRow
namespace Go.Proofs.YtpkapcijgldhhaaGreatDoor
open Go.RowKit Go.Shelf
theorem bytes_frozenC (w : World) (s : ByteArray) (j : Nat) (h : j < s.size) : (Lib.bytesWorld w 5 s).frozen? ⟨w.heap.size, j, none⟩ = false := by
  have hz : j < (Lib.bytesCells w 5 s).size := by
    have : s.size ≤ (Lib.bytesCells w 5 s).size := by simp [Lib.bytesCells]
    omega
  unfold World.frozen?
  rw [Lib.bytesWorld_at_new]
  simp only [Bool.and_eq_false_iff, decide_eq_false_iff_not]
  exact .inl (by omega)
theorem bytes_set_backC (W : World) (B cap n : Nat) (l : List UInt8) (p q : Nat) (hl : l.length = n) (hp : p < n) (hq : q ≤ 255) (hc : ∀ j, j < n → W.cell? ⟨B, j, none⟩ = some (.int .u8 (l.getD j 0).toNat)) :
    (convert 60 9 (.slice (some ⟨B, 0, none⟩) n cap)).run Tryz.prog (W.setCell ⟨B, p, none⟩ (.int .u8 q)) = .ok (.string (bA' (l.set p (UInt8.ofNat q)))) (W.setCell ⟨B, p, none⟩ (.int .u8 q)) := by
  have := run_convert_bytes_back (W.setCell ⟨B, p, none⟩ (.int .u8 q)) 60 9 5 ⟨B, 0, none⟩ cap (l.set p (UInt8.ofNat q)) Tryz.underlying60 Tryz.underlying5 Tryz.underlying9 (fun j hj => by
    rw [List.length_set, hl] at hj
    rw [Addr.add_mid, Nat.zero_add, List.getElem_set]
    by_cases h : p = j
    · subst h
      rw [if_pos rfl, World.cell?_setCell_same' _ _ _ (by rw [hc p hp]; rfl)]
      rw [UInt8.toNat_ofNat']; congr 3; omega
    · rw [if_neg h, World.cell?_setCell_other _ _ _ _ (fun e => h (by simp at e)), hc j hj, List.getD_eq_getElem?_getD, List.getElem?_eq_getElem (by omega)]; rfl)
  rw [List.length_set, hl] at this
  exact this
set_option maxRecDepth 100000 in
theorem xor_u8C : ∀ a : Fin 256, ∀ c : Fin 8, 0 ≤ bits BinOp.xor IntKind.u8 (a.val : Int) (c.val : Int) ∧ bits BinOp.xor IntKind.u8 (a.val : Int) (c.val : Int) ≤ 255 ∧ (c.val ≠ 0 → bits BinOp.xor IntKind.u8 (a.val : Int) (c.val : Int) ≠ (a.val : Int)) := by decide +kernel
theorem set_ne {l : List UInt8} {p q : Nat} (hp : p < l.length) (hq : q ≤ 255) (h : q ≠ (l.getD p 0).toNat) : bA' (l.set p (UInt8.ofNat q)) ≠ bA' l := fun e => by
  have e1 : (bA' (l.set p (UInt8.ofNat q))).data.toList = (bA' l).data.toList := by rw [e]
  rw [bA'_list, bA'_list] at e1
  have e2 : (l.set p (UInt8.ofNat q)).getD p 0 = l.getD p 0 := by rw [e1]
  rw [List.getD_eq_getElem?_getD, List.getElem?_set_self hp] at e2
  have e3 := congrArg UInt8.toNat e2
  rw [Option.getD_some, UInt8.toNat_ofNat'] at e3
  omega
/-- the collection and the two maps -/
structure CflJ (w3 : World) (C0 : Nat) (W : World) (u : Value) (A E1 E2 : List Fr) : Prop where
  bel : Below w3.heap.size w3 W
  lo : w3.heap.size ≤ C0
  top : C0 + 2 < W.heap.size
  b0 : Box W C0 [.int .u32 1, u] 25
  o0 : OwnG w3.heap.size 46 9 Fr.vals W u A
  ne : ∀ q, u.ownBlock = some q → q ≠ C0 ∧ q ≠ C0 + 1 ∧ q ≠ C0 + 2
  m1 : ∃ m D, m ≤ E1.length ∧ W.ownsMap Tryz.prog 32 (plainElem (H := Unit) Tryz.prog 4) (C0 + 1) m D
  m2 : ∃ m D, m ≤ E2.length ∧ W.ownsMap Tryz.prog 3 (plainElem (H := Unit) Tryz.prog 3) (C0 + 2) m D ∧ CntM D E2
theorem CflJ.go {w3 : World} {C0 : Nat} {W W' : World} {u : Value} {A E1 E2 : List Fr} (h : CflJ w3 C0 W u A E1 E2) (hb : Below W.heap.size W W') : CflJ w3 C0 W' u A E1 E2 := by
  refine ⟨step2 h.bel hb, h.lo, Nat.lt_of_lt_of_le h.top hb.size, h.b0.below hb, owns_below h.o0 hb, h.ne, ?_, ?_⟩
  · obtain ⟨m, D, hm, ho⟩ := h.m1
    exact ⟨m, D, hm, ownsMap_at ho (hb.block _ ho.lt)⟩
  · obtain ⟨m, D, hm, ho, hc⟩ := h.m2
    exact ⟨m, D, hm, ownsMap_at ho (hb.block _ ho.lt), hc⟩
theorem CflJ.app {w3 : World} {C0 : Nat} {W W' : World} {u u' : Value} {A E1 E2 : List Fr} {f : Fr} (h : CflJ w3 C0 W u A E1 E2) (ha : App w3.heap.size C0 W W' u u' A f) : CflJ w3 C0 W' u' (A ++ [f]) E1 E2 := by
  have ht := h.top
  refine ⟨h.bel.trans (ha.bel _ h.lo (Nat.le_refl _)), h.lo, Nat.lt_of_lt_of_le h.top ha.size, ha.bx, ha.ow, fun q hq => ?_, ?_, ?_⟩
  · rcases ha.loc with e | ⟨g, e, hg⟩
    · exact h.ne q (by rw [← e, hq])
    · rw [hq] at e; injection e with e; omega
  · obtain ⟨m, D, hm, ho⟩ := h.m1
    exact ⟨m, D, hm, ha.map ho (by omega) (fun e => (h.ne _ e.symm).2.1 rfl)⟩
  · obtain ⟨m, D, hm, ho, hc⟩ := h.m2
    exact ⟨m, D, hm, ha.map ho (by omega) (fun e => (h.ne _ e.symm).2.2 rfl), hc⟩
theorem CflJ.put1 {w3 : World} {C0 : Nat} {W W' : World} {u : Value} {A E1 E2 : List Fr} {f : Fr} {m : Nat} {D : DataW Unit} (h : CflJ w3 C0 W u A E1 E2) (hm : m ≤ E1.length)
    (ho : W'.ownsMap Tryz.prog 32 (plainElem (H := Unit) Tryz.prog 4) (C0 + 1) (m + 1) D) (hg : W.grownBy W' (some (C0 + 1))) : CflJ w3 C0 W' u A (E1 ++ [f]) E2 := by
  have hlo := h.lo
  have hbs := h.bel.size
  refine ⟨h.bel.grown hg h.bel.size (fun q e => by injection e with e; omega), h.lo, Nat.lt_of_lt_of_le h.top hg.size, (hg.block C0 h.b0.lt (fun e => by injection e with e; omega)).trans h.b0, ?_, h.ne, ⟨m + 1, D, by rw [List.length_append]; simp; exact hm, ho⟩, ?_⟩
  · exact h.o0.kept hg (by
      cases hq : u.ownBlock with
      | none => exact .inl rfl
      | some q => exact .inr (fun e => by injection e with e; exact (h.ne q hq).2.1 e))
  · obtain ⟨m, D, hm, ho, hc⟩ := h.m2
    exact ⟨m, D, hm, ho.kept hg (fun e => by injection e with e; omega), hc⟩
theorem CflJ.put2 {w3 : World} {C0 : Nat} {W W' : World} {u : Value} {A E1 E2 : List Fr} {f : Fr} {m : Nat} {D : DataW Unit} (h : CflJ w3 C0 W u A E1 E2) (hm : m ≤ E2.length) (hc : CntM D E2)
    (ho : W'.ownsMap Tryz.prog 3 (plainElem (H := Unit) Tryz.prog 3) (C0 + 2) (m + 1) (D.put (.int .i64 f.index) (.lit (.int .i64 ((cntF E2 f.index : Nat) + 1 : Int))))) (hg : W.grownBy W' (some (C0 + 2))) : CflJ w3 C0 W' u A E1 (E2 ++ [f]) := by
  have hlo := h.lo
  have hbs := h.bel.size
  refine ⟨h.bel.grown hg h.bel.size (fun q e => by injection e with e; omega), h.lo, Nat.lt_of_lt_of_le h.top hg.size, (hg.block C0 h.b0.lt (fun e => by injection e with e; omega)).trans h.b0, ?_, h.ne, ?_, ⟨m + 1, _, by rw [List.length_append]; simp; exact hm, ho, hc.snoc f⟩⟩
  · exact h.o0.kept hg (by
      cases hq : u.ownBlock with
      | none => exact .inl rfl
      | some q => exact .inr (fun e => by injection e with e; exact (h.ne q hq).2.2 e))
  · obtain ⟨m, D, hm, ho⟩ := h.m1
    exact ⟨m, D, hm, ho.kept hg (fun e => by injection e with e; omega)⟩
/-- a store into another box -/
theorem CflJ.set {w3 : World} {C0 : Nat} {W : World} {u : Value} {A E1 E2 : List Fr} (h : CflJ w3 C0 W u A E1 E2) {B j : Nat} (hB : C0 + 2 < B) (hu : ∀ q, u.ownBlock = some q → q ≠ B) (x : Value) : CflJ w3 C0 (W.setCell ⟨B, j, none⟩ x) u A E1 E2 := by
  have hlo := h.lo
  have hs : ∀ k, k ≠ B → (W.setCell ⟨B, j, none⟩ x).heap[k]? = W.heap[k]? := fun k hk => Below.heap_setCell _ _ _ k (fun e => hk e)
  refine ⟨h.bel.setCell (p := ⟨B, j, none⟩) (by show _ ≤ B; omega) _, h.lo, by simp [World.setCell]; exact h.top, (hs C0 (by omega)).trans h.b0, ?_, h.ne, ?_, ?_⟩
  · refine ⟨h.o0.1, h.o0.2.imp id ?_⟩
    rintro ⟨g, cap, cur, rfl, h2, hh, r⟩
    exact ⟨g, cap, cur, rfl, h2, (hs g (hu g rfl)).trans hh, r⟩
  · obtain ⟨m, D, hm, ho⟩ := h.m1
    exact ⟨m, D, hm, ownsMap_at ho (hs _ (by omega))⟩
  · obtain ⟨m, D, hm, ho, hc⟩ := h.m2
    exact ⟨m, D, hm, ownsMap_at ho (hs _ (by omega)), hc⟩
/-- what the look-ups in the two maps give -/
theorem CflJ.look2 {w3 : World} {C0 : Nat} {W : World} {u : Value} {A E1 E2 : List Fr} (h : CflJ w3 C0 W u A E1 E2) (i : Int) (hi : wf64 i) :
    (Instr.lookup 43 (.map (some (C0 + 2))) (.int .i64 i) false).run Tryz.prog W = .ok (.int .i64 (cntF E2 i : Nat)) W := by
  obtain ⟨m, D, hm, ho, hc⟩ := h.m2
  obtain ⟨c, hrun, hat, _⟩ := ho.lookup_int (Maps.int_keyed Tryz.underlying3) Tryz.underlying43 Tryz.underlying3 (Tryz.zeroValue3 _) (Maps.keyOf_int_mk Tryz.underlying3 (lit_wf64 hi))
  rw [hc.2 i] at hat
  simp only [DataW.lit.injEq, Lit.int.injEq, true_and] at hat
  rw [hat]; exact hrun
theorem CflJ.look1 {w3 : World} {C0 : Nat} {W : World} {u : Value} {A E1 E2 : List Fr} (h : CflJ w3 C0 W u A E1 E2) {x : Int × Int} (hx : wf64 x.1 ∧ wf64 x.2) :
    ∃ c : Bool, (Instr.lookup 42 (.map (some (C0 + 1))) (.agg #[.int .i64 x.1, .int .i64 x.2]) false).run Tryz.prog W = .ok (.bool c) W := by
  obtain ⟨m, D, hm, ho⟩ := h.m1
  obtain ⟨v, ps, hrun, hv⟩ := ho.lookup pairKeyed Tryz.underlying42 (Tryz.zeroValue4 _) (plainElem_bool Tryz.underlying4 false) (pair_key hx.1 hx.2)
  obtain ⟨c, rfl, _⟩ := plainElem_bool_inv' Tryz.underlying4 hv
  exact ⟨c, hrun⟩
end Go.Proofs.YtpkapcijgldhhaaGreatDoor
