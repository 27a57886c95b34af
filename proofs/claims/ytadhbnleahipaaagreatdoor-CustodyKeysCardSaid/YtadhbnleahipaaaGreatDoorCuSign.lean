/-
  Chapter 47: Sign, in the program and in the reference.
-/
import Derived.Test.YtadhbnleahipaaaGreatDoorCuRef
namespace Go.Proofs.YtadhbnleahipaaaGreatDoor
open Go.RowKit
/-! Sign -/
theorem BoxC.frozen {W : World} {B : Nat} {c : Cu} (h : BoxC W B c) (j : Nat) : W.frozen? ⟨B, j, none⟩ = false := by
  unfold World.frozen?
  rw [show W.heap[B]? = _ from h]; simp
theorem BoxC.alloc {W : World} {B : Nat} {c : Cu} (h : BoxC W B c) (o : Obj) : BoxC (W.alloc o) B c := h.below ((below_refl W).alloc (Nat.le_refl _) o)
theorem setCell_block {W : World} {B j : Nat} {cs : Array Value} {t : TypeId} {f : Nat × Nat} (v : Value) (h : W.heap[B]? = some (.cells cs t f)) : (W.setCell ⟨B, j, none⟩ v).heap[B]? = some (.cells (cs.setIfInBounds j v) t f) := by
  obtain ⟨hlt, hk⟩ := Array.getElem?_eq_some_iff.1 h
  show (W.heap.modify B _)[B]? = _
  rw [Array.getElem?_eq_getElem (by rw [Array.size_modify]; exact hlt), Array.getElem_modify_self, hk]
  rfl
/-- a statement is stored in a block -/
def World.putC (W : World) (B : Nat) (c : Cu) : World :=
  ((((W.setCell ⟨B, 0, none⟩ (.string c.root)).setCell ⟨B, 1, none⟩ (.string c.media)).setCell ⟨B, 2, none⟩ (.int .i64 c.fr)).setCell ⟨B, 3, none⟩ (.int .i64 c.un)).setCell ⟨B, 4, none⟩ (.string c.sig)
theorem BoxC.put {W : World} {B : Nat} {c' : Cu} (h : BoxC W B c') (c : Cu) : BoxC (World.putC W B c) B c :=
  setCell_block _ (setCell_block _ (setCell_block _ (setCell_block _ (setCell_block _ h))))
theorem BoxC.putSig {W : World} {B : Nat} {c : Cu} (h : BoxC W B c) (g : ByteArray) : BoxC (W.setCell ⟨B, 4, none⟩ (.string g)) B { c with sig := g } := setCell_block _ h
theorem BoxC.other {W : World} {B B' : Nat} {c : Cu} (h : BoxC W B c) (hne : B ≠ B') (j : Nat) (v : Value) : BoxC (W.setCell ⟨B', j, none⟩ v) B c :=
  (Below.heap_setCell _ _ _ B hne).trans h
theorem below_putC {n B : Nat} {w W : World} (h : Below n w W) (hn : n ≤ B) (c : Cu) : Below n w (World.putC W B c) :=
  ((((h.setCell (p := ⟨B, 0, none⟩) hn _).setCell (p := ⟨B, 1, none⟩) hn _).setCell (p := ⟨B, 2, none⟩) hn _).setCell (p := ⟨B, 3, none⟩) hn _).setCell (p := ⟨B, 4, none⟩) hn _
theorem infoC : (Tryz.prog.info? 29).map (·.size) = some 5 := by kernel_rfl
theorem results_boxC {fn : Func} {p q : Tmp} (h : fn.results = #[.cell p 29, .tmp q]) (tmps : Array Value) (w : World) (B : Nat) (hp : tmps.getD p undef = .pointer (some ⟨B, 0, none⟩)) {c : Cu} (hb : BoxC w B c) :
    (results fn tmps).run Tryz.prog w = .ok (.tuple #[.agg c.vals.toArray, tmps.getD q undef]) w :=
  results_cell_tmp_mid h tmps w B 0 hp c.vals _ (fun j v hv => by rw [Nat.zero_add, hb.cell]; exact hv) Tryz.underlying29 rfl infoC
theorem boxC_facts {W : World} {B : Nat} {c : Cu} (h : BoxC W B c) : W.cell? ⟨B, 0, none⟩ = some (.string c.root) ∧ W.cell? ⟨B, 1, none⟩ = some (.string c.media) ∧ W.cell? ⟨B, 2, none⟩ = some (.int .i64 c.fr) ∧ W.cell? ⟨B, 3, none⟩ = some (.int .i64 c.un) ∧ W.cell? ⟨B, 4, none⟩ = some (.string c.sig) ∧
    W.frozen? ⟨B, 0, none⟩ = false ∧ W.frozen? ⟨B, 1, none⟩ = false ∧ W.frozen? ⟨B, 2, none⟩ = false ∧ W.frozen? ⟨B, 3, none⟩ = false ∧ W.frozen? ⟨B, 4, none⟩ = false :=
  ⟨h.cell 0, h.cell 1, h.cell 2, h.cell 3, h.cell 4, h.frozen 0, h.frozen 1, h.frozen 2, h.frozen 3, h.frozen 4⟩
def signE (c : Cu) (h key : Int) : Int := if c.e ≠ 0 then c.e else treeSignE h key
def signC (c : Cu) (s : List UInt8) (h key : Int) : Cu := if signE c h key ≠ 0 then cu0 else { c with sig := bA (treeSignL s h key c.d) }
def SigP (c : Cu) (x : Int) (w : World) (e : Ending) (w' : World) : Prop := e = .returned (.tuple #[.agg c.vals.toArray, .int .i64 x]) ∧ Below w.heap.size w w'
set_option maxRecDepth 100000 in
set_option maxHeartbeats 2000000 in
theorem cuSign_any (c : Cu) (s : ByteArray) (h key : Int) (w : World) (he : Env w) (hc : CuOk c) (hs : s.size ≤ 1073741824) (hh : -9223372036854775808 ≤ h ∧ h ≤ 9223372036854775807) (hk : -9223372036854775808 ≤ key ∧ key ≤ 9223372036854775807) :
    Calls Tryz.prog 21 #[.agg c.vals.toArray, .string s, .int .i64 h, .int .i64 key] w (SigP (signC c s.data.toList h key) (signE c h key) w) := by
  rw [Cu.vals_arr c]
  have HD := Lib.hid (show ∀ W, Below w.heap.size w W → Calls Tryz.prog 13 #[.agg #[.string c.root, .string c.media, .int .i64 c.fr, .int .i64 c.un, .string c.sig]] W (RootP c.d c.e W) from fun W hW =>
    cuDigest_any c.root c.media c.sig c.fr c.un W (he.below hW) (by have := hc.root; omega) (by have := hc.media; omega) hc.fr hc.un)
  by_cases h0 : c.e = 0
  case neg =>
    have e1 : signE c h key = c.e := by rw [signE, if_pos h0]
    have e2 : signC c s.data.toList h key = cu0 := by rw [signC, if_pos (by rw [e1]; exact h0)]
    rw [e1, e2]
    obtain ⟨x1, x2⟩ := neq0 h0
    clear h0 e1 e2
    generalize c.e = er at *
    go_enter Tryz.func21, Tryz.ntmps21
    have bC := (BoxC.new w c).alloc (.cells cu0.vals.toArray 29)
    have bR := BoxC.new (w.alloc (.cells c.vals.toArray 29)) cu0
    rw [World.size_alloc] at bR
    have hb0 : Below w.heap.size w ((w.alloc (.cells c.vals.toArray 29)).alloc (.cells cu0.vals.toArray 29)) := ((below_refl w).alloc (Nat.le_refl _) _).alloc (by simp) _
    obtain ⟨W0, hW0⟩ : ∃ W0, (w.alloc (.cells c.vals.toArray 29)).alloc (.cells cu0.vals.toArray 29) = W0 := ⟨_, rfl⟩
    rw [hW0] at bC bR hb0
    go_wp2_with fail
    change Calls _ _ _ ((w.alloc (.cells c.vals.toArray 29)).alloc (.cells cu0.vals.toArray 29)) _
    rw [hW0]
    refine (HD.out _ hb0).mono ?_
    rintro e w1 ⟨t, rfl, ht, hb1⟩
    have bR1 := bR.below hb1
    obtain ⟨r0, r1, r2, r3, r4, f0, f1, f2, f3, f4⟩ := boxC_facts bR1
    go_wp2_with fail
    refine bodyPost_ret (results_boxC rfl _ _ _ rfl (bR1.put cu0)) rfl ?_
    exact ⟨rfl, below_putC (hb0.trans (hb1.mono hb0.size)) (Nat.le_succ _) cu0⟩
  case pos =>
    have HT := Lib.hid (show ∀ (W : World) (d : ByteArray), Below w.heap.size w W → d.data.toList = c.d → Calls Tryz.prog 35 #[.string s, .int .i64 h, .int .i64 key, .string d] W (RootP (treeSignL s.data.toList h key c.d) (treeSignE h key) W) from fun W d hW hd => by
      have hdl : d.size ≤ 32 := by rw [← toList_size, hd]; exact cu_dlen _
      have := treeSign_any s h key d W (he.below hW) hs (by omega) hh hk
      rw [hd] at this; exact this)
    rw [h0] at HD
    have e1 : signE c h key = treeSignE h key := by rw [signE, if_neg (by omega)]
    by_cases h1 : treeSignE h key = 0
    case neg =>
      have e2 : signC c s.data.toList h key = cu0 := by rw [signC, if_pos (by rw [e1]; exact h1)]
      rw [e1, e2]
      obtain ⟨x1, x2⟩ := neq0 h1
      clear h0 e1 e2 h1
      generalize treeSignE h key = er at *
      go_enter Tryz.func21, Tryz.ntmps21
      have bC := (BoxC.new w c).alloc (.cells cu0.vals.toArray 29)
      have bR := BoxC.new (w.alloc (.cells c.vals.toArray 29)) cu0
      rw [World.size_alloc] at bR
      have hb0 : Below w.heap.size w ((w.alloc (.cells c.vals.toArray 29)).alloc (.cells cu0.vals.toArray 29)) := ((below_refl w).alloc (Nat.le_refl _) _).alloc (by simp) _
      obtain ⟨W0, hW0⟩ : ∃ W0, (w.alloc (.cells c.vals.toArray 29)).alloc (.cells cu0.vals.toArray 29) = W0 := ⟨_, rfl⟩
      rw [hW0] at bC bR hb0
      go_wp2_with fail
      change Calls _ _ _ ((w.alloc (.cells c.vals.toArray 29)).alloc (.cells cu0.vals.toArray 29)) _
      rw [hW0]
      refine (HD.out _ hb0).mono ?_
      rintro e w1 ⟨t, rfl, ht, hb1⟩
      have hb01 := hb0.trans (hb1.mono hb0.size)
      have bR1 := bR.below hb1
      go_wp2_with fail
      refine (HT.out _ t hb01 ht.out).mono ?_
      rintro e w2 ⟨g, rfl, hg, hb2⟩
      have bR2 := bR1.below hb2
      obtain ⟨r0, r1, r2, r3, r4, f0, f1, f2, f3, f4⟩ := boxC_facts bR2
      go_wp2_with fail
      refine bodyPost_ret (results_boxC rfl _ _ _ rfl (bR2.put cu0)) rfl ?_
      exact ⟨rfl, below_putC (hb01.trans (hb2.mono hb01.size)) (Nat.le_succ _) cu0⟩
    case pos =>
      have e2 : signC c s.data.toList h key = { c with sig := bA (treeSignL s.data.toList h key c.d) } := by rw [signC, if_neg (by rw [e1]; omega)]
      rw [e1, e2, h1]
      rw [h1] at HT
      clear h0 e1 e2 h1
      go_enter Tryz.func21, Tryz.ntmps21
      have bC := (BoxC.new w c).alloc (.cells cu0.vals.toArray 29)
      have bR := BoxC.new (w.alloc (.cells c.vals.toArray 29)) cu0
      rw [World.size_alloc] at bR
      have hb0 : Below w.heap.size w ((w.alloc (.cells c.vals.toArray 29)).alloc (.cells cu0.vals.toArray 29)) := ((below_refl w).alloc (Nat.le_refl _) _).alloc (by simp) _
      obtain ⟨W0, hW0⟩ : ∃ W0, (w.alloc (.cells c.vals.toArray 29)).alloc (.cells cu0.vals.toArray 29) = W0 := ⟨_, rfl⟩
      rw [hW0] at bC bR hb0
      go_wp2_with fail
      change Calls _ _ _ ((w.alloc (.cells c.vals.toArray 29)).alloc (.cells cu0.vals.toArray 29)) _
      rw [hW0]
      refine (HD.out _ hb0).mono ?_
      rintro e w1 ⟨t, rfl, ht, hb1⟩
      have hb01 := hb0.trans (hb1.mono hb0.size)
      have bR1 := bR.below hb1
      have bC1 := bC.below hb1
      go_wp2_with fail
      refine (HT.out _ t hb01 ht.out).mono ?_
      rintro e w2 ⟨g, rfl, hg, hb2⟩
      have bR2 := bR1.below hb2
      have bC2 := bC1.below hb2
      obtain ⟨r0, r1, r2, r3, r4, f0, f1, f2, f3, f4⟩ := boxC_facts bR2
      obtain ⟨q0, q1, q2, q3, q4, k0, k1, k2, k3, k4⟩ := boxC_facts bC2
      obtain rfl : g = bA (treeSignL s.data.toList h key c.d) := lit_of hg.out
      generalize bA (treeSignL s.data.toList h key c.d) = g at *
      clear hg HT HD
      go_wp2_with fail
      refine bodyPost_ret (results_boxC rfl _ _ _ rfl ((bR2.other (B' := w.heap.size) (by omega) 4 (.string g)).put { c with sig := g })) rfl ?_
      exact ⟨rfl, below_putC ((hb01.trans (hb2.mono hb01.size)).setCell (p := ⟨w.heap.size, 4, none⟩) (Nat.le_refl _) _) (Nat.le_succ _) { c with sig := g }⟩
set_option maxRecDepth 100000 in
set_option maxHeartbeats 2000000 in
theorem cuSignR_any (c : Cu) (s : ByteArray) (h key : Int) (w : World) (hc : CuOk c) (hs : s.size ≤ 1073741824) (hh : -9223372036854775808 ≤ h ∧ h ≤ 9223372036854775807) (hk : -9223372036854775808 ≤ key ∧ key ≤ 9223372036854775807) :
    Calls Tryz.prog 22 #[.agg c.vals.toArray, .string s, .int .i64 h, .int .i64 key] w (SigP (signC c s.data.toList h key) (signE c h key) w) := by
  rw [Cu.vals_arr c]
  have HD := Lib.hid (show ∀ W, Below w.heap.size w W → Calls Tryz.prog 14 #[.agg #[.string c.root, .string c.media, .int .i64 c.fr, .int .i64 c.un, .string c.sig]] W (RootP c.d c.e W) from fun W _ =>
    cuDigestR_any c.root c.media c.sig c.fr c.un W (by have := hc.root; omega) (by have := hc.media; omega) hc.fr hc.un)
  by_cases h0 : c.e = 0
  case neg =>
    have e1 : signE c h key = c.e := by rw [signE, if_pos h0]
    have e2 : signC c s.data.toList h key = cu0 := by rw [signC, if_pos (by rw [e1]; exact h0)]
    rw [e1, e2]
    obtain ⟨x1, x2⟩ := neq0 h0
    clear h0 e1 e2
    generalize c.e = er at *
    go_enter Tryz.func22, Tryz.ntmps22
    have bC := (BoxC.new w c).alloc (.cells cu0.vals.toArray 29)
    have bR := BoxC.new (w.alloc (.cells c.vals.toArray 29)) cu0
    rw [World.size_alloc] at bR
    have hb0 : Below w.heap.size w ((w.alloc (.cells c.vals.toArray 29)).alloc (.cells cu0.vals.toArray 29)) := ((below_refl w).alloc (Nat.le_refl _) _).alloc (by simp) _
    obtain ⟨W0, hW0⟩ : ∃ W0, (w.alloc (.cells c.vals.toArray 29)).alloc (.cells cu0.vals.toArray 29) = W0 := ⟨_, rfl⟩
    rw [hW0] at bC bR hb0
    go_wp2_with fail
    change Calls _ _ _ ((w.alloc (.cells c.vals.toArray 29)).alloc (.cells cu0.vals.toArray 29)) _
    rw [hW0]
    refine (HD.out _ hb0).mono ?_
    rintro e w1 ⟨t, rfl, ht, hb1⟩
    have bR1 := bR.below hb1
    obtain ⟨r0, r1, r2, r3, r4, f0, f1, f2, f3, f4⟩ := boxC_facts bR1
    go_wp2_with fail
    refine bodyPost_ret (results_boxC rfl _ _ _ rfl (bR1.put cu0)) rfl ?_
    exact ⟨rfl, below_putC (hb0.trans (hb1.mono hb0.size)) (Nat.le_succ _) cu0⟩
  case pos =>
    have HT := Lib.hid (show ∀ (W : World) (d : ByteArray), Below w.heap.size w W → d.data.toList = c.d → Calls Tryz.prog 36 #[.string s, .int .i64 h, .int .i64 key, .string d] W (RootP (treeSignL s.data.toList h key c.d) (treeSignE h key) W) from fun W d _ hd => by
      have hdl : d.size ≤ 32 := by rw [← toList_size, hd]; exact cu_dlen _
      have := treeSignR_any s h key d W hs (by omega) hh hk
      rw [hd] at this; exact this)
    rw [h0] at HD
    have e1 : signE c h key = treeSignE h key := by rw [signE, if_neg (by omega)]
    by_cases h1 : treeSignE h key = 0
    case neg =>
      have e2 : signC c s.data.toList h key = cu0 := by rw [signC, if_pos (by rw [e1]; exact h1)]
      rw [e1, e2]
      obtain ⟨x1, x2⟩ := neq0 h1
      clear h0 e1 e2 h1
      generalize treeSignE h key = er at *
      go_enter Tryz.func22, Tryz.ntmps22
      have bC := (BoxC.new w c).alloc (.cells cu0.vals.toArray 29)
      have bR := BoxC.new (w.alloc (.cells c.vals.toArray 29)) cu0
      rw [World.size_alloc] at bR
      have hb0 : Below w.heap.size w ((w.alloc (.cells c.vals.toArray 29)).alloc (.cells cu0.vals.toArray 29)) := ((below_refl w).alloc (Nat.le_refl _) _).alloc (by simp) _
      obtain ⟨W0, hW0⟩ : ∃ W0, (w.alloc (.cells c.vals.toArray 29)).alloc (.cells cu0.vals.toArray 29) = W0 := ⟨_, rfl⟩
      rw [hW0] at bC bR hb0
      go_wp2_with fail
      change Calls _ _ _ ((w.alloc (.cells c.vals.toArray 29)).alloc (.cells cu0.vals.toArray 29)) _
      rw [hW0]
      refine (HD.out _ hb0).mono ?_
      rintro e w1 ⟨t, rfl, ht, hb1⟩
      have hb01 := hb0.trans (hb1.mono hb0.size)
      have bR1 := bR.below hb1
      go_wp2_with fail
      refine (HT.out _ t hb01 ht.out).mono ?_
      rintro e w2 ⟨g, rfl, hg, hb2⟩
      have bR2 := bR1.below hb2
      obtain ⟨r0, r1, r2, r3, r4, f0, f1, f2, f3, f4⟩ := boxC_facts bR2
      go_wp2_with fail
      refine bodyPost_ret (results_boxC rfl _ _ _ rfl (bR2.put cu0)) rfl ?_
      exact ⟨rfl, below_putC (hb01.trans (hb2.mono hb01.size)) (Nat.le_succ _) cu0⟩
    case pos =>
      have e2 : signC c s.data.toList h key = { c with sig := bA (treeSignL s.data.toList h key c.d) } := by rw [signC, if_neg (by rw [e1]; omega)]
      rw [e1, e2, h1]
      rw [h1] at HT
      clear h0 e1 e2 h1
      go_enter Tryz.func22, Tryz.ntmps22
      have bC := (BoxC.new w c).alloc (.cells cu0.vals.toArray 29)
      have bR := BoxC.new (w.alloc (.cells c.vals.toArray 29)) cu0
      rw [World.size_alloc] at bR
      have hb0 : Below w.heap.size w ((w.alloc (.cells c.vals.toArray 29)).alloc (.cells cu0.vals.toArray 29)) := ((below_refl w).alloc (Nat.le_refl _) _).alloc (by simp) _
      obtain ⟨W0, hW0⟩ : ∃ W0, (w.alloc (.cells c.vals.toArray 29)).alloc (.cells cu0.vals.toArray 29) = W0 := ⟨_, rfl⟩
      rw [hW0] at bC bR hb0
      go_wp2_with fail
      change Calls _ _ _ ((w.alloc (.cells c.vals.toArray 29)).alloc (.cells cu0.vals.toArray 29)) _
      rw [hW0]
      refine (HD.out _ hb0).mono ?_
      rintro e w1 ⟨t, rfl, ht, hb1⟩
      have hb01 := hb0.trans (hb1.mono hb0.size)
      have bR1 := bR.below hb1
      have bC1 := bC.below hb1
      go_wp2_with fail
      refine (HT.out _ t hb01 ht.out).mono ?_
      rintro e w2 ⟨g, rfl, hg, hb2⟩
      have bR2 := bR1.below hb2
      have bC2 := bC1.below hb2
      obtain ⟨r0, r1, r2, r3, r4, f0, f1, f2, f3, f4⟩ := boxC_facts bR2
      obtain ⟨q0, q1, q2, q3, q4, k0, k1, k2, k3, k4⟩ := boxC_facts bC2
      obtain rfl : g = bA (treeSignL s.data.toList h key c.d) := lit_of hg.out
      generalize bA (treeSignL s.data.toList h key c.d) = g at *
      clear hg HT HD
      go_wp2_with fail
      refine bodyPost_ret (results_boxC rfl _ _ _ rfl ((bR2.other (B' := w.heap.size) (by omega) 4 (.string g)).put { c with sig := g })) rfl ?_
      exact ⟨rfl, below_putC ((hb01.trans (hb2.mono hb01.size)).setCell (p := ⟨w.heap.size, 4, none⟩) (Nat.le_refl _) _) (Nat.le_succ _) { c with sig := g }⟩
/-! the law Checks -/
structure CuWf (c : Cu) : Prop where
  root : c.root.size ≤ 9223372036854775807
  media : c.media.size ≤ 9223372036854775807
  sig : c.sig.size ≤ 9223372036854775807
  fr : -9223372036854775808 ≤ c.fr ∧ c.fr ≤ 9223372036854775807
  un : -9223372036854775808 ≤ c.un ∧ c.un ≤ 9223372036854775807
theorem cu0_wf : CuWf cu0 := ⟨by decide, by decide, by decide, by decide, by decide⟩
theorem cusWf_of {L : List Cu} (h : ∀ c ∈ L, CuWf c) (j : Nat) : CuWf (cuAt L j) := by
  by_cases hj : j < L.length
  · rw [cuAt_get hj]; exact h _ (List.getElem_mem hj)
  · rw [cuAt, List.getD_eq_getElem?_getD, List.getElem?_eq_none (by omega)]; exact cu0_wf
theorem cusOk_small {L : List Cu} (hw : ∀ j, CuWf (cuAt L j)) (h : ∀ i, i < L.length → CuSmall (cuAt L i)) : CusOk L := by
  intro j
  by_cases hj : j < L.length
  · obtain ⟨h1, h2, h3⟩ := h j hj
    exact ⟨by omega, by omega, by omega, (hw j).fr, (hw j).un⟩
  · have := hw j
    rw [cuAt, List.getD_eq_getElem?_getD, List.getElem?_eq_none (by omega)]
    exact ⟨by decide, by decide, by decide, by decide, by decide⟩
end Go.Proofs.YtadhbnleahipaaaGreatDoor
