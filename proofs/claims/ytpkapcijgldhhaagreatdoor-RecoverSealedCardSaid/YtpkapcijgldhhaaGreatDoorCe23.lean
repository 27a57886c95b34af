/-
  The walk of entry.Decode: the checks' panics caught at the door.
-/
import Derived.Test.YtpkapcijgldhhaaGreatDoorCe10
import Derived.Test.YtpkapcijgldhhaaGreatDoorCe12
import Derived.Test.YtpkapcijgldhhaaGreatDoorCe13
import Derived.BigRegion
namespace Go.Proofs.YtpkapcijgldhhaaGreatDoor
open Go.RowKit Go.Shelf

def w4 (w : World) (a : Int) : World := (((w.alloc (.cells #[.int .i64 a] 3)).alloc (.cells #[.int .i64 0, .string ⟨#[]⟩, .slice none 0 0, .string ⟨#[]⟩, .int .i64 0, .string ⟨#[]⟩, .slice none 0 0] 109)).alloc (.cells #[.int .i64 0] 3)).alloc (.cells #[.int .i64 0] 28)
theorem w4_parts (w : World) (a : Int) : Below w.heap.size w (w4 w a) ∧ Box (w4 w a) w.heap.size [.int .i64 a] 3 ∧ Box (w4 w a) (w.heap.size + 1) zeroE 109 ∧ Box (w4 w a) (w.heap.size + 1 + 1) [.int .i64 0] 3 ∧ Box (w4 w a) (w.heap.size + 1 + 2) [.int .i64 0] 28 ∧ (w4 w a).heap.size = w.heap.size + 4 := by
  have a1 := Box.new w [.int .i64 a] 3
  have s1 := size_one w (.cells #[.int .i64 a] 3)
  obtain ⟨W1, h1⟩ : ∃ W1, w.alloc (.cells #[.int .i64 a] 3) = W1 := ⟨_, rfl⟩
  have k1 : Below w.heap.size w W1 := h1 ▸ (below_refl w).alloc (Nat.le_refl _) _
  have a2 := Box.new W1 zeroE 109
  have s2 := size_one W1 (.cells zeroE.toArray 109)
  obtain ⟨W2, h2⟩ : ∃ W2, W1.alloc (.cells zeroE.toArray 109) = W2 := ⟨_, rfl⟩
  have k2 : Below W1.heap.size W1 W2 := h2 ▸ (below_refl W1).alloc (Nat.le_refl _) _
  have a3 := Box.new W2 [.int .i64 0] 3
  have s3 := size_one W2 (.cells #[.int .i64 0] 3)
  obtain ⟨W3, h3⟩ : ∃ W3, W2.alloc (.cells #[.int .i64 0] 3) = W3 := ⟨_, rfl⟩
  have k3 : Below W2.heap.size W2 W3 := h3 ▸ (below_refl W2).alloc (Nat.le_refl _) _
  have a4 := Box.new W3 [.int .i64 0] 28
  have s4 := size_one W3 (.cells #[.int .i64 0] 28)
  obtain ⟨W4, h4⟩ : ∃ W4, W3.alloc (.cells #[.int .i64 0] 28) = W4 := ⟨_, rfl⟩
  have k4 : Below W3.heap.size W3 W4 := h4 ▸ (below_refl W3).alloc (Nat.le_refl _) _
  have e : w4 w a = W4 := by rw [← h4, ← h3, ← h2, ← h1]; rfl
  rw [e]
  change Box (w.alloc (.cells #[.int .i64 a] 3)) _ _ _ at a1
  change Box (W1.alloc (.cells zeroE.toArray 109)) _ _ _ at a2
  change Box (W2.alloc (.cells #[.int .i64 0] 3)) _ _ _ at a3
  change Box (W3.alloc (.cells #[.int .i64 0] 28)) _ _ _ at a4
  rw [h1] at a1 s1; rw [h2] at a2 s2; rw [h3] at a3 s3; rw [h4] at a4 s4
  have m1 : W1.heap.size = w.heap.size + 1 := by omega
  have m2 : W2.heap.size = w.heap.size + 1 + 1 := by omega
  have m3 : W3.heap.size = w.heap.size + 1 + 2 := by omega
  rw [m1] at a2; rw [m2] at a3; rw [m3] at a4
  exact ⟨step2 (step2 (step2 k1 k2) k3) k4, ((a1.below k2).below k3).below k4, (a2.below k3).below k4, a3.below k4, a4, by omega⟩
theorem RdAt.setLow {W : World} {s : ByteArray} {aB B E j : Nat} {a : Int} (h : RdAt W s aB B a) (hE1 : aB ≠ E) (hE2 : E < B) (v : Value) : RdAt (W.setCell ⟨E, j, none⟩ v) s aB B a := by
  have hl := h.lt
  have ha := h.la
  exact ⟨(cell_setOther (by omega) v).trans h.cs, (cell_setOther (by omega) v).trans h.pa, (cell_setOther (by omega) v).trans h.nu, (cell_setOther (by omega) v).trans h.mu, (cell_setOther (by omega) v).trans h.ca,
    (World.frozen?_setCell _ _ _ _).trans h.fz, by simpa using hl, ha⟩
theorem RdAt.low7 {W : World} {s : ByteArray} {aB B E : Nat} {a : Int} (h : RdAt W s aB B a) (hE1 : aB ≠ E) (hE2 : E < B) (u0 u1 u2 u3 u4 u5 u6 : Value) : RdAt (((((((W.setCell ⟨E, 0, none⟩ u0).setCell ⟨E, 1, none⟩ u1).setCell ⟨E, 2, none⟩ u2).setCell ⟨E, 3, none⟩ u3).setCell ⟨E, 4, none⟩ u4).setCell ⟨E, 5, none⟩ u5).setCell ⟨E, 6, none⟩ u6) s aB B a :=
  (RdAt.setLow (j := 6) (RdAt.setLow (j := 5) (RdAt.setLow (j := 4) (RdAt.setLow (j := 3) (RdAt.setLow (j := 2) (RdAt.setLow (j := 1) (RdAt.setLow (j := 0) h hE1 hE2 u0) hE1 hE2 u1) hE1 hE2 u2) hE1 hE2 u3) hE1 hE2 u4) hE1 hE2 u5) hE1 hE2 u6)
theorem owns_set7 {W : World} {base E : Nat} {e T : TypeId} {size n : Nat} {v : Value} {xs : List Value} {v0 v1 v2 v3 v4 v5 v6 : Value} (h : W.ownsRow base e size v n xs) (hb : Box W E [v0, v1, v2, v3, v4, v5, v6] T) (hT : T ≠ e) (u0 u1 u2 u3 u4 u5 u6 : Value) : (((((((W.setCell ⟨E, 0, none⟩ u0).setCell ⟨E, 1, none⟩ u1).setCell ⟨E, 2, none⟩ u2).setCell ⟨E, 3, none⟩ u3).setCell ⟨E, 4, none⟩ u4).setCell ⟨E, 5, none⟩ u5).setCell ⟨E, 6, none⟩ u6).ownsRow base e size v n xs :=
  (owns_set (owns_set (owns_set (owns_set (owns_set (owns_set (owns_set h ⟨E, 0, none⟩ u0 hb hT) ⟨E, 1, none⟩ u1 (Box.set (j := 0) hb u0) hT) ⟨E, 2, none⟩ u2 (Box.set (j := 1) (Box.set (j := 0) hb u0) u1) hT) ⟨E, 3, none⟩ u3 (Box.set (j := 2) (Box.set (j := 1) (Box.set (j := 0) hb u0) u1) u2) hT) ⟨E, 4, none⟩ u4 (Box.set (j := 3) (Box.set (j := 2) (Box.set (j := 1) (Box.set (j := 0) hb u0) u1) u2) u3) hT) ⟨E, 5, none⟩ u5 (Box.set (j := 4) (Box.set (j := 3) (Box.set (j := 2) (Box.set (j := 1) (Box.set (j := 0) hb u0) u1) u2) u3) u4) hT) ⟨E, 6, none⟩ u6 (Box.set (j := 5) (Box.set (j := 4) (Box.set (j := 3) (Box.set (j := 2) (Box.set (j := 1) (Box.set (j := 0) hb u0) u1) u2) u3) u4) u5) hT)
theorem txt_iff {l u : List UInt8} {a b : Int} (h : txt l a = .ok (u, b)) : Reads l a (strL u) b := by
  unfold txt at h
  split at h
  · rename_i h0
    simp only [Except.ok.injEq, Prod.mk.injEq] at h
    refine rdStr_iff.1 ?_
    rw [← h.1, ← h.2, ← h0]
  · cases h
theorem txt_len {l u : List UInt8} {a b : Int} (h : txt l a = .ok (u, b)) : u.length ≤ l.length := by
  obtain ⟨A, _, _, h1, _⟩ := txt_iff h
  rw [strL_length] at h1
  omega
theorem owns_belowN {W W' : World} {base N : Nat} {e : TypeId} {size m c n : Nat} {ax : Option Addr} {xs : List Value} (h : W.ownsRow base e size (.slice ax m c) n xs) (hp : ∀ p, ax = some p → p.block < N) (hb : Below N W W') : W'.ownsRow base e size (.slice ax m c) n xs := by
  refine ⟨h.1, ?_⟩
  rcases h.2 with h2 | ⟨g, cap, cur, hv, hg, hh, r⟩
  · exact .inl h2
  · have hgN : g < N := by
      cases hv
      exact hp _ rfl
    exact .inr ⟨g, cap, cur, hv, hg, (hb.block g hgN).trans hh, r⟩
theorem owns_lt {W : World} {base : Nat} {e : TypeId} {size : Nat} {m c n : Nat} {ax : Option Addr} {xs : List Value} (h : W.ownsRow base e size (.slice ax m c) n xs) : ∀ p, ax = some p → p.block < W.heap.size := by
  intro p hp
  rcases h.2 with ⟨hv, _⟩ | ⟨g, cap, cur, hv, hg, hh, r⟩
  · cases hv; cases hp
  · cases hv; cases hp
    exact (Array.getElem?_eq_some_iff.1 hh).1
theorem leaves_congr {P : Program} {fn : Func} {tmps tmps' : Array Value} {R : Ending → World → Prop} (h : results fn tmps = results fn tmps') : ∀ (ds : List Deferred) (u : FrameMode) (w : World), Leaves P fn tmps R ds u w → Leaves P fn tmps' R ds u w
  | [], .returning, w, ⟨v, h1, h2⟩ => ⟨v, by rw [← h]; exact h1, h2⟩
  | [], .panicking _, _, h1 => h1
  | [], .run, _, h1 => h1
  | d :: ds, u, w, ⟨h1, fv, cap, f, args, h2, h3, h4⟩ => ⟨h1, fv, cap, f, args, h2, h3, h4.mono fun e u' w' h5 => by
      cases e with
      | returned v => exact leaves_congr h ds _ _ h5
      | panicked c => exact leaves_congr h ds _ _ h5
      | outgrown => exact h5⟩
theorem results_put (tmps : Array Value) {d : Nat} (v : Value) (hd : 6 < d) : results Tryz.f98 (tmps.setIfInBounds d v) = results Tryz.f98 tmps := by
  have h4 : (tmps.setIfInBounds d v)[4]? = tmps[4]? := by rw [Array.getElem?_setIfInBounds, if_neg (by omega)]
  have h5 : (tmps.setIfInBounds d v)[5]? = tmps[5]? := by rw [Array.getElem?_setIfInBounds, if_neg (by omega)]
  have h6 : (tmps.setIfInBounds d v)[6]? = tmps[6]? := by rw [Array.getElem?_setIfInBounds, if_neg (by omega)]
  simp [results, Tryz.results98, h4, h5, h6]
theorem leaves_put {R : Ending → World → Prop} {a : Act} {d : Nat} {v : Value} {ds : List Deferred} {u : FrameMode} {w : World} (hd : 6 < d) (h : Leaves Tryz.prog Tryz.f98 (a.put (some d) v).tmps R ds u w) : Leaves Tryz.prog Tryz.f98 a.tmps R ds u w :=
  leaves_congr (results_put a.tmps v hd) ds u w h
theorem owns_drew {w : World} {base : Nat} {e : TypeId} {size : Nat} {v : Value} {n : Nat} {xs : List Value} (h : w.ownsRow base e size v n xs) : w.drew.ownsRow base e size v n xs := h
def NoPan (Q : Exit → Act → World → Prop) : Exit → Act → World → Prop
  | .panic _, _, _ => False
  | e, a, w => Q e a w
theorem noPan_le {Q : Exit → Act → World → Prop} {e : Exit} {a : Act} {w : World} (h : NoPan Q e a w) : Q e a w := by
  cases e <;> first | exact h | exact absurd h id
theorem infoEx : (Tryz.prog.info? 34).map (fun i => (i.zero, i.size, i.bytes)) = some (some (.agg #[.int .i64 0, .int .i64 0, .int .i64 0]), 3, 24) := by kernel_rfl
theorem cell_int3 (w : World) (a b c : Int) (T : TypeId) (j : Nat) (x : Value) (h : [Value.int .i64 a, .int .i64 b, .int .i64 c][j]? = some x) : (w.alloc (.cells #[.int .i64 a, .int .i64 b, .int .i64 c] T)).cell? ((⟨w.heap.size, 0, none⟩ : Addr).add j) = some x := by
  rw [Addr.add_mid, Nat.zero_add, alloc_new_cell]; simpa using h
set_option maxRecDepth 100000 in
set_option maxHeartbeats 2000000 in
theorem decode_walk (s : ByteArray) (a : Int) (w : World) (he : Env w) (hm : HasMax w) (hs : s.size ≤ 1000000) (hal : -9223372036854775808 ≤ a) (hau : a ≤ 9223372036854775807) : Calls Tryz.prog 98 #[.string s, .int .i64 a] w (DecQ (decA s a) w) := by
  have eg2 := enters_of Tryz.func177 (by kernel_rfl) rfl
  have eg3 := enters_of Tryz.func178 (by kernel_rfl) rfl
  have eg4 := enters_of Tryz.func179 (by kernel_rfl) rfl
  have hmf : ∀ (fn : Fn) (first cap : Array Value) (w : World), (Instr.makeFunc fn first cap).run Tryz.prog w = .ok (.func fn first cap) w := fun _ _ _ _ => rfl
  have HE := Lib.hid (show ∀ W, Below w.heap.size w W → Env W from fun W hW => he.below hW)
  have HM := Lib.hid (show ∀ W, Below w.heap.size w W → HasMax W from fun W hW => hm.below hW)
  clear he hm
  go_enter_defers Tryz.func98, Tryz.ntmps98
  go_upto_region 1 with (fail)
  obtain ⟨kb, ba, bD, bN, bX, hsz⟩ := w4_parts w a
  change Code.wp _ _ _ _ (w4 w a)
  generalize w4 w a = W0 at *
  have ca : W0.cell? ⟨w.heap.size, 0, none⟩ = some (.int .i64 a) := ba.cell 0
  have fa := ba.frozen 0
  by_cases hbad : a < 0 ∨ (s.size : Int) < a
  · have hr : decA s a = .error 1 := if_pos hbad
    have d0 : W0.cell? ⟨w.heap.size + 1, 0, none⟩ = some (.int .i64 0) := bD.cell 0
    have d1 : W0.cell? ⟨w.heap.size + 1, 1, none⟩ = some (.string ⟨#[]⟩) := bD.cell 1
    have d2 : W0.cell? ⟨w.heap.size + 1, 2, none⟩ = some (.slice none 0 0) := bD.cell 2
    have d3 : W0.cell? ⟨w.heap.size + 1, 3, none⟩ = some (.string ⟨#[]⟩) := bD.cell 3
    have d4 : W0.cell? ⟨w.heap.size + 1, 4, none⟩ = some (.int .i64 0) := bD.cell 4
    have d5 : W0.cell? ⟨w.heap.size + 1, 5, none⟩ = some (.string ⟨#[]⟩) := bD.cell 5
    have d6 : W0.cell? ⟨w.heap.size + 1, 6, none⟩ = some (.slice none 0 0) := bD.cell 6
    have d7 : W0.cell? ⟨w.heap.size + 1 + 1, 0, none⟩ = some (.int .i64 0) := bN.cell 0
    have d8 : W0.cell? ⟨w.heap.size + 1 + 2, 0, none⟩ = some (.int .i64 0) := bX.cell 0
    have y0 := bD.frozen 0
    have y1 := bD.frozen 1
    have y2 := bD.frozen 2
    have y3 := bD.frozen 3
    have y4 := bD.frozen 4
    have y5 := bD.frozen 5
    have y6 := bD.frozen 6
    have y7 := bN.frozen 0
    have y8 := bX.frozen 0
    rcases hbad with h0 | h1
    · go_wp2_with fail
      have n1 : w.heap.size + 1 ≠ w.heap.size + 1 + 1 := by omega
      have n2 : w.heap.size + 1 ≠ w.heap.size + 1 + 2 := by omega
      have n3 : w.heap.size + 1 + 1 ≠ w.heap.size + 1 + 2 := by omega
      have b1 := ((bD.set7 (.int .i64 0) (.string ⟨#[]⟩) (.slice none 0 0) (.string ⟨#[]⟩) (.int .i64 0) (.string ⟨#[]⟩) (.slice none 0 0)).setOther (j := 0) (E' := w.heap.size + 1 + 1) n1.symm (.int .i64 0)).setOther (j := 0) (E' := w.heap.size + 1 + 2) n2.symm (.int .i64 1)
      have b2 := ((bN.other7 n1 (.int .i64 0) (.string ⟨#[]⟩) (.slice none 0 0) (.string ⟨#[]⟩) (.int .i64 0) (.string ⟨#[]⟩) (.slice none 0 0)).set (j := 0) (.int .i64 0)).setOther (j := 0) (E' := w.heap.size + 1 + 2) n3.symm (.int .i64 1)
      have b3 := ((bX.other7 n2 (.int .i64 0) (.string ⟨#[]⟩) (.slice none 0 0) (.string ⟨#[]⟩) (.int .i64 0) (.string ⟨#[]⟩) (.slice none 0 0)).setOther (j := 0) (E' := w.heap.size + 1 + 1) n3 (.int .i64 0)).set (j := 0) (.int .i64 1)
      have kb' := ((below_set7 kb (show w.heap.size ≤ w.heap.size + 1 by omega) (.int .i64 0) (.string ⟨#[]⟩) (.slice none 0 0) (.string ⟨#[]⟩) (.int .i64 0) (.string ⟨#[]⟩) (.slice none 0 0)).setCell (p := ⟨w.heap.size + 1 + 1, 0, none⟩) (show w.heap.size ≤ w.heap.size + 1 + 1 by omega) (.int .i64 0)).setCell (p := ⟨w.heap.size + 1 + 2, 0, none⟩) (show w.heap.size ≤ w.heap.size + 1 + 2 by omega) (.int .i64 1)
      refine ⟨_, res_any _ b1 b2 b3 rfl rfl rfl, ?_⟩
      try rw [hr]
      exact ⟨rfl, kb'⟩
    · have h0 : ¬ a < 0 := by omega
      go_wp2_with fail
      have n1 : w.heap.size + 1 ≠ w.heap.size + 1 + 1 := by omega
      have n2 : w.heap.size + 1 ≠ w.heap.size + 1 + 2 := by omega
      have n3 : w.heap.size + 1 + 1 ≠ w.heap.size + 1 + 2 := by omega
      have b1 := ((bD.set7 (.int .i64 0) (.string ⟨#[]⟩) (.slice none 0 0) (.string ⟨#[]⟩) (.int .i64 0) (.string ⟨#[]⟩) (.slice none 0 0)).setOther (j := 0) (E' := w.heap.size + 1 + 1) n1.symm (.int .i64 0)).setOther (j := 0) (E' := w.heap.size + 1 + 2) n2.symm (.int .i64 1)
      have b2 := ((bN.other7 n1 (.int .i64 0) (.string ⟨#[]⟩) (.slice none 0 0) (.string ⟨#[]⟩) (.int .i64 0) (.string ⟨#[]⟩) (.slice none 0 0)).set (j := 0) (.int .i64 0)).setOther (j := 0) (E' := w.heap.size + 1 + 2) n3.symm (.int .i64 1)
      have b3 := ((bX.other7 n2 (.int .i64 0) (.string ⟨#[]⟩) (.slice none 0 0) (.string ⟨#[]⟩) (.int .i64 0) (.string ⟨#[]⟩) (.slice none 0 0)).setOther (j := 0) (E' := w.heap.size + 1 + 1) n3 (.int .i64 0)).set (j := 0) (.int .i64 1)
      have kb' := ((below_set7 kb (show w.heap.size ≤ w.heap.size + 1 by omega) (.int .i64 0) (.string ⟨#[]⟩) (.slice none 0 0) (.string ⟨#[]⟩) (.int .i64 0) (.string ⟨#[]⟩) (.slice none 0 0)).setCell (p := ⟨w.heap.size + 1 + 1, 0, none⟩) (show w.heap.size ≤ w.heap.size + 1 + 1 by omega) (.int .i64 0)).setCell (p := ⟨w.heap.size + 1 + 2, 0, none⟩) (show w.heap.size ≤ w.heap.size + 1 + 2 by omega) (.int .i64 1)
      refine ⟨_, res_any _ b1 b2 b3 rfl rfl rfl, ?_⟩
      try rw [hr]
      exact ⟨rfl, kb'⟩
  have HR := Lib.hid (show decA s a = dc1 s.data.toList (txt s.data.toList a) from (if_neg hbad).trans (decR_steps _ _))
  have h0 : ¬ a < 0 := fun h => hbad (.inl h)
  have h1 : ¬ (s.size : Int) < a := fun h => hbad (.inr h)
  clear hbad
  go_upto_region 4 with (fail)
  obtain ⟨B, hB⟩ : ∃ B, W0.heap.size = B := ⟨_, rfl⟩
  have HRD := Lib.hid (readerB_any s w.heap.size a W0 B hB ca fa)
  have hBl : w.heap.size + 3 < B := by omega
  clear ca fa hB hsz h0 h1
  go_wp2_with fail
  refine HRD.out.mono ?_
  rintro e W1 ⟨rfl, hr1, hb1⟩
  have kb1 : Below w.heap.size w W1 := kb.trans (hb1.mono (by omega))
  have bD1 := bD.below' hb1 (by omega)
  have bN1 := bN.below' hb1 (by omega)
  have bX1 := bX.below' hb1 (by omega)
  clear kb ba bD bN bX hb1 HRD
  have KB := Lib.hid (show ∀ W W', Below w.heap.size w W → Keep w.heap.size W W' → Below w.heap.size w W' from fun W W' h1 h2 => h1.trans h2.1)
  rcases hx : txt s.data.toList a with x | ⟨h, b1⟩
  · have HC := Lib.hid (txt_no' hx hr1 (HE.out _ kb1) (by omega))
    have HR2 : Hid (decA s a = .error x) := by rw [Hid, HR.out, hx]; rfl
    clear hx HR hr1
    go_wp2_with fail
    refine HC.out.mono ?_
    rintro e W2 ⟨rfl, hk2⟩
    exact leave_no HR2.out (KB.out _ _ kb1 hk2) (Nat.le_succ _) (bD1.keep hk2 (by omega)) rfl (bN1.keep hk2 (by omega)) (bX1.keep hk2 (by omega)) rfl rfl rfl
  have HC := Lib.hid (txt_ok' hx hr1 (HE.out _ kb1) (by omega))
  have HR2 : Hid (decA s a = dc2 s.data.toList b1 (headR h)) := by rw [Hid, HR.out, hx]; rfl
  have hlen : (bA' h).size ≤ 1000000 := by
    have q := txt_len hx
    have q1 : (bA' h).size = h.length := rfl
    have q2 : s.data.toList.length = s.size := rfl
    omega
  have HL1 : Hid (h.length ≤ 1000000) := Lib.hid (show h.length ≤ 1000000 from hlen)
  clear hx HR hr1
  go_wp2_with fail
  refine HC.out.mono ?_
  rintro e W2 ⟨rfl, hr2, hk2⟩
  have kb2 := KB.out _ _ kb1 hk2
  have bD2 := bD1.keep hk2 (by omega)
  have bN2 := bN1.keep hk2 (by omega)
  have bX2 := bX1.keep hk2 (by omega)
  clear HC kb1 bD1 bN1 bX1 hk2
  have HH := head_walk (bA' h) W2 (HE.out _ kb2) hlen
  rw [bA'_list] at HH
  clear hlen
  rcases hx : headR h with x | y
  · rw [hx] at HH
    have HR3 : Hid (decA s a = .error x) := by rw [Hid, HR2.out, hx]; rfl
    replace HH := Lib.hid HH
    clear hx HR2 hr2
    go_wp2_with fail
    refine HH.out.mono ?_
    rintro e W3 ⟨rfl, hb3⟩
    exact leave_no HR3.out (step2 kb2 hb3) (Nat.le_succ _) (bD2.below hb3) rfl (bN2.below hb3) (bX2.below hb3) rfl rfl rfl
  rw [hx] at HH
  have HR3 : Hid (decA s a = dc3 s.data.toList y (nmb s.data.toList b1)) := by rw [Hid, HR2.out, hx]; rfl
  replace HH := Lib.hid HH
  have HK1 := Lib.hid hx
  have d0 : W2.cell? ⟨w.heap.size + 1, 0, none⟩ = some (.int .i64 0) := bD2.cell 0
  clear hx HR2
  go_wp2_with fail
  refine HH.out.mono ?_
  rintro e W3 ⟨va, rfl, ha, hb3⟩
  obtain ⟨ax, cx, rfl⟩ := (OwnG.row (n := 2) (f := At.vals) (d := at0) (fun _ => rfl) ha).form
  have h2s : w.heap.size < W2.heap.size := by have := hr2.lt; omega
  have hr3 := hr2.below hb3
  have kb3 := step2 kb2 hb3
  have bD3 := bD2.below hb3
  have bN3 := bN2.below hb3
  have bX3 := bX2.below hb3
  clear HH hr2 kb2 bD2 bN2 bX2 hb3 d0
  have d0 : W3.cell? ⟨w.heap.size + 1, 0, none⟩ = some (.int .i64 0) := bD3.cell 0
  have y0 := bD3.frozen 0
  have d1 : W3.cell? ⟨w.heap.size + 1, 1, none⟩ = some (.string ⟨#[]⟩) := bD3.cell 1
  have y1 := bD3.frozen 1
  have d2 : W3.cell? ⟨w.heap.size + 1, 2, none⟩ = some (.slice none 0 0) := bD3.cell 2
  have y2 := bD3.frozen 2
  have d3 : W3.cell? ⟨w.heap.size + 1, 3, none⟩ = some (.string ⟨#[]⟩) := bD3.cell 3
  have y3 := bD3.frozen 3
  have d4 : W3.cell? ⟨w.heap.size + 1, 4, none⟩ = some (.int .i64 0) := bD3.cell 4
  have y4 := bD3.frozen 4
  have d5 : W3.cell? ⟨w.heap.size + 1, 5, none⟩ = some (.string ⟨#[]⟩) := bD3.cell 5
  have y5 := bD3.frozen 5
  have d6 : W3.cell? ⟨w.heap.size + 1, 6, none⟩ = some (.slice none 0 0) := bD3.cell 6
  have y6 := bD3.frozen 6
  go_upto_region 6 with (fail)
  have bD4 := bD3.set7 (.int .i64 y.kind) (.string y.path) (.slice ax y.attrs.length cx) (.string y.target) (.int .i64 0) (.string ⟨#[]⟩) (.slice none 0 0)
  have bN4 := bN3.other7 (E := w.heap.size + 1) (by omega) (.int .i64 y.kind) (.string y.path) (.slice ax y.attrs.length cx) (.string y.target) (.int .i64 0) (.string ⟨#[]⟩) (.slice none 0 0)
  have bX4 := bX3.other7 (E := w.heap.size + 1) (by omega) (.int .i64 y.kind) (.string y.path) (.slice ax y.attrs.length cx) (.string y.target) (.int .i64 0) (.string ⟨#[]⟩) (.slice none 0 0)
  have hr4 := hr3.low7 (E := w.heap.size + 1) (by omega) (by omega) (.int .i64 y.kind) (.string y.path) (.slice ax y.attrs.length cx) (.string y.target) (.int .i64 0) (.string ⟨#[]⟩) (.slice none 0 0)
  have own4 := owns_set7 ha bD3 (by decide) (.int .i64 y.kind) (.string y.path) (.slice ax y.attrs.length cx) (.string y.target) (.int .i64 0) (.string ⟨#[]⟩) (.slice none 0 0)
  have kb4 := below_set7 kb3 (show w.heap.size ≤ w.heap.size + 1 by omega) (.int .i64 y.kind) (.string y.path) (.slice ax y.attrs.length cx) (.string y.target) (.int .i64 0) (.string ⟨#[]⟩) (.slice none 0 0)
  clear d0 d1 d2 d3 d4 d5 d6 y0 y1 y2 y3 y4 y5 y6 hr3 kb3 bD3 bN3 bX3 ha
  obtain ⟨W4, hW4⟩ : ∃ W4, (((((((W3.setCell ⟨w.heap.size + 1, 0, none⟩ (.int .i64 y.kind)).setCell ⟨w.heap.size + 1, 1, none⟩ (.string y.path)).setCell ⟨w.heap.size + 1, 2, none⟩ (.slice ax y.attrs.length cx)).setCell ⟨w.heap.size + 1, 3, none⟩ (.string y.target)).setCell ⟨w.heap.size + 1, 4, none⟩ (.int .i64 0)).setCell ⟨w.heap.size + 1, 5, none⟩ (.string ⟨#[]⟩)).setCell ⟨w.heap.size + 1, 6, none⟩ (.slice none 0 0)) = W4 := ⟨_, rfl⟩
  change Code.wp _ _ _ _ (((((((W3.setCell ⟨w.heap.size + 1, 0, none⟩ (.int .i64 y.kind)).setCell ⟨w.heap.size + 1, 1, none⟩ (.string y.path)).setCell ⟨w.heap.size + 1, 2, none⟩ (.slice ax y.attrs.length cx)).setCell ⟨w.heap.size + 1, 3, none⟩ (.string y.target)).setCell ⟨w.heap.size + 1, 4, none⟩ (.int .i64 0)).setCell ⟨w.heap.size + 1, 5, none⟩ (.string ⟨#[]⟩)).setCell ⟨w.heap.size + 1, 6, none⟩ (.slice none 0 0))
  rw [hW4] at bD4 bN4 bX4 hr4 own4 kb4 ⊢
  clear hW4
  rcases hx : nmb s.data.toList b1 with x | ⟨z, b2⟩
  · have HC := Lib.hid (num_no hx hr4 (HE.out _ kb4) (by omega))
    have HR4 : Hid (decA s a = .error x) := by rw [Hid, HR3.out, hx]; rfl
    clear hx HR3 hr4
    go_wp2_with fail
    refine HC.out.mono ?_
    rintro e W5 ⟨rfl, hk5⟩
    exact leave_no HR4.out (KB.out _ _ kb4 hk5) (Nat.le_succ _) (bD4.keep hk5 (by omega)) rfl (bN4.keep hk5 (by omega)) (bX4.keep hk5 (by omega)) rfl rfl rfl
  have HC := Lib.hid (num_ok hx hr4 (HE.out _ kb4) (by omega))
  have HR4 : Hid (decA s a = dc4 s.data.toList y z (txt s.data.toList b2)) := by rw [Hid, HR3.out, hx]; rfl
  have HK2 := Lib.hid hx
  clear hx HR3 hr4
  go_wp2_with fail
  refine HC.out.mono ?_
  rintro e W5 ⟨rfl, hr5, hk5⟩
  have kb5 := KB.out _ _ kb4 hk5
  have bD5 := bD4.keep hk5 (by omega)
  have bN5 := bN4.keep hk5 (by omega)
  have bX5 := bX4.keep hk5 (by omega)
  have own5 := owns_keep own4 hk5 h2s
  have d4 : W5.cell? ⟨w.heap.size + 1, 4, none⟩ = some (.int .i64 0) := bD5.cell 4
  have y4 := bD5.frozen 4
  clear HC kb4 bD4 bN4 bX4 own4 hk5
  go_upto_region 7 with (fail)
  have bD6 := bD5.set (j := 4) (.int .i64 z)
  have bN6 := bN5.setOther (E' := w.heap.size + 1) (j := 4) (by omega) (.int .i64 z)
  have bX6 := bX5.setOther (E' := w.heap.size + 1) (j := 4) (by omega) (.int .i64 z)
  have hr6 := hr5.setLow (E := w.heap.size + 1) (j := 4) (by omega) (by omega) (.int .i64 z)
  have own6 := owns_set own5 ⟨w.heap.size + 1, 4, none⟩ (.int .i64 z) bD5 (by decide)
  have kb6 := kb5.setCell (p := ⟨w.heap.size + 1, 4, none⟩) (show w.heap.size ≤ w.heap.size + 1 by omega) (.int .i64 z)
  simp only [List.set_cons_zero, List.set_cons_succ] at bD6
  clear d4 y4 hr5 kb5 bD5 bN5 bX5 own5
  obtain ⟨W6, hW6⟩ : ∃ W6, W5.setCell ⟨w.heap.size + 1, 4, none⟩ (.int .i64 z) = W6 := ⟨_, rfl⟩
  change Code.wp _ _ _ _ (W5.setCell ⟨w.heap.size + 1, 4, none⟩ (.int .i64 z))
  rw [hW6] at bD6 bN6 bX6 hr6 own6 kb6 ⊢
  clear hW6
  rcases hx : txt s.data.toList b2 with x | ⟨g, b3⟩
  · have HC := Lib.hid (txt_no' hx hr6 (HE.out _ kb6) (by omega))
    have HR5 : Hid (decA s a = .error x) := by rw [Hid, HR4.out, hx]; rfl
    clear hx HR4 hr6
    go_wp2_with fail
    refine HC.out.mono ?_
    rintro e W7 ⟨rfl, hk7⟩
    exact leave_no HR5.out (KB.out _ _ kb6 hk7) (Nat.le_succ _) (bD6.keep hk7 (by omega)) rfl (bN6.keep hk7 (by omega)) (bX6.keep hk7 (by omega)) rfl rfl rfl
  have HC := Lib.hid (txt_ok' hx hr6 (HE.out _ kb6) (by omega))
  have HR5 : Hid (decA s a = dc5 s.data.toList y z g (cnt 65536 s.data.toList b3)) := by rw [Hid, HR4.out, hx]; rfl
  have HL2 : Hid (g.length ≤ 1000000) := by
    have q := txt_len hx
    have q2 : s.data.toList.length = s.size := rfl
    exact Lib.hid (show g.length ≤ 1000000 by omega)
  clear hx HR4 hr6
  go_wp2_with fail
  refine HC.out.mono ?_
  rintro e W7 ⟨rfl, hr7, hk7⟩
  have kb7 := KB.out _ _ kb6 hk7
  have bD7 := bD6.keep hk7 (by omega)
  have bN7 := bN6.keep hk7 (by omega)
  have bX7 := bX6.keep hk7 (by omega)
  have own7 := owns_keep own6 hk7 h2s
  have d5 : W7.cell? ⟨w.heap.size + 1, 5, none⟩ = some (.string ⟨#[]⟩) := bD7.cell 5
  have y5 := bD7.frozen 5
  clear HC kb6 bD6 bN6 bX6 own6 hk7
  go_upto_region 8 with (fail)
  have bD8 := bD7.set (j := 5) (.string (bA' g))
  have bN8 := bN7.setOther (E' := w.heap.size + 1) (j := 5) (by omega) (.string (bA' g))
  have bX8 := bX7.setOther (E' := w.heap.size + 1) (j := 5) (by omega) (.string (bA' g))
  have hr8 := hr7.setLow (E := w.heap.size + 1) (j := 5) (by omega) (by omega) (.string (bA' g))
  have own8 := owns_set own7 ⟨w.heap.size + 1, 5, none⟩ (.string (bA' g)) bD7 (by decide)
  have kb8 := kb7.setCell (p := ⟨w.heap.size + 1, 5, none⟩) (show w.heap.size ≤ w.heap.size + 1 by omega) (.string (bA' g))
  simp only [List.set_cons_zero, List.set_cons_succ] at bD8
  clear d5 y5 hr7 kb7 bD7 bN7 bX7 own7
  obtain ⟨W8, hW8⟩ : ∃ W8, W7.setCell ⟨w.heap.size + 1, 5, none⟩ (.string (bA' g)) = W8 := ⟨_, rfl⟩
  change Code.wp _ _ _ _ (W7.setCell ⟨w.heap.size + 1, 5, none⟩ (.string (bA' g)))
  rw [hW8] at bD8 bN8 bX8 hr8 own8 kb8 ⊢
  clear hW8
  rcases hx : cnt 65536 s.data.toList b3 with x | ⟨M', b4⟩
  · have HC := Lib.hid (cnt_no' hx hr8 (HE.out _ kb8) (by omega))
    have HR6 : Hid (decA s a = .error x) := by rw [Hid, HR5.out, hx]; rfl
    clear hx HR5 hr8
    go_wp2_with fail
    refine HC.out.mono ?_
    rintro e W9 ⟨rfl, hk9⟩
    exact leave_no HR6.out (KB.out _ _ kb8 hk9) (Nat.le_succ _) (bD8.keep hk9 (by omega)) rfl (bN8.keep hk9 (by omega)) (bX8.keep hk9 (by omega)) rfl rfl rfl
  have HC := Lib.hid (cnt_ok' hx hr8 (HE.out _ kb8) (by omega))
  have HR6 : Hid (decA s a = dc6 y z g (rowR (exR s.data.toList) b4 M'.toNat)) := by rw [Hid, HR5.out, hx]; rfl
  obtain ⟨_, hM0, hM4⟩ := cnt_ok_parts hx
  have HOK : Hid (∀ X f, rowR (exR s.data.toList) b4 M'.toNat = .ok (X, f) → EnOk (enOf y z g X)) := Lib.hid fun X f hX => dec_small HK1.out HL1.out HK2.out HL2.out hx (by omega) hX
  clear hx HK1 HL1 HK2 HL2 HR5 hr8
  go_wp2_with fail
  refine HC.out.mono ?_
  rintro e W9 ⟨rfl, hr9, hk9⟩
  have kb9 := KB.out _ _ kb8 hk9
  have bD9 := bD8.keep hk9 (by omega)
  have bN9 := bN8.keep hk9 (by omega)
  have bX9 := bX8.keep hk9 (by omega)
  have own9 := owns_keep own8 hk9 h2s
  clear HC kb8 bD8 bN8 bX8 own8 hk9
  obtain ⟨M, rfl⟩ := Int.eq_ofNat_of_zero_le hM0
  rw [Int.toNat_natCast] at HR6 HOK
  go_wp2_with fail
  have hax := owns_lt own9
  have hl9 := hr9.lt
  obtain ⟨N, hN⟩ : ∃ N, W9.heap.size = N := ⟨_, rfl⟩
  rw [hN] at hax hl9
  have hown0 : OwnG N 34 3 Ex.vals W9 (.slice none 0 0) [] := World.ownsRow_nil _ _ _ _
  have hNs : N ≤ W9.heap.size := by omega
  go_loopw [10, 11, 40] (fun _ _ i wr => ∃ (k : Nat) (X : List Ex) (b : Int) (vx : Value), k ≤ M ∧ i = .int .i64 k ∧ X.length = k ∧ Hid (rowR (exR s.data.toList) b4 k = .ok (X, b)) ∧ RdAt wr s w.heap.size B b ∧ Below w.heap.size w wr ∧ N ≤ wr.heap.size ∧
      Box wr (w.heap.size + 1) [.int .i64 y.kind, .string y.path, .slice ax y.attrs.length cx, .string y.target, .int .i64 z, .string (bA' g), vx] 109 ∧
      Box wr (w.heap.size + 1 + 1) [.int .i64 0] 3 ∧ Box wr (w.heap.size + 1 + 2) [.int .i64 0] 28 ∧ OwnG W2.heap.size 192 2 At.vals wr (.slice ax y.attrs.length cx) y.attrs ∧ OwnG N 34 3 Ex.vals wr vx X) (fun _ _ i _ => M - (intOf i).toNat)
  case atStart => exact ⟨0, [], b4, _, by omega, rfl, rfl, rfl, hr9, kb9, hNs, bD9, bN9, bX9, own9, hown0⟩
  case round =>
    obtain ⟨k, X, b, vx, hk, rfl, rfl, hrow, hr, kb, hNr, bDr, bNr, bXr, ownA, ownX⟩ := hrel
    clear hr9 kb9 hNs bD9 bN9 bX9 own9 hown0 hN
    obtain ⟨xx, xc, rfl⟩ := (OwnG.row (n := 3) (f := Ex.vals) (d := ex0) (fun _ => rfl) ownX).form
    by_cases hlt : X.length < M
    · rcases hx : nmb s.data.toList b with x | ⟨u, b5⟩
      · have HC := Lib.hid (num_no hx hr (HE.out _ kb) (by omega))
        have HR7 : Hid (decA s a = .error x) := by rw [Hid, HR6.out, rowR_stop hrow.out (exR_e1 hx) M hlt]; rfl
        clear hx HR6 hr
        go_wp2_with fail
        refine HC.out.mono ?_
        rintro e W10 ⟨rfl, hk10⟩
        exact leave_no HR7.out (KB.out _ _ kb hk10) (Nat.le_succ _) (bDr.keep hk10 (by omega)) rfl (bNr.keep hk10 (by omega)) (bXr.keep hk10 (by omega)) rfl rfl rfl
      have HC := Lib.hid (num_ok hx hr (HE.out _ kb) (by omega))
      have HX1 := Lib.hid hx
      clear hx hr
      go_wp2_with fail
      refine HC.out.mono ?_
      rintro e W10 ⟨rfl, hr10, hk10⟩
      have kb10 := KB.out _ _ kb hk10
      have bD10 := bDr.keep hk10 (by omega)
      have bN10 := bNr.keep hk10 (by omega)
      have bX10 := bXr.keep hk10 (by omega)
      have ownA10 := owns_keep ownA hk10 h2s
      have ownX10 : OwnG N 34 3 Ex.vals W10 (.slice xx X.length xc) X := owns_keep ownX hk10 (by omega)
      have hN10 : N ≤ W10.heap.size := Nat.le_trans hNr hk10.1.size
      clear HC kb bDr bNr bXr ownA ownX hNr hk10
      rcases hx : nmb s.data.toList b5 with x | ⟨v, b6⟩
      · have HC := Lib.hid (num_no hx hr10 (HE.out _ kb10) (by omega))
        have HR7 : Hid (decA s a = .error x) := by rw [Hid, HR6.out, rowR_stop hrow.out (exR_e2 HX1.out hx) M hlt]; rfl
        clear hx HR6 hr10
        go_wp2_with fail
        refine HC.out.mono ?_
        rintro e W11 ⟨rfl, hk11⟩
        exact leave_no HR7.out (KB.out _ _ kb10 hk11) (Nat.le_succ _) (bD10.keep hk11 (by omega)) rfl (bN10.keep hk11 (by omega)) (bX10.keep hk11 (by omega)) rfl rfl rfl
      have HC := Lib.hid (num_ok hx hr10 (HE.out _ kb10) (by omega))
      have HX2 := Lib.hid hx
      clear hx hr10
      go_wp2_with fail
      refine HC.out.mono ?_
      rintro e W11 ⟨rfl, hr11, hk11⟩
      have kb11 := KB.out _ _ kb10 hk11
      have bD11 := bD10.keep hk11 (by omega)
      have bN11 := bN10.keep hk11 (by omega)
      have bX11 := bX10.keep hk11 (by omega)
      have ownA11 := owns_keep ownA10 hk11 h2s
      have ownX11 : OwnG N 34 3 Ex.vals W11 (.slice xx X.length xc) X := owns_keep ownX10 hk11 (by omega)
      have hN11 : N ≤ W11.heap.size := Nat.le_trans hN10 hk11.1.size
      clear HC kb10 bD10 bN10 bX10 ownA10 ownX10 hN10 hk11
      have hd11 : Below W11.heap.size W11 W11.drew := below_drew0 (below_refl W11)
      go_upto_region 11 with (fail)
      rcases hx : nmb s.data.toList b6 with x | ⟨t, b7⟩
      · have HC := Lib.hid (num_no hx (hr11.below hd11) (HE.out _ (step2 kb11 hd11)) (by omega))
        have HR7 : Hid (decA s a = .error x) := by rw [Hid, HR6.out, rowR_stop hrow.out (exR_e3 HX1.out HX2.out hx) M hlt]; rfl
        have e2 : W11.cell? ⟨w.heap.size + 1, 6, none⟩ = some (.slice xx X.length xc) := bD11.cell 6
        have kb12 := step2 kb11 hd11
        have bD12 := bD11.below hd11
        have bN12 := bN11.below hd11
        have bX12 := bX11.below hd11
        clear hx HR6 hr11
        refine wp_region_any (by kernel_rfl) ?_
        change wpAny _ _ _ _ _ _ _ (World.drew _)
        refine wpAny_take (i := 0) (v := ?_) rfl (by kernel_rfl) (by kernel_rfl) (by kernel_rfl) (fun c a' w' h => show Leaves Tryz.prog Tryz.f98 a'.tmps (DecQ (decA s a) w) a'.defers (.panicking c) w' from leaves_put (by decide) h) (Or.inl ⟨by rfl, ?_⟩) ?_
        rotate_left
        · intro w
          go_simp
          with_reducible rfl
        refine wpAny_take (i := 2) (v := ?_) rfl (by kernel_rfl) (by kernel_rfl) (by kernel_rfl) (fun c a' w' h => show Leaves Tryz.prog Tryz.f98 a'.tmps (DecQ (decA s a) w) a'.defers (.panicking c) w' from leaves_put (by decide) h) (Or.inl ⟨by rfl, ?_⟩) ?_
        rotate_left
        · intro w
          go_simp
          with_reducible rfl
        refine wpAny_take (i := 3) (v := ?_) rfl (by kernel_rfl) (by kernel_rfl) (by kernel_rfl) (fun c a' w' h => show Leaves Tryz.prog Tryz.f98 a'.tmps (DecQ (decA s a) w) a'.defers (.panicking c) w' from leaves_put (by decide) h) (Or.inl ⟨by rfl, ?_⟩) ?_
        rotate_left
        · intro w
          go_simp
          with_reducible rfl
        refine wpAny_take (i := 4) (v := ?_) rfl (by kernel_rfl) (by kernel_rfl) (by kernel_rfl) (fun c a' w' h => show Leaves Tryz.prog Tryz.f98 a'.tmps (DecQ (decA s a) w) a'.defers (.panicking c) w' from leaves_put (by decide) h) (Or.inl ⟨by rfl, ?_⟩) ?_
        rotate_left
        · intro w
          go_simp
          with_reducible rfl
        refine wpAny_ready (rs := [1, 5]) (by kernel_rfl) (by simp) ?_
        refine AllReady.cons rfl (fun K hK => ?_) ?_
        · go_simp
          refine hK _ _ ?_
          clear hK K
          refine wpAny_ready (rs := [5]) (by kernel_rfl) (by simp) ?_
          refine AllReady.cons rfl (fun K hK => ?_) AllReady.nil
          go_simp
          go_at_call 177
          refine HC.out.mono ?_
          rintro e W12 ⟨rfl, hk12⟩
          exact leave_no HR7.out (KB.out _ _ kb12 hk12) (Nat.le_succ _) (bD12.keep hk12 (by omega)) rfl (bN12.keep hk12 (by omega)) (bX12.keep hk12 (by omega)) rfl rfl rfl
        · refine AllReady.cons rfl (fun K hK => ?_) AllReady.nil
          go_simp
          go_at_call 177
          refine HC.out.mono ?_
          rintro e W12 ⟨rfl, hk12⟩
          exact leave_no HR7.out (KB.out _ _ kb12 hk12) (Nat.le_succ _) (bD12.keep hk12 (by omega)) rfl (bN12.keep hk12 (by omega)) (bX12.keep hk12 (by omega)) rfl rfl rfl
      have HC := Lib.hid (num_ok hx (hr11.below hd11) (HE.out _ (step2 kb11 hd11)) (by omega))
      have HNX := Lib.hid (rowR_next hrow.out (exR_o HX1.out HX2.out hx))
      have e2 : W11.cell? ⟨w.heap.size + 1, 6, none⟩ = some (.slice xx X.length xc) := bD11.cell 6
      have bDd := bD11.below hd11
      have bNd := bN11.below hd11
      have bXd := bX11.below hd11
      have ownAd := owns_below ownA11 hd11
      have ownXd : OwnG N 34 3 Ex.vals W11.drew (.slice xx X.length xc) X := owns_below ownX11 hd11
      have kbd := step2 kb11 hd11
      have hNd : N ≤ W11.drew.heap.size := Nat.le_trans hN11 hd11.size
      clear hx hr11 bD11 bN11 bX11 ownA11 ownX11 kb11 hN11 HX1 HX2
      obtain ⟨i0, hi, hz0, hz1, hz2⟩ := info_parts infoEx
      refine wp_mono (Q := NoPan _) ?_ (fun _ _ _ h => noPan_le h)
      go_region_law (first
        | (go_simp; go_at_call 177; refine HC.out.mono ?_; rintro e W12 ⟨rfl, hr12, hk12⟩; have kb12 := KB.out _ _ kbd hk12; have bD12 := bDd.keep hk12 (by omega); have bN12 := bNd.keep hk12 (by omega); have bX12 := bXd.keep hk12 (by omega); have ownA12 := owns_keep ownAd hk12 h2s; have ownX12 := owns_keep ownXd hk12 (by omega); have hN12 : N ≤ W12.heap.size := Nat.le_trans hNd hk12.1.size; have e2b : W12.cell? ⟨w.heap.size + 1, 6, none⟩ = some (.slice xx X.length xc) := bD12.cell 6; have hEl := bD12.lt)
        | (refine step_append_own rfl (.tmp 47) (.tmp 53) 107 rfl N 34 i0 (.agg #[.int .i64 0, .int .i64 0, .int .i64 0]) 3 24 Tryz.underlying107 hi hz0 hz1 hz2 rfl (by decide) _ _ _ (by simp [Act.eval]) (ownX12.alloc _) ⟨W12.heap.size, 0, none⟩ 1 1 [.int .i64 u, .int .i64 v, .int .i64 t] (by simp [Act.eval]) rfl (fun j x h => cell_int3 W12 u v t _ j x h) (fun q hq => by rw [List.mem_cons, List.mem_cons, List.mem_singleton] at hq; rcases hq with rfl | rfl | rfl <;> rfl) (by unfold maxLen; omega) (by omega) (by simp; omega) ?_; intro a4 c4 W13 own13 hg4; have bD13 := (bD12.below ((below_refl W12).alloc (Nat.le_refl _) _)).below' hg4.out (by omega); have e2c : W13.cell? ⟨w.heap.size + 1, 6, none⟩ = some (.slice xx X.length xc) := bD13.cell 6; have f2c := bD13.frozen 6))
      all_goals
        have hba : Below W12.heap.size W12 (W12.alloc (.cells #[.int .i64 u, .int .i64 v, .int .i64 t] 34)) := (below_refl W12).alloc (Nat.le_refl _) _
        have hr13 := (hr12.below hba).belowN hg4.out hl9
        have kb13 := (kb12.alloc kb12.size (.cells #[.int .i64 u, .int .i64 v, .int .i64 t] 34)).trans (hg4.out.mono (by omega))
        have bN13 := (bN12.below hba).below' hg4.out (by omega)
        have bX13 := (bX12.below hba).below' hg4.out (by omega)
        have ownA13 := owns_belowN (owns_below ownA12 hba) hax hg4.out
        have hN13 : N ≤ W13.heap.size := Nat.le_trans hN12 (Nat.le_trans hba.size hg4.out.size)
        have ownX13 : OwnG N 34 3 Ex.vals W13 (.slice a4 (X.length + 1) c4) (X ++ [⟨u, v, t⟩]) := by
          rw [OwnG, List.length_append, List.flatMap_append]; exact own13
        have hr14 := hr13.setLow (j := 6) (E := w.heap.size + 1) (by omega) (by omega) (.slice a4 (X.length + 1) c4)
        have kb14 := kb13.setCell (p := ⟨w.heap.size + 1, 6, none⟩) (show w.heap.size ≤ w.heap.size + 1 by omega) (.slice a4 (X.length + 1) c4)
        have bN14 := bN13.setOther (j := 6) (E' := w.heap.size + 1) (by omega) (.slice a4 (X.length + 1) c4)
        have bX14 := bX13.setOther (j := 6) (E' := w.heap.size + 1) (by omega) (.slice a4 (X.length + 1) c4)
        have bD14 := bD13.set (j := 6) (.slice a4 (X.length + 1) c4)
        have ownA14 := owns_set ownA13 ⟨w.heap.size + 1, 6, none⟩ (.slice a4 (X.length + 1) c4) bD13 (by decide)
        have ownX14 := owns_set ownX13 ⟨w.heap.size + 1, 6, none⟩ (.slice a4 (X.length + 1) c4) bD13 (by decide)
        have hN14 : N ≤ (W13.setCell ⟨w.heap.size + 1, 6, none⟩ (.slice a4 (X.length + 1) c4)).heap.size := by simpa using hN13
        simp only [List.set_cons_zero, List.set_cons_succ] at bD14
        clear hr12 kb12 bD12 bN12 bX12 ownA12 ownX12 hN12 e2b hEl own13 hg4 bD13 e2c f2c hba hr13 kb13 bN13 bX13 ownA13 hN13 ownX13 bDd bNd bXd ownAd ownXd kbd hNd HC hrow
        simp only [NoPan, Exit.inBlock, Exit.then]
        go_wp2_with fail
        go_roundw
        case rel => exact ⟨X.length + 1, X ++ [Ex.mk u v t], b7, _, by omega, by go_num, by simp, HNX, hr14, kb14, hN14, bD14, bN14, bX14, ownA14, ownX14⟩
        case measure => simp [intOf]; omega
    · obtain rfl : M = X.length := by omega
      have hok := HOK.out _ _ hrow.out
      have HR7 : Hid (decA s a = dc7 (enOf y z g X) b) := by rw [Hid, HR6.out, hrow.out]; rfl
      have HA : AtRow wr (.slice ax y.attrs.length cx) y.attrs := OwnG.row (n := 2) (f := At.vals) (d := at0) (fun _ => rfl) ownA
      have HXr : ExRow wr (.slice xx X.length xc) X := OwnG.row (n := 3) (f := Ex.vals) (d := ex0) (fun _ => rfl) ownX
      have HCk := Lib.hid (check_any (enOf y z g X) (.slice ax y.attrs.length cx) (.slice xx X.length xc) wr (HE.out _ kb) (HM.out _ kb) HA HXr hok)
      change Hid (Calls _ _ #[.agg #[.int .i64 y.kind, .string y.path, .slice ax y.attrs.length cx, .string y.target, .int .i64 z, .string (bA' g), .slice xx X.length xc]] _ _) at HCk
      have d0 : wr.cell? ⟨w.heap.size + 1, 0, none⟩ = some (.int .i64 y.kind) := bDr.cell 0
      have d1 : wr.cell? ⟨w.heap.size + 1, 1, none⟩ = some (.string y.path) := bDr.cell 1
      have d2 : wr.cell? ⟨w.heap.size + 1, 2, none⟩ = some (.slice ax y.attrs.length cx) := bDr.cell 2
      have d3 : wr.cell? ⟨w.heap.size + 1, 3, none⟩ = some (.string y.target) := bDr.cell 3
      have d4 : wr.cell? ⟨w.heap.size + 1, 4, none⟩ = some (.int .i64 z) := bDr.cell 4
      have d5 : wr.cell? ⟨w.heap.size + 1, 5, none⟩ = some (.string (bA' g)) := bDr.cell 5
      have d6 : wr.cell? ⟨w.heap.size + 1, 6, none⟩ = some (.slice xx X.length xc) := bDr.cell 6
      clear hok HOK HR6 hrow hax
      go_wp2_with fail
      refine HCk.out.mono ?_
      rintro e W10 ⟨rfl, hb10⟩
      have kb10 := step2 kb hb10
      have bD10 := bDr.below hb10
      have bN10 := bNr.below hb10
      have bX10 := bXr.below hb10
      have ownA10 := owns_below ownA hb10
      have ownX10 := owns_below ownX hb10
      have hr10 := hr.below hb10
      clear HCk d0 d1 d2 d3 d4 d5 d6 kb hr bDr bNr bXr HA HXr hb10 hNr ownA ownX
      have y0 := bD10.frozen 0
      have y1 := bD10.frozen 1
      have y2 := bD10.frozen 2
      have y3 := bD10.frozen 3
      have y4 := bD10.frozen 4
      have y5 := bD10.frozen 5
      have y6 := bD10.frozen 6
      have y7 := bN10.frozen 0
      have y8 := bX10.frozen 0
      have d0 : W10.cell? ⟨w.heap.size + 1, 0, none⟩ = some (.int .i64 y.kind) := bD10.cell 0
      have d1 : W10.cell? ⟨w.heap.size + 1, 1, none⟩ = some (.string y.path) := bD10.cell 1
      have d2 : W10.cell? ⟨w.heap.size + 1, 2, none⟩ = some (.slice ax y.attrs.length cx) := bD10.cell 2
      have d3 : W10.cell? ⟨w.heap.size + 1, 3, none⟩ = some (.string y.target) := bD10.cell 3
      have d4 : W10.cell? ⟨w.heap.size + 1, 4, none⟩ = some (.int .i64 z) := bD10.cell 4
      have d5 : W10.cell? ⟨w.heap.size + 1, 5, none⟩ = some (.string (bA' g)) := bD10.cell 5
      have d6 : W10.cell? ⟨w.heap.size + 1, 6, none⟩ = some (.slice xx X.length xc) := bD10.cell 6
      have d7 : W10.cell? ⟨w.heap.size + 1 + 1, 0, none⟩ = some (.int .i64 0) := bN10.cell 0
      have d8 : W10.cell? ⟨w.heap.size + 1 + 2, 0, none⟩ = some (.int .i64 0) := bX10.cell 0
      have n1 : w.heap.size + 1 ≠ w.heap.size + 1 + 1 := by omega
      have n2 : w.heap.size + 1 ≠ w.heap.size + 1 + 2 := by omega
      have n3 : w.heap.size + 1 + 1 ≠ w.heap.size + 1 + 2 := by omega
      by_cases hc0 : chkE (enOf y z g X) = 0
      case neg =>
        have HR8 : Hid (decA s a = .error (chkE (enOf y z g X))) := by rw [Hid, HR7.out, dc7, if_neg hc0]
        have q1 : (chkE (enOf y z g X) == 0) = false := by rw [beq_eq_false_iff_ne]; exact hc0
        have q2 : (chkE (enOf y z g X) != 0) = true := by rw [bne_iff_ne]; exact hc0
        clear hc0 HR7
        generalize chkE (enOf y z g X) = ce at *
        go_wp2_with fail
        have b1 := ((bD10.set7 (.int .i64 0) (.string ⟨#[]⟩) (.slice none 0 0) (.string ⟨#[]⟩) (.int .i64 0) (.string ⟨#[]⟩) (.slice none 0 0)).setOther (j := 0) (E' := w.heap.size + 1 + 1) n1.symm (.int .i64 0)).setOther (j := 0) (E' := w.heap.size + 1 + 2) n2.symm (.int .i64 ce)
        have b2 := ((bN10.other7 n1 (.int .i64 0) (.string ⟨#[]⟩) (.slice none 0 0) (.string ⟨#[]⟩) (.int .i64 0) (.string ⟨#[]⟩) (.slice none 0 0)).set (j := 0) (.int .i64 0)).setOther (j := 0) (E' := w.heap.size + 1 + 2) n3.symm (.int .i64 ce)
        have b3 := ((bX10.other7 n2 (.int .i64 0) (.string ⟨#[]⟩) (.slice none 0 0) (.string ⟨#[]⟩) (.int .i64 0) (.string ⟨#[]⟩) (.slice none 0 0)).setOther (j := 0) (E' := w.heap.size + 1 + 1) n3 (.int .i64 0)).set (j := 0) (.int .i64 ce)
        have kb' := ((below_set7 kb10 (show w.heap.size ≤ w.heap.size + 1 by omega) (.int .i64 0) (.string ⟨#[]⟩) (.slice none 0 0) (.string ⟨#[]⟩) (.int .i64 0) (.string ⟨#[]⟩) (.slice none 0 0)).setCell (p := ⟨w.heap.size + 1 + 1, 0, none⟩) (show w.heap.size ≤ w.heap.size + 1 + 1 by omega) (.int .i64 0)).setCell (p := ⟨w.heap.size + 1 + 2, 0, none⟩) (show w.heap.size ≤ w.heap.size + 1 + 2 by omega) (.int .i64 ce)
        exact leave_zero HR8.out kb' b1 b2 b3 rfl rfl rfl
      have HR8 : Hid (decA s a = .ok (enOf y z g X, b)) := by rw [Hid, HR7.out, dc7, if_pos hc0]
      have ca := hr10.ca
      clear HR7
      generalize chkE (enOf y z g X) = ce at *
      subst hc0
      go_upto_region 16 with (fail)
      have b1 := ((bD10.set7 (.int .i64 y.kind) (.string y.path) (.slice ax y.attrs.length cx) (.string y.target) (.int .i64 z) (.string (bA' g)) (.slice xx X.length xc)).setOther (j := 0) (E' := w.heap.size + 1 + 1) n1.symm (.int .i64 b)).setOther (j := 0) (E' := w.heap.size + 1 + 2) n2.symm (.int .i64 0)
      have b2 := ((bN10.other7 n1 (.int .i64 y.kind) (.string y.path) (.slice ax y.attrs.length cx) (.string y.target) (.int .i64 z) (.string (bA' g)) (.slice xx X.length xc)).set (j := 0) (.int .i64 b)).setOther (j := 0) (E' := w.heap.size + 1 + 2) n3.symm (.int .i64 0)
      have b3 := ((bX10.other7 n2 (.int .i64 y.kind) (.string y.path) (.slice ax y.attrs.length cx) (.string y.target) (.int .i64 z) (.string (bA' g)) (.slice xx X.length xc)).setOther (j := 0) (E' := w.heap.size + 1 + 1) n3 (.int .i64 b)).set (j := 0) (.int .i64 0)
      have kb' := ((below_set7 kb10 (show w.heap.size ≤ w.heap.size + 1 by omega) (.int .i64 y.kind) (.string y.path) (.slice ax y.attrs.length cx) (.string y.target) (.int .i64 z) (.string (bA' g)) (.slice xx X.length xc)).setCell (p := ⟨w.heap.size + 1 + 1, 0, none⟩) (show w.heap.size ≤ w.heap.size + 1 + 1 by omega) (.int .i64 b)).setCell (p := ⟨w.heap.size + 1 + 2, 0, none⟩) (show w.heap.size ≤ w.heap.size + 1 + 2 by omega) (.int .i64 0)
      have oA := owns_set (owns_set (owns_set7 ownA10 bD10 (by decide) (.int .i64 y.kind) (.string y.path) (.slice ax y.attrs.length cx) (.string y.target) (.int .i64 z) (.string (bA' g)) (.slice xx X.length xc)) ⟨w.heap.size + 1 + 1, 0, none⟩ (.int .i64 b) (bN10.other7 n1 (.int .i64 y.kind) (.string y.path) (.slice ax y.attrs.length cx) (.string y.target) (.int .i64 z) (.string (bA' g)) (.slice xx X.length xc)) (by decide)) ⟨w.heap.size + 1 + 2, 0, none⟩ (.int .i64 0) ((bX10.other7 n2 (.int .i64 y.kind) (.string y.path) (.slice ax y.attrs.length cx) (.string y.target) (.int .i64 z) (.string (bA' g)) (.slice xx X.length xc)).setOther (j := 0) (E' := w.heap.size + 1 + 1) n3 (.int .i64 b)) (by decide)
      have oX := owns_set (owns_set (owns_set7 ownX10 bD10 (by decide) (.int .i64 y.kind) (.string y.path) (.slice ax y.attrs.length cx) (.string y.target) (.int .i64 z) (.string (bA' g)) (.slice xx X.length xc)) ⟨w.heap.size + 1 + 1, 0, none⟩ (.int .i64 b) (bN10.other7 n1 (.int .i64 y.kind) (.string y.path) (.slice ax y.attrs.length cx) (.string y.target) (.int .i64 z) (.string (bA' g)) (.slice xx X.length xc)) (by decide)) ⟨w.heap.size + 1 + 2, 0, none⟩ (.int .i64 0) ((bX10.other7 n2 (.int .i64 y.kind) (.string y.path) (.slice ax y.attrs.length cx) (.string y.target) (.int .i64 z) (.string (bA' g)) (.slice xx X.length xc)).setOther (j := 0) (E' := w.heap.size + 1 + 1) n3 (.int .i64 b)) (by decide)
      have HL := Lib.hid (fun tmps h4 h5 h6 => leave_ok (tmps := tmps) HR8.out (below_drew0 kb') b1.drew b2.drew b3.drew (owns_mono (owns_drew oA) (Nat.le_of_lt h2s)) (owns_mono (owns_drew oX) (by omega)) h4 h5 h6)
      clear b1 b2 b3 kb' oA oX
      refine wp_mono (Q := NoPan _) ?_ (fun _ _ _ h => noPan_le h)
      go_region
      simp only [NoPan, Exit.then]
      go_wp2_with fail
      exact HL.out _ rfl rfl rfl
end Go.Proofs.YtpkapcijgldhhaaGreatDoor
