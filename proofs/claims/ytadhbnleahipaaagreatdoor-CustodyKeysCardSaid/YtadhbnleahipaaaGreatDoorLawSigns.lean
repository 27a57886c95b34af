/-
  Chapter 47: the law Signs, walked out of the contracts.
-/
import Derived.Test.YtadhbnleahipaaaGreatDoorCuSign
namespace Go.Proofs.YtadhbnleahipaaaGreatDoor
open Go.RowKit
/-! the law Signs -/
theorem cuRow_one (w : World) (c : Cu) (B : Nat) (h : w.heap[B]? = some (.cells c.vals.toArray 29 (0, 0))) : CuRow w (.slice (some ⟨B, 0, none⟩) 1 1) [c] := by
  have hb : BoxC w B c := h
  refine ⟨Nat.le_trans (show 1 ≤ 1 from Nat.le_refl _) (by decide), .inr ⟨Nat.one_pos, B, 0, 1, rfl, Nat.le_refl _, by decide, hb.lt, ?_⟩⟩
  intro i hi j v hv
  have : i = 0 := by simp only [List.length_cons, List.length_nil] at hi; omega
  subst this
  have h2 := hb.cell j
  rw [show 0 + 0 * 5 + j = j from by omega, h2]; exact hv
theorem cusOk_one {c : Cu} (hw : CuWf c) (h : CuSmall c) : CuOk c := by
  obtain ⟨h1, h2, h3⟩ := h
  exact ⟨by omega, by omega, by omega, hw.fr, hw.un⟩
set_option maxRecDepth 100000 in
set_option maxHeartbeats 2000000 in
theorem lawSigns_any (c : Cu) (s : ByteArray) (h key : Int) (w : World) (he : Env w) (hw : CuWf c) (_z0 : c.root.size ≤ 140737488355328) (_z1 : c.media.size ≤ 140737488355328) (_z4 : c.sig.size ≤ 140737488355328) (hs : s.size ≤ 140737488355328)
    (hh : -9223372036854775808 ≤ h ∧ h ≤ 9223372036854775807) (hk : -9223372036854775808 ≤ key ∧ key ≤ 9223372036854775807) :
    Calls Tryz.prog 8 #[.agg c.vals.toArray, .string s, .int .i64 h, .int .i64 key] w (TrueP w) := by
  have HF := Lib.hid (show ∀ W, Below w.heap.size w W → Calls Tryz.prog 12 #[] W (TrueP W) from fun W hW => awake47_any W (he.below hW))
  have bC := (BoxC.new w c).alloc (.cells c.vals.toArray 29)
  have bD := BoxC.new (w.alloc (.cells c.vals.toArray 29)) c
  rw [World.size_alloc] at bD
  have hb0 : Below w.heap.size w ((w.alloc (.cells c.vals.toArray 29)).alloc (.cells c.vals.toArray 29)) := ((below_refl w).alloc (Nat.le_refl _) _).alloc (by simp) _
  have hsz0 : ((w.alloc (.cells c.vals.toArray 29)).alloc (.cells c.vals.toArray 29)).heap.size = w.heap.size + 1 + 1 := by simp
  obtain ⟨W0, hW0⟩ : ∃ W0, (w.alloc (.cells c.vals.toArray 29)).alloc (.cells c.vals.toArray 29) = W0 := ⟨_, rfl⟩
  rw [hW0] at bC bD hb0 hsz0
  have HG := Lib.hid (great47_any _ [c] W0 (cuRow_one W0 c _ bD) (fun i => by
    have := cusWf_of (L := [c]) (fun x hx => by rw [List.mem_singleton.1 hx]; exact hw) i
    exact ⟨this.root, this.media, this.sig⟩))
  rw [Cu.vals_arr c]
  go_enter Tryz.func8, Tryz.ntmps8
  go_wp2_with fail
  change Calls _ _ _ ((w.alloc (.cells c.vals.toArray 29)).alloc (.cells c.vals.toArray 29)) _
  rw [hW0]
  refine HG.out.mono ?_
  rintro e w1 ⟨g, rfl, hg, hgs, rfl⟩
  clear HG
  rcases hg with rfl | rfl
  case inr =>
    go_wp2_with fail
    refine (HF.out _ hb0).mono ?_
    rintro e w9 ⟨rfl, hb9⟩
    go_wp2_with fail
    go_ret
    exact ⟨rfl, hb0.trans (hb9.mono hb0.size)⟩
  have hok := cusOk_one hw (by have := (hgs.out rfl).2 0 Nat.one_pos; exact this)
  clear hgs
  by_cases h100 : 100 < s.size
  · go_wp2_with fail
    refine (HF.out _ hb0).mono ?_
    rintro e w9 ⟨rfl, hb9⟩
    go_wp2_with fail
    go_ret
    exact ⟨rfl, hb0.trans (hb9.mono hb0.size)⟩
  by_cases h2 : 2 < h
  · go_wp2_with fail
    refine (HF.out _ hb0).mono ?_
    rintro e w9 ⟨rfl, hb9⟩
    go_wp2_with fail
    go_ret
    exact ⟨rfl, hb0.trans (hb9.mono hb0.size)⟩
  have HSP := Lib.hid (show ∀ W, Below w.heap.size w W → Calls Tryz.prog 21 #[.agg #[.string c.root, .string c.media, .int .i64 c.fr, .int .i64 c.un, .string c.sig], .string s, .int .i64 h, .int .i64 key] W (SigP (signC c s.data.toList h key) (signE c h key) W) from
    fun W hW => cuSign_any c s h key W (he.below hW) hok (by omega) hh hk)
  have HSR := Lib.hid (show ∀ W, Calls Tryz.prog 22 #[.agg #[.string c.root, .string c.media, .int .i64 c.fr, .int .i64 c.un, .string c.sig], .string s, .int .i64 h, .int .i64 key] W (SigP (signC c s.data.toList h key) (signE c h key) W) from
    fun W => cuSignR_any c s h key W hok (by omega) hh hk)
  obtain ⟨q0, q1, q2, q3, q4, _⟩ := boxC_facts bC
  generalize signC c s.data.toList h key = r at *
  generalize signE c h key = er at *
  clear hh hk hw he hok hW0
  go_wp2_with fail
  refine (HSP.out _ hb0).mono ?_
  rintro e w1 ⟨rfl, hb1⟩
  have hb01 := hb0.trans (hb1.mono hb0.size)
  have bC1 := bC.below hb1
  have bC2 := bC1.alloc (.cells r.vals.toArray 29)
  have bA2 := BoxC.new w1 r
  have hb02 : Below w.heap.size w (w1.alloc (.cells r.vals.toArray 29)) := hb01.alloc hb01.size _
  obtain ⟨p0, p1, p2, p3, p4, _⟩ := boxC_facts bC2
  rw [Cu.vals_arr r] at p0 p1 p2 p3 p4 ⊢
  clear q0 q1 q2 q3 q4
  go_wp2_with fail
  change Calls _ _ _ (w1.alloc (.cells r.vals.toArray 29)) _
  clear p0 p1 p2 p3 p4
  generalize w1.alloc (.cells r.vals.toArray 29) = W1 at *
  refine (HSR.out _).mono ?_
  rintro e w2 ⟨rfl, hb2⟩
  have hb03 := hb02.trans (hb2.mono hb02.size)
  have bA3 := (bA2.below hb2).alloc (.cells r.vals.toArray 29)
  have bB3 := BoxC.new w2 r
  have hb04 : Below w.heap.size w (w2.alloc (.cells r.vals.toArray 29)) := hb03.alloc hb03.size _
  obtain ⟨p0, p1, p2, p3, p4, _⟩ := boxC_facts bA3
  obtain ⟨r0, r1, r2, r3, r4, _⟩ := boxC_facts bB3
  rw [Cu.vals_arr r] at p0 p1 p2 p3 p4 r0 r1 r2 r3 r4 ⊢
  go_wp2_with fail
  refine (HF.out _ hb04).mono ?_
  rintro e w9 ⟨rfl, hb9⟩
  go_wp2_with fail
  go_ret
  exact ⟨rfl, hb04.trans (hb9.mono hb04.size)⟩
end Go.Proofs.YtadhbnleahipaaaGreatDoor
