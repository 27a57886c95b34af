/-
  Chapter 47: the law Tampering, walked out of the contracts.
-/
import Derived.Test.YtadhbnleahipaaaGreatDoorLawSigns
import Derived.Deep.CutBlock
import Derived.Deep.CutRange
namespace Go.Proofs.YtadhbnleahipaaaGreatDoor
open Go.RowKit
/-! the law Tampering -/
def cuX (c : Cu) : Cu := { c with sig := c.sig ++ ⟨#[120]⟩ }
theorem cuX_d (c : Cu) : (cuX c).d = c.d := rfl
theorem cuX_e (c : Cu) : (cuX c).e = c.e := rfl
/-- what the switch makes of the statement -/
def TampP (c : Cu) (k : Int) (y : Cu) : Prop := CuOk y ∧ (y.e ≠ 0 → (k = 2 ∧ c.fr = 0) ∨ (k = 3 ∧ c.un = 1000000000))
theorem cu_e0 {c : Cu} (h : c.e = 0) : c.root.size = 16 ∧ (c.media.size = 0 ∨ c.media.size = 32) ∧ 0 ≤ c.fr ∧ c.fr ≤ c.un ∧ c.un ≤ 1000000000 := by
  rw [Cu.e] at h
  cases cuWay c.root c.media c.fr c.un with
  | root h1 => rw [cuE_arg (.inl h1)] at h; exact absurd h (by decide)
  | media h1 h2 h3 => rw [cuE_arg (.inr ⟨h2, h3⟩)] at h; exact absurd h (by decide)
  | a0 h1 hm h2 => rw [cuE_range h1 hm (.inl h2)] at h; exact absurd h (by decide)
  | a1 h1 hm h2 h3 => rw [cuE_range h1 hm (.inr (.inl h3))] at h; exact absurd h (by decide)
  | b0 h1 hm h2 h3 h4 => rw [cuE_range h1 hm (.inr (.inr (.inl h4)))] at h; exact absurd h (by decide)
  | b1 h1 hm h2 h3 h4 h5 => rw [cuE_range h1 hm (.inr (.inr (.inr h5)))] at h; exact absurd h (by decide)
  | order h1 hm h2 h3 h4 h5 h6 => rw [cuE_order h1 hm (by omega) h6] at h; exact absurd h (by decide)
  | ok h1 hm h2 h3 h4 => exact ⟨h1, hm, h2, h4, h3⟩
theorem cu_e_of {c : Cu} (h1 : c.root.size = 16) (hm : c.media.size = 0 ∨ c.media.size = 32) (h2 : 0 ≤ c.fr) (h3 : c.fr ≤ c.un) (h4 : c.un ≤ 1000000000) : c.e = 0 := cuE_ok h1 hm (by omega) (by omega)
theorem tamp0 {c : Cu} (h : c.e = 0) (hc : CuOk c) (r : ByteArray) (hr : r.size = 16) (k : Int) : TampP c k { c with root := r } := by
  obtain ⟨_, hm, h2, h3, h4⟩ := cu_e0 h
  exact ⟨⟨by show r.size ≤ _; omega, hc.media, hc.sig, hc.fr, hc.un⟩, fun hn => absurd (cu_e_of (c := { c with root := r }) hr hm h2 h3 h4) hn⟩
theorem tamp1 {c : Cu} (h : c.e = 0) (hc : CuOk c) (m : ByteArray) (hm : m.size = 0 ∨ m.size = 32) (k : Int) : TampP c k { c with media := m } := by
  obtain ⟨h1, _, h2, h3, h4⟩ := cu_e0 h
  exact ⟨⟨hc.root, by show m.size ≤ _; omega, hc.sig, hc.fr, hc.un⟩, fun hn => absurd (cu_e_of (c := { c with media := m }) h1 hm h2 h3 h4) hn⟩
theorem tamp2 {c : Cu} (h : c.e = 0) (hc : CuOk c) : TampP c 2 { c with fr := c.fr - 1 } := by
  obtain ⟨h1, hm, h2, h3, h4⟩ := cu_e0 h
  refine ⟨⟨hc.root, hc.media, hc.sig, by show _ ≤ c.fr - 1 ∧ c.fr - 1 ≤ _; omega, hc.un⟩, fun hn => .inl ⟨rfl, ?_⟩⟩
  by_cases h0 : c.fr = 0
  · exact h0
  · exact absurd (cu_e_of (c := { c with fr := c.fr - 1 }) h1 hm (by show 0 ≤ c.fr - 1; omega) (by show c.fr - 1 ≤ c.un; omega) h4) hn
theorem tamp3 {c : Cu} (h : c.e = 0) (hc : CuOk c) : TampP c 3 { c with un := c.un + 1 } := by
  obtain ⟨h1, hm, h2, h3, h4⟩ := cu_e0 h
  refine ⟨⟨hc.root, hc.media, hc.sig, hc.fr, by show _ ≤ c.un + 1 ∧ c.un + 1 ≤ _; omega⟩, fun hn => .inr ⟨rfl, ?_⟩⟩
  by_cases h0 : c.un = 1000000000
  · exact h0
  · exact absurd (cu_e_of (c := { c with un := c.un + 1 }) h1 hm h2 (by show c.fr ≤ c.un + 1; omega) (by show c.un + 1 ≤ _; omega)) hn
theorem tamp_id {c : Cu} (h : c.e = 0) (hc : CuOk c) (k : Int) : TampP c k c := ⟨hc, fun hn => absurd h hn⟩
set_option maxRecDepth 100000 in
theorem xor_u8 : ∀ a b : Fin 256, 0 ≤ bits BinOp.xor IntKind.u8 (a.val : Int) (b.val : Int) ∧ bits BinOp.xor IntKind.u8 (a.val : Int) (b.val : Int) ≤ 255 := by decide +kernel
def z32 : ByteArray := ⟨#[0,0,0,0,0,0,0,0,0,0,0,0,0,0,0,0,0,0,0,0,0,0,0,0,0,0,0,0,0,0,0,0]⟩
theorem zero_back (W : World) (B : Nat) (h : W.ownsRow B 5 1 (.slice (some ⟨B, 0, none⟩) 32 32) 32 (madeCells (Value.int .u8 0).cells (32 * 1)).toList) :
    (convert 39 9 (.slice (some ⟨B, 0, none⟩) 32 32)).run Tryz.prog W = .ok (.string z32) W :=
  run_convert_bytes_back W 39 9 5 ⟨B, 0, none⟩ 32 z32.data.toList Tryz.underlying39 Tryz.underlying5 Tryz.underlying9 (fun j hj => by
    have hj : j < 32 := hj
    refine h.cells (g := B) rfl j _ ?_
    have h1 : (madeCells (Value.int .u8 0).cells (32 * 1)).toList[j]? = some (Value.int .u8 0) := by simp [madeCells, Value.cells, hj, Nat.mod_one]
    have h2 : ∀ k, (h : k < z32.data.toList.length) → z32.data.toList[k] = 0 := fun k h => by
      have e : z32.data.toList = List.replicate 32 0 := rfl
      simp only [e, List.getElem_replicate]
    rw [h1, h2]; rfl)
theorem bytes_frozen (w : World) (s : ByteArray) (j : Nat) (h : j < s.size) : (Lib.bytesWorld w 5 s).frozen? ⟨w.heap.size, j, none⟩ = false := by
  have hz : j < (Lib.bytesCells w 5 s).size := by
    have : s.size ≤ (Lib.bytesCells w 5 s).size := by simp [Lib.bytesCells]
    omega
  unfold World.frozen?
  rw [Lib.bytesWorld_at_new]
  simp only [Bool.and_eq_false_iff, decide_eq_false_iff_not]
  exact .inl (by omega)
theorem bytes_set_back (W : World) (B cap : Nat) (l : List UInt8) (p q : Nat) (hl : l.length = 16) (hp : p < 16) (hq : q ≤ 255) (hc : ∀ j, j < 16 → W.cell? ⟨B, j, none⟩ = some (.int .u8 (l.getD j 0).toNat)) :
    (convert 39 9 (.slice (some ⟨B, 0, none⟩) 16 cap)).run Tryz.prog (W.setCell ⟨B, p, none⟩ (.int .u8 q)) = .ok (.string ⟨(l.set p (UInt8.ofNat q)).toArray⟩) (W.setCell ⟨B, p, none⟩ (.int .u8 q)) := by
  have := run_convert_bytes_back (W.setCell ⟨B, p, none⟩ (.int .u8 q)) 39 9 5 ⟨B, 0, none⟩ cap (l.set p (UInt8.ofNat q)) Tryz.underlying39 Tryz.underlying5 Tryz.underlying9 (fun j hj => by
    rw [List.length_set, hl] at hj
    rw [Addr.add_mid, Nat.zero_add, List.getElem_set]
    by_cases h : p = j
    · subst h
      rw [if_pos rfl, World.cell?_setCell_same' _ _ _ (by rw [hc p hp]; rfl)]
      rw [UInt8.toNat_ofNat']; congr 3; omega
    · rw [if_neg h, World.cell?_setCell_other _ _ _ _ (fun e => h (by simp at e)), hc j hj, List.getD_eq_getElem?_getD, List.getElem?_eq_getElem (by omega)]; rfl)
  rwa [List.length_set, hl] at this
set_option maxRecDepth 100000 in
set_option maxHeartbeats 4000000 in
theorem lawTampering_any (c : Cu) (at_ by_ : Int) (w : World) (he : Env w) (hw : CuWf c) (_z0 : c.root.size ≤ 140737488355328) (_z1 : c.media.size ≤ 140737488355328) (_z4 : c.sig.size ≤ 140737488355328)
    (hat : 0 ≤ at_ ∧ at_ ≤ 255) (hby : 0 ≤ by_ ∧ by_ ≤ 255) :
    Calls Tryz.prog 6 #[.agg c.vals.toArray, .int .u8 at_, .int .u8 by_] w (TrueP w) := by
  have HF := Lib.hid (show ∀ W, Below w.heap.size w W → Calls Tryz.prog 12 #[] W (TrueP W) from fun W hW => awake47_any W (he.below hW))
  have HDP := Lib.hid (show ∀ (W : World) (x : Cu), Below w.heap.size w W → x.root.size ≤ 140737488355328 → x.media.size ≤ 140737488355328 → (-9223372036854775808 ≤ x.fr ∧ x.fr ≤ 9223372036854775807) → (-9223372036854775808 ≤ x.un ∧ x.un ≤ 9223372036854775807) →
      Calls Tryz.prog 13 #[.agg #[.string x.root, .string x.media, .int .i64 x.fr, .int .i64 x.un, .string x.sig]] W (RootP x.d x.e W) from fun W x hW h1 h2 h3 h4 =>
    cuDigest_any x.root x.media x.sig x.fr x.un W (he.below hW) h1 h2 h3 h4)
  have bC := BoxC.new w c
  have hb0 : Below w.heap.size w (w.alloc (.cells c.vals.toArray 29)) := (below_refl w).alloc (Nat.le_refl _) _
  have hsz0 : (w.alloc (.cells c.vals.toArray 29)).heap.size = w.heap.size + 1 := by simp
  obtain ⟨W0, hW0⟩ : ∃ W0, w.alloc (.cells c.vals.toArray 29) = W0 := ⟨_, rfl⟩
  rw [hW0] at bC hb0 hsz0
  have HD0 := Lib.hid (HDP.out W0 c hb0 _z0 _z1 hw.fr hw.un)
  rw [Cu.vals_arr c]
  go_enter Tryz.func6, Tryz.ntmps6
  go_wp2_with fail
  change Calls _ _ _ (w.alloc (.cells c.vals.toArray 29)) _
  rw [hW0]
  clear hW0
  refine HD0.out.mono ?_
  rintro e w1 ⟨t, rfl, ht, hb1⟩
  have hb01 := hb0.trans (hb1.mono hb0.size)
  by_cases hce : c.e = 0
  case neg =>
    obtain ⟨x1, x2⟩ := neq0 hce
    generalize c.e = er at *
    go_wp2_with fail
    refine (HF.out _ hb01).mono ?_
    rintro e w9 ⟨rfl, hb9⟩
    go_wp2_with fail
    go_ret
    exact ⟨rfl, hb01.trans (hb9.mono hb01.size)⟩
  by_cases hby0 : by_ = 0
  · subst hby0
    rw [hce]
    go_wp2_with fail
    refine (HF.out _ hb01).mono ?_
    rintro e w9 ⟨rfl, hb9⟩
    go_wp2_with fail
    go_ret
    exact ⟨rfl, hb01.trans (hb9.mono hb01.size)⟩
  obtain ⟨y1, y2⟩ := neq0 hby0
  rw [hce]
  have bC1 := bC.below hb1
  have bG := BoxC.new w1 c
  have hb02 : Below w.heap.size w (w1.alloc (.cells c.vals.toArray 29)) := hb01.alloc hb01.size _
  have HG := Lib.hid (great47_any _ [c] _ (cuRow_one _ c _ bG) (fun i => by
    have := cusWf_of (L := [c]) (fun x hx => by rw [List.mem_singleton.1 hx]; exact hw) i
    exact ⟨this.root, this.media, this.sig⟩))
  obtain ⟨q0, q1, q2, q3, q4, _⟩ := boxC_facts bC1
  go_wp2_with fail
  change Calls _ _ _ (w1.alloc (.cells c.vals.toArray 29)) _
  refine HG.out.mono ?_
  rintro e w2 ⟨g, rfl, hg, hgs, rfl⟩
  clear HG q0 q1 q2 q3 q4
  have bC2 := bC1.alloc (.cells c.vals.toArray 29)
  generalize w1.alloc (.cells c.vals.toArray 29) = W1 at *
  rcases hg with rfl | rfl
  case inr =>
    go_wp2_with fail
    refine (HF.out _ hb02).mono ?_
    rintro e w9 ⟨rfl, hb9⟩
    go_wp2_with fail
    go_ret
    exact ⟨rfl, hb02.trans (hb9.mono hb02.size)⟩
  have hsm : CuSmall c := by have := (hgs.out rfl).2 0 Nat.one_pos; exact this
  have hok := cusOk_one hw hsm
  have hs4 := hsm.2.2
  obtain ⟨q0, q1, q2, q3, q4, _⟩ := boxC_facts bC2
  have hb03 : Below w.heap.size w (W1.alloc (.cells (cuX c).vals.toArray 29)) := hb02.alloc hb02.size _
  have HD1 := Lib.hid (HDP.out _ (cuX c) hb03 _z0 _z1 hw.fr hw.un)
  rw [cuX_d, cuX_e, hce] at HD1
  have hva : (cuX c).vals.toArray = #[.string c.root, .string c.media, .int .i64 c.fr, .int .i64 c.un, .string (c.sig ++ ⟨#[120]⟩)] := rfl
  have bC3 := bC2.alloc (.cells (cuX c).vals.toArray 29)
  go_wp2_with fail
  change Calls _ _ _ (W1.alloc (.cells (cuX c).vals.toArray 29)) _
  clear q0 q1 q2 q3 q4 hva
  generalize W1.alloc (.cells (cuX c).vals.toArray 29) = W2 at *
  refine HD1.out.mono ?_
  rintro e w3 ⟨t2, rfl, ht2, hb4⟩
  obtain rfl : t = t2 := list_inj (ht.out.trans ht2.out.symm)
  have hb04 := hb03.trans (hb4.mono hb03.size)
  have bC4 := bC3.below hb4
  clear HD1 ht2 bC3 bC2 bC1 bC bG
  obtain ⟨q0, q1, q2, q3, q4, _⟩ := boxC_facts bC4
  go_upto_block 0 with (fail)
  obtain ⟨k, hk⟩ : ∃ k, at_ % 4 = k := ⟨_, rfl⟩
  rw [hk]
  have hk0 : 0 ≤ k := by omega
  have hk3 : k ≤ 3 := by omega
  change Code.wp _ _ _ _ (w3.alloc (.cells c.vals.toArray 29))
  have bY := BoxC.new w3 c
  have bC5 := bC4.alloc (.cells c.vals.toArray 29)
  have hb05 : Below w.heap.size w (w3.alloc (.cells c.vals.toArray 29)) := hb04.alloc hb04.size _
  have hBy := hb04.size
  have hlt0 := bC4.lt
  generalize hYe : w3.heap.size = Y at *
  generalize w3.alloc (.cells c.vals.toArray 29) = W5 at *
  go_cut [] from 58 to 101 (fun wc => ∃ y : Cu, BoxC wc Y y ∧ BoxC wc w.heap.size c ∧ Hid (TampP c k y) ∧ Below w.heap.size w wc)
  case first =>
    have hkk : k = 0 ∨ k = 1 ∨ k = 2 ∨ k = 3 := by omega
    obtain ⟨y0, y1, y2, y3, y4, f0, f1, f2, f3, f4⟩ := boxC_facts bY
    clear q0 q1 q2 q3 q4
    obtain ⟨q0, q1, q2, q3, q4, _⟩ := boxC_facts bC5
    have HT0 := Lib.hid (tamp0 hce hok)
    have HT1 := Lib.hid (tamp1 hce hok)
    have HT2 := Lib.hid (tamp2 hce hok)
    have HT3 := Lib.hid (tamp3 hce hok)
    have hcz := cu_e0 hce
    rcases hkk with rfl | rfl | rfl | rfl
    · obtain ⟨h16, hmz, _⟩ := hcz
      obtain ⟨p, hp⟩ : ∃ p : Nat, at_ % 16 = p := ⟨(at_ % 16).toNat, (Int.toNat_of_nonneg (Int.emod_nonneg _ (by omega))).symm⟩
      have hp16 : p < c.root.size := by omega
      obtain ⟨bn, rfl⟩ := Int.eq_ofNat_of_zero_le hby.1
      have hxr := xor_u8 ⟨c.root[p].toNat, c.root[p].toNat_lt⟩ ⟨bn, by omega⟩
      simp only at hxr
      obtain ⟨q, hq⟩ : ∃ q, bits BinOp.xor IntKind.u8 (c.root[p].toNat : Int) (bn : Int) = q := ⟨_, rfl⟩
      rw [hq] at hxr
      obtain ⟨q, rfl⟩ := Int.eq_ofNat_of_zero_le hxr.1
      have hq255 : q ≤ 255 := by omega
      have hcv := Lib.run_convert_string_bytes (P := Tryz.prog) W5 9 39 5 c.root Tryz.underlying9 Tryz.underlying39 Tryz.underlying5
      obtain ⟨cap, hcap⟩ : ∃ cap, grownCap W5 c.root.size 0 5 = cap := ⟨_, rfl⟩
      rw [hcap] at hcv
      have hcell : ∀ j, j < c.root.size → (Lib.bytesWorld W5 5 c.root).cell? ⟨W5.heap.size, j, none⟩ = some (.int .u8 (c.root.data.toList.getD j 0).toNat) := fun j hj => Lib.bytesWorld_cell W5 _ c.root j hj
      have hfz : (Lib.bytesWorld W5 5 c.root).frozen? ⟨W5.heap.size, p, none⟩ = false := bytes_frozen W5 c.root p hp16
      have hbW := below_bytes W5 c.root 5
      have hb06 := hb05.trans (hbW.mono hb05.size)
      have bY6 := bY.below hbW
      have bC6 := bC5.below hbW
      have hsz6 : (Lib.bytesWorld W5 5 c.root).heap.size = W5.heap.size + 1 := Lib.bytesWorld_size _ _ _
      have hB := hb05.size
      have hYB := bY.lt
      rw [h16] at hcell hcv hp16
      generalize hW6 : Lib.bytesWorld W5 5 c.root = W6 at *
      generalize hBb : W5.heap.size = B at *
      have hcp := hcell p hp16
      rw [getD_list c.root p (by omega)] at hcp
      have hback := bytes_set_back W6 B cap c.root.data.toList p q (by rw [toList_size, h16]) hp16 hq255 hcell
      clear hcell q0 q1 q2 q3 q4 y0 y1 y2 y3 y4 f0 f1 f2 f3 f4
      obtain ⟨_, _, _, _, _, _⟩ := boxC_facts bY
      obtain ⟨y0, y1, y2, y3, y4, f0, f1, f2, f3, f4⟩ := boxC_facts bY6
      have y0' : W5.cell? ⟨Y, 0, none⟩ = some (.string c.root) := bY.cell 0
      go_wp2_with fail
      go_meet
      case rel =>
        exact ⟨{ c with root := ⟨(c.root.data.toList.set p (UInt8.ofNat q)).toArray⟩ }, setCell_block _ (bY6.other (by omega) p _), (bC6.other (by omega) p _).other (by omega) 0 _,
          HT0.out _ (by rw [← toList_size, List.length_set, toList_size, h16]) 0, (hb06.setCell (p := ⟨B, p, none⟩) hB _).setCell (p := ⟨Y, 0, none⟩) hBy _⟩
    · obtain ⟨_, hmz, _⟩ := hcz
      obtain ⟨i0, hi, hz0, hz1, hz2⟩ := info_parts infoU8
      obtain ⟨W6, hmk, hown, hgr⟩ := run_makeSlice_full (P := Tryz.prog) (w := W5) W5.heap.size 39 5 i0 (.int .u8 0) 1 Tryz.underlying39 hi hz0 hz1 .i64 .i64 32 (by decide) (by rw [hz2]; decide) (by decide) (Nat.le_refl _)
      have hmk' : (Instr.makeSlice 39 (.int .i64 32) (.int .i64 32)).run Tryz.prog W5 = .ok (.slice (some ⟨W5.heap.size, 0, none⟩) 32 32) W6 := hmk
      have hcv := zero_back W6 W5.heap.size hown
      have hbW : Below W5.heap.size W5 W6 := (Below.refl _ W5).grown hgr (Nat.le_refl _) (fun k e => by cases e)
      have hb06 := hb05.trans (hbW.mono hb05.size)
      have bY6 := bY.below hbW
      have bC6 := bC5.below hbW
      clear hmk hown hgr hi q0 q1 q2 q3 q4 y0 y1 y2 y3 y4 f0 f1 f2 f3 f4
      obtain ⟨y0, y1, y2, y3, y4, f0, f1, f2, f3, f4⟩ := boxC_facts bY6
      obtain ⟨q0, q1, q2, q3, q4, _⟩ := boxC_facts bC6
      by_cases hmq : c.media.data.toList = z32.data.toList
      · have x1 : (c.media.toList == z32.toList) = true := by rw [beq_lists]; simpa using hmq
        clear hmq
        go_wp2_with fail
        go_meet
        case rel =>
          exact ⟨{ c with media := ByteArray.empty }, setCell_block _ (setCell_block _ bY6), (bC6.other (by omega) 1 _).other (by omega) 1 _, HT1.out ByteArray.empty (.inl rfl) 1, (hb06.setCell (p := ⟨Y, 1, none⟩) hBy _).setCell (p := ⟨Y, 1, none⟩) hBy _⟩
      · have x1 : (c.media.toList == z32.toList) = false := by rw [beq_lists]; simpa using hmq
        clear hmq
        go_wp2_with fail
        go_meet
        case rel =>
          exact ⟨{ c with media := z32 }, setCell_block _ bY6, bC6.other (by omega) 1 _, HT1.out z32 (.inr rfl) 1, hb06.setCell (p := ⟨Y, 1, none⟩) hBy _⟩
    · go_wp2_with fail
      go_meet
      case rel =>
        exact ⟨{ c with fr := c.fr - 1 }, setCell_block _ bY, bC5.other (by omega) 2 _, HT2.out, hb05.setCell (p := ⟨Y, 2, none⟩) hBy _⟩
    · go_wp2_with fail
      go_meet
      case rel =>
        exact ⟨{ c with un := c.un + 1 }, setCell_block _ bY, bC5.other (by omega) 3 _, HT3.out, hb05.setCell (p := ⟨Y, 3, none⟩) hBy _⟩
  case rest =>
    obtain ⟨y, bY6, bC6, hT, hb06⟩ := hcut
    have hyk := hT.out.1
    have HD2 := Lib.hid (HDP.out _ y hb06 (by have := hyk.root; omega) (by have := hyk.media; omega) hyk.fr hyk.un)
    have HR := Lib.hid (show ∀ (W : World) (x : Cu), x.root.size ≤ 140737488355328 → x.media.size ≤ 140737488355328 → (-9223372036854775808 ≤ x.fr ∧ x.fr ≤ 9223372036854775807) → (-9223372036854775808 ≤ x.un ∧ x.un ≤ 9223372036854775807) →
      Calls Tryz.prog 14 #[.agg #[.string x.root, .string x.media, .int .i64 x.fr, .int .i64 x.un, .string x.sig]] W (RootP x.d x.e W) from fun W x h1 h2 h3 h4 =>
      cuDigestR_any x.root x.media x.sig x.fr x.un W h1 h2 h3 h4)
    have HRY := Lib.hid (fun W => HR.out W y (by have := hyk.root; omega) (by have := hyk.media; omega) hyk.fr hyk.un)
    have HRC := Lib.hid (fun W => HR.out W c (by have := hok.root; omega) (by have := hok.media; omega) hok.fr hok.un)
    rw [hce] at HRC
    obtain ⟨y0, y1, y2, y3, y4, _⟩ := boxC_facts bY6
    clear bY bC5 bC4 hb05 q0 q1 q2 q3 q4 HR
    by_cases hye : y.e = 0
    case neg =>
      have hout := hT.out.2 hye
      obtain ⟨x1, x2⟩ := neq0 hye
      generalize y.e = er at *
      clear hT hyk hok HRY HRC
      go_wp2_with fail
      refine HD2.out.mono ?_
      rintro e w6 ⟨t3, rfl, ht3, hb7⟩
      have hb07 := hb06.trans (hb7.mono hb06.size)
      have bC7 := bC6.below hb7
      obtain ⟨q0, q1, q2, q3, q4, _⟩ := boxC_facts bC7
      clear y0 y1 y2 y3 y4
      rcases hout with ⟨rfl, h0⟩ | ⟨rfl, h0⟩
      · rw [h0] at q2
        go_wp2_with fail
        refine (HF.out _ hb07).mono ?_
        rintro e w9 ⟨rfl, hb9⟩
        go_wp2_with fail
        go_ret
        exact ⟨rfl, hb07.trans (hb9.mono hb07.size)⟩
      · rw [h0] at q3
        go_wp2_with fail
        refine (HF.out _ hb07).mono ?_
        rintro e w9 ⟨rfl, hb9⟩
        go_wp2_with fail
        go_ret
        exact ⟨rfl, hb07.trans (hb9.mono hb07.size)⟩
    case pos =>
      rw [hye] at HD2 HRY
      have HYB := Lib.hid (show ∀ W, Below wc.heap.size wc W → BoxC W Y y ∧ BoxC W w.heap.size c from fun W hW => ⟨bY6.below hW, bC6.below hW⟩)
      clear hT hyk hok hye
      go_wp2_with fail
      refine HD2.out.mono ?_
      rintro e w6 ⟨t3, rfl, ht3, hb7⟩
      have hb07 := hb06.trans (hb7.mono hb06.size)
      clear y0 y1 y2 y3 y4
      obtain ⟨y0, y1, y2, y3, y4, _⟩ := boxC_facts (HYB.out _ hb7).1
      go_wp2_with fail
      refine (HRY.out _).mono ?_
      rintro e w7 ⟨t4, rfl, ht4, hb8⟩
      have hb8 := step2 hb7 hb8
      have hb08 := hb06.trans (hb8.mono hb06.size)
      clear y0 y1 y2 y3 y4
      obtain ⟨q0, q1, q2, q3, q4, _⟩ := boxC_facts (HYB.out _ hb8).2
      go_wp2_with fail
      refine (HRC.out _).mono ?_
      rintro e w8 ⟨t5, rfl, ht5, hb9⟩
      have hb9 := step2 hb8 hb9
      have hb09 := hb06.trans (hb9.mono hb06.size)
      clear q0 q1 q2 q3 q4
      obtain rfl : t3 = t4 := list_inj (ht3.out.trans ht4.out.symm)
      obtain rfl : t = t5 := list_inj (ht.out.trans ht5.out.symm)
      by_cases htt : t3.data.toList = t.data.toList
      · have x1 : (t3.toList == t.toList) = true := by rw [beq_lists]; simpa using htt
        have x2 : (t3.toList != t.toList) = false := by rw [bne, x1]; rfl
        clear htt ht ht3 ht4 ht5
        go_wp2_with fail
        refine (HF.out _ hb09).mono ?_
        rintro e w9 ⟨rfl, hb10⟩
        go_wp2_with fail
        go_ret
        exact ⟨rfl, hb09.trans (hb10.mono hb09.size)⟩
      · have x1 : (t3.toList == t.toList) = false := by rw [beq_lists]; simpa using htt
        have x2 : (t3.toList != t.toList) = true := by rw [bne, x1]; rfl
        clear htt ht ht3 ht4 ht5
        go_wp2_with fail
        refine (HF.out _ hb09).mono ?_
        rintro e w9 ⟨rfl, hb10⟩
        go_wp2_with fail
        go_ret
        exact ⟨rfl, hb09.trans (hb10.mono hb09.size)⟩
end Go.Proofs.YtadhbnleahipaaaGreatDoor
