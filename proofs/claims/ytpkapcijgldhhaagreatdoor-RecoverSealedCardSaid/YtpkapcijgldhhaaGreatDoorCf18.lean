/-
  Chapter 45: the closure that seals a directory, in the law of sealed directories.
  Chapter 45: the law of sealed directories, walked out of the contracts.
-/
import Derived.Test.YtpkapcijgldhhaaGreatDoorCf01
import Derived.Test.YtpkapcijgldhhaaGreatDoorCf02
import Derived.Test.YtpkapcijgldhhaaGreatDoorCf03
import Derived.Test.YtpkapcijgldhhaaGreatDoorCf19
import Derived.Test.YtpkapcijgldhhaaGreatDoorCf04
import Derived.Test.YtpkapcijgldhhaaGreatDoorCf05
import Derived.Test.YtpkapcijgldhhaaGreatDoorCf06
import Derived.Test.YtpkapcijgldhhaaGreatDoorCf07
import Derived.Test.YtpkapcijgldhhaaGreatDoorCf08
import Derived.Test.YtpkapcijgldhhaaGreatDoorCf09
import Derived.Test.YtpkapcijgldhhaaGreatDoorCf10
import Derived.Test.YtpkapcijgldhhaaGreatDoorCf11
import Derived.Test.YtpkapcijgldhhaaGreatDoorCf12
import Derived.Test.YtpkapcijgldhhaaGreatDoorCf14
import Derived.Test.YtpkapcijgldhhaaGreatDoorCf15
import Derived.Test.YtpkapcijgldhhaaGreatDoorCf16
import Derived.Test.YtpkapcijgldhhaaGreatDoorCf17
import Derived.Test.YtpkapcijgldhhaaGreatDoorCe27
import Derived.Test.YtpkapcijgldhhaaGreatDoorCe32
import Derived.Test.YtpkapcijgldhhaaGreatDoorCe33
namespace Go.Proofs.YtpkapcijgldhhaaGreatDoor
open Go.RowKit Go.Shelf
theorem ckS_of {s : Se} (h : sgnE s = 0) : ckS s = 0 := by
  unfold sgnE at h
  unfold ckS
  split at h
  · rename_i h0
    rw [if_pos h0]
    split at h
    · cases h
    rename_i h1
    rw [if_neg h1]
    split at h
    · rename_i h2
      rw [if_pos h2]
      split at h
      · cases h
      rename_i h3
      rw [if_neg (by omega)]
    · rename_i h2
      rw [if_neg h2]; exact h
  · rename_i h0
    rw [if_neg h0]; exact h
def seV (s : Se) (a : Option Addr) (c : Nat) : List Value := [.int .i64 s.number, .int .i64 s.date, .string s.prev, .slice a s.entries.length c, .string s.stream, .string s.sl]
theorem seBig_seal {s : Se} (h : SeBig s) {g : ByteArray} (hg : g.size ≤ 2000) : SeBig { s with sl := g } := ⟨h.number, h.date, h.prev, h.stream, by show g.size ≤ _; omega, h.count, h.ents⟩
set_option maxRecDepth 100000 in
set_option maxHeartbeats 8000000 in
theorem seal26_any (s : Se) (a : Option Addr) (c : Nat) (seed : ByteArray) (k : Nat) (XB KB : Nat) (w : World) (bX : Box w XB (seV s a c) 53) (bK : Box w KB [.int .u8 k] 5) (hk : k ≤ 255) (hr : EnRow w (.slice a s.entries.length c) s.entries) (big : SeBig s) (h : sgnE s = 0) (hseed : seed.size ≤ 1000) :
    Calls Tryz.prog 26 #[.string seed, .pointer (some ⟨XB, 0, none⟩), .pointer (some ⟨KB, 0, none⟩)] w (fun e w' => e = .returned (.string (bA' (textL { s with sl := sigB seed ((k % 2 : Nat) : Int) (signedL s) }))) ∧ Below w.heap.size w w') := by
  have hck := ckS_of h
  have hsz := (sgnE_parts h).2.2.2.2.2
  have HSg := Lib.hid (show ∀ W, Below w.heap.size w W → _ from fun W hW => rsigned_mid s a c W big (midS_of hck).1 (hr.below hW) (midS_of hck).2)
  have hkw : (IntKind.i64.wrap (k : Int)).tmod 2 = ((k % 2 : Nat) : Int) := by rw [IntWalk.i64_in _ (by omega), Int.tmod_eq_emod_of_nonneg (by omega)]; rfl
  have HSn := Lib.hid (show ∀ (W : World) (d : ByteArray), d.data.toList = sumB (signedL s) → Calls Tryz.prog 27 #[.string seed, .int .i64 1, .int .i64 ((k : Int) % 2), .string d] W (RootP (treeSignL seed.data.toList 1 ((k % 2 : Nat) : Int) (sumB (signedL s))) (treeSignE 1 ((k % 2 : Nat) : Int)) W) from fun W d hd => by
    have := treeSignR_any seed 1 ((k % 2 : Nat) : Int) d W (by omega) (by show d.data.toList.length ≤ _; rw [hd, sumB_length]; decide) (by decide) (by omega)
    rw [hd] at this
    exact this)
  have HE := Lib.hid (show ∀ W, Below w.heap.size w W → ∀ t : ByteArray, t.size ≤ 2000 → _ from fun W hW t ht => rencode_big { s with sl := t } a c W (seBig_seal big ht) (hr.below hW))
  have HT := Lib.hid (show ∀ t : ByteArray, t.data.toList = treeSignL seed.data.toList 1 ((k % 2 : Nat) : Int) (sumB (signedL s)) → t = sigB seed ((k % 2 : Nat) : Int) (signedL s) from fun t ht => bA'_ext ht)
  have HZ := Lib.hid (sig_size seed ((k % 2 : Nat) : Int) (signedL s))
  have HFin := Lib.hid (sgnE_seal h (g := sigB seed ((k % 2 : Nat) : Int) (signedL s)) (Nat.le_trans HZ.out (by decide)))
  obtain ⟨G, hG⟩ : ∃ G, sigB seed ((k % 2 : Nat) : Int) (signedL s) = G := ⟨_, rfl⟩
  rw [hG] at HT HZ HFin ⊢
  clear hG
  change Box w XB [.int .i64 s.number, .int .i64 s.date, .string s.prev, .slice a s.entries.length c, .string s.stream, .string s.sl] _ at bX
  obtain ⟨kY, bY⟩ := boxr w [.int .i64 s.number, .int .i64 s.date, .string s.prev, .slice a s.entries.length c, .string s.stream, .string s.sl] 53
  have bX1 := bX.below kY
  have bK1 := bK.below kY
  obtain ⟨x0, x1, x2, x3, x4, x5⟩ := bX.cells6
  clear big hr hseed h hck
  go_enter Tryz.func26, Tryz.ntmps26
  go_upto_region 2 with (fail)
  change Code.wp _ _ _ _ (w.alloc (.cells [.int .i64 s.number, .int .i64 s.date, .string s.prev, .slice a s.entries.length c, .string s.stream, .string s.sl].toArray 53))
  generalize w.alloc (.cells [.int .i64 s.number, .int .i64 s.date, .string s.prev, .slice a s.entries.length c, .string s.stream, .string s.sl].toArray 53) = W1 at *
  have HC := Lib.hid (show ∀ W, Below W1.heap.size W1 W → (W.cell? ⟨XB, 0, none⟩ = some (.int .i64 s.number) ∧ W.cell? ⟨XB, 1, none⟩ = some (.int .i64 s.date) ∧ W.cell? ⟨XB, 2, none⟩ = some (.string s.prev) ∧ W.cell? ⟨XB, 3, none⟩ = some (.slice a s.entries.length c) ∧ W.cell? ⟨XB, 4, none⟩ = some (.string s.stream) ∧ W.cell? ⟨XB, 5, none⟩ = some (.string s.sl)) ∧ W.cell? ⟨KB, 0, none⟩ = some (.int .u8 k) from fun W hW => ⟨(bX1.below hW).cells6, (bK1.below hW).cell 0⟩)
  have bd := below_drew0 (below_refl W1)
  have s0 := HC.out _ (below_refl W1)
  have s1 := HC.out _ bd
  have hXl := bX.lt
  have hKl := bK.lt
  have HC2 := Lib.hid (show ∀ W v, Below W1.heap.size W1 W → ((W.setCell ⟨w.heap.size, 5, none⟩ v).cell? ⟨XB, 0, none⟩ = some (.int .i64 s.number) ∧ (W.setCell ⟨w.heap.size, 5, none⟩ v).cell? ⟨XB, 1, none⟩ = some (.int .i64 s.date) ∧ (W.setCell ⟨w.heap.size, 5, none⟩ v).cell? ⟨XB, 2, none⟩ = some (.string s.prev) ∧ (W.setCell ⟨w.heap.size, 5, none⟩ v).cell? ⟨XB, 3, none⟩ = some (.slice a s.entries.length c) ∧ (W.setCell ⟨w.heap.size, 5, none⟩ v).cell? ⟨XB, 4, none⟩ = some (.string s.stream) ∧ (W.setCell ⟨w.heap.size, 5, none⟩ v).cell? ⟨XB, 5, none⟩ = some (.string s.sl)) ∧ (W.setCell ⟨w.heap.size, 5, none⟩ v).cell? ⟨KB, 0, none⟩ = some (.int .u8 k) from fun W v hW => ⟨((bX1.below hW).setOther (j := 5) (by omega) v).cells6, ((bK1.below hW).setOther (j := 5) (by omega) v).cell 0⟩)
  clear x0 x1 x2 x3 x4 x5 bX bK
  go_region_held3 (fun W => (W.cell? ⟨XB, 0, none⟩ = some (.int .i64 s.number) ∧ W.cell? ⟨XB, 1, none⟩ = some (.int .i64 s.date) ∧ W.cell? ⟨XB, 2, none⟩ = some (.string s.prev) ∧ W.cell? ⟨XB, 3, none⟩ = some (.slice a s.entries.length c) ∧ W.cell? ⟨XB, 4, none⟩ = some (.string s.stream) ∧ W.cell? ⟨XB, 5, none⟩ = some (.string s.sl)) ∧ W.cell? ⟨KB, 0, none⟩ = some (.int .u8 k))
    (with_reducible assumption)
    (first
      | (go_at_call 25; (with_reducible refine (HSg.out _ (step2 kY bd)).mono ?_); rintro e w2 ⟨t1, rfl, ht1, hb2⟩; have k2 := step2 bd hb2; have s2 := HC.out _ k2; have s2a := HC.out _ (k2.alloc k2.size (.cells #[.string t1] 9)); have HSB := Lib.hid (one_sumRf t1 w2 (w2.alloc (.cells #[.string t1] 9)) (by rw [← toList_size, ht1.out]; omega) (below_refl _)))
      | (go_at_call 28; (with_reducible refine HSB.out.mono ?_); rintro e w3 ⟨t2, rfl, ht2, hb3⟩; have k3 := step2 (k2.alloc k2.size (.cells #[.string t1] 9)) hb3; have s3 := HC.out _ k3)
      | (go_at_call 27; (with_reducible refine (HSn.out _ t2 (by rw [ht2.out, ht1.out])).mono ?_); rintro e w4 ⟨t3, rfl, ht3, hb4⟩; have k4 := step2 k3 hb4; have s4 := HC.out _ k4; have s5 := HC2.out w4 (.string t3) k4; have y5 : w4.cell? ⟨w.heap.size, 5, none⟩ = some (.string s.sl) := (bY.below k4).cell 5; have f5 : w4.frozen? ⟨w.heap.size, 5, none⟩ = false := (bY.below k4).frozen 5))
  have hT : t3 = G := HT.out t3 ht3.out
  subst hT
  have bY5 : Box (w4.setCell ⟨w.heap.size, 5, none⟩ (.string t3)) w.heap.size [.int .i64 s.number, .int .i64 s.date, .string s.prev, .slice a s.entries.length c, .string s.stream, .string t3] 53 := (bY.below k4).set (j := 5) (.string t3)
  have kb : Below w.heap.size w (w4.setCell ⟨w.heap.size, 5, none⟩ (.string t3)) := (step2 kY k4).setCell (p := ⟨w.heap.size, 5, none⟩) (Nat.le_refl _) _
  generalize w4.setCell ⟨w.heap.size, 5, none⟩ (.string t3) = W5 at *
  obtain ⟨y0, y1, y2, y3, y4, y5'⟩ := bY5.cells6
  have HE2 := Lib.hid (HE.out _ kb t3 (Nat.le_trans HZ.out (by decide)))
  clear HC HC2 HSg HSn HT HE HSB k2 k3 k4 kY bX1 bK1 bY bY5 s0 s1 s2 s2a s3 s4 s5 y5 f5 hkw bd ht1 ht2 ht3 hb2 hb3 hb4
  go_wp2_with fail
  refine HE2.out.mono ?_
  rintro e w6 ⟨t, rfl, ht, hb6⟩
  rw [if_pos HFin.out] at ht
  have ht' := bA'_ext ht.out
  subst ht'
  have kf := step2 kb hb6
  clear HE2 hb6 ht
  go_wp2_with fail
  go_ret
  exact ⟨rfl, kf⟩
end Go.Proofs.YtpkapcijgldhhaaGreatDoor

namespace Go.Proofs.YtpkapcijgldhhaaGreatDoor
open Go.RowKit Go.Shelf
/-- what a text gives: with the root it is restored if b says so, without it always -/
structure TxOk (n : Int) (root : List UInt8) (t : ByteArray) (b : Bool) : Prop where
  size : t.size ≤ 2700
  rt : goD (framesN n 1 0 t.data.toList 1) n root 15 = if b then some t.data.toList else none
  op : goD (framesN n 1 0 t.data.toList 1) n [] 15 = some t.data.toList
theorem strL_le1000 {l : List UInt8} (h : l.length ≤ 1000) : (strL l).length ≤ 1030 := strL_len30S h (by decide)
theorem txok_seal {x : Se} (h : sgnE x = 0) (hl : (signedL x).length ≤ 700) (seed : ByteArray) (k : Nat) {root : List UInt8} (hr : root ≠ []) :
    TxOk x.number root (bA' (textL { x with sl := sigB seed ((k % 2 : Nat) : Int) (signedL x) })) (decide (rootL seed.data.toList 1 = root)) := by
  have hz := sig_size seed ((k % 2 : Nat) : Int) (signedL x)
  refine ⟨?_, ?_, ?_⟩
  · show (bA' (textL { x with sl := sigB seed ((k % 2 : Nat) : Int) (signedL x) })).data.toList.length ≤ 2700
    rw [bA'_list, textL_len, signedL_seal]
    have := strL_le1000 (l := (sigB seed ((k % 2 : Nat) : Int) (signedL x)).data.toList) hz
    show 8 + (signedL x).length + (strL (sigB seed ((k % 2 : Nat) : Int) (signedL x)).data.toList).length ≤ 2700
    omega
  · rw [bA'_list, goD_seal h seed (k % 2) (Nat.mod_lt _ (by decide)) root hr]
    by_cases e : rootL seed.data.toList 1 = root
    · rw [if_pos e, decide_eq_true e]; rfl
    · rw [if_neg e, decide_eq_false e]; rfl
  · rw [bA'_list]
    exact goD_open (sgnE_seal h (Nat.le_trans hz (by decide)))
theorem txok_bare {x : Se} (h : sgnE x = 0) (hl : (signedL x).length ≤ 700) (hs : x.sl = ⟨#[]⟩) {root : List UInt8} (hr : root ≠ []) {t : ByteArray} (ht : t.data.toList = textL x) : TxOk x.number root t false := by
  have hz : x.sl.data.toList = [] := by rw [hs]
  refine ⟨?_, ?_, ?_⟩
  · show t.data.toList.length ≤ 2700
    rw [ht, textL_len, hz]
    have := strL_le1000 (l := []) (by decide)
    omega
  · rw [ht, goD_bare h hz root hr]; rfl
  · rw [ht]; exact goD_open h
theorem frames_smallS {n : Int} {l : List UInt8} (hl : l.length ≤ 2700) : SmallF (framesN n 1 0 l 1) := by
  have hc : cntP l.length ≤ 100 := by unfold cntP; omega
  refine ⟨by rw [framesN_len]; omega, fun f hf => ?_⟩
  obtain ⟨r, i, _, _, rfl⟩ := framesN_mem hf
  rw [frD_len]; decide
set_option maxRecDepth 100000 in
set_option maxHeartbeats 8000000 in
theorem lawSeal45_any (s : Se) (a : Option Addr) (c : Nat) (sd0 sd1 : ByteArray) (k : Nat) (w : World) (he : Env w) (hm : HasMax w) (hr : EnRow w (.slice a s.entries.length c) s.entries) (ok : SeBig s) (wf : SeWf s) (hk : k ≤ 255) (hs0 : sd0.size ≤ 140737488355328) (hs1 : sd1.size ≤ 140737488355328) :
    Calls Tryz.prog 9 #[.agg #[.int .i64 s.number, .int .i64 s.date, .string s.prev, .slice a s.entries.length c, .string s.stream, .string s.sl], .agg #[.string sd0, .string sd1], .int .u8 k] w (TrueP w) := by
  obtain ⟨x, hx⟩ : ∃ x : Se, { s with sl := ⟨#[]⟩ } = x := ⟨_, rfl⟩
  have hxr : EnRow w (.slice a x.entries.length c) x.entries := by rw [← hx]; exact hr
  have hxo : SeBig x := by rw [← hx]; exact ⟨ok.number, ok.date, ok.prev, ok.stream, by show (0 : Nat) ≤ _; omega, ok.count, ok.ents⟩
  have hxw : SeWf x := by rw [← hx]; exact ⟨wf.number, wf.date, wf.prev, wf.stream, by show (0 : Nat) ≤ _; omega, wf.ents⟩
  have HXS := Lib.hid (show x.sl = ⟨#[]⟩ by rw [← hx])
  have HVX := Lib.hid (show ([.int .i64 s.number, .int .i64 s.date, .string s.prev, .slice a s.entries.length c, .string s.stream, .string s.sl].set 5 (.string ⟨#[]⟩) : List Value) = [.int .i64 x.number, .int .i64 x.date, .string x.prev, .slice a x.entries.length c, .string x.stream, .string x.sl] by rw [← hx]; rfl)
  clear hr ok wf hx
  have HA := Lib.hid (show ∀ W, Below w.heap.size w W → _ from fun W hW => alive45_any W (he.below hW) (hm.below hW))
  have HE := Lib.hid (show ∀ W, Below w.heap.size w W → _ from fun W hW => rencode_big x a c W hxo (hxr.below hW))
  have HG := Lib.hid (show ∀ W, Below w.heap.size w W → _ from fun W hW => sgreat_any x a c W hxw (hxr.below hW))
  have HSg := Lib.hid (show sgnE x = 0 → ∀ W, Below w.heap.size w W → _ from fun h W hW => rsigned_mid x a c W hxo (midS_of (ckS_of h)).1 (hxr.below hW) (midS_of (ckS_of h)).2)
  have HD := Lib.hid (show ∀ W, Below w.heap.size w W → ∀ (F : List Fr) (v : Value) (root : ByteArray), FrRow W v F → SmallF F → _ from fun W hW F v root hF hs => directory_any 1 v F x.number root W (he.below hW) (hm.below hW) hF hs)
  have HSe := Lib.hid (show sgnE x = 0 → ∀ (seed : ByteArray), seed.size ≤ 1000 → ∀ W (XB KB : Nat), Below w.heap.size w W → Box W XB (seV x a c) 53 → Box W KB [.int .u8 k] 5 → _ from fun h seed hseed W XB KB hW hX hK => seal26_any x a c seed k XB KB W hX hK hk (hxr.below hW) hxo h hseed)
  have HRo := Lib.hid (show ∀ (seed : ByteArray), seed.size ≤ 1000 → ∀ W, _ from fun seed hs W => rootR_any seed 1 W (by omega) (by decide))
  clear he hm hxr hxo hxw
  obtain ⟨k1, b1⟩ := boxr w [.int .i64 s.number, .int .i64 s.date, .string s.prev, .slice a s.entries.length c, .string s.stream, .string s.sl] 53
  obtain ⟨k2, b2⟩ := boxr (w.alloc (.cells [.int .i64 s.number, .int .i64 s.date, .string s.prev, .slice a s.entries.length c, .string s.stream, .string s.sl].toArray 53)) [.string sd0, .string sd1] 62
  obtain ⟨k3, b3⟩ := boxr ((w.alloc (.cells [.int .i64 s.number, .int .i64 s.date, .string s.prev, .slice a s.entries.length c, .string s.stream, .string s.sl].toArray 53)).alloc (.cells [.string sd0, .string sd1].toArray 62)) [.int .u8 (k : Int)] 5
  have kb := step2 (step2 k1 k2) k3
  replace b1 := (b1.below k2).below k3
  replace b2 := b2.below k3
  simp only [World.size_alloc] at b2 b3
  clear k1 k2 k3
  go_enter Tryz.func9, Tryz.ntmps9
  go_upto_region 1 with (fail)
  change Code.wp _ _ _ _ (((w.alloc (.cells [.int .i64 s.number, .int .i64 s.date, .string s.prev, .slice a s.entries.length c, .string s.stream, .string s.sl].toArray 53)).alloc (.cells [.string sd0, .string sd1].toArray 62)).alloc (.cells [.int .u8 (k : Int)].toArray 5))
  generalize ((w.alloc (.cells [.int .i64 s.number, .int .i64 s.date, .string s.prev, .slice a s.entries.length c, .string s.stream, .string s.sl].toArray 53)).alloc (.cells [.string sd0, .string sd1].toArray 62)).alloc (.cells [.int .u8 (k : Int)].toArray 5) = W0 at *
  go_wp2_with fail
  refine (HA.out _ kb).mono ?_
  rintro e w1 ⟨rfl, hb1⟩
  replace kb := step2 kb hb1
  replace b1 := b1.below hb1
  replace b2 := b2.below hb1
  replace b3 := b3.below hb1
  clear HA hb1
  have f5 := b1.frozen 5
  have x5 : w1.cell? ⟨w.heap.size, 5, none⟩ = some (.string s.sl) := b1.cell 5
  go_upto_region 4 with (fail)
  change Code.wp _ _ _ _ (w1.setCell ⟨w.heap.size, 5, none⟩ (.string ⟨#[]⟩))
  replace b1 := b1.set (j := 5) (.string ⟨#[]⟩)
  rw [HVX.out] at b1
  replace b2 := b2.setOther (E' := w.heap.size) (j := 5) (by omega) (.string ⟨#[]⟩)
  replace b3 := b3.setOther (E' := w.heap.size) (j := 5) (by omega) (.string ⟨#[]⟩)
  replace kb := kb.setCell (p := ⟨w.heap.size, 5, none⟩) (Nat.le_refl _) (.string ⟨#[]⟩)
  generalize w1.setCell ⟨w.heap.size, 5, none⟩ (.string ⟨#[]⟩) = W2 at *
  clear f5 x5 HVX
  obtain ⟨x0, x1, x2, x3, x4, x5⟩ := b1.cells6
  go_wp2_with fail
  refine (HE.out _ kb).mono ?_
  rintro e w3 ⟨t, rfl, ht, hb3⟩
  replace kb := step2 kb hb3
  replace b1 := b1.below hb3
  replace b2 := b2.below hb3
  replace b3 := b3.below hb3
  clear hb3 x0 x1 x2 x3 x4 x5
  by_cases hse : sgnE x = 0
  case neg =>
    obtain ⟨y1, y2⟩ := neq0 hse
    generalize sgnE x = se at *
    clear HE HG HSg HD HSe HRo ht hse
    go_wp2_with fail
    go_ret
    exact ⟨rfl, kb⟩
  have hse0 : sgnE x = 0 := hse
  have HSE := Lib.hid hse
  rw [hse]
  rw [if_pos hse, hse] at HE
  clear ht hse hse0
  replace HSg := Lib.hid (HSg.out HSE.out)
  replace HSe := Lib.hid (HSe.out HSE.out)
  obtain ⟨x0, x1, x2, x3, x4, x5⟩ := b1.cells6
  go_wp2_with fail
  refine (HG.out _ kb).mono ?_
  rintro e w4 ⟨g, rfl, hg, _, hb4⟩
  replace kb := step2 kb hb4
  replace b1 := b1.below hb4
  replace b2 := b2.below hb4
  replace b3 := b3.below hb4
  clear HG hb4 x0 x1 x2 x3 x4 x5
  rcases hg.out with rfl | rfl
  case inr =>
    clear HE HSg HD HSe HRo hg
    go_wp2_with fail
    go_ret
    exact ⟨rfl, kb⟩
  clear hg
  obtain ⟨x0, x1, x2, x3, x4, x5⟩ := b1.cells6
  go_wp2_with fail
  refine (HSg.out _ kb).mono ?_
  rintro e w5 ⟨g5, rfl, hg5, hb5⟩
  replace kb := step2 kb hb5
  replace b1 := b1.below hb5
  replace b2 := b2.below hb5
  replace b3 := b3.below hb5
  clear hb5 x0 x1 x2 x3 x4 x5
  have hgz : g5.size = (signedL x).length := by rw [← toList_size, hg5.out]
  obtain ⟨q0, q1⟩ := b2.cells2
  by_cases hl : 700 < g5.size
  · clear HE HSg HD HSe HRo hgz
    go_wp2_with fail
    go_ret
    exact ⟨rfl, kb⟩
  have hsl : (signedL x).length ≤ 700 := by omega
  by_cases hz : 100 < sd0.size + sd1.size
  · have hzi : 100 < (sd0.size : Int) + (sd1.size : Int) := by omega
    clear HE HSg HD HSe HRo hgz
    go_wp2_with fail
    go_ret
    exact ⟨rfl, kb⟩
  have hzi : ¬ 100 < (sd0.size : Int) + (sd1.size : Int) := by omega
  clear hgz hg5
  have hmf : ∀ (fn : Fn) (first cap : Array Value) (w : World), (Instr.makeFunc fn first cap).run Tryz.prog w = .ok (.func fn first cap) w := fun _ _ _ _ => rfl
  have HR0 := Lib.hid (fun W => HRo.out sd0 (by omega) W)
  have HR1 := Lib.hid (fun W => HRo.out sd1 (by omega) W)
  have HS0 := Lib.hid (fun W => HSe.out sd0 (by omega) W)
  have HS1 := Lib.hid (fun W => HSe.out sd1 (by omega) W)
  clear HRo HSe
  go_wp2_with fail
  refine (HR0.out _).mono ?_
  rintro e w6 ⟨r0, rfl, hr0, hb6⟩
  replace kb := step2 kb hb6
  replace b1 := b1.below hb6
  replace b2 := b2.below hb6
  replace b3 := b3.below hb6
  clear hb6 HR0 q0 q1
  obtain ⟨q0, q1⟩ := b2.cells2
  go_wp2_with fail
  refine (HR1.out _).mono ?_
  rintro e w7 ⟨r1, rfl, hr1, hb7⟩
  replace kb := step2 kb hb7
  replace b1 := b1.below hb7
  replace b2 := b2.below hb7
  replace b3 := b3.below hb7
  clear hb7 HR1 q0 q1
  obtain ⟨k8, b4⟩ := boxr w7 [.int .i64 1, .int .i64 0] 39
  go_upto_region 11 with (fail)
  change Code.wp _ _ _ _ (w7.alloc (.cells [.int .i64 1, .int .i64 0].toArray 39))
  replace kb := step2 kb k8
  replace b1 := b1.below k8
  replace b2 := b2.below k8
  replace b3 := b3.below k8
  have hb3l := b3.lt
  generalize w7.alloc (.cells [.int .i64 1, .int .i64 0].toArray 39) = W8 at *
  obtain ⟨LB, hLB⟩ : ∃ LB, w7.heap.size = LB := ⟨_, rfl⟩
  rw [hLB] at b4 ⊢
  clear k8 hLB
  obtain ⟨x0, x1, x2, x3, x4, x5⟩ := b1.cells6
  go_wp2_with fail
  refine (HE.out _ kb).mono ?_
  rintro e w9 ⟨tp, rfl, htp, hb9⟩
  replace kb := step2 kb hb9
  replace b1 := b1.below hb9
  replace b2 := b2.below hb9
  replace b3 := b3.below hb9
  replace b4 := b4.below hb9
  clear hb9 HE x0 x1 x2 x3 x4 x5
  go_upto_region 12 with (fail)
  have hne : r0.data.toList ≠ [] := by rw [hr0.out]; exact rootL_ne _
  have HT0 : Hid (TxOk x.number r0.data.toList (bA' (textL { x with sl := sigB sd0 ((k % 2 : Nat) : Int) (signedL x) })) true) := by
    have := txok_seal HSE.out hsl sd0 k hne
    rw [decide_eq_true hr0.out.symm] at this
    exact this
  have HT1 := Lib.hid (txok_seal HSE.out hsl sd1 k hne)
  rw [← hr1.out] at HT1
  have HTp := Lib.hid (txok_bare HSE.out hsl HXS.out hne htp.out)
  clear hne
  have bd := below_drew0 (below_refl w9)
  have HCS := Lib.hid (show ∀ W, Below w9.heap.size w9 W → W.cell? ⟨w.heap.size + 1, 0, none⟩ = some (.string sd0) ∧ W.cell? ⟨w.heap.size + 1, 1, none⟩ = some (.string sd1) from fun W hW => (b2.below hW).cells2)
  have s0 := HCS.out _ (below_refl w9)
  have s1 := HCS.out _ bd
  have kd := step2 kb bd
  have bXd := b1.below bd
  have bKd := b3.below bd
  have HTL := Lib.hid (show tp.size = 8 + (signedL x).length + 3 by rw [← toList_size, htp.out, textL_len, HXS.out, show (strL (⟨#[]⟩ : ByteArray).data.toList).length = 3 from by first | rfl | decide +kernel | (rw [strL_length]; rfl) | (rw [strL_length]; decide +kernel)])
  generalize hTA : bA' (textL { x with sl := sigB sd0 ((k % 2 : Nat) : Int) (signedL x) }) = TA at *
  generalize hTB : bA' (textL { x with sl := sigB sd1 ((k % 2 : Nat) : Int) (signedL x) }) = TB at *
  have HS0' := Lib.hid (show ∀ W (XB KB : Nat), Below w.heap.size w W → Box W XB (seV x a c) 53 → Box W KB [.int .u8 k] 5 → Calls Tryz.prog 26 #[.string sd0, .pointer (some ⟨XB, 0, none⟩), .pointer (some ⟨KB, 0, none⟩)] W (fun e w' => e = .returned (.string TA) ∧ Below W.heap.size W w') from fun W XB KB h1 h2 h3 => HS0.out W XB KB h1 h2 h3)
  have HS1' := Lib.hid (show ∀ W (XB KB : Nat), Below w.heap.size w W → Box W XB (seV x a c) 53 → Box W KB [.int .u8 k] 5 → Calls Tryz.prog 26 #[.string sd1, .pointer (some ⟨XB, 0, none⟩), .pointer (some ⟨KB, 0, none⟩)] W (fun e w' => e = .returned (.string TB) ∧ Below W.heap.size W w') from fun W XB KB h1 h2 h3 => HS1.out W XB KB h1 h2 h3)
  clear HS0 HS1 hTA hTB htp hr0 hr1
  go_region_held3 (fun W => W.cell? ⟨w.heap.size + 1, 0, none⟩ = some (.string sd0) ∧ W.cell? ⟨w.heap.size + 1, 1, none⟩ = some (.string sd1))
    (with_reducible assumption)
    (first
      | (go_at_call 26; (with_reducible refine (HS0'.out _ _ _ kd bXd bKd).mono ?_); rintro e wA ⟨rfl, hbA⟩; have kA := step2 bd hbA; have sA := HCS.out _ kA; have kA' := step2 kd hbA; have bXA := bXd.below hbA; have bKA := bKd.below hbA)
      | (go_at_call 26; (with_reducible refine (HS1'.out _ _ _ kA' bXA bKA).mono ?_); rintro e wB ⟨rfl, hbB⟩; have kB := step2 kA hbB; have sB := HCS.out _ kB; have sB2 := HCS.out _ (kB.alloc kB.size (.cells #[.string TA, .string TB, .string tp] 9))))
  obtain ⟨k10, bT⟩ := boxr wB [.string TA, .string TB, .string tp] 9
  have kw := step2 (step2 kA' hbB) k10
  have c1 := (bXA.below hbB).below k10
  have c4 := (b4.below kB).below k10
  generalize wB.alloc (.cells [.string TA, .string TB, .string tp].toArray 9) = W10 at *
  obtain ⟨TBk, hTBk⟩ : ∃ n, wB.heap.size = n := ⟨_, rfl⟩
  rw [hTBk] at bT ⊢
  clear hTBk k10 kA kA' kB kd bd s0 s1 sA sB sB2 bXd bKd bXA bKA HCS b1 b2 b3 b4 kb HS0' HS1' hmf hbA hbB
  change Box W10 w.heap.size [.int .i64 x.number, .int .i64 x.date, .string x.prev, .slice a x.entries.length c, .string x.stream, .string x.sl] _ at c1
  generalize x.number = n at *
  generalize x.date = dt at *
  generalize x.prev = pv at *
  generalize x.stream = sm at *
  have HXsl := HXS
  go_wp2_with fail
  go_loopw [17, 18, 19, 20, 21, 22, 23, 85] (fun _ _ _ _ _ _ _ vi W => ∃ i : Nat, i ≤ 3 ∧ vi = .int .i64 i ∧ Below W10.heap.size W10 W) (fun _ _ _ _ _ _ _ vi _ => 3 - (intOf vi).toNat)
  case atStart => exact ⟨0, by omega, rfl, below_refl _⟩
  case round =>
    obtain ⟨i, hi, rfl, kI⟩ := hrel
    by_cases hlt : i < 3
    · have hii : (0 : Int) ≤ (i : Int) ∧ (i : Int) < 3 := by omega
      obtain ⟨T, b, hc, hT, hb0, hb1⟩ : ∃ (T : ByteArray) (b : Bool), wr.cell? ⟨TBk, i, none⟩ = some (.string T) ∧ TxOk n r0.data.toList T b ∧ (b = true → i = 0 ∨ (i = 1 ∧ r0 = r1)) ∧ ((i = 0 ∨ (i = 1 ∧ r0 = r1)) → b = true) := by
        have hcell := (bT.below kI).cell i
        match i, hlt with
        | 0, _ => exact ⟨TA, true, hcell, HT0.out, fun _ => .inl rfl, fun _ => rfl⟩
        | 1, _ =>
          refine ⟨TB, _, hcell, HT1.out, fun h => .inr ⟨rfl, ?_⟩, fun h => ?_⟩
          · have := of_decide_eq_true h
            exact (ba_inj this).symm
          · rcases h with h | ⟨_, h⟩
            · cases h
            · exact decide_eq_true (by rw [h])
        | 2, _ =>
          refine ⟨tp, false, hcell, HTp.out, ?_, ?_⟩
          · intro h; cases h
          · intro h
            rcases h with h | ⟨h, _⟩
            · cases h
            · cases h
      have HT := Lib.hid hT
      have HDr := Lib.hid (show Calls Tryz.prog 23 #[.int .i64 n, .agg #[.int .i64 1, .int .i64 0], .string T] wr (fun e w' => ∃ v, e = .returned v ∧ OwnG wr.heap.size 46 9 Fr.vals w' v (framesN n 1 0 T.data.toList 1) ∧ Below wr.heap.size wr w') from dirs45_any n 1 0 T wr (by decide) (by decide) hT.size)
      have hsm : SmallF (framesN n 1 0 T.data.toList 1) := frames_smallS (show T.data.toList.length ≤ 2700 from hT.size)
      have HGo := Lib.hid hT.rt
      have HGo2 := Lib.hid hT.op
      obtain ⟨x0, _, _, _, _, _⟩ := (c1.below kI).cells6
      obtain ⟨l0, l1⟩ := (c4.below kI).cells2
      generalize framesN n 1 0 T.data.toList 1 = F at *
      clear hT HT HT0 HT1 HTp
      go_wp2_with fail
      refine HDr.out.mono ?_
      rintro e wa ⟨v, rfl, hown, hba⟩
      have kJ := step2 kI hba
      have hrow : FrRow wa v F := OwnG.row (n := 9) (f := Fr.vals) (d := fr0) (fun _ => rfl) hown
      obtain ⟨va, vc, rfl⟩ := own_form hown
      obtain ⟨kC, bC⟩ := boxr wa [.int .u32 1, .slice va F.length vc] 25
      clear HDr hown hba x0 l0 l1 hc
      go_upto_region 16 with (fail)
      change Code.wp _ _ _ _ (wa.alloc (.cells [.int .u32 1, .slice va F.length vc].toArray 25))
      have kJ := step2 kJ kC
      have hrow := hrow.below kC
      generalize wa.alloc (.cells [.int .u32 1, .slice va F.length vc].toArray 25) = Wb at *
      generalize wa.heap.size = CB at *
      obtain ⟨x0, _, _, _, _, _⟩ := (c1.below kJ).cells6
      obtain ⟨d0, d1⟩ := bC.cells2
      have HD1 := Lib.hid (HD.out Wb (step2 kw kJ) F _ r0 hrow hsm)
      rw [HGo.out] at HD1
      clear HGo kC kI
      go_wp2_with fail
      refine HD1.out.mono ?_
      rintro e wc ⟨rfl, hbc⟩
      have kK := step2 kJ hbc
      have bC2 := bC.below hbc
      have hrow2 := hrow.below hbc
      have HD2 := Lib.hid (HD.out wc (step2 kw kK) F _ ⟨#[]⟩ hrow2 hsm)
      rw [show (⟨#[]⟩ : ByteArray).data.toList = [] from rfl, HGo2.out] at HD2
      clear HD1 HGo2 bC hrow hrow2 hsm x0 d0 d1
      obtain ⟨x0, _, _, _, _, _⟩ := (c1.below kK).cells6
      obtain ⟨d0, d1⟩ := bC2.cells2
      go_upto_region 17 with (fail)
      go_cut [114] from 104 to 114 (fun y W => y = .bool b ∧ wc = W)
      case first =>
        clear HD2 HD x0 d0 d1
        obtain rfl | rfl | rfl : i = 0 ∨ i = 1 ∨ i = 2 := by omega
        · have hbt : b = true := hb1 (.inl rfl)
          subst hbt
          go_wp2_with fail
          go_meet
          case rel => exact ⟨rfl, rfl⟩
        · by_cases hrr : r0 = r1
          · have hbt : b = true := hb1 (.inr ⟨rfl, hrr⟩)
            subst hbt hrr
            go_wp2_with fail
            go_meet
            case rel => exact ⟨rfl, rfl⟩
          · have hbt : b = false := by
              cases b with
              | false => rfl
              | true =>
                rcases hb0 rfl with h | ⟨_, h⟩
                · cases h
                · exact absurd h hrr
            subst hbt
            have yy : (r0.toList == r1.toList) = false := by rw [beq_lists]; simp; exact fun e => hrr (ba_inj (congrArg Array.toList e))
            clear hb0 hb1
            go_wp2_with fail
            go_meet
            case rel => exact ⟨rfl, rfl⟩
        · have hbt : b = false := by
            cases b with
            | false => rfl
            | true =>
              rcases hb0 rfl with h | ⟨h, _⟩
              · cases h
              · cases h
          subst hbt
          clear hb0 hb1
          go_wp2_with fail
          go_meet
          case rel => exact ⟨rfl, rfl⟩
      case rest =>
        obtain ⟨rfl, rfl⟩ := hcut
        have e3 : dirS (some T.data.toList) = T := bA'_of T
        have e4 : dirE (some T.data.toList) = 0 := rfl
        have e5 : dirS none = ⟨#[]⟩ := rfl
        have e6 : dirE none = 19 := rfl
        clear hb0 hb1
        unfold DirP at HD2
        rw [e3, e4] at HD2
        cases b with
        | true =>
          rw [if_pos (rfl : true = true), e3, e4]
          clear e3 e4 e5 e6
          go_wp2_with fail
          refine HD2.out.mono ?_
          rintro e wd ⟨rfl, hbd⟩
          have kL := step2 kK hbd
          clear HD2 hbd x0 d0 d1
          go_wp2_with fail
          go_roundw
          case rel => exact ⟨i + 1, by omega, by go_num, kL⟩
          case measure => simp [intOf]; omega
        | false =>
          rw [if_neg (by decide : ¬ false = true), e5, e6]
          clear e3 e4 e5 e6
          go_wp2_with fail
          refine HD2.out.mono ?_
          rintro e wd ⟨rfl, hbd⟩
          have kL := step2 kK hbd
          clear HD2 hbd x0 d0 d1
          go_wp2_with fail
          go_roundw
          case rel => exact ⟨i + 1, by omega, by go_num, kL⟩
          case measure => simp [intOf]; omega
    · obtain rfl : i = 3 := by omega
      have kf := step2 kw kI
      obtain ⟨x0, x1, x2, x3, x4, x5⟩ := (c1.below kI).cells6
      have HStr := Lib.hid (fun W => refString_any ⟨#[]⟩ W (by decide))
      clear HD HT0 HT1 HTp bT c4
      go_wp2_with fail
      refine (HSg.out _ kf).mono ?_
      rintro e wz ⟨g, rfl, hg, hbz⟩
      have kf := step2 kf hbz
      have hgz : g.size = (signedL x).length := by rw [← toList_size, hg.out]
      have hg7 : g.size ≤ 700 := by omega
      have HGZ := Lib.hid hgz
      clear hgz
      clear HSg hbz x0 x1 x2 x3 x4 x5 hg
      go_wp2_with fail
      refine (HStr.out _).mono ?_
      rintro e wy ⟨u, rfl, hu, rfl⟩
      have huz : u.size = 3 := by rw [← toList_size, hu.out]; first | rfl | decide +kernel | (rw [strL_length]; rfl)
      have htz : tp.size = 8 + g.size + u.size := by rw [HTL.out, HGZ.out, huz]
      have HTZ := Lib.hid htz
      have yy : ((tp.size : Int) == 8 + (g.size : Int) + (u.size : Int)) = true := by rw [beq_iff_eq]; omega
      have hu3 : u.size ≤ 3 := by omega
      clear HStr hu htz HGZ huz
      go_wp2_with fail
      go_ret
      exact ⟨rfl, kf⟩
theorem lawSeal45_card (s : Se) (a : Option Addr) (c : Nat) (sd0 sd1 : ByteArray) (k : Int) (w : World) (he : Env w) (hm : HasMax w) (hr : EnRow w (.slice a s.entries.length c) s.entries) (ok : SeBig s) (wf : SeWf s) (hs0 : sd0.size ≤ 140737488355328) (hs1 : sd1.size ≤ 140737488355328) (hk : 0 ≤ k ∧ k ≤ 255) :
    Calls Tryz.prog 9 #[.agg #[.int .i64 s.number, .int .i64 s.date, .string s.prev, .slice a s.entries.length c, .string s.stream, .string s.sl], .agg #[.string sd0, .string sd1], .int .u8 k] w (TrueP w) := by
  obtain ⟨k, rfl⟩ := Int.eq_ofNat_of_zero_le hk.1
  exact lawSeal45_any s a c sd0 sd1 k w he hm hr ok wf (by omega) hs0 hs1
end Go.Proofs.YtpkapcijgldhhaaGreatDoor
