/-
  blake2s.Sum: the walk.
-/
import Derived.Test.YtpkapcijgldhhaaGreatDoorCompress
import Derived.Test.YtpkapcijgldhhaaGreatDoorNetRows
import Derived.Deep.CutBlock
import Derived.Laws.BytesString
import Derived.Laws.IdiomStrings
import Derived.Deep.RegionWith
import Derived.Deep.RegionHeld3
namespace Go.Proofs.YtpkapcijgldhhaaGreatDoor
open Go.RowKit
theorem intercalate_nil (l : List (List UInt8)) : ([] : List UInt8).intercalate l = l.flatten := by
  induction l with
  | nil => rfl
  | cons a r ih =>
    cases r with
    | nil => simp [List.intercalate]
    | cons b r => rw [List.intercalate_cons_cons, ih]; simp
theorem repeatL_zero (n : Nat) : Lib.repeatL [0] n = List.replicate n 0 := by
  induction n with
  | zero => rfl
  | succ n ih => rw [Lib.repeatL, ih, List.replicate_succ]; rfl
theorem absorb_step {f n : Nat} {h : Nat → UInt32} {s : List UInt8} (hs : 64 < s.length) : absorb (f + 1) h n s = absorb f (compress h (s.take 64) (n + 64) false) (n + 64) (s.drop 64) := by
  rw [absorb, if_neg (by omega)]
theorem absorb_last {f n : Nat} {h : Nat → UInt32} {s : List UInt8} (hs : s.length ≤ 64) : absorb (f + 1) h n s = compress h (pad s) (n + s.length) true := by
  rw [absorb, if_pos hs]
/-- where the absorption of d stands: n bytes are in, the state is g, fuel f is left -/
def Abs (d : List UInt8) (n f : Nat) (g : Nat → UInt32) : Prop := absorb f g n (d.drop n) = absorb (d.length + 1) h0 0 d ∧ n ≤ d.length ∧ d.length < n + 64 * f
theorem Abs.start (d : List UInt8) : Abs d 0 (d.length + 1) h0 := ⟨by simp, by omega, by omega⟩
theorem Abs.step {d : List UInt8} {n f : Nat} {g : Nat → UInt32} (h : Abs d n f g) (hn : n + 64 < d.length) : Abs d (n + 64) (f - 1) (compress g ((d.drop n).take 64) (n + 64) false) := by
  obtain ⟨h1, h2, h3⟩ := h
  obtain ⟨k, rfl⟩ : ∃ k, f = k + 1 := ⟨f - 1, by omega⟩
  rw [absorb_step (by simp; omega)] at h1
  refine ⟨?_, by omega, by omega⟩
  rw [← h1, List.drop_drop]
  rfl
theorem Abs.last {d : List UInt8} {n f : Nat} {g : Nat → UInt32} (h : Abs d n f g) (hn : d.length ≤ n + 64) : compress g (pad (d.drop n)) d.length true = absorb (d.length + 1) h0 0 d := by
  obtain ⟨h1, h2, h3⟩ := h
  obtain ⟨k, rfl⟩ : ∃ k, f = k + 1 := ⟨f - 1, by omega⟩
  rw [absorb_last (by simp; omega)] at h1
  rw [← h1, List.length_drop, show n + (d.length - n) = d.length from by omega]
theorem infoU8 : (Tryz.prog.info? 5).map (fun i => (i.zero, i.size, i.bytes)) = some (some (.int .u8 0), 1, 1) := by kernel_rfl
theorem hb_index (g : Nat → UInt32) (k : Nat) (hk : k < 8) (w : World) : (Instr.index 143 (.agg (l8 g).toArray) (.int .i64 k)).run Tryz.prog w = .ok (.int .u32 (wd (g k))) w := by
  rcases k with _|_|_|_|_|_|_|_|k
  all_goals first | (exfalso; omega; done) | kernel_rfl
/-- a byte as the walk holds it -/
def bd (c : UInt8) : Int := c.toNat
theorem u8_of (x : UInt32) : IntKind.u8.wrap (wd x) = bd x.toUInt8 := by
  simp [IntKind.wrap, IntKind.signed, IntKind.bits, wd, bd]
theorem xor_iv (a : UInt32) : bits BinOp.xor IntKind.u32 (wd a) 16842784 = wd (a ^^^ 0x01010020) := u32_xor a 0x01010020
theorem run_store8 {P : Program} {w : World} {b : Nat} (h : Free w b 8) (G : Nat → UInt32) : (storeCells ⟨b, 0, none⟩ (l8 G)).run P w = .ok () (w.setCells b 0 (l8 G)) := by
  have := run_storeCells_cells (P := P) b 0 (l8 G) 0 w (fun j hj => by obtain ⟨⟨x, hx⟩, _⟩ := h j hj; simp [hx]) (fun j hj => by simpa using (h j hj).2) (oneCell8 G)
  simpa using this
theorem repeat_at (c : Int) (m : Nat) (w : World) (hc : c = m) (hm : m ≤ 64) :
    Calls Tryz.prog 43 #[.string ⟨#[0]⟩, .int .i64 c] w (StrP (List.replicate m 0) w) := by
  subst hc
  refine (Tryz.strings_Repeat ⟨#[0]⟩ m w (by omega) (by show 1 * m ≤ _; omega)).mono ?_
  rintro e w' ⟨rfl, hb⟩
  exact ⟨_, rfl, repeatL_zero m, hb⟩
theorem bytes_back {w : World} {base : Nat} {v : Value} {l : List UInt8} (h : w.ownsRow base 5 1 v l.length (Lib.byteCells l)) (hl : 0 < l.length) :
    ∃ a cap, v = .slice (some a) l.length cap ∧ (convert 60 9 v).run Tryz.prog w = .ok (.string ⟨l.toArray⟩) w := by
  rcases h.2 with ⟨_, h0⟩ | ⟨g, cap, cur, rfl, _, hg, hnc, hcm, hcs, htake⟩
  · omega
  · refine ⟨_, _, rfl, run_convert_bytes_back w _ _ 5 ⟨g, 0, none⟩ cap l Tryz.underlying60 Tryz.underlying5 Tryz.underlying9 fun j hj => ?_⟩
    exact h.cells (g := g) rfl j _ (by unfold Lib.byteCells; rw [List.getElem?_map, List.getElem?_eq_getElem hj]; rfl)
theorem compress_at (f : Nat → UInt32) (s : ByteArray) (c : Int) (n : Nat) (last : Bool) (w : World) (hs : Hid (s.size = 64)) (hc : c = n) (hn : n < 4611686018427387904) :
    Calls Tryz.prog 106 #[.agg (l8 f).toArray, .string s, .int .u64 c, .bool last] w fun e w' => e = .returned (.tuple #[.agg (l8 (compress f s.data.toList n last)).toArray, .int .i64 0]) ∧ Below w.heap.size w w' := by
  subst hc; exact compress_any f s n last w hs hn
theorem cell_new4 (w : World) (a b c d : Value) (T : TypeId) (z : Nat × Nat) (j : Nat) (u : Value) (h : [a, b, c, d][j]? = some u) : (w.alloc (.cells #[a, b, c, d] T z)).cell? ((⟨w.heap.size, 0, none⟩ : Addr).add j) = some u := by
  have hh : (w.alloc (.cells #[a, b, c, d] T z)).heap[w.heap.size]? = some (.cells #[a, b, c, d] T z) := heap_alloc_new w _
  have hadd : (⟨w.heap.size, 0, none⟩ : Addr).add j = ⟨w.heap.size, j, none⟩ := by unfold Addr.add; split <;> simp_all
  rw [hadd]
  unfold World.cell?
  rw [hh]
  simpa using h
set_option maxHeartbeats 4000000 in
set_option maxRecDepth 100000 in
theorem sum_any (va : Value) (la : List ByteArray) (w : World) (ha : Strs w va la) (hl : la.length ≤ 1099511627776) (ht : (la.map fun s => s.data.toList).flatten.length ≤ 1099511627776) :
    Calls Tryz.prog 64 #[va] w (StrP (sumB (la.map fun s => s.data.toList).flatten) w) := by
  have hjoin : Calls Tryz.prog 104 #[va, .string ⟨#[]⟩] w (StrP (la.map fun s => s.data.toList).flatten w) := by
    obtain ⟨hla, ha'⟩ := row_cases ha
    simp only [List.length_map] at hla ha'
    unfold maxLen at hla
    rcases ha' with ⟨h0', aa, ca, rfl, _⟩ | ⟨h0', ba, oa, ca, rfl, hca, hca2, hcella⟩
    · have hla0 : la = [] := by simpa using h0'
      subst hla0
      refine (Tryz.strings_Join_none aa ca _ w).mono ?_
      rintro e w' ⟨rfl, rfl⟩
      exact ⟨_, rfl, rfl, below_refl _⟩
    · have hN : la.length ≤ 140737488355328 := by omega
      refine (Tryz.strings_Join ba oa ca la ⟨#[]⟩ w (fun j x hx => hcella j (.string x) (by simp [hx])) ?_ hN hca ?_).mono ?_
      · have hne : 0 < la.length := h0'
        have := hcella 0 (.string la[0]) (by simp [hne])
        exact World.block_lt_of_cell? w _ this
      · show (List.intercalate [] _).length ≤ _
        rw [intercalate_nil]; omega
      · rintro e w' ⟨rfl, hb⟩
        exact ⟨_, rfl, by show List.intercalate [] _ = _; exact intercalate_nil _, hb⟩
  generalize (la.map fun s => s.data.toList).flatten = D at *
  clear ha hl
  go_enter Tryz.func64, Tryz.ntmps64
  go_wp2_with fail
  refine hjoin.mono ?_
  rintro e w1 ⟨d, rfl, hd, hb1⟩
  clear hjoin
  have hds : d.size ≤ 1099511627776 := by rw [← toList_size, hd.out]; exact ht
  go_wp2_with fail
  refine (initial8 _).mono ?_
  rintro e w2 ⟨rfl, hb2⟩
  have hb12 := hb1.trans (hb2.mono hb1.size)
  clear hb1 hb2 ht
  obtain ⟨x0, hx0⟩ : ∃ x0, Hid (iv 0 = x0) := ⟨_, rfl⟩
  go_upto_region 3 with (refine wpList_store_mid rfl _ _ _ rfl w2.heap.size 0 (l8 iv).toArray rfl rfl ((Free.new rfl).there (by simp [l8])) rfl (all_oneCell_toArray (oneCell8 iv)) ?_)
  try simp only [List.toList_toArray]
  obtain ⟨B, hB⟩ : ∃ B, w2.heap.size = B := ⟨_, rfl⟩
  generalize hw5 : World.setCells _ _ _ _ = w5
  have hst := fun h => stored_new (h := h) hw5
  obtain ⟨b5, j5, z5, y5⟩ := hst rfl
  have q5 : Soft w5 w2.heap.size := by rw [← hw5]; exact Soft.new.setCells _ _ _
  clear hst
  rw [hB] at b5 j5 z5 y5 q5
  rw [hB]
  have hBw : w.heap.size ≤ B := by rw [← hB]; exact hb12.size
  have i5 := Cells.of_range8 j5; clear j5
  have bw5 := hb12.trans (b5.mono (by omega))
  clear hw5 b5 hB hb12 w2
  have c0 : w5.cell? ⟨B, 0, none⟩ = some (.int .u32 (wd x0)) := by rw [← hx0.out]; exact i5 0 (by omega)
  have f0 := q5 0
  have X := xor_iv x0
  have Z5 := Lib.hid z5; clear z5
  go_upto_block 0 with (fail)
  have g0 : Cells (w5.setCell ⟨B, 0, none⟩ (.int .u32 (wd (x0 ^^^ 16842784)))) B 8 h0 := (i5.set (i := 0) (by omega) _).congr fun i hi => by
    unfold h0; rw [hx0.out]
  have q0 := q5.set ⟨B, 0, none⟩ (.int .u32 (wd (x0 ^^^ 16842784)))
  have bw0 := bw5.setCell (p := ⟨B, 0, none⟩) hBw (.int .u32 (wd (x0 ^^^ 16842784)))
  have z0 : (w5.setCell ⟨B, 0, none⟩ (.int .u32 (wd (x0 ^^^ 16842784)))).heap.size = B + 1 := by simpa [World.setCell] using Z5.out
  generalize World.setCell _ _ _ = W0 at g0 q0 bw0 z0 ⊢
  clear c0 f0 X i5 q5 y5 bw5 Z5 hx0 w5
  have Z0 := Lib.hid z0; clear z0
  have ha0 : Hid (Abs d.data.toList 0 (d.data.toList.length + 1) h0) := Abs.start _
  go_cut [5] from 17 (fun v5 wc => ∃ (n : Nat) (f : Nat) (g : Nat → UInt32), v5 = .int .i64 n ∧ n ≤ d.size ∧ d.size ≤ n + 64 ∧ Cells wc B 8 g ∧ Soft wc B ∧ Hid (Abs d.data.toList n f g) ∧ Save B W0 wc)
  case first =>
    go_wp2_with fail
    go_loopg [5] (d.size) (fun kk i wr => ∃ (n : Nat) (f : Nat) (g : Nat → UInt32), kk + n = d.size ∧ i = .int .i64 n ∧ Cells wr B 8 g ∧ Soft wr B ∧ Hid (Abs d.data.toList n f g) ∧ Save B W0 wr)
    case atStart => exact ⟨0, _, _, rfl, rfl, g0, q0, ha0, Save.refl _ _⟩
    case round =>
      obtain ⟨n, f, g, hn, rfl, vk, qk, hA, sk⟩ := hrel
      have hnd : n ≤ d.size := by omega
      by_cases hlt : n + 64 < d.size
      · have hgk : d.size - (n + 64) < gk := by omega
        have HN := Lib.hid hn; clear hn
        have e1 : (64 : Int) < (d.size : Int) - n := by omega
        have g1 : (0 : Int) ≤ (n : Int) + 64 := by omega
        have g2 : (n : Int) ≤ (n : Int) + 64 := by omega
        have g3 : (n : Int) + 64 ≤ d.size := by omega
        have i1 : ((n : Int) + 64).toNat = n + 64 := by omega
        have u1 : IntKind.i64.wrap ((n : Int) + 64) = n + 64 := IntWalk.i64_in _ (by omega)
        have u2 : IntKind.u64.wrap ((n : Int) + 64) = n + 64 := IntWalk.u64_in _ (by omega)
        have hex := extract_list d n (n + 64)
        have hsz : Hid ((d.extract n (n + 64)).size = 64) := by rw [Hid, ← toList_size, hex]; simp; omega
        have HE := Lib.hid hex; clear hex
        go_upto_region 6 with (fail)
        have a0 := vk 0 (by omega)
        have a1 := vk 1 (by omega)
        have a2 := vk 2 (by omega)
        have a3 := vk 3 (by omega)
        have a4 := vk 4 (by omega)
        have a5 := vk 5 (by omega)
        have a6 := vk 6 (by omega)
        have a7 := vk 7 (by omega)
        have hBr : B < wr.heap.size := by have := sk.size; have := Z0.out; omega
        obtain ⟨G, hG⟩ : ∃ G, compress g (d.extract n (n + 64)).data.toList (n + 64) false = G := ⟨_, rfl⟩
        have hcall := fun (w0 : World) => compress_at g (d.extract n (n + 64)) ((n : Int) + 64) (n + 64) false w0 hsz (by omega) (by omega)
        rw [hG] at hcall
        have HG := Lib.hid hG; clear hG
        have HC := Lib.hid hcall; clear hcall
        have vd : Cells wr.drew B 8 g := vk
        have qd : Soft wr.drew B := qk
        go_region_with (go_at_call 106; refine (HC.out _).mono ?_; rintro e w' ⟨rfl, hb⟩; have v1 := (vd.below hb hBr).free (qd.below hb hBr); have hst := run_store8 (P := Tryz.prog) v1 G)
        have hrg := World.rangeAt_setCells_same w' B 0 (l8 G) (v1.there (Nat.le_refl 8))
        have qz := (qd.below hb hBr).setCells B 0 (l8 G)
        have sz := ((sk.trans (Save.drew _ wr)).trans (below_save hb B (Nat.le_refl _))).trans (Save.setCells B (l8 G) 0 w')
        simp only [Exit.then]
        generalize World.setCells _ _ _ _ = wz at hrg qz sz ⊢
        have HRG := Lib.hid hrg
        clear hst v1 hb vd qd a0 a1 a2 a3 a4 a5 a6 a7 hrg
        go_wp2_with fail
        go_roundg (d.size - (n + 64))
        case measure => exact hgk
        case rel =>
          refine ⟨n + 64, f - 1, G, by omega, by go_num, Cells.of_range8 HRG.out, qz, ?_, sz⟩
          have := hA.out.step hlt
          rw [← HG.out, HE.out, show n + 64 - n = 64 from by omega]
          exact this
      · go_wp2_with fail
        go_meet
        case rel => exact ⟨n, f, g, rfl, hnd, by omega, vk, qk, hA, sk⟩
  case rest =>
    obtain ⟨n, f, g, rfl, hn1, hn2, vk, qk, hA, sk⟩ := hcut
    obtain ⟨wg, hwg⟩ : ∃ wg : World, wg = wc := ⟨_, rfl⟩
    subst hwg
    have zg : B + 1 ≤ wg.heap.size := by have := sk.size; have := Z0.out; omega
    have bwg := bw0.trans (sk.below (n := w.heap.size) hBw (by have := Z0.out; omega))
    clear sk g0 q0 bw0 Z0 ha0 W0
    have g1 : (0 : Int) ≤ 64 - ((d.size : Int) - n) := by omega
    have u1 : IntKind.i64.wrap ((d.size : Int) - n) = d.size - n := IntWalk.i64_in _ (by omega)
    have u2 : IntKind.i64.wrap (64 - ((d.size : Int) - n)) = 64 - (d.size - n) := IntWalk.i64_in _ (by omega)
    have hex := extract_list d n d.size
    have hxs : (d.extract n d.size).size ≤ 64 := by rw [← toList_size, hex]; simp; omega
    have hxs2 : Hid ((d.extract n d.size).data.toList = d.data.toList.drop n) := by rw [Hid, hex, List.take_of_length_le (by simp)]
    clear hex
    go_upto_region 8 with (fail)
    have u4 : ((d.size : Int) - n).toNat = d.size - n := by omega
    have e2 : (n : Int) ≤ d.size := by omega
    go_region_with (go_at_call 43; refine (repeat_at _ (64 - (d.size - n)) _ (by omega) (by omega)).mono ?_; rintro e w2 ⟨t, rfl, htl, hb⟩; have hts : t.size ≤ 64 := (by rw [← toList_size, htl.out]; simp))
    simp only [Exit.then]
    have vt := Cells.below (w := wg.drew) vk hb (by show B < wg.heap.size; omega)
    have qt := Soft.below (w := wg.drew) qk hb (by show B < wg.heap.size; omega)
    have bwt := bwg.drew.trans (hb.mono (show w.heap.size ≤ wg.heap.size by omega))
    have zt : B + 1 ≤ w2.heap.size := Nat.le_trans zg hb.size
    clear hb vk qk bwg zg u1 u2 u4
    have u3 : IntKind.u64.wrap (d.size : Int) = d.size := IntWalk.u64_in _ (by omega)
    go_wp2_with (refine wpList_load_mid rfl _ _ rfl B 0 rfl (l8 g) _ vt.range8 Tryz.underlying143 rfl rfl ?_)
    obtain ⟨bl, hbl⟩ : ∃ bl, d.extract n d.size ++ t = bl := ⟨_, rfl⟩
    have hpl : bl.data.toList = pad (d.data.toList.drop n) := by
      rw [← hbl, append_list, hxs2.out, htl.out]
      unfold pad
      simp
    have hps : Hid (bl.size = 64) := by
      rw [Hid, ← toList_size, hpl]
      unfold pad
      simp; omega
    rw [hbl]
    have HBL := Lib.hid hbl; clear hbl
    obtain ⟨F, hF⟩ : ∃ F, compress g bl.data.toList d.size true = F := ⟨_, rfl⟩
    have hcall := compress_at g bl (d.size : Int) d.size true w2 hps rfl (by omega)
    rw [hF] at hcall
    have HF : Hid (F = absorb (d.data.toList.length + 1) h0 0 d.data.toList) := by
      rw [Hid, ← hF, hpl]
      exact hA.out.last (by rw [toList_size]; omega)
    clear hF hpl
    refine hcall.mono ?_
    rintro e w3 ⟨rfl, hb⟩
    have v3 := vt.below hb (by omega)
    have q3 := qt.below hb (by omega)
    have bw3 := bwt.trans (hb.mono (by omega))
    have z3 : B + 1 ≤ w3.heap.size := Nat.le_trans zt hb.size
    clear hb vt qt bwt zt hcall
    have f3 := v3.free q3
    go_upto_region 10 with (refine wpList_store_mid rfl _ _ _ rfl B 0 (l8 F).toArray rfl rfl (f3.there (Nat.le_refl 8)) rfl (all_oneCell_toArray (oneCell8 F)) ?_)
    try simp only [List.toList_toArray]
    have hrg := World.rangeAt_setCells_same w3 B 0 (l8 F) (f3.there (Nat.le_refl 8))
    have bw4 := bw3.trans ((Save.setCells B (l8 F) 0 w3).below (n := w.heap.size) hBw bw3.size)
    have z4 : B + 1 ≤ (w3.setCells B 0 (l8 F)).heap.size := by rw [setCells_size0]; exact z3
    generalize World.setCells _ _ _ _ = w4 at hrg bw4 z4 ⊢
    clear v3 q3 bw3 z3 f3 w3
    obtain ⟨i0, hi, hz0, hz1, hz2⟩ := info_parts infoU8
    simp only [Act.put]
    go_upto_block 2 with (first | (refine wpList_make_own _ rfl _ _ 60 rfl B 5 i0 (.int .u8 0) 1 Tryz.underlying60 hi hz0 hz1 _ _ _ 32 rfl rfl rfl (by omega) (by decide) (by omega) ?_; intro w5 hown hgr; have hrg5 : w5.rangeAt B 0 (l8 F) := (fun j v hv => hgr.cell (hrg j v hv) (by intro h; cases h)); have bw5 := bw4.grown (B := w.heap.size) hgr (by omega) (by intro k h; cases h)) | (refine wpList_load_mid rfl _ _ rfl B 0 rfl (l8 F) _ hrg5 Tryz.underlying143 rfl rfl ?_))
    have hz5 : B ≤ w5.heap.size := Nat.le_trans (by omega) hgr.size
    clear hrg bw4 hgr
    have bs0 : Below B w5 w5 := Below.refl _ _
    go_cut [7] from 58 (fun v7 wc => wc.ownsRow B 5 1 v7 (hbytes F 8).length (Lib.byteCells (hbytes F 8)) ∧ Below B w5 wc)
    case first =>
      go_wp2_with fail
      go_loopg [7, 58] 8 (fun kk v i wr => ∃ k : Nat, kk + k = 8 ∧ i = .int .i64 k ∧ wr.ownsRow B 5 1 v (hbytes F k).length (Lib.byteCells (hbytes F k)) ∧ Below B w5 wr)
      case atStart => exact ⟨0, rfl, rfl, hown, bs0⟩
      case round =>
        obtain ⟨k, hk, rfl, ho, hb⟩ := hrel
        by_cases hlt : k < 8
        · have hgk : 8 - (k + 1) < gk := by omega
          have HK := Lib.hid hk; clear hk
          have hix := hb_index F k hlt
          have hlen := hbytes_length F k
          obtain ⟨m, hm⟩ : ∃ m, (hbytes F k).length = m := ⟨_, rfl⟩
          have hm2 : m ≤ 32 := by omega
          rw [hm] at ho
          have HM := Lib.hid hm; clear hm hlen
          obtain ⟨x, hx⟩ : ∃ x, F k = x := ⟨_, rfl⟩
          have hnx : hbytes F (k + 1) = hbytes F k ++ wbytes x := by rw [hbytes, hx]
          have HNX := Lib.hid hnx
          rw [hx] at hix
          clear hx hnx
          have s8 := u32_shr8
          have s16 := u32_shr16
          have s24 := u32_shr24
          have c8 := u8_of
          have hzr : B ≤ wr.heap.size := Nat.le_trans hz5 hb.size
          have hzz : B ≤ wr.heap.size + 1 := by omega
          go_wp2_with (at_builtin; refine wpList_append_own _ rfl _ _ 60 rfl B 5 i0 (.int .u8 0) 1 1 Tryz.underlying60 hi hz0 hz1 hz2 rfl (by decide) _ _ _ rfl (ho.alloc _) ⟨wr.heap.size, 0, none⟩ 4 4 (Lib.byteCells (wbytes x)) rfl rfl ?c1 ?c2 ?c3 ?c4 ?c5 ?_)
          case c1 => exact fun j u h => cell_new4 wr _ _ _ _ _ _ j u h
          case c2 => intro u hu; simp only [Lib.byteCells, List.mem_map] at hu; obtain ⟨c, _, rfl⟩ := hu; rfl
          case c3 => unfold maxLen; omega
          case c4 => omega
          case c5 => simp; omega
          intro v' w1 hown' hgrow _
          have hb1 := below_grownBy (hb.alloc (by omega) _) (ho.alloc _) hgrow (by simp; omega)
          have hown2 : w1.ownsRow B 5 1 v' (hbytes F (k + 1)).length (Lib.byteCells (hbytes F (k + 1))) := by
            rw [HNX.out, Lib.byteCells_append, List.length_append, HM.out]
            exact hown'
          clear hgrow hown' ho hb
          go_wp2_with fail
          go_roundg (8 - (k + 1))
          case measure => exact hgk
          case rel => exact ⟨k + 1, by have := HK.out; omega, by go_num, hown2, hb1⟩
        · obtain rfl : k = 8 := by omega
          go_wp2_with fail
          go_meet
          case rel => exact ⟨ho, hb⟩
    case rest =>
      obtain ⟨ho, hb⟩ := hcut
      have bwf := bw5.trans (hb.mono hBw)
      obtain ⟨a, cap, rfl, hconv⟩ := bytes_back ho (by rw [hbytes_length]; decide)
      clear ho hb hown bw5
      have HH := Lib.hid (hbytes_length F 8)
      go_wp2_with fail
      go_ret
      refine ⟨_, rfl, ?_, bwf⟩
      rw [Hid, ← hd.out]
      show hbytes F 8 = _
      rw [HF.out]; rfl
end Go.Proofs.YtpkapcijgldhhaaGreatDoor
