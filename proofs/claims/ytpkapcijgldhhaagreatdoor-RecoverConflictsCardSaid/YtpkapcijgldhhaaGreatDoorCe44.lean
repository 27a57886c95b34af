/-
  The bytes of a range, in the reference.
  The bytes of a range, in the program: recover.Bytes.
-/
import Derived.Test.YtpkapcijgldhhaaGreatDoorCe43
import Derived.Lib.AppendStr
import Derived.Shelf.Bytes.SlSmallAll
import Derived.Test.YtpkapcijgldhhaaGreatDoorCe42
import Derived.Test.YtpkapcijgldhhaaGreatDoorCe30
namespace Go.Proofs.YtpkapcijgldhhaaGreatDoor
open Go.RowKit Go.Shelf
theorem cut_ext (b : List UInt8) (at' e : Nat) : (bA' b).extract (at' % 28) (at' % 28 + stepB at' e) = bA' (cutB b at' e) := by
  refine bA'_ext ?_
  rw [extract_list, bA'_list]
  unfold cutB
  congr 1
  omega
/-- what stands between two rounds -/
structure RyI (w : World) (ar : Int) (v : Value) (s st n : Int) (base : Nat) (va : Value) (a : List UInt8) (W : World) : Prop where
  bel : Below w.heap.size w W
  cb : Box W w.heap.size [.int .u32 ar, v] 25
  xb : Box W (w.heap.size + 1) [.int .i64 s, .int .i64 st, .int .i64 n] 34
  le : base ≤ W.heap.size
  own : W.ownsRow base 5 1 va a.length (a.map b8)
theorem RyI.below {w : World} {ar : Int} {v : Value} {s st n : Int} {base : Nat} {va : Value} {a : List UInt8} {W W' : World} (h : RyI w ar v s st n base va a W) (hb : Below W.heap.size W W') : RyI w ar v s st n base va a W' :=
  ⟨step2 h.bel hb, h.cb.below hb, h.xb.below hb, Nat.le_trans h.le hb.size, owns_below h.own hb⟩
theorem strCells_of (c : List UInt8) : Lib.strCells (bA' c) = c.map b8 := by unfold Lib.strCells; rw [bA'_list]; rfl
theorem conv_own {W : World} {base n c : Nat} {oa : Option Addr} {a : List UInt8} (hn : n = a.length) (h : W.ownsRow base 5 1 (.slice oa n c) n (a.map b8)) : (convert 60 9 (.slice oa n c)).run Tryz.prog W = .ok (.string (bA' a)) W := by
  subst hn
  by_cases h0 : 0 < a.length
  · obtain ⟨g, rfl, _, hx⟩ := ByAt.of_own h h0
    refine run_convert_bytes_back W 60 9 5 ⟨g, 0, none⟩ c a Tryz.underlying60 Tryz.underlying5 Tryz.underlying9 (fun j hj => ?_)
    rw [Addr.add_mid, hx j hj, gf_get hj]; rfl
  · obtain rfl : a = [] := List.length_eq_zero_iff.1 (by omega)
    exact run_convert_bytes_zero W 60 5 Tryz.underlying60 Tryz.underlying5 oa c 9 Tryz.underlying9
set_option maxRecDepth 100000 in
set_option maxHeartbeats 4000000 in
theorem bytesR_any (ar : Int) (v : Value) (F : List Fr) (s st n : Int) (w : World) (hr : FrRow w v F) (hF : SmallF F) :
    Calls Tryz.prog 18 #[.agg #[.int .u32 ar, v], .agg #[.int .i64 s, .int .i64 st, .int .i64 n]] w (EraQ (bytR F s st n) w) := by
  obtain ⟨k1, bC⟩ := boxr w [.int .u32 ar, v] 25
  obtain ⟨k2, bX⟩ := boxr (w.alloc (.cells [.int .u32 ar, v].toArray 25)) [.int .i64 s, .int .i64 st, .int .i64 n] 34
  replace bC := bC.below k2
  have kb := step2 k1 k2
  rw [World.size_alloc] at bX
  have HB := Lib.hid (show ∀ b W, wf64 b → Below w.heap.size w W → _ from fun b W hb hW => blockR_any ar v F s b W (hr.below hW) hF hb)
  clear k1 k2 hr
  go_enter Tryz.func18, Tryz.ntmps18
  go_upto_region 1 with (fail)
  change Code.wp _ _ _ _ ((w.alloc (.cells [.int .u32 ar, v].toArray 25)).alloc (.cells [.int .i64 s, .int .i64 st, .int .i64 n].toArray 34))
  generalize (w.alloc (.cells [.int .u32 ar, v].toArray 25)).alloc (.cells [.int .i64 s, .int .i64 st, .int .i64 n].toArray 34) = W0 at *
  obtain ⟨x0, x1, x2⟩ : W0.cell? ⟨w.heap.size + 1, 0, none⟩ = some (.int .i64 s) ∧ W0.cell? ⟨w.heap.size + 1, 1, none⟩ = some (.int .i64 st) ∧ W0.cell? ⟨w.heap.size + 1, 2, none⟩ = some (.int .i64 n) := ⟨bX.cell 0, bX.cell 1, bX.cell 2⟩
  by_cases ho : outX s st n
  · have hq := Lib.hid (byt_out (F := F) ho)
    generalize bytR F s st n = R at *
    unfold outX at ho
    by_cases q1 : s < 0
    · clear ho
      go_wp2_with fail
      go_ret2
      rw [hq.out]
      exact ⟨rfl, kb⟩
    by_cases q2 : 255 < s
    · clear ho
      go_wp2_with fail
      go_ret2
      rw [hq.out]
      exact ⟨rfl, kb⟩
    by_cases q3 : st < 0
    · clear ho
      go_wp2_with fail
      go_ret2
      rw [hq.out]
      exact ⟨rfl, kb⟩
    by_cases q4 : 2147483647 < st
    · clear ho
      go_wp2_with fail
      go_ret2
      rw [hq.out]
      exact ⟨rfl, kb⟩
    by_cases q5 : n < 0
    · clear ho
      go_wp2_with fail
      go_ret2
      rw [hq.out]
      exact ⟨rfl, kb⟩
    by_cases q6 : 65536 < n
    · clear ho
      go_wp2_with fail
      go_ret2
      rw [hq.out]
      exact ⟨rfl, kb⟩
    have h7 : s = 0 ∧ st ≠ 0 := by omega
    have y1 : (s == 0) = true := by rw [h7.1]; rfl
    have y2 : (st != 0) = true := bne_iff_ne.2 h7.2
    clear ho h7
    go_wp2_with fail
    go_ret2
    rw [hq.out]
    exact ⟨rfl, kb⟩
  have hn0 : Hid (¬ outX s st n) := ho
  have hi : (0 ≤ s ∧ s ≤ 255) ∧ (0 ≤ st ∧ st ≤ 2147483647) ∧ (0 ≤ n ∧ n ≤ 65536) ∧ (s = 0 → st = 0) := by unfold outX at ho; omega
  clear ho
  obtain ⟨⟨i1, i2⟩, ⟨i3, i4⟩, ⟨i5, i6⟩, i7⟩ := hi
  have q1 : ¬ s < 0 := by omega
  have q2 : ¬ 255 < s := by omega
  have q3 : ¬ st < 0 := by omega
  have q4 : ¬ 2147483647 < st := by omega
  have q5 : ¬ n < 0 := by omega
  have q6 : ¬ 65536 < n := by omega
  by_cases hs : s = 0
  · have y1 : (s == 0) = true := by rw [hs]; rfl
    have y2 : (st != 0) = false := by rw [i7 hs]; rfl
    have hq := Lib.hid (byt_zero (F := F) hn0.out hs)
    obtain ⟨m, rfl⟩ := Int.eq_ofNat_of_zero_le i5
    rw [Int.toNat_natCast] at hq
    have hmk := make_u8 m (by omega) W0
    have k0 : Below W0.heap.size W0 (W0.alloc (.cells ((List.replicate m (0 : UInt8)).map b8).toArray 5)) := (Below.refl _ _).alloc (Nat.le_refl _) _
    have hcv := conv_u8 _ _ _ (Box.new W0 ((List.replicate m (0 : UInt8)).map b8) 5)
    rw [List.length_replicate] at hcv
    have k3 := step2 kb k0
    generalize W0.alloc (.cells ((List.replicate m (0 : UInt8)).map b8).toArray 5) = W9 at *
    generalize bytR F s st m = R at *
    clear i7 hs hn0
    go_wp2_with fail
    go_ret2
    rw [hq.out]
    exact ⟨rfl, k3⟩
  have y1 : (s == 0) = false := by rw [beq_eq_false_iff_ne]; exact hs
  obtain ⟨sn, rfl⟩ := Int.eq_ofNat_of_zero_le i3
  obtain ⟨m, rfl⟩ := Int.eq_ofNat_of_zero_le i5
  have hP0 := Lib.hid (BtP.start (F := F) hn0.out hs)
  simp only [Int.toNat_natCast] at hP0
  generalize bytR F s sn m = R at *
  have kA : Below W0.heap.size W0 (W0.alloc (.cells #[] 5)) := (below_refl W0).alloc (Nat.le_refl _) _
  have hO := World.ownsRow_made (base := W0.heap.size) (e := 5) (size := 1) W0 #[] 0 (Nat.le_refl _) (by decide) rfl
  have hI0 : RyI w ar v s sn m W0.heap.size (.slice (some ⟨W0.heap.size, 0, none⟩) 0 0) [] (W0.alloc (.cells #[] 5)) := ⟨step2 kb kA, bC.below kA, bX.below kA, kA.size, hO⟩
  have hXb := bX.lt
  clear hn0 hs i7 q1 q2 q3 q4 q5 q6 kA hO
  go_upto_region 6 with (fail)
  generalize W0.alloc (.cells #[] 5) = W1 at *
  generalize W0.heap.size = base at *
  clear x0 x1 x2 bX bC kb
  have hxx : W1.cell? ⟨w.heap.size + 1, 1, none⟩ = some (.int .i64 (sn : Int)) := hI0.xb.cell 1
  go_wp2_with fail
  clear hxx
  go_loopw [6, 7, 8, 9, 10, 11] (fun va vt _ _ _ _ wr => ∃ (p : Nat) (a : List UInt8), vt = .int .i64 p ∧ Hid (BtP F s sn (sn + m) p a R) ∧ RyI w ar v s sn m base va a wr) (fun _ vt _ _ _ _ _ => sn + m - (intOf vt).toNat)
  case atStart => exact ⟨sn, [], rfl, hP0, hI0⟩
  case round =>
    clear hI0 hP0
    obtain ⟨p, a, rfl, hP, hI⟩ := hrel
    obtain ⟨hp1, hp2, hp3⟩ := hP.out.bd
    have hal : a.length ≤ 65536 := by omega
    clear hp3
    obtain ⟨c0, c1⟩ := hI.cb.cells2
    have x0 : wr.cell? ⟨w.heap.size + 1, 0, none⟩ = some (.int .i64 s) := hI.xb.cell 0
    have x1 : wr.cell? ⟨w.heap.size + 1, 1, none⟩ = some (.int .i64 (sn : Int)) := hI.xb.cell 1
    have x2 : wr.cell? ⟨w.heap.size + 1, 2, none⟩ = some (.int .i64 (m : Int)) := hI.xb.cell 2
    by_cases hlt : p < sn + m
    · have hli : (p : Int) < (sn : Int) + (m : Int) := by omega
      obtain ⟨q, hq⟩ : ∃ q : Nat, p / 28 = q := ⟨_, rfl⟩
      have hqi : (p : Int) / 28 = (q : Int) := by omega
      have hqt : (p : Int).tdiv 28 = (q : Int) := by rw [Int.tdiv_eq_ediv_of_nonneg (by omega)]; exact hqi
      have HB1 := Lib.hid (HB.out (q : Int) wr (by unfold wf64; omega) hI.bel)
      have HE := Lib.hid (fun x => hP.out.err (x := x) hlt)
      have HS := Lib.hid (fun b => hP.out.short (b := b) hlt)
      have HN := Lib.hid (fun b => hP.out.next (b := b) hlt)
      rw [hq] at HE HS HN
      go_wp2_with fail
      refine HB1.out.mono ?_
      rintro e w2 ⟨he, hb2⟩
      have hI2 := hI.below hb2
      clear HB1 hI hb2 c0 c1 x0 x1 x2 hP
      have x0 : w2.cell? ⟨w.heap.size + 1, 0, none⟩ = some (.int .i64 s) := hI2.xb.cell 0
      have x1 : w2.cell? ⟨w.heap.size + 1, 1, none⟩ = some (.int .i64 (sn : Int)) := hI2.xb.cell 1
      have x2 : w2.cell? ⟨w.heap.size + 1, 2, none⟩ = some (.int .i64 (m : Int)) := hI2.xb.cell 2
      rcases hbk : blkR F s q with x | b
      · rw [hbk] at he
        obtain rfl := he
        obtain ⟨z1, z2⟩ := neq0 (blk_nz hbk)
        have hr := Lib.hid (HE.out x hbk)
        have hbel := hI2.bel
        clear HE HS HN hbk
        go_wp2_with fail
        go_ret2
        rw [hr.out]
        exact ⟨rfl, hbel⟩
      rw [hbk] at he
      obtain rfl := he
      have HS1 := Lib.hid (HS.out b hbk)
      have HN1 := Lib.hid (HN.out b hbk)
      clear HE HS HN hbk
      obtain ⟨r, hr⟩ : ∃ r : Nat, p % 28 = r := ⟨_, rfl⟩
      have hri : (p : Int) % 28 = (r : Int) := by omega
      have hrt : (p : Int).tmod 28 = (r : Int) := by rw [Int.tmod_eq_emod_of_nonneg (by omega)]; exact hri
      have hbz : (bA' b).size = b.length := rfl
      by_cases hsh : b.length < 28
      · have hz := Lib.hid (HS1.out hsh)
        have hsi : (b.length : Int) < 28 := by omega
        have hbel := hI2.bel
        clear HS1 HN1
        go_wp2_with fail
        all_goals
          go_ret2
          rw [hz.out]
          exact ⟨rfl, hbel⟩
      have hsi : ¬ (b.length : Int) < 28 := by omega
      have hnx := Lib.hid (HN1.out hsh)
      clear HS1 HN1
      obtain ⟨t, ht⟩ : ∃ t, stepB p (sn + m) = t := ⟨_, rfl⟩
      have htv : t = min 28 (r + (sn + m) - p) - r := by rw [← ht, ← hr]; rfl
      have hce := Lib.hid (cut_ext b p (sn + m))
      have hcl := Lib.hid (cutB_len hsh hlt)
      rw [ht] at hnx hce hcl
      rw [hr] at hce
      have hpos := stepB_pos hlt
      rw [ht] at hpos
      have hr28 : r < 28 := by omega
      generalize cutB b p (sn + m) = c at *
      obtain ⟨iA, hiA, hA0, hA1, hA2⟩ := info_parts infoU8c
      have hac : c.length ≤ 28 := by have := hcl.out; omega
      have hown0 := hI2.own
      have hle0 := hI2.le
      by_cases hbig : (28 : Int) < (r : Int) + (sn : Int) + (m : Int) - (p : Int)
      · have htr : r + t = 28 := by omega
        rw [htr] at hce
        have hce2 := hce.out
        obtain ⟨oa, oc, rfl⟩ := own_form hown0
        go_upto_region 17 with (fail)
        go_wp2_with (at_builtin; refine Lib.wpList_append_own_string _ rfl _ _ 60 9 rfl base 5 iA Tryz.underlying60 Tryz.underlying9 hiA hA0 hA1 hA2 _ a.length (a.map b8) rfl hown0 (bA' c) rfl (by rw [bA'_size]; unfold maxLen; omega) (by rw [bA'_size]; omega) hle0 ?_; intro v' w3 hown hgr _)
        rw [bA'_size, strCells_of] at hown
        have hbw : Below base w2 w3 := below_grownBy (Below.refl base w2) hown0 hgr hle0
        have hbl : w.heap.size + 1 < base := hXb
        have hI3 : RyI w ar v s sn m base v' (a ++ c) w3 := ⟨hI2.bel.trans (hbw.mono (by omega)), hI2.cb.below' hbw (by omega), hI2.xb.below' hbw (by omega), Nat.le_trans hle0 hbw.size, by rw [List.length_append, List.map_append]; exact hown⟩
        clear hown hgr hbw hI2 hown0 hle0 hce hce2
        have hpn : ((p + t : Nat) : Int) = (p : Int) + (28 - (r : Int)) := by omega
        go_wp2_with fail
        go_roundw
        case rel => exact ⟨p + t, a ++ c, by rw [hpn], hnx, hI3⟩
        case measure => simp [intOf]; omega
      · obtain ⟨T, hT⟩ : ∃ T : Nat, r + t = T := ⟨_, rfl⟩
        have htr : (r : Int) + (sn : Int) + (m : Int) - (p : Int) = (T : Int) := by omega
        rw [hT] at hce
        have hTb : (T : Int) ≤ 28 ∧ (r : Int) ≤ (T : Int) := by omega
        have hTt : Hid (r + t = T) := hT
        clear hT
        have hce2 := hce.out
        obtain ⟨oa, oc, rfl⟩ := own_form hown0
        go_upto_region 17 with (fail)
        go_wp2_with (at_builtin; refine Lib.wpList_append_own_string _ rfl _ _ 60 9 rfl base 5 iA Tryz.underlying60 Tryz.underlying9 hiA hA0 hA1 hA2 _ a.length (a.map b8) rfl hown0 (bA' c) rfl (by rw [bA'_size]; unfold maxLen; omega) (by rw [bA'_size]; omega) hle0 ?_; intro v' w3 hown hgr _)
        rw [bA'_size, strCells_of] at hown
        have hbw : Below base w2 w3 := below_grownBy (Below.refl base w2) hown0 hgr hle0
        have hbl : w.heap.size + 1 < base := hXb
        have hI3 : RyI w ar v s sn m base v' (a ++ c) w3 := ⟨hI2.bel.trans (hbw.mono (by omega)), hI2.cb.below' hbw (by omega), hI2.xb.below' hbw (by omega), Nat.le_trans hle0 hbw.size, by rw [List.length_append, List.map_append]; exact hown⟩
        clear hown hgr hbw hI2 hown0 hle0 hce hce2
        have hpn : ((p + t : Nat) : Int) = (p : Int) + ((T : Int) - (r : Int)) := by have := hTt.out; omega
        go_wp2_with fail
        go_roundw
        case rel => exact ⟨p + t, a ++ c, by rw [hpn], hnx, hI3⟩
        case measure => simp [intOf]; omega
    · have hz := Lib.hid (hP.out.stop hlt)
      have hli : ¬ (p : Int) < (sn : Int) + (m : Int) := by omega
      have hbel := hI.bel
      obtain ⟨oa, oc, rfl⟩ := own_form hI.own
      have hcv := conv_own rfl hI.own
      clear hI hP
      go_wp2_with fail
      go_ret2
      rw [hz.out]
      exact ⟨rfl, hbel⟩
end Go.Proofs.YtpkapcijgldhhaaGreatDoor

namespace Go.Proofs.YtpkapcijgldhhaaGreatDoor
open Go.RowKit Go.Shelf
theorem cutP_ext (b : List UInt8) (at' e : Nat) : (bA' b).extract (at' % 28) (at' % 28 + stepB at' e) = bA' (cutB b at' e) := by
  refine bA'_ext ?_
  rw [extract_list, bA'_list]
  unfold cutB
  congr 1
  omega
theorem repeat0 : ∀ n : Nat, Lib.repeatL [(0 : UInt8)] n = List.replicate n 0
  | 0 => rfl
  | n + 1 => by rw [List.replicate_succ, ← repeat0 n]; rfl
theorem out_any (n m : Int) (r : Bool) (hb : (decide (n < 0) || decide (m < n)) = r) (w : World) : Calls Tryz.prog 42 #[.int .i64 n, .int .i64 m] w (fun e w' => e = .returned (.bool r) ∧ w' = w) := by
  subst hb
  go_enter Tryz.func42, Tryz.ntmps42
  go_wp2_with fail
  all_goals
    go_ret
    first | exact ⟨rfl, rfl⟩ | exact ⟨by simp, rfl⟩
theorem out_yes {n m : Int} (h : n < 0 ∨ m < n) : (decide (n < 0) || decide (m < n)) = true := by
  rcases h with h | h
  · rw [decide_eq_true h]; rfl
  · rw [decide_eq_true h, Bool.or_true]
theorem out_no {n m : Int} (h : 0 ≤ n ∧ n ≤ m) : (decide (n < 0) || decide (m < n)) = false := by
  rw [decide_eq_false (by omega), decide_eq_false (by omega)]; rfl
/-- what stands between two rounds -/
structure PyI (w : World) (ar : Int) (v : Value) (s st n : Int) (B : Nat) (a : List UInt8) (W : World) : Prop where
  bel : Below w.heap.size w W
  cb : Box W w.heap.size [.int .u32 ar, v] 25
  xb : Box W (w.heap.size + 1) [.int .i64 s, .int .i64 st, .int .i64 n] 34
  le : B ≤ W.heap.size
  bld : Hid (Lib.IsBuilder 93 5 B B (Lib.byteCells a) W)
theorem PyI.below {w : World} {ar : Int} {v : Value} {s st n : Int} {B : Nat} {a : List UInt8} {W W' : World} (h : PyI w ar v s st n B a W) (hb : Below W.heap.size W W') : PyI w ar v s st n B a W' :=
  ⟨step2 h.bel hb, h.cb.below hb, h.xb.below hb, Nat.le_trans h.le hb.size, isBuilder_below h.bld.out hb⟩
set_option maxRecDepth 100000 in
set_option maxHeartbeats 4000000 in
theorem bytes_any (ar : Int) (v : Value) (F : List Fr) (s st n : Int) (w : World) (hr : FrRow w v F) (hF : SmallF F) (hwf : LayWf F) :
    Calls Tryz.prog 17 #[.agg #[.int .u32 ar, v], .agg #[.int .i64 s, .int .i64 st, .int .i64 n]] w (EraQ (bytR F s st n) w) := by
  obtain ⟨k1, bC⟩ := boxr w [.int .u32 ar, v] 25
  obtain ⟨k2, bX⟩ := boxr (w.alloc (.cells [.int .u32 ar, v].toArray 25)) [.int .i64 s, .int .i64 st, .int .i64 n] 34
  replace bC := bC.below k2
  have kb := step2 k1 k2
  rw [World.size_alloc] at bX
  have HB := Lib.hid (show ∀ b W, wf64 b → Below w.heap.size w W → _ from fun b W hb hW => block_any ar v F s b W (hr.below hW) hF hwf hb)
  clear k1 k2 hr
  go_enter Tryz.func17, Tryz.ntmps17
  go_upto_region 2 with (fail)
  change Code.wp _ _ _ _ ((w.alloc (.cells [.int .u32 ar, v].toArray 25)).alloc (.cells [.int .i64 s, .int .i64 st, .int .i64 n].toArray 34))
  generalize (w.alloc (.cells [.int .u32 ar, v].toArray 25)).alloc (.cells [.int .i64 s, .int .i64 st, .int .i64 n].toArray 34) = W0 at *
  obtain ⟨x0, x1, x2⟩ : W0.cell? ⟨w.heap.size + 1, 0, none⟩ = some (.int .i64 s) ∧ W0.cell? ⟨w.heap.size + 1, 1, none⟩ = some (.int .i64 st) ∧ W0.cell? ⟨w.heap.size + 1, 2, none⟩ = some (.int .i64 n) := ⟨bX.cell 0, bX.cell 1, bX.cell 2⟩
  by_cases ho : outX s st n
  · have hq := Lib.hid (byt_out (F := F) ho)
    generalize bytR F s st n = R at *
    unfold outX at ho
    by_cases q1 : s < 0 ∨ 255 < s
    · have H1 := Lib.hid (fun W => out_any s 255 true (out_yes q1) W)
      clear ho q1
      go_wp2_with fail
      refine (H1.out _).mono ?_
      rintro e w1 ⟨rfl, rfl⟩
      go_wp2_with fail
      go_ret2
      rw [hq.out]
      exact ⟨rfl, kb⟩
    have H1 := Lib.hid (fun W => out_any s 255 false (out_no (by omega)) W)
    by_cases q2 : st < 0 ∨ 2147483647 < st
    · have H2 := Lib.hid (fun W => out_any st 2147483647 true (out_yes q2) W)
      clear ho q1 q2
      go_wp2_with fail
      refine (H1.out _).mono ?_
      rintro e w1 ⟨rfl, rfl⟩
      go_wp2_with fail
      refine (H2.out _).mono ?_
      rintro e w1 ⟨rfl, rfl⟩
      go_wp2_with fail
      go_ret2
      rw [hq.out]
      exact ⟨rfl, kb⟩
    have H2 := Lib.hid (fun W => out_any st 2147483647 false (out_no (by omega)) W)
    by_cases q3 : n < 0 ∨ 65536 < n
    · have H3 := Lib.hid (fun W => out_any n 65536 true (out_yes q3) W)
      clear ho q1 q2 q3
      go_wp2_with fail
      refine (H1.out _).mono ?_
      rintro e w1 ⟨rfl, rfl⟩
      go_wp2_with fail
      refine (H2.out _).mono ?_
      rintro e w1 ⟨rfl, rfl⟩
      go_wp2_with fail
      refine (H3.out _).mono ?_
      rintro e w1 ⟨rfl, rfl⟩
      go_wp2_with fail
      go_ret2
      rw [hq.out]
      exact ⟨rfl, kb⟩
    have H3 := Lib.hid (fun W => out_any n 65536 false (out_no (by omega)) W)
    have h7 : s = 0 ∧ st ≠ 0 := by omega
    have y1 : (s == 0) = true := by rw [h7.1]; rfl
    have y2 : (st != 0) = true := bne_iff_ne.2 h7.2
    clear ho h7 q1 q2 q3
    go_wp2_with fail
    refine (H1.out _).mono ?_
    rintro e w1 ⟨rfl, rfl⟩
    go_wp2_with fail
    refine (H2.out _).mono ?_
    rintro e w1 ⟨rfl, rfl⟩
    go_wp2_with fail
    refine (H3.out _).mono ?_
    rintro e w1 ⟨rfl, rfl⟩
    go_wp2_with fail
    go_ret2
    rw [hq.out]
    exact ⟨rfl, kb⟩
  have hn0 : Hid (¬ outX s st n) := ho
  have hi : (0 ≤ s ∧ s ≤ 255) ∧ (0 ≤ st ∧ st ≤ 2147483647) ∧ (0 ≤ n ∧ n ≤ 65536) ∧ (s = 0 → st = 0) := by unfold outX at ho; omega
  clear ho
  obtain ⟨i1, i3, i5, i7⟩ := hi
  have H1 := Lib.hid (fun W => out_any s 255 false (out_no i1) W)
  have H2 := Lib.hid (fun W => out_any st 2147483647 false (out_no i3) W)
  have H3 := Lib.hid (fun W => out_any n 65536 false (out_no i5) W)
  by_cases hs : s = 0
  · have y1 : (s == 0) = true := by rw [hs]; rfl
    have y2 : (st != 0) = false := by rw [i7 hs]; rfl
    have hq := Lib.hid (byt_zero (F := F) hn0.out hs)
    obtain ⟨m, rfl⟩ := Int.eq_ofNat_of_zero_le i5.1
    rw [Int.toNat_natCast] at hq
    have HR := Lib.hid (fun W => Tryz.strings_Repeat ⟨#[0]⟩ m W (by omega) (by show 1 * m ≤ _; omega))
    generalize bytR F s st m = R at *
    clear i7 hs hn0
    go_wp2_with fail
    refine (H1.out _).mono ?_
    rintro e w1 ⟨rfl, rfl⟩
    go_wp2_with fail
    refine (H2.out _).mono ?_
    rintro e w1 ⟨rfl, rfl⟩
    go_wp2_with fail
    refine (H3.out _).mono ?_
    rintro e w1 ⟨rfl, rfl⟩
    go_wp2_with fail
    refine (HR.out _).mono ?_
    rintro e w1 ⟨rfl, hb1⟩
    have k3 := step2 kb hb1
    go_wp2_with fail
    go_ret2
    rw [hq.out]
    refine ⟨?_, k3⟩
    show _ = Ending.returned (.tuple #[.string (bA' (List.replicate m 0)), .int .i64 0])
    rw [← repeat0]
    rfl
  have y1 : (s == 0) = false := by rw [beq_eq_false_iff_ne]; exact hs
  obtain ⟨sn, rfl⟩ := Int.eq_ofNat_of_zero_le i3.1
  obtain ⟨m, rfl⟩ := Int.eq_ofNat_of_zero_le i5.1
  have hP0 := Lib.hid (BtP.start (F := F) hn0.out hs)
  simp only [Int.toNat_natCast] at hP0
  generalize bytR F s sn m = R at *
  have h0 : Hid (Lib.IsBuilder 93 5 W0.heap.size W0.heap.size (Lib.byteCells []) (W0.alloc (.cells #[.pointer none, .slice none 0 0] 93))) := Lib.fresh_isBuilder 93 5 W0
  have kB : Below W0.heap.size W0 (W0.alloc (.cells #[.pointer none, .slice none 0 0] 93)) := (Below.refl _ W0).alloc (Nat.le_refl _) _
  have hI0 : PyI w ar v s sn m W0.heap.size [] (W0.alloc (.cells #[.pointer none, .slice none 0 0] 93)) := ⟨step2 kb kB, bC.below kB, bX.below kB, kB.size, h0⟩
  have hXb := bX.lt
  clear hn0 hs i7 kB h0
  go_wp2_with fail
  refine (H1.out _).mono ?_
  rintro e w1 ⟨rfl, rfl⟩
  go_wp2_with fail
  refine (H2.out _).mono ?_
  rintro e w1 ⟨rfl, rfl⟩
  go_wp2_with fail
  refine (H3.out _).mono ?_
  rintro e w1 ⟨rfl, rfl⟩
  go_upto_region 7 with (fail)
  generalize w1.alloc (.cells #[.pointer none, .slice none 0 0] 93) = W1 at *
  generalize w1.heap.size = B at *
  clear x0 x1 x2 bX bC kb H1 H2 H3
  have x1 : W1.cell? ⟨w.heap.size + 1, 1, none⟩ = some (.int .i64 (sn : Int)) := hI0.xb.cell 1
  have x2 : W1.cell? ⟨w.heap.size + 1, 2, none⟩ = some (.int .i64 (m : Int)) := hI0.xb.cell 2
  go_quiet (fail)
  have hI1 : PyI w ar v s sn m B [] (W1.drewN nq) := hI0.below (below_drewN (below_refl W1) nq)
  generalize W1.drewN nq = W2 at *
  clear hI0 x1 x2
  go_wp2_with fail
  go_loopw [8, 10, 11, 12, 13] (fun vt _ _ _ _ wr => ∃ (p : Nat) (a : List UInt8), vt = .int .i64 p ∧ Hid (BtP F s sn (sn + m) p a R) ∧ PyI w ar v s sn m B a wr) (fun vt _ _ _ _ _ => sn + m - (intOf vt).toNat)
  case atStart => exact ⟨sn, [], rfl, hP0, hI1⟩
  case round =>
    clear hI1 hP0
    obtain ⟨p, a, rfl, hP, hI⟩ := hrel
    obtain ⟨hp1, hp2, hp3⟩ := hP.out.bd
    have hal : a.length ≤ 65536 := by omega
    clear hp3
    obtain ⟨c0, c1⟩ := hI.cb.cells2
    have x0 : wr.cell? ⟨w.heap.size + 1, 0, none⟩ = some (.int .i64 s) := hI.xb.cell 0
    by_cases hlt : p < sn + m
    · have hli : (p : Int) < (sn : Int) + (m : Int) := by omega
      obtain ⟨q, hq⟩ : ∃ q : Nat, p / 28 = q := ⟨_, rfl⟩
      have hqi : (p : Int) / 28 = (q : Int) := by omega
      have hqt : (p : Int).tdiv 28 = (q : Int) := by rw [Int.tdiv_eq_ediv_of_nonneg (by omega)]; exact hqi
      have HB1 := Lib.hid (HB.out (q : Int) wr (by unfold wf64; omega) hI.bel)
      have HE := Lib.hid (fun x => hP.out.err (x := x) hlt)
      have HS := Lib.hid (fun b => hP.out.short (b := b) hlt)
      have HN := Lib.hid (fun b => hP.out.next (b := b) hlt)
      rw [hq] at HE HS HN
      go_wp2_with fail
      refine HB1.out.mono ?_
      rintro e w2 ⟨he, hb2⟩
      have hI2 := hI.below hb2
      clear HB1 hI hb2 c0 c1 x0 hP
      rcases hbk : blkR F s q with x | b
      · rw [hbk] at he
        obtain rfl := he
        obtain ⟨z1, z2⟩ := neq0 (blk_nz hbk)
        have hr := Lib.hid (HE.out x hbk)
        have hbel := hI2.bel
        clear HE HS HN hbk
        go_wp2_with fail
        go_ret2
        rw [hr.out]
        exact ⟨rfl, hbel⟩
      rw [hbk] at he
      obtain rfl := he
      have HS1 := Lib.hid (HS.out b hbk)
      have HN1 := Lib.hid (HN.out b hbk)
      clear HE HS HN hbk
      obtain ⟨r, hr⟩ : ∃ r : Nat, p % 28 = r := ⟨_, rfl⟩
      have hri : (p : Int) % 28 = (r : Int) := by omega
      have hrt : (p : Int).tmod 28 = (r : Int) := by rw [Int.tmod_eq_emod_of_nonneg (by omega)]; exact hri
      have hbz : (bA' b).size = b.length := rfl
      by_cases hsh : b.length < 28
      · have hz := Lib.hid (HS1.out hsh)
        have hsi : (b.length : Int) < 28 := by omega
        have hbel := hI2.bel
        clear HS1 HN1
        go_wp2_with fail
        go_ret2
        rw [hz.out]
        exact ⟨rfl, hbel⟩
      have hsi : ¬ (b.length : Int) < 28 := by omega
      have hnx := Lib.hid (HN1.out hsh)
      clear HS1 HN1
      obtain ⟨t, ht⟩ : ∃ t, stepB p (sn + m) = t := ⟨_, rfl⟩
      have htv : t = min 28 (r + (sn + m) - p) - r := by rw [← ht, ← hr]; rfl
      have hce := Lib.hid (cutP_ext b p (sn + m))
      have hcl := Lib.hid (cutB_len hsh hlt)
      rw [ht] at hnx hce hcl
      rw [hr] at hce
      have hpos := stepB_pos hlt
      rw [ht] at hpos
      have hr28 : r < 28 := by omega
      generalize cutB b p (sn + m) = c at *
      have hac : c.length ≤ 28 := by have := hcl.out; omega
      obtain ⟨T, hT⟩ : ∃ T : Nat, r + t = T := ⟨_, rfl⟩
      have hmin : min (28 : Int) ((r : Int) + ((sn : Int) + (m : Int)) - (p : Int)) = (T : Int) := by omega
      rw [hT] at hce
      have hce2 := hce.out
      have hTb : (T : Int) ≤ 28 ∧ (r : Int) ≤ (T : Int) := by omega
      have hpn : ((p + t : Nat) : Int) = (p : Int) + ((T : Int) - (r : Int)) := by omega
      have HW := Lib.hid (writeString_at B a (bA' c) w2 hI2.bld (by rw [bA'_size]; omega) hI2.le)
      rw [bA'_list] at HW
      clear hT htv
      go_upto_region 15 with (fail)
      go_wp2_with fail
      refine HW.out.mono ?_
      rintro e w3 ⟨rfl, hB3, hbw⟩
      have hI3 : PyI w ar v s sn m B (a ++ c) w3 := ⟨hI2.bel.trans (hbw.mono (by omega)), hI2.cb.below' hbw (by omega), hI2.xb.below' hbw (by omega), Nat.le_trans hI2.le hbw.size, hB3⟩
      clear HW hB3 hbw hI2 hce hce2
      go_wp2_with fail
      go_roundw
      case rel => exact ⟨p + t, a ++ c, by rw [hpn], hnx, hI3⟩
      case measure => simp [intOf]; omega
    · have hz := Lib.hid (hP.out.stop hlt)
      have hli : ¬ (p : Int) < (sn : Int) + (m : Int) := by omega
      have hbel := hI.bel
      have HS := Lib.hid (Any.Builder_String_any_k Tryz.lays169 Tryz.Builder_Extra_169 B B a _ (Lib.IsBuilderF.of hI.bld.out) hI.le)
      clear hI hP
      go_wp2_with fail
      refine HS.out.mono ?_
      rintro e w5 ⟨rfl, hb5, hbe, _⟩
      have k5 := hbel.trans (hbe.mono (by omega))
      clear HS hb5
      go_wp2_with fail
      go_ret2
      rw [hz.out]
      exact ⟨rfl, k5⟩
end Go.Proofs.YtpkapcijgldhhaaGreatDoor
