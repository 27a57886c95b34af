/-
  The stripes of a stream, in the reference.
  The frames of a stream, in the reference's law: stelelaw45.Frames.
-/
import Derived.Test.YtpkapcijgldhhaaGreatDoorCe45
import Derived.Test.YtpkapcijgldhhaaGreatDoorCe43
import Derived.Test.YtpkapcijgldhhaaGreatDoorCe25
import Derived.Test.YtpkapcijgldhhaaGreatDoorCe27
namespace Go.Proofs.YtpkapcijgldhhaaGreatDoor
open Go.RowKit Go.Shelf
/-- the first n blocks of a stripe -/
def blkS (d : Nat) (t : List UInt8) (k n : Nat) : List ByteArray := (List.range n).map fun r => bA' (stB d t k r)
theorem blkS_len (d : Nat) (t : List UInt8) (k n : Nat) : (blkS d t k n).length = n := by unfold blkS; simp
theorem blkS_succ (d : Nat) (t : List UInt8) (k n : Nat) : blkS d t k (n + 1) = blkS d t k n ++ [bA' (stB d t k n)] := by unfold blkS; rw [List.range_succ, List.map_append]; rfl
theorem blkS_at {d : Nat} {t : List UInt8} {k n r : Nat} (h : r < n) : sAt (blkS d t k n) r = bA' (stB d t k r) := by
  unfold sAt blkS; rw [List.getD_eq_getElem?_getD, List.getElem?_map, List.getElem?_range h]; rfl
theorem blkS_data {d : Nat} (hd : d ≤ 256) (t : List UInt8) (k : Nat) : ((blkS d t k d).map fun t => t.data.toList) = stD d t k := by
  unfold blkS stD
  rw [List.map_map]
  apply List.map_congr_left
  intro r hr
  show (bA' _).data.toList = _
  rw [bA'_list, stB_data hd _ _ (List.mem_range.1 hr)]
theorem blkS_spare {d : Nat} (hd : d ≤ 256) (t : List UInt8) (k j : Nat) : blkS d t k d ++ spB (blkS d t k d) j = blkS d t k (d + j) := by
  induction j with
  | zero => unfold spB; simp
  | succ j ih =>
    rw [spB_succ, ← List.append_assoc, ih, blkS_data hd, blkS_len]
    show _ = blkS d t k (d + j + 1)
    rw [blkS_succ]; rfl
/-- the bytes of a data block, up to the i-th -/
def preB (t : List UInt8) (a i : Nat) : List UInt8 := (List.range i).map fun q => t.getD (a + q) 0
theorem preB_len (t : List UInt8) (a i : Nat) : (preB t a i).length = i := by unfold preB; simp
theorem preB_succ (t : List UInt8) (a i : Nat) : preB t a (i + 1) = preB t a i ++ [t.getD (a + i) 0] := by unfold preB; rw [List.range_succ, List.map_append]; rfl
theorem preB_full {d : Nat} (hd : d ≤ 256) (t : List UInt8) {k r : Nat} (hr : r < d) : preB t (k * (28 * d) + 28 * r) 28 = stB d t k r := by
  rw [stB_data hd _ _ hr]
  unfold preB dblk
  apply List.map_congr_left
  intro q _
  congr 1
  rw [Nat.mul_add, ← Nat.mul_assoc, Nat.mul_comm k 28, Nat.mul_assoc]
theorem bA'_snoc (a : List UInt8) (x : UInt8) : bA' (a ++ [x]) = bA' a ++ bA' [x] := by
  refine (bA'_ext ?_).symm
  rw [ByteArray.data_append, Array.toList_append, bA'_list, bA'_list]
theorem one_ext (s : ByteArray) (k : Nat) (h : k < s.size) : s.extract k (k + 1) = bA' [s.data.toList.getD k 0] := by
  refine bA'_ext ?_
  have hz : s.data.toList.length = s.size := rfl
  rw [extract_list, Nat.add_sub_cancel_left, gf_get (by rw [hz]; exact h)]
  rw [List.drop_eq_getElem_cons (by rw [hz]; exact h)]
  rfl
def nStr (d n : Nat) : Nat := (n + 28 * d - 1) / (28 * d)
theorem nStr_lt {d n k : Nat} (hd : 1 ≤ d) : k < nStr d n ↔ k * (28 * d) < n := by
  unfold nStr
  rw [Nat.lt_div_iff_mul_lt (by omega)]
  omega
theorem infoSls : (Tryz.prog.info? 57).map (fun i => (i.zero, i.size, i.bytes)) = some (some (.slice none 0 0), 1, 24) := by kernel_rfl
/-- the stripes so far -/
structure StI (w : World) (base d sp : Nat) (t : List UInt8) (va : Value) (vs : List Value) (k : Nat) (W : World) : Prop where
  bel : Below w.heap.size w W
  lb : Box W w.heap.size [.int .i64 (d : Int), .int .i64 (sp : Int)] 39
  le : base ≤ W.heap.size
  bl : w.heap.size < base
  all : W.ownsRow base 57 1 va k vs
  each : ∀ j, j < k → ∃ g c, vs[j]? = some (.slice (some ⟨g, 0, none⟩) (d + sp) c) ∧ W.ownsRow base 9 1 (.slice (some ⟨g, 0, none⟩) (d + sp) c) (d + sp) ((blkS d t j (d + sp)).map Value.string)
theorem StI.below {w : World} {base d sp : Nat} {t : List UInt8} {va : Value} {vs : List Value} {k : Nat} {W W' : World} (h : StI w base d sp t va vs k W) (hb : Below W.heap.size W W') : StI w base d sp t va vs k W' :=
  ⟨step2 h.bel hb, h.lb.below hb, Nat.le_trans h.le hb.size, h.bl, owns_below h.all hb, fun j hj => by
    obtain ⟨g, c, h1, h2⟩ := h.each j hj
    exact ⟨g, c, h1, owns_below h2 hb⟩⟩
set_option maxRecDepth 100000 in
set_option maxHeartbeats 4000000 in
theorem stripesR_any (d sp : Nat) (t : ByteArray) (w : World) (hd : 1 ≤ d ∧ d ≤ 8) (hs : sp ≤ 7) (ht : t.size ≤ 600) :
    Calls Tryz.prog 46 #[.agg #[.int .i64 d, .int .i64 sp], .string t] w (fun e w' => ∃ va vs, e = .returned (.tuple #[va, .int .i64 0]) ∧ StI w (w.heap.size + 1) d sp t.data.toList va vs (nStr d t.size) w') := by
  obtain ⟨k0, bL⟩ := boxr w [.int .i64 (d : Int), .int .i64 (sp : Int)] 39
  have hz0 : (w.alloc (.cells [.int .i64 (d : Int), .int .i64 (sp : Int)].toArray 39)).heap.size = w.heap.size + 1 := World.size_alloc _ _
  obtain ⟨N, hN⟩ : ∃ N : Nat, 28 * d = N := ⟨_, rfl⟩
  obtain ⟨q, hq⟩ : ∃ q : Nat, (t.size + N - 1) / N = q := ⟨_, rfl⟩
  have hqn : Hid (nStr d t.size = q) := by rw [Hid, nStr, hN, hq]
  have hqlt : Hid (∀ k, k < q ↔ k * N < t.size) := fun k => by rw [← hqn.out, nStr_lt hd.1, hN]
  rw [hqn.out]
  go_enter Tryz.func46, Tryz.ntmps46
  go_upto_region 1 with (fail)
  change Code.wp _ _ _ _ (w.alloc (.cells [.int .i64 (d : Int), .int .i64 (sp : Int)].toArray 39))
  generalize w.alloc (.cells [.int .i64 (d : Int), .int .i64 (sp : Int)].toArray 39) = W0 at *
  obtain ⟨l0, l1⟩ := bL.cells2
  go_wp2_with fail
  refine (refCk_any d sp W0).mono ?_
  rintro e w1 ⟨x, rfl, hx, hb1⟩
  obtain rfl : x = 0 := by rcases hx.out with h | h
                           · exact h.1
                           · exact absurd h.2 (by omega)
  replace k0 := step2 k0 hb1
  replace bL := bL.below hb1
  have hz1 : w.heap.size + 1 ≤ w1.heap.size := by have := hb1.size; omega
  clear hx hb1 l0 l1 hz0
  obtain ⟨l0, l1⟩ := bL.cells2
  have hNi : (28 : Int) * (d : Int) = (N : Int) := by omega
  have hNz : ¬ (N : Int) = 0 := by omega
  have hqb : q ≤ 65536 := by
    have : (t.size + N - 1) / N ≤ t.size + N - 1 := Nat.div_le_self _ _
    omega
  have hqi : ((t.size : Int) + (N : Int) - 1) / (N : Int) = (q : Int) := by
    rw [← hq, show (t.size : Int) + (N : Int) - 1 = ((t.size + N - 1 : Nat) : Int) by omega]; rfl
  have hqt : ((t.size : Int) + (N : Int) - 1).tdiv (N : Int) = (q : Int) := by rw [Int.tdiv_eq_ediv_of_nonneg (by omega)]; exact hqi
  have hqw : IntKind.i64.wrap (q : Int) = (q : Int) := IntWalk.i64_in _ (by omega)
  have hql : ¬ (65536 : Int) < (q : Int) := by omega
  have hNz2 : ((N : Int) == 0) = false := by rw [beq_eq_false_iff_ne]; exact hNz
  go_upto_region 7 with (fail)
  have hO := World.ownsRow_made (base := w.heap.size + 1) (e := 57) (size := 1) w1 #[] 0 hz1 (by decide) rfl
  have kA : Below w1.heap.size w1 (w1.alloc (.cells #[] 57)) := (below_refl w1).alloc (Nat.le_refl _) _
  have hI0 : StI w (w.heap.size + 1) d sp t.data.toList (.slice (some ⟨w1.heap.size, 0, none⟩) 0 0) [] 0 (w1.alloc (.cells #[] 57)) := ⟨step2 k0 kA, bL.below kA, Nat.le_trans hz1 kA.size, Nat.lt_succ_self _, hO, fun j hj => absurd hj (Nat.not_lt_zero _)⟩
  generalize w1.alloc (.cells #[] 57) = W1 at *
  clear hO kA k0 bL l0 l1 hqi hqt hqw hql hNz2 hq
  go_wp2_with fail
  go_loopw [7, 8, 9, 10, 11, 12, 13, 14, 15] (fun va vt _ _ _ _ _ _ _ wr => ∃ (k : Nat) (vs : List Value), k ≤ q ∧ vt = .int .i64 ((k * N : Nat) : Int) ∧ StI w (w.heap.size + 1) d sp t.data.toList va vs k wr) (fun _ vt _ _ _ _ _ _ _ _ => q * N - (intOf vt).toNat)
  case atStart => exact ⟨0, [], by omega, by rw [Nat.zero_mul]; rfl, hI0⟩
  case round =>
    clear hI0
    obtain ⟨k, vs, hk, rfl, hI⟩ := hrel
    obtain ⟨a, ha⟩ : ∃ a : Nat, k * N = a := ⟨_, rfl⟩
    have hA := Lib.hid ha
    rw [ha]
    by_cases hlt : k < q
    · have hat : a < t.size := by rw [← ha]; exact (hqlt.out k).1 hlt
      have hai : (a : Int) < (t.size : Int) := by omega
      clear ha
      obtain ⟨W2, hW2⟩ : ∃ W2, wr = W2 := ⟨_, rfl⟩
      rw [hW2] at hI
      have hbase := hI.le
      go_wp2_with fail
      go_loopw [9, 10, 11, 12, 13] (fun vd vb _ _ _ wq => ∃ (b : Nat), b ≤ d ∧ vb = .int .i64 b ∧ Below W2.heap.size W2 wq ∧ wq.ownsRow W2.heap.size 9 1 vd b ((blkS d t.data.toList k b).map Value.string)) (fun _ vb _ _ _ _ => d - (intOf vb).toNat)
      case atStart => exact ⟨0, by omega, rfl, below_refl _, World.ownsRow_nil _ _ _ _⟩
      case round =>
        obtain ⟨b, hb, rfl, kq, hown⟩ := hrel
        obtain ⟨W3, hW3⟩ : ∃ W3, wr = W3 := ⟨_, rfl⟩
        rw [hW3] at kq hown ⊢
        obtain ⟨oa, oc, rfl⟩ := own_form hown
        have hI2 := hI.below kq
        obtain ⟨l0, l1⟩ := hI2.lb.cells2
        by_cases hbt : b < d
        · have hbi : (b : Int) < (d : Int) := by omega
          obtain ⟨u, hu⟩ : ∃ u : Nat, a + 28 * b = u := ⟨_, rfl⟩
          have hui : (a : Int) + 28 * (b : Int) = (u : Int) := by omega
          have hU := Lib.hid hu
          clear hu
          go_wp2_with fail
          go_loopw [11, 12, 13] (fun vs' vi _ wz => ∃ (i : Nat), i ≤ 28 ∧ vi = .int .i64 i ∧ vs' = .string (bA' (preB t.data.toList u i)) ∧ wz = W3) (fun _ vi _ _ => 28 - (intOf vi).toNat)
          case atStart => exact ⟨0, by omega, rfl, rfl, rfl⟩
          case round =>
            obtain ⟨i, hi, rfl, rfl, rfl⟩ := hrel
            by_cases hit : i < 28
            · have hii : (i : Int) < 28 := by omega
              have hpre := Lib.hid (preB_succ t.data.toList u i)
              obtain ⟨k1, hk1⟩ : ∃ k1 : Nat, u + i = k1 := ⟨_, rfl⟩
              have hk1i : (u : Int) + (i : Int) = (k1 : Int) := by omega
              rw [hk1] at hpre
              have hps : (bA' (preB t.data.toList u i)).size ≤ 28 := by rw [bA'_size, preB_len]; exact hi
              obtain ⟨Y, hY⟩ : ∃ Y, preB t.data.toList u i = Y := ⟨_, rfl⟩
              rw [hY] at hpre hps ⊢
              clear hY
              by_cases hkt : k1 < t.size
              · have hkti : (k1 : Int) < (t.size : Int) := by omega
                have h1 := one_ext t k1 hkt
                generalize t.data.toList.getD k1 0 = y at *
                obtain ⟨B1, hB1⟩ : ∃ B1, bA' [y] = B1 := ⟨_, rfl⟩
                have hB1z : B1.size ≤ 1 := by rw [← hB1]; exact Nat.le_refl _
                have hcat := Lib.hid (bA'_snoc Y y)
                rw [hB1] at h1 hcat
                clear hB1
                go_wp2_with fail
                go_roundw
                case rel => exact ⟨i + 1, by omega, by go_num, by rw [hpre.out, hcat.out], trivial⟩
                case measure => simp [intOf]; omega
              · have hkti : ¬ (k1 : Int) < (t.size : Int) := by omega
                have hy0 : t.data.toList.getD k1 0 = 0 := by
                  rw [List.getD_eq_getElem?_getD, List.getElem?_eq_none (by show t.size ≤ k1; omega)]; rfl
                rw [hy0] at hpre
                have hcat := Lib.hid (bA'_snoc Y 0)
                clear hy0
                go_wp2_with fail
                go_roundw
                case rel => exact ⟨i + 1, by omega, by go_num, by rw [hpre.out, hcat.out]; rfl, trivial⟩
                case measure => simp [intOf]; omega
            · obtain rfl : i = 28 := by omega
              have hfull := Lib.hid (preB_full (d := d) (by omega) t.data.toList (k := k) hbt)
              have hbk := Lib.hid (blkS_succ d t.data.toList k b)
              rw [hN, hA.out, hU.out] at hfull
              rw [← hfull.out] at hbk
              generalize preB t.data.toList u 28 = Y at *
              obtain ⟨iB, hiB, hB0, hB1, hB2⟩ := info_parts infoStc
              have hone : ∀ z ∈ [Value.string (bA' Y)], z.oneCell' = true := fun z hz => by simp only [List.mem_singleton] at hz; subst hz; rfl
              have hle3 := kq.size
              clear hfull
              go_wp2_with (at_builtin; (refine wpList_append_own _ rfl _ _ 57 rfl _ 9 iB (.string ⟨#[]⟩) 1 16 Tryz.underlying57 hiB hB0 hB1 hB2 rfl (by decide) _ _ _ rfl (hown.alloc _) ⟨_, 0, none⟩ 1 1 [.string (bA' Y)] rfl rfl (news1 _ (.string (bA' Y)) 9) hone (by unfold maxLen; omega) (by omega) (by simp; exact Nat.le_succ_of_le hle3) ?_); intro v' w5 hown' hgr _)
              have hbw := below_grownBy (kq.alloc hle3 _) (World.ownsRow.alloc hown _) hgr (by rw [World.size_alloc]; exact Nat.le_succ_of_le hle3)
              clear hgr hown kq hI2 l0 l1
              go_wp2_with fail
              go_roundw
              case rel => exact ⟨b + 1, by omega, by go_num, hbw, by rw [hbk.out, List.map_append]; exact hown'⟩
              case measure => simp [intOf]; omega
        · obtain rfl : d = b := by omega
          have hd0 : 0 < d := hd.1
          obtain ⟨g, rfl, hbx⟩ : ∃ g, oa = some ⟨g, 0, none⟩ ∧ StAt W3 g 0 (blkS d t.data.toList k d) := by
            have h3 : W3.ownsRow W2.heap.size 9 1 (.slice oa d oc) (blkS d t.data.toList k d).length ((blkS d t.data.toList k d).map Value.string) := by rw [blkS_len]; exact hown
            obtain ⟨g, hg, _, hb⟩ := StAt.of_own h3 (by rw [blkS_len]; exact hd0)
            exact ⟨g, hg, hb⟩
          have HE := Lib.hid (encodeR_any g 0 oc (blkS d t.data.toList k d) sp W3 (by rw [blkS_len]; exact hd0) (by rw [blkS_len]; omega) hs (fun j hj => by rw [blkS_len] at hj; rw [blkS_at hj]; show (stB _ _ _ _).length = 28; exact stB_length _ _ _ _) hbx)
          rw [blkS_len] at HE
          have hspr := Lib.hid (blkS_spare (d := d) (by omega) t.data.toList k sp)
          clear hbx
          go_wp2_with fail
          refine HE.out.mono ?_
          rintro e w5 ⟨g5, c5, rfl, hown5, hb5⟩
          have hown6 := owns_below hown hb5
          have hI5 := hI2.below hb5
          have k5 := step2 kq hb5
          clear HE hown hI2 kq l0 l1 hb5
          obtain ⟨iB, hiB, hB0, hB1, hB2⟩ := info_parts infoStc
          obtain ⟨iL, hiL, hL0, hL1, hL2⟩ := info_parts infoSls
          have hle5 := k5.size
          have hn5 : ∀ (j : Nat) (z : Value), ((spB (blkS d t.data.toList k d) sp).map Value.string)[j]? = some z → w5.cell? ((⟨g5, 0, none⟩ : Addr).add j) = some z := fun j z hz => World.ownsRow.cells (g := g5) hown5 rfl j z hz
          have hone : ∀ z ∈ (spB (blkS d t.data.toList k d) sp).map Value.string, z.oneCell' = true := fun z hz => by obtain ⟨y, _, rfl⟩ := List.mem_map.1 hz; rfl
          have hlen : ((spB (blkS d t.data.toList k d) sp).map Value.string).length = sp * 1 := by rw [List.length_map, spB_len, Nat.mul_one]
          go_upto_region 24 with (fail)
          go_wp2_with (first
            | (at_builtin; (refine wpList_append_own _ rfl _ _ 57 rfl _ 9 iB (.string ⟨#[]⟩) 1 16 Tryz.underlying57 hiB hB0 hB1 hB2 rfl (by decide) _ _ _ rfl hown6 ⟨g5, 0, none⟩ sp c5 _ rfl hlen hn5 hone (by unfold maxLen; omega) (by omega) hle5 ?_); intro v6 w6 hown7 hgr6 _; have k6 := below_grownBy k5 hown6 hgr6 hle5; have hI6 := hI.below k6; have hle6 := hI6.le; rw [← List.map_append, hspr.out] at hown7; obtain ⟨o6, c6, rfl⟩ := own_form hown7; clear hown5 hown6 k5 hgr6 hn5 hone hlen)
            | (at_builtin; (refine wpList_append_own _ rfl _ _ 99 rfl _ 57 iL (.slice none 0 0) 1 24 Tryz.underlying99 hiL hL0 hL1 hL2 rfl (by decide) _ _ _ rfl (hI6.all.alloc _) ⟨_, 0, none⟩ 1 1 [.slice o6 (d + sp) c6] rfl rfl (news1 _ (.slice o6 (d + sp) c6) 57) (fun z hz => by simp only [List.mem_singleton] at hz; subst hz; rfl) (by unfold maxLen; omega) (by omega) (by rw [World.size_alloc]; exact Nat.le_succ_of_le hle6) ?_); intro v7 w7 hown8 hgr7 _))
          obtain ⟨g6, rfl, _, _⟩ := own_addr hown7 (by omega)
          have hal6 : w.heap.size + 1 ≤ (w6.alloc (.cells #[.slice (some ⟨g6, 0, none⟩) (d + sp) c6] 57)).heap.size := by rw [World.size_alloc]; exact Nat.le_succ_of_le hle6
          have hbw7 : Below (w.heap.size + 1) w6 w7 := below_grownBy ((Below.refl _ w6).alloc hle6 _) (World.ownsRow.alloc hI6.all _) hgr7 hal6
          have hgw := grew_of (World.ownsRow.alloc hI6.all _) hgr7
          have hI7 : StI w (w.heap.size + 1) d sp t.data.toList v7 (vs ++ [.slice (some ⟨g6, 0, none⟩) (d + sp) c6]) (k + 1) w7 := by
            have hvl : vs.length = k := by have := hI6.all.1; omega
            refine ⟨hI6.bel.trans (hbw7.mono (Nat.le_succ _)), hI6.lb.below' hbw7 (Nat.lt_succ_self _), Nat.le_trans hle6 hbw7.size, Nat.lt_succ_self _, hown8, fun j hj => ?_⟩
            by_cases hjk : j < k
            · obtain ⟨gj, cj, h1, h2⟩ := hI6.each j hjk
              exact ⟨gj, cj, by rw [List.getElem?_append_left (by omega)]; exact h1, own_grew (World.ownsRow.alloc h2 _) hgw (by decide)⟩
            · obtain rfl : j = k := by omega
              refine ⟨g6, c6, by rw [List.getElem?_append_right (by omega), hvl, Nat.sub_self]; rfl, own_weak (own_grew (World.ownsRow.alloc hown7 _) hgw (by decide)) hbase⟩
          have hstep : ((k + 1) * N : Nat) = a + N := by rw [← hA.out, Nat.succ_mul]
          have hkq : (k + 1) * N ≤ q * N := Nat.mul_le_mul_right N hlt
          clear hgw hbw7 hal6 hown8 hgr7 hown7 hI6 hI5 hI
          go_wp2_with fail
          go_roundw
          case rel => exact ⟨k + 1, _, by omega, by rw [hstep]; go_num, hI7⟩
          case measure => simp [intOf]; omega
    · obtain rfl : q = k := by omega
      have hat : ¬ (a : Int) < (t.size : Int) := by
        have : ¬ a < t.size := fun h => hlt ((hqlt.out q).2 (by rw [ha]; exact h))
        omega
      clear ha
      go_wp2_with fail
      go_ret2
      exact ⟨_, rfl, vs, hI⟩
end Go.Proofs.YtpkapcijgldhhaaGreatDoor

namespace Go.Proofs.YtpkapcijgldhhaaGreatDoor
open Go.RowKit Go.Shelf
/-- the frame of a reel of a stripe -/
def frO (d sp : Nat) (t : List UInt8) (s : Int) (k r : Nat) : Fr := mkFr r s k d sp 1 (bA' (stB d t k r))
theorem frO_pay (d sp : Nat) (t : List UInt8) (s : Int) (k r : Nat) : (frO d sp t s k r).payload = bA' (stB d t k r) := by
  show bA' (padL (bA' (stB d t k r)).data.toList) = _
  rw [bA'_list]
  unfold padL
  rw [stB_length]
  simp
def frK (d sp : Nat) (t : List UInt8) (s : Int) (k n : Nat) : List Fr := (List.range n).map (frO d sp t s k)
def frL (d sp : Nat) (t : List UInt8) (s : Int) (k : Nat) : List Fr := (List.range k).flatMap fun j => frK d sp t s j (d + sp)
theorem frK_succ (d sp : Nat) (t : List UInt8) (s : Int) (k n : Nat) : frK d sp t s k (n + 1) = frK d sp t s k n ++ [frO d sp t s k n] := by unfold frK; rw [List.range_succ, List.map_append]; rfl
theorem frL_succ (d sp : Nat) (t : List UInt8) (s : Int) (k : Nat) : frL d sp t s (k + 1) = frL d sp t s k ++ frK d sp t s k (d + sp) := by unfold frL; rw [List.range_succ, List.flatMap_append]; simp
theorem frK_len (d sp : Nat) (t : List UInt8) (s : Int) (k n : Nat) : (frK d sp t s k n).length = n := by unfold frK; simp
theorem frL_len (d sp : Nat) (t : List UInt8) (s : Int) : ∀ k, (frL d sp t s k).length = k * (d + sp)
  | 0 => by unfold frL; simp
  | k + 1 => by rw [frL_succ, List.length_append, frL_len d sp t s k, frK_len, Nat.succ_mul]
/-- the frames row between two rounds -/
structure FrI (w w1 : World) (d sp : Nat) (va : Value) (L : List Fr) (W : World) : Prop where
  bel : Below w1.heap.size w1 W
  own : W.ownsRow w1.heap.size 46 9 va L.length (L.flatMap Fr.vals)
set_option maxRecDepth 100000 in
set_option maxHeartbeats 4000000 in
theorem framesR_any (se : Int) (d sp : Nat) (t : ByteArray) (w : World) (hd : 1 ≤ d ∧ d ≤ 8) (hs : sp ≤ 7) (ht : t.size ≤ 600) :
    Calls Tryz.prog 20 #[.int .i64 se, .agg #[.int .i64 d, .int .i64 sp], .string t] w (fun e w' => ∃ va, e = .returned va ∧ w'.ownsRow w.heap.size 46 9 va (frL d sp t.data.toList se (nStr d t.size)).length ((frL d sp t.data.toList se (nStr d t.size)).flatMap Fr.vals) ∧ Below w.heap.size w w') := by
  obtain ⟨k0, bL⟩ := boxr w [.int .i64 (d : Int), .int .i64 (sp : Int)] 39
  obtain ⟨n, hn⟩ : ∃ n, nStr d t.size = n := ⟨_, rfl⟩
  have hnb : n ≤ 600 := by
    rw [← hn]
    apply Classical.byContradiction
    intro hc
    have := (nStr_lt (d := d) (n := t.size) (k := 600) hd.1).1 (by omega)
    omega
  have HSt := Lib.hid (fun W => stripesR_any d sp t W hd hs ht)
  rw [hn] at HSt ⊢
  clear hn
  go_enter Tryz.func20, Tryz.ntmps20
  go_upto_region 1 with (fail)
  change Code.wp _ _ _ _ (w.alloc (.cells [.int .i64 (d : Int), .int .i64 (sp : Int)].toArray 39))
  generalize w.alloc (.cells [.int .i64 (d : Int), .int .i64 (sp : Int)].toArray 39) = W0 at *
  obtain ⟨l0, l1⟩ := bL.cells2
  go_wp2_with fail
  refine (HSt.out W0).mono ?_
  rintro e w1 ⟨va, vs, rfl, hI⟩
  have k1 := step2 k0 hI.bel
  replace bL := bL.below hI.bel
  obtain ⟨oa, oc, rfl⟩ := own_form hI.all
  have hall : ∀ k, k < n → ∃ g gj cj, oa = some ⟨g, 0, none⟩ ∧ ∀ W, Below w1.heap.size w1 W → W.cell? ⟨g, k, none⟩ = some (.slice (some ⟨gj, 0, none⟩) (d + sp) cj) ∧ StAt W gj 0 (blkS d t.data.toList k (d + sp)) := fun k hk => by
    obtain ⟨gj, cj, h1, h2⟩ := hI.each k hk
    obtain ⟨g, hg, _, hc⟩ := own_addr hI.all (by omega)
    have h3 : w1.ownsRow (W0.heap.size + 1) 9 1 (.slice (some ⟨gj, 0, none⟩) (d + sp) cj) (blkS d t.data.toList k (d + sp)).length ((blkS d t.data.toList k (d + sp)).map Value.string) := by rw [blkS_len]; exact h2
    obtain ⟨g2, hg2, _, hb⟩ := StAt.of_own h3 (by rw [blkS_len]; omega)
    cases hg2
    have hck := hc k _ h1
    exact ⟨g, gj, cj, hg, fun W hW => ⟨by rw [hW.cell (World.block_lt_of_cell? w1 _ hck)]; exact hck, hb.below hW⟩⟩
  have HALL := Lib.hid hall
  clear hall hI HSt k0 l0 l1
  have hLb := bL.lt
  have HL := Lib.hid (fun W (hW : Below w1.heap.size w1 W) => (bL.below hW).cells2)
  have hI0 : FrI w w1 d sp (.slice none 0 0) (frL d sp t.data.toList se 0) w1 := ⟨below_refl _, World.ownsRow_nil _ _ _ _⟩
  clear bL
  go_wp2_with fail
  go_loopw [9, 10, 11, 12, 13, 24] (fun va _ _ _ _ vk wr => ∃ k : Nat, k ≤ n ∧ vk = .int .i64 k ∧ FrI w w1 d sp va (frL d sp t.data.toList se k) wr) (fun _ _ _ _ _ vk _ => n - (intOf vk).toNat)
  case atStart => exact ⟨0, by omega, rfl, hI0⟩
  case round =>
    clear hI0
    obtain ⟨k, hk, rfl, hI⟩ := hrel
    by_cases hlt : k < n
    · obtain ⟨g, gj, cj, rfl, hgj⟩ := HALL.out k hlt
      have HGJ := Lib.hid hgj
      have ck := (hgj _ hI.bel).1
      clear hgj
      have hki : (0 : Int) ≤ (k : Int) ∧ (k : Int) < (n : Int) := by omega
      have hI1 : FrI w w1 d sp u9 (frL d sp t.data.toList se k ++ frK d sp t.data.toList se k 0) wr := by unfold frK; simpa using hI
      clear hI
      have hfl := Lib.hid (frL_succ d sp t.data.toList se k)
      have hlenL : (frL d sp t.data.toList se k).length ≤ 9000 := by
        rw [frL_len]
        exact Nat.le_trans (Nat.mul_le_mul (show k ≤ 600 by omega) (show d + sp ≤ 15 by omega)) (Nat.le_refl _)
      have hkS : ∀ r, (frK d sp t.data.toList se k r).length = r := frK_len _ _ _ _ _
      have HKS := Lib.hid hkS
      clear hkS
      go_wp2_with fail
      go_loopw [9, 12, 13, 31] (fun va _ _ vr wq => ∃ r : Nat, r ≤ d + sp ∧ vr = .int .i64 r ∧ FrI w w1 d sp va (frL d sp t.data.toList se k ++ frK d sp t.data.toList se k r) wq) (fun _ _ _ vr _ => d + sp - (intOf vr).toNat)
      case atStart => exact ⟨0, by omega, rfl, hI1⟩
      case round =>
        clear hI1
        obtain ⟨r, hr, rfl, hI⟩ := hrel
        by_cases hrt : r < d + sp
        · have hri : (r : Int) < (d : Int) + (sp : Int) := by omega
          have hri2 : (0 : Int) ≤ (r : Int) ∧ (r : Int) < ((d + sp : Nat) : Int) := by omega
          have cr := (HGJ.out _ hI.bel).2 r (by rw [blkS_len]; exact hrt)
          rw [blkS_at hrt, Nat.zero_add] at cr
          obtain ⟨l0, l1⟩ := HL.out _ hI.bel
          have HM := Lib.hid (make13_any (r : Int) se (k : Int) d sp 1 (bA' (stB d t.data.toList k r)) wr (by show (stB _ _ _ _).length ≤ 28; rw [stB_length]; exact Nat.le_refl _))
          have hfd := Lib.hid (frK_succ d sp t.data.toList se k r)
          have hFO : mkFr (r : Int) se (k : Int) d sp 1 (bA' (stB d t.data.toList k r)) = frO d sp t.data.toList se k r := rfl
          rw [hFO] at HM
          have HKr := HKS.out r
          have hlen2 : (frL d sp t.data.toList se k ++ frK d sp t.data.toList se k r).length ≤ 9100 := by rw [List.length_append, HKr]; omega
          obtain ⟨L, hL⟩ : ∃ L, frL d sp t.data.toList se k ++ frK d sp t.data.toList se k r = L := ⟨_, rfl⟩
          have hLn : Hid (frL d sp t.data.toList se k ++ frK d sp t.data.toList se k (r + 1) = L ++ [frO d sp t.data.toList se k r]) := by rw [Hid, hfd.out, ← List.append_assoc, hL]
          rw [hL] at hI hlen2
          generalize frO d sp t.data.toList se k r = FD at *
          generalize bA' (stB d t.data.toList k r) = bt at *
          obtain ⟨oa2, oc2, rfl⟩ := own_form hI.own
          clear hL hfd HKr hFO
          obtain ⟨f0, f1, f2, f3, f4, f5, f6, f7, f8⟩ := FD
          simp only [Fr.vals, List.toArray] at HM
          go_wp2_with fail
          refine HM.out.mono ?_
          rintro e w5 ⟨rfl, hb5⟩
          have k5 := step2 hI.bel hb5
          have ho5 := owns_below hI.own hb5
          clear HM hb5 hI cr l0 l1
          obtain ⟨iF, hiF, hF0, hF1, hF2⟩ := info_parts infoFr
          have hle5 := k5.size
          have kA : Below w5.heap.size w5 (w5.alloc (.cells #[.int .i64 f0, .int .i64 f1, .int .i64 f2, .int .i64 f3, .int .i64 f4, .int .i64 f5, .int .i64 f6, .int .u32 f7, .string f8] 46)) := (Below.refl _ _).alloc (Nat.le_refl _) _
          have hoA := owns_below ho5 kA
          have k6 := step2 k5 kA
          go_wp2_with (at_builtin; refine wpList_append_own _ rfl _ _ 23 rfl w1.heap.size 46 iF (.agg #[.int .i64 0, .int .i64 0, .int .i64 0, .int .i64 0, .int .i64 0, .int .i64 0, .int .i64 0, .int .u32 0, .string ⟨#[]⟩]) 9 80 Tryz.underlying23 hiF hF0 hF1 hF2 rfl (by decide) _ _ _ rfl (World.ownsRow.alloc ho5 _) ⟨w5.heap.size, 0, none⟩ 1 1 [.int .i64 f0, .int .i64 f1, .int .i64 f2, .int .i64 f3, .int .i64 f4, .int .i64 f5, .int .i64 f6, .int .u32 f7, .string f8] rfl rfl ?c1 ?c2 ?c3 ?c4 ?c5 ?_)
          case c1 => exact fun j u hu => by rw [Addr.add_mid, Nat.zero_add]; exact ((Box.new w5 (Fr.vals ⟨f0, f1, f2, f3, f4, f5, f6, f7, f8⟩) 46).cell j).trans hu
          case c2 => exact one9 ⟨f0, f1, f2, f3, f4, f5, f6, f7, f8⟩
          case c3 => unfold maxLen; omega
          case c4 => omega
          case c5 => simp; omega
          intro v6 w6 hown6 hgr6 _
          have hbw := below_grownBy k6 hoA hgr6 k6.size
          have hI6 : FrI w w1 d sp v6 (frL d sp t.data.toList se k ++ frK d sp t.data.toList se k (r + 1)) w6 := by
            refine ⟨hbw, ?_⟩
            rw [hLn.out, List.length_append, List.flatMap_append, List.flatMap_cons, List.flatMap_nil, List.append_nil]
            exact hown6
          clear hbw hown6 hgr6 ho5 hoA k5 k6 kA
          go_wp2_with fail
          go_roundw
          case rel => exact ⟨r + 1, by omega, by go_num, hI6⟩
          case measure => simp [intOf]; omega
        · obtain rfl : r = d + sp := by omega
          rw [← hfl.out] at hI
          go_wp2_with fail
          go_roundw
          case rel => exact ⟨k + 1, by omega, by go_num, hI⟩
          case measure => simp [intOf]; omega
    · obtain rfl : n = k := by omega
      have h1 := owns_below hI.own (below_refl _)
      go_wp2_with fail
      go_ret
      exact ⟨_, rfl, own_weak hI.own k1.size, k1.trans (hI.bel.mono k1.size)⟩
end Go.Proofs.YtpkapcijgldhhaaGreatDoor
