/-
  Key trees: levels and roots, in the reference.
  Signatures of key trees.
-/
import Derived.Test.YtpkapcijgldhhaaGreatDoorCf01
import Derived.Test.YtpkapcijgldhhaaGreatDoorCf03
import Derived.Test.YtpkapcijgldhhaaGreatDoorCf19
import Derived.Test.YtpkapcijgldhhaaGreatDoorCf05
import Derived.Test.YtpkapcijgldhhaaGreatDoorCf06
import Derived.Test.YtpkapcijgldhhaaGreatDoorCf07
import Derived.Test.YtpkapcijgldhhaaGreatDoorCf08
import Derived.Test.YtpkapcijgldhhaaGreatDoorCe18
import Derived.Deep.CutBlock
import Derived.Deep.CutRange
namespace Go.Proofs.YtpkapcijgldhhaaGreatDoor
open Go.RowKit
theorem levelsL_next : ∀ (h : Nat) (l : List (List UInt8)) (i : Nat) (m : List (List UInt8)), i < h → (levelsL h l)[i]? = some m → (levelsL h l)[i + 1]? = some (pairUp m)
  | 0, _, _, _, hi, _ => by omega
  | h + 1, l, 0, m, _, hm => by
    simp only [levelsL] at hm ⊢
    obtain rfl := Option.some.inj hm
    cases h <;> rfl
  | h + 1, l, i + 1, m, hi, hm => levelsL_next h (pairUp l) i m (by omega) hm
theorem levelsL_le : ∀ (h : Nat) (l : List (List UInt8)), (∀ x ∈ l, x.length ≤ 16) → ∀ (i : Nat) (m : List (List UInt8)), (levelsL h l)[i]? = some m → ∀ x ∈ m, x.length ≤ 16
  | 0, l, hl, i, m, hm => by
    rcases i with _ | i
    · obtain rfl := Option.some.inj hm; exact hl
    · simp [levelsL] at hm
  | h + 1, l, hl, i, m, hm => by
    rcases i with _ | i
    · obtain rfl := Option.some.inj hm; exact hl
    · exact levelsL_le h (pairUp l) (pairN_le l _) i m hm
theorem LvlIs.below {w w' : World} {vs : List Value} {L : List (List (List UInt8))} (h : LvlIs w vs L) (hb : Below w.heap.size w w') : LvlIs w' vs L := ⟨h.1, fun i x m hx hm => (h.2 i x m hx hm).below hb⟩
theorem OwnS.grown39 {w w' : World} {v : Value} {l : List (List UInt8)} {base : Nat} {vo : Value} {n : Nat} {xs : List Value} (h : OwnS w v l) (ho : w.ownsRow base 57 1 vo n xs) (hg : w.grownBy w' vo.ownBlock) : OwnS w' v l :=
  ⟨h.1, h.2.imp id fun ⟨g, cap, cur, e1, e2, hh, r⟩ => ⟨g, cap, cur, e1, e2, block_kept hh ho hg (by decide), r⟩⟩
theorem LvlIs.snoc {w : World} {vs : List Value} {L : List (List (List UInt8))} {x : Value} {m : List (List UInt8)} (h : LvlIs w vs L) (hx : OwnS w x m) : LvlIs w (vs ++ [x]) (L ++ [m]) := by
  refine ⟨by simp [h.1], fun i y n hy hn => ?_⟩
  by_cases hi : i < vs.length
  · rw [List.getElem?_append_left hi] at hy
    rw [List.getElem?_append_left (by rw [← h.1]; exact hi)] at hn
    exact h.2 i y n hy hn
  · rw [List.getElem?_append_right (by omega)] at hy
    rw [List.getElem?_append_right (by rw [← h.1]; omega), ← h.1] at hn
    generalize i - vs.length = j at hy hn
    rcases j with _ | j
    · obtain rfl := Option.some.inj hy
      obtain rfl := Option.some.inj hn
      exact hx
    · simp at hy
set_option maxHeartbeats 1000000 in
set_option maxRecDepth 100000 in
theorem levelsR_any (s : ByteArray) (h : Nat) (w : World) (hs : s.size ≤ 1073741824) (hh : h ≤ 6) :
    Calls Tryz.prog 55 #[.string s, .int .i64 h] w (LvlP (treeL s.data.toList h) w) := by
  obtain ⟨i0, hi, hz0, hz1, hz2⟩ := info_parts infoStr
  have hpl := pow_le h hh
  obtain ⟨N, hN⟩ : ∃ N, 2 ^ h = N := ⟨_, rfl⟩
  rw [hN] at hpl
  have HN := Lib.hid hN; clear hN
  have hsz := Lib.hid (fun w => size_any h N w (by omega) HN.out)
  have hown0 := Lib.hid (owns_full (base := w.heap.size) (e := 9) w #[] 0 (Nat.le_refl _) (by decide) rfl)
  have bs0 : Below w.heap.size w (w.alloc (.cells #[] 9)) := (Below.refl _ w).alloc (Nat.le_refl _) _
  go_enter Tryz.func55, Tryz.ntmps55
  go_upto_block 0 with (fail)
  go_cut [5] from 12 to 23 (fun v5 wc => wc.ownsRow w.heap.size 9 1 v5 (leavesL s.data.toList N).length (((leavesL s.data.toList N).map bA).map Value.string) ∧ Below w.heap.size w wc)
  case first =>
    go_wp2_with fail
    go_loopg [5, 6] N (fun kk v i wr => ∃ k : Nat, kk + k = N ∧ i = .int .i64 k ∧ wr.ownsRow w.heap.size 9 1 v (leavesL s.data.toList k).length (((leavesL s.data.toList k).map bA).map Value.string) ∧ Below w.heap.size w wr)
    case atStart => exact ⟨0, rfl, rfl, hown0.out, bs0⟩
    case round =>
      obtain ⟨k, hk, rfl, hown, hbw⟩ := hrel
      have hsz1 := Lib.hid (hsz.out wr)
      by_cases hlt : k < N
      · have hgk : N - (k + 1) < gk := by omega
        have HK := Lib.hid hk; clear hk
        have hpb := Lib.hid (publicR_any s k wr hs (by omega))
        have hll := leavesL_length s.data.toList k
        have hnx : leavesL s.data.toList (k + 1) = leavesL s.data.toList k ++ [publicL s.data.toList k] := rfl
        rw [hll] at hown
        obtain ⟨xs, hxs⟩ : ∃ xs, ((leavesL s.data.toList k).map bA).map Value.string = xs := ⟨_, rfl⟩
        rw [hxs] at hown
        have HXS := Lib.hid hxs
        have HLL := Lib.hid hll
        have HNX := Lib.hid hnx
        clear hll hnx hxs
        go_wp2_with fail
        refine hsz1.out.mono ?_
        rintro e w3 ⟨rfl, rfl⟩
        go_wp2_with fail
        refine hpb.out.mono ?_
        rintro e w3 ⟨t, rfl, ht, hb3⟩
        have hn3 := owns_below hown hb3
        have hz3 : w.heap.size ≤ w3.heap.size := Nat.le_trans hbw.size hb3.size
        clear hpb hown hsz1
        go_wp2_with (at_builtin; refine wpList_append_own _ rfl _ _ 57 rfl w.heap.size 9 i0 (.string ⟨#[]⟩) 1 16 Tryz.underlying57 hi hz0 hz1 hz2 rfl (by decide) _ _ _ rfl (hn3.alloc _) ⟨w3.heap.size, 0, none⟩ 1 1 [.string t] rfl rfl (fun j x h => cell_str1 w3 t _ j x h) (fun u hu => by rw [List.mem_singleton] at hu; subst hu; rfl) (by unfold maxLen; omega) (by omega) (Nat.le_trans hz3 (by simp)) ?_; intro v4 w4 hown4 hg4 hni; clear hni)
        have hb4 : Below w.heap.size w w4 := below_grownBy ((step2 hbw hb3).alloc hz3 _) (hn3.alloc _) hg4 (Nat.le_trans hz3 (by simp))
        have hn4 : w4.ownsRow w.heap.size 9 1 v4 (leavesL s.data.toList (k + 1)).length (((leavesL s.data.toList (k + 1)).map bA).map Value.string) := by
          rw [HNX.out, List.length_append, HLL.out, List.map_append, List.map_append, HXS.out, List.map_cons, List.map_nil, List.map_cons, List.map_nil, ← eq_bA ht.out]
          exact hown4
        clear hown4 hg4 hn3 hb3
        go_roundg (N - (k + 1))
        case measure => exact hgk
        case rel => exact ⟨k + 1, by have := HK.out; omega, by go_num, hn4, hb4⟩
      · obtain rfl : k = N := by omega
        go_wp2_with fail
        refine hsz1.out.mono ?_
        rintro e w3 ⟨rfl, rfl⟩
        go_wp2_with fail
        go_meet
        case rel => exact ⟨hown, hbw⟩
  case rest =>
    obtain ⟨hown, hbw⟩ := hcut
    have hll := leavesL_length s.data.toList N
    have hNp : 0 < N := by rw [← HN.out]; exact Nat.two_pow_pos h
    obtain ⟨gl, cl, rfl, hgl0, hgl⟩ := World.ownsRow.form hown (by rw [hll]; exact hNp)
    rw [hll]
    have HLL := Lib.hid hll
    clear hll
    obtain ⟨i1, hi1, hy0, hy1, hy2⟩ := info_parts infoSl
    go_upto_block 2 with (fail)
    have ho1 := owns_full (base := w.heap.size) (e := 57) wc #[.slice (some ⟨gl, 0, none⟩) N cl] 1 hbw.size (by decide) rfl
    have hbA : Below wc.heap.size wc (wc.alloc (.cells #[.slice (some ⟨gl, 0, none⟩) N cl] 57)) := (Below.refl _ wc).alloc (Nat.le_refl _) _
    have hs1 : OwnS (wc.alloc (.cells #[.slice (some ⟨gl, 0, none⟩) N cl] 57)) (.slice (some ⟨gl, 0, none⟩) N cl) (leavesL s.data.toList N) := by
      have := owns_zero (owns_below hown hbA)
      rw [HLL.out] at this
      unfold OwnS
      rw [HLL.out]; exact this
    have hbw1 := step2 hbw hbA
    generalize wc.alloc (.cells #[.slice (some ⟨gl, 0, none⟩) N cl] 57) = W1 at ho1 hs1 hbw1 ⊢
    generalize wc.heap.size = z at ho1 ⊢
    clear hbA hown hbw hown0 bs0
    have hT0 : (treeL s.data.toList h).take 1 = [leavesL s.data.toList N] := by
      unfold treeL; rw [HN.out]; cases h <;> rfl
    have hl1 : Hid (LvlIs W1 [.slice (some ⟨gl, 0, none⟩) N cl] ((treeL s.data.toList h).take 1)) := by
      rw [hT0]
      refine ⟨rfl, fun i x m hx hm => ?_⟩
      rcases i with _ | i
      · obtain rfl := Option.some.inj hx
        obtain rfl := Option.some.inj hm
        exact hs1
      · simp at hx
    have HTL : Hid ((treeL s.data.toList h).length = h + 1) := levelsL_length _ _
    go_cut [7] from 26 to 63 (fun v7 wc => ∃ vs, wc.ownsRow w.heap.size 57 1 v7 vs.length vs ∧ LvlIs wc vs (treeL s.data.toList h) ∧ Below w.heap.size w wc)
    case first =>
      go_wp2_with fail
      go_loopg [7] h (fun kk v wr => ∃ (i : Nat) (vs : List Value), kk + i = h ∧ wr.ownsRow w.heap.size 57 1 v (i + 1) vs ∧ Hid (LvlIs wr vs ((treeL s.data.toList h).take (i + 1))) ∧ Below w.heap.size w wr)
      case atStart => exact ⟨0, [.slice (some ⟨gl, 0, none⟩) N cl], rfl, ho1, hl1, hbw1⟩
      case round =>
        obtain ⟨i, vs, hk, hown, hlv, hbw⟩ := hrel
        have hvl : vs.length = i + 1 := by simpa using hown.1
        have hih : i ≤ h := by omega
        obtain ⟨m, hm1, hm2⟩ := levelsL_get h (leavesL s.data.toList (2 ^ h)) (leavesL_length _ _) i hih
        obtain ⟨x, hx⟩ : ∃ x, vs[i]? = some x := ⟨_, List.getElem?_eq_getElem (by omega)⟩
        have hox := hlv.out.2 i x m hx (by rw [List.getElem?_take, if_pos (by omega)]; exact hm1)
        have hPp : 0 < m.length := by rw [hm2]; exact Nat.two_pow_pos _
        have hP64 : m.length ≤ 64 := by rw [hm2]; exact Nat.le_trans (Nat.pow_le_pow_right (by decide) (by omega)) (pow_le h hh)
        obtain ⟨gx, cx, rfl, _, hgx⟩ := World.ownsRow.form hox hPp
        obtain ⟨go, co, rfl, _, hgo⟩ := World.ownsRow.form hown (by omega)
        have c1 := World.ownsRow.cells hown (g := go) rfl i _ hx
        have hadd : ∀ g j, (⟨g, 0, none⟩ : Addr).add j = ⟨g, j, none⟩ := fun g j => by unfold Addr.add; split <;> simp_all
        rw [hadd] at c1
        have HADD := Lib.hid hadd
        have HM1 := Lib.hid hm1
        have HX := Lib.hid hx
        clear hx hadd hm1
        have u0 : IntKind.i64.wrap (((i : Int) + 1) - 1) = i := by rw [show ((i : Int) + 1) - 1 = i by omega]; exact IntWalk.i64_in _ (by omega)
        by_cases hlt : i < h
        · have hP2 : m.length = 2 * 2 ^ (h - (i + 1)) := by rw [hm2, show h - i = h - (i + 1) + 1 from by omega, Nat.pow_succ]; omega
          have hMp := Nat.two_pow_pos (h - (i + 1))
          obtain ⟨M, hM⟩ : ∃ M, 2 ^ (h - (i + 1)) = M := ⟨_, rfl⟩
          rw [hM] at hP2 hMp
          obtain ⟨P, hP⟩ : ∃ P, m.length = P := ⟨_, rfl⟩
          rw [hP] at hP2 hPp hP64 c1
          have HP := Lib.hid hP
          have HMM := Lib.hid hM
          have hNM1 : P ≤ 2 * M := by omega
          have hNM2 : 2 * M ≤ P := by omega
          have hgk0 : gk = h - i := by omega
          have HGK0 := Lib.hid hgk0
          clear hP2 hP hM hm2 hk u0 hvl hgk0
          go_upto_block 4 with (fail)
          have hdec : decide ((1 : Int) < (P : Int)) = true := by simp; omega
          rw [hdec]
          clear hdec
          have hbA : Below wr.heap.size wr (wr.alloc (.cells #[] 9)) := (Below.refl _ wr).alloc (Nat.le_refl _) _
          have hn0 := owns_full (base := wr.heap.size) (e := 9) wr #[] 0 (Nat.le_refl _) (by decide) rfl
          have hb0 : Below wr.heap.size wr (wr.alloc (.cells #[] 9)) := hbA
          have hlevel : Hid (∀ j, j < P → wr.cell? ⟨gx, j, none⟩ = some (.string (bA (m.getD j [])))) := fun j hj => by
            have := World.ownsRow.cells (g := gx) hox rfl j (.string (bA (m.getD j []))) (by
              rw [List.getElem?_map, List.getElem?_map, List.getD_eq_getElem?_getD, List.getElem?_eq_getElem (by rw [HP.out]; exact hj)]; rfl)
            rwa [HADD.out] at this
          have hsmall : Hid (∀ j, (m.getD j []).length ≤ 16) := fun j => by
            rw [List.getD_eq_getElem?_getD]
            cases hx : m[j]? with
            | none => exact Nat.zero_le _
            | some x => exact levelsL_le h _ (leavesL_le _ _) i m HM1.out x (List.mem_of_getElem? hx)
          obtain ⟨wu, hwu⟩ : ∃ wu : World, wu = wr := ⟨_, rfl⟩
          subst hwu
          go_cut [9] from 41 to 59 (fun v9 wc => wc.ownsRow wu.heap.size 9 1 v9 (pairN m M).length (((pairN m M).map bA).map Value.string) ∧ Below wu.heap.size wu wc)
          case first =>
            go_wp2_with fail
            go_loopg [9, 10] M (fun kk v i wr => ∃ k : Nat, kk + k = M ∧ i = .int .i64 (2 * k : Nat) ∧ wr.ownsRow wu.heap.size 9 1 v (pairN m k).length (((pairN m k).map bA).map Value.string) ∧ Below wu.heap.size wu wr)
            case atStart => exact ⟨0, by omega, rfl, hn0, hb0⟩
            case round =>
              obtain ⟨k, hk, rfl, hnx, hbw⟩ := hrel
              by_cases hlt : k < M
              · have hgk : M - (k + 1) < gk := by omega
                have HK := Lib.hid hk; clear hk
                have ca : wr.cell? ⟨gx, 2 * k, none⟩ = some (.string (bA (m.getD (2 * k) []))) := (hbw.cell (p := ⟨gx, 2 * k, none⟩) hgx).trans (hlevel.out (2 * k) (by omega))
                have cb : wr.cell? ⟨gx, 2 * k + 1, none⟩ = some (.string (bA (m.getD (2 * k + 1) []))) := (hbw.cell (p := ⟨gx, 2 * k + 1, none⟩) hgx).trans (hlevel.out (2 * k + 1) (by omega))
                have za : (bA (m.getD (2 * k) [])).size ≤ 1073741824 := Nat.le_trans (hsmall.out (2 * k)) (by decide)
                have zb : (bA (m.getD (2 * k + 1) [])).size ≤ 1073741824 := Nat.le_trans (hsmall.out (2 * k + 1)) (by decide)
                have hpl' := pairN_length m k
                rw [hpl'] at hnx
                have hnext : pairN m (k + 1) = pairN m k ++ [nodeL (bA (m.getD (2 * k) [])).data.toList (bA (m.getD (2 * k + 1) [])).data.toList] := rfl
                generalize bA (m.getD (2 * k) []) = sa at ca za hnext
                generalize bA (m.getD (2 * k + 1) []) = sb at cb zb hnext
                have HNX := Lib.hid hnext
                have HPL := Lib.hid hpl'
                clear hpl' hnext
                obtain ⟨xs, hxs⟩ : ∃ xs, ((pairN m k).map bA).map Value.string = xs := ⟨_, rfl⟩
                rw [hxs] at hnx
                have HXS := Lib.hid hxs; clear hxs
                have hnode := fun w' => nodeR_any sa sb w' za zb
                have HND := Lib.hid hnode; clear hnode
                have g1' : (0 : Int) ≤ 2 * (k : Int) + 1 := by omega
                have g2' : 2 * (k : Int) + 1 < P := by omega
                have g3' : 2 * (k : Int) < P := by omega
                have g4' : (0 : Int) ≤ 2 * (k : Int) := by omega
                have g5' : (2 * (k : Int)).toNat = 2 * k := by omega
                have g6' : (2 * (k : Int) + 1).toNat = 2 * k + 1 := by omega
                have u1 : IntKind.i64.wrap (2 * (k : Int) + 1) = 2 * k + 1 := IntWalk.i64_in _ (by omega)
                go_upto_region 13 with (fail)
                go_region_law (first | (go_simp; go_at_call 87; refine (HND.out _).mono ?_; rintro e w3 ⟨t, rfl, ht, hb3⟩; have hn3 := owns_below (w := wr.drew) hnx hb3; have hz3 : wu.heap.size ≤ w3.heap.size := Nat.le_trans hbw.size hb3.size) | (refine step_append_ownL rfl (.tmp 47) (.tmp 58) 57 rfl wu.heap.size 9 i0 (.string ⟨#[]⟩) 1 16 Tryz.underlying57 hi hz0 hz1 hz2 rfl (by decide) u9 k xs (by simp [Act.eval]) (hn3.alloc _) ⟨w3.heap.size, 0, none⟩ 1 1 [.string t] (by simp [Act.eval]) rfl (fun j x h => cell_str1 w3 t _ j x h) (fun u hu => by rw [List.mem_singleton] at hu; subst hu; rfl) (by unfold maxLen; omega) (by omega) (Nat.le_trans hz3 (by simp)) ?_; intro v4 w4 hown4 hg4 hni; clear hni))
                all_goals
                  have hb4 : Below wu.heap.size wu w4 := below_grownBy (((hbw.drew).trans (hb3.mono hbw.size)).alloc hz3 _) (hn3.alloc _) hg4 (Nat.le_trans hz3 (by simp))
                  have hn4 : w4.ownsRow wu.heap.size 9 1 v4 (pairN m (k + 1)).length (((pairN m (k + 1)).map bA).map Value.string) := by
                    rw [HNX.out, List.length_append, HPL.out, List.map_append, List.map_append, HXS.out, List.map_cons, List.map_nil, List.map_cons, List.map_nil, ← eq_bA (show t.data.toList = nodeL sa.data.toList sb.data.toList from ht.out)]
                    exact hown4
                  clear hown4 hg4 hn3 hb3 hnx
                  simp only [Exit.inBlock, Exit.then]
                  go_wp2_with fail
                  go_roundg (M - (k + 1))
                all_goals first
                  | exact hgk
                  | exact ⟨k + 1, by have := HK.out; omega, by go_num, hn4, hb4⟩
              · obtain rfl : k = M := by omega
                go_wp2_with fail
                go_meet
                case rel => exact ⟨hnx, hbw⟩
          case rest =>
            obtain ⟨hnx, hbx⟩ := hcut
            have hpl2 := pairN_length m M
            obtain ⟨gn, cn, rfl, _, hgn⟩ := World.ownsRow.form hnx (by rw [hpl2]; exact hMp)
            have hon := owns_zero hnx
            have hown3 := owns_below hown hbx
            have hlv3 := Lib.hid (hlv.out.below hbx)
            have hnxt := levelsL_next h (leavesL s.data.toList (2 ^ h)) i m hlt HM1.out
            have hpu : pairUp m = pairN m M := by unfold pairUp; rw [HP.out, show P / 2 = M from by omega]
            have htk : Hid ((treeL s.data.toList h).take (i + 1 + 1) = (treeL s.data.toList h).take (i + 1) ++ [pairN m M]) := by
              rw [Hid, List.take_add_one (i := i + 1), ← hpu]; unfold treeL; rw [hnxt]; rfl
            rw [hpl2]
            rw [hpl2] at hon
            have hbw3 := step2 hbw hbx
            have HPL2 := Lib.hid hpl2
            have hON : Hid (OwnS wc (.slice (some ⟨gn, 0, none⟩) M cn) (pairN m M)) := by
              unfold OwnS; rw [hpl2]; exact hon
            clear hnx hon hown hpu hnxt hpl2 hox c1 hn0 hb0 hbA
            go_wp2_with (at_builtin; refine wpList_append_own _ rfl _ _ 99 rfl w.heap.size 57 i1 (.slice none 0 0) 1 24 Tryz.underlying99 hi1 hy0 hy1 hy2 rfl (by decide) _ _ _ rfl (hown3.alloc _) ⟨wc.heap.size, 0, none⟩ 1 1 [.slice (some ⟨gn, 0, none⟩) M cn] rfl rfl (fun j x h => cell_new1 wc _ _ _ j x h) (fun u hu => by rw [List.mem_singleton] at hu; subst hu; rfl) (by unfold maxLen; omega) (by omega) (Nat.le_trans hbw3.size (by simp)) ?_; intro v4 w4 hown4 hg4 hni; clear hni)
            have hal : Below wc.heap.size wc (wc.alloc (.cells #[.slice (some ⟨gn, 0, none⟩) M cn] 57)) := (Below.refl _ wc).alloc (Nat.le_refl _) _
            have hb4 := below_grownBy (step2 hbw3 hal) (hown3.alloc _) hg4 (Nat.le_trans hbw3.size (by simp))
            have hlv4 : Hid (LvlIs w4 (vs ++ [.slice (some ⟨gn, 0, none⟩) M cn]) ((treeL s.data.toList h).take (i + 1 + 1))) := by
              rw [htk.out]
              have h1 := (hlv3.out.snoc hON.out).below hal
              exact ⟨h1.1, fun a b c d e => (h1.2 a b c d e).grown39 (hown3.alloc _) hg4⟩
            clear hg4 hal hown3
            go_wp2_with fail
            go_roundg (h - (i + 1))
            case measure => have := HGK0.out; omega
            case rel => exact ⟨i + 1, _, by omega, hown4, hlv4, hb4⟩
        · obtain rfl : i = h := by omega
          have hP1 : m.length = 1 := by rw [hm2, Nat.sub_self]
          rw [hP1] at c1
          have HP1 := Lib.hid hP1
          clear hP1 hm2 hPp hP64 hox
          have hlv2 : Hid (LvlIs wr vs (treeL s.data.toList i)) := by
            have := hlv.out
            rwa [List.take_of_length_le (by rw [HTL.out]; exact Nat.le_refl _)] at this
          go_wp2_with fail
          go_meet
          case rel => exact ⟨vs, by rw [hvl]; exact hown, hlv2.out, hbw⟩
    case rest =>
      obtain ⟨vs, hown, hlv, hbw⟩ := hcut
      have HLV := Lib.hid hlv
      have HOW := Lib.hid hown
      clear hlv hown
      go_wp2_with fail
      go_ret
      exact ⟨_, vs, rfl, HOW.out, HLV.out, hbw⟩
set_option maxHeartbeats 1000000 in
set_option maxRecDepth 100000 in
theorem rootR_any (s : ByteArray) (h : Int) (w : World) (hs : s.size ≤ 1073741824) (hh : -9223372036854775808 ≤ h ∧ h ≤ 9223372036854775807) :
    Calls Tryz.prog 29 #[.string s, .int .i64 h] w (RootP (rootL s.data.toList h) (rootE h) w) := by
  by_cases h0 : h < 0
  · have e1 := Lib.hid (show rootE h = 2 by rw [rootE, if_pos (.inl h0)])
    have e2 := Lib.hid (show rootL s.data.toList h = [] by rw [rootL, if_pos (.inl h0)])
    rw [e1.out, e2.out]
    go_enter Tryz.func29, Tryz.ntmps29
    go_wp2_with fail
    go_ret2
    exact ⟨_, rfl, rfl, below_refl _⟩
  by_cases h6 : 6 < h
  · have e1 := Lib.hid (show rootE h = 2 by rw [rootE, if_pos (.inr h6)])
    have e2 := Lib.hid (show rootL s.data.toList h = [] by rw [rootL, if_pos (.inr h6)])
    rw [e1.out, e2.out]
    have h0' : 0 ≤ h := by omega
    go_enter Tryz.func29, Tryz.ntmps29
    go_wp2_with fail
    go_ret2
    exact ⟨_, rfl, rfl, below_refl _⟩
  obtain ⟨k, rfl⟩ := Int.eq_ofNat_of_zero_le (Int.not_lt.1 h0)
  have hk : k ≤ 6 := by omega
  have e1 := Lib.hid (show rootE (k : Int) = 0 by rw [rootE, if_neg (by omega)])
  have e2 := Lib.hid (show rootL s.data.toList (k : Int) = ((treeL s.data.toList k).getD k []).getD 0 [] by rw [rootL, if_neg (by omega)]; rfl)
  rw [e1.out, e2.out]
  obtain ⟨m, hm1, hm2⟩ := levelsL_get k (leavesL s.data.toList (2 ^ k)) (leavesL_length _ _) k (Nat.le_refl _)
  rw [Nat.sub_self] at hm2
  obtain ⟨r, rfl⟩ : ∃ r, m = [r] := by
    match m, hm2 with
    | [r], _ => exact ⟨r, rfl⟩
  have e3 := Lib.hid (show ((treeL s.data.toList k).getD k []).getD 0 [] = r by
    have h3 : (treeL s.data.toList k).getD k [] = [r] := by rw [treeL, List.getD_eq_getElem?_getD, hm1]; rfl
    rw [h3]; rfl)
  rw [e3.out]
  have hlv := Lib.hid (levelsR_any s k w hs hk)
  have HM1 := Lib.hid hm1
  clear hm1 hm2 h0 h6
  have hlen := levelsL_length k (leavesL s.data.toList (2 ^ k))
  go_enter Tryz.func29, Tryz.ntmps29
  go_wp2_with fail
  refine hlv.out.mono ?_
  rintro e w1 ⟨vo, vs, rfl, hown, hlvl, hb⟩
  have hvl : vs.length = k + 1 := hlvl.1.trans hlen
  obtain ⟨x, hx⟩ : ∃ x, vs[k]? = some x := ⟨_, List.getElem?_eq_getElem (by omega)⟩
  have hox := hlvl.2 k x [r] hx HM1.out
  obtain ⟨gx, cx, rfl, _, _⟩ := World.ownsRow.form hox (by simp)
  obtain ⟨go, co, rfl, _, _⟩ := World.ownsRow.form hown (by omega)
  have c1 := World.ownsRow.cells hown (g := go) rfl k _ hx
  have c2 := World.ownsRow.cells hox (g := gx) rfl 0 (.string (bA r)) rfl
  have hadd : ∀ g j, (⟨g, 0, none⟩ : Addr).add j = ⟨g, j, none⟩ := fun g j => by unfold Addr.add; split <;> simp_all
  rw [hadd] at c1 c2
  rw [hvl]
  have HH := Lib.hid hadd
  clear hlv hlvl hox hown hx hvl hlen hadd
  go_wp2_with fail
  go_ret2
  exact ⟨bA r, rfl, rfl, hb⟩
end Go.Proofs.YtpkapcijgldhhaaGreatDoor

namespace Go.Proofs.YtpkapcijgldhhaaGreatDoor
open Go.RowKit
/-- the siblings of a key, level by level: the first i of them, as netstrings -/
def pathL (T : List (List (List UInt8))) (key : Nat) : Nat → List UInt8
  | 0 => []
  | i + 1 => pathL T key i ++ strL (((T.getD i []).getD (if key / 2 ^ i % 2 = 1 then key / 2 ^ i - 1 else key / 2 ^ i + 1) []))
/-- a signature of a key tree, and its error -/
def treeSignL (s : List UInt8) (h key : Int) (m : List UInt8) : List UInt8 :=
  if h < 0 ∨ 6 < h then [] else if key < 0 ∨ (2 ^ h.toNat : Nat) ≤ key then [] else numL key ++ numL h ++ strL (signL s key m) ++ pathL (treeL s h.toNat) key.toNat h.toNat
def treeSignE (h key : Int) : Int := if h < 0 ∨ 6 < h then 2 else if key < 0 ∨ (2 ^ h.toNat : Nat) ≤ key then 1 else 0
theorem treeL_le (s : List UInt8) (n j q : Nat) : (((treeL s n).getD j []).getD q []).length ≤ 16 := by
  rw [List.getD_eq_getElem?_getD (l := treeL s n)]
  cases h : (treeL s n)[j]? with
  | none => exact Nat.zero_le _
  | some m =>
    show (m.getD q []).length ≤ 16
    rw [List.getD_eq_getElem?_getD]
    cases h2 : m[q]? with
    | none => exact Nat.zero_le _
    | some x => exact levelsL_le n _ (leavesL_le _ _) j m h x (List.mem_of_getElem? h2)
theorem sib_lt {a P Z : Nat} (h1 : a < P) (h2 : P = 2 * Z) : (if a % 2 = 1 then a - 1 else a + 1) < P := by split <;> omega
theorem div_lt_pow {k n j : Nat} (hk : k < 2 ^ n) (hj : j ≤ n) : k / 2 ^ j < 2 ^ (n - j) := by
  rw [Nat.div_lt_iff_lt_mul (Nat.two_pow_pos j), ← Nat.pow_add, Nat.sub_add_cancel hj]; exact hk
end Go.Proofs.YtpkapcijgldhhaaGreatDoor
