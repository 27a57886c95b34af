/-
  Key trees: levels and roots, in the program.
-/
import Derived.Test.YtadhbnleahipaaaGreatDoorLevels
import Derived.Deep.CutBlock
import Derived.Deep.CutRange
import Derived.Laws.EntriesVeiled
namespace Go.Proofs.YtadhbnleahipaaaGreatDoor
open Go.RowKit
theorem leavesL_length (s : List UInt8) : ∀ n, (leavesL s n).length = n
  | 0 => rfl
  | n + 1 => by rw [leavesL, List.length_append, leavesL_length s n]; rfl
theorem publicL_le (s : List UInt8) (k : Int) : (publicL s k).length ≤ 16 := by
  unfold publicL
  split
  · exact Nat.zero_le _
  · rw [hashL_length]; exact Nat.le_refl _
theorem leavesL_le (s : List UInt8) : ∀ n, ∀ x ∈ leavesL s n, x.length ≤ 16
  | 0 => by intro x hx; cases hx
  | n + 1 => by
    intro x hx
    rw [leavesL, List.mem_append] at hx
    rcases hx with hx | hx
    · exact leavesL_le s n x hx
    · rw [List.mem_singleton] at hx; subst hx; exact publicL_le _ _
theorem wrap_pow (h : Nat) (hh : h ≤ 6) : wrap64 ((2 : Int) ^ h) = ((2 ^ h : Nat) : Int) := by
  rcases h with _|_|_|_|_|_|_|h <;> first | (exfalso; omega; done) | decide +kernel
theorem pow_le (h : Nat) (hh : h ≤ 6) : 2 ^ h ≤ 64 := by
  rcases h with _|_|_|_|_|_|_|h <;> first | decide | omega
def treeL (s : List UInt8) (h : Nat) : List (List (List UInt8)) := levelsL h (leavesL s (2 ^ h))
def LvlP (L : List (List (List UInt8))) (w : World) (e : Ending) (w' : World) : Prop :=
  ∃ vo vs, e = .returned vo ∧ w'.ownsRow w.heap.size 56 1 vo vs.length vs ∧ LvlIs w' vs L ∧ Below w.heap.size w w'
set_option maxHeartbeats 1000000 in
set_option maxRecDepth 100000 in
theorem levels_any (s : ByteArray) (h : Nat) (w : World) (he : Env w) (hs : s.size ≤ 1073741824) (hh : h ≤ 6) :
    Calls Tryz.prog 37 #[.string s, .int .i64 h] w (LvlP (treeL s.data.toList h) w) := by
  have hmf : ∀ (fn : Fn) (first cap : Array Value) (w : World), (Instr.makeFunc fn first cap).run Tryz.prog w = .ok (.func fn first cap) w := fun _ _ _ _ => rfl
  obtain ⟨i0, hi, hz0, hz1, hz2⟩ := info_parts infoStr
  have hwp := wrap_pow h hh
  have hpl := pow_le h hh
  obtain ⟨N, hN⟩ : ∃ N, 2 ^ h = N := ⟨_, rfl⟩
  rw [hN] at hwp hpl
  have HN := Lib.hid hN; clear hN
  go_enter Tryz.func37, Tryz.ntmps37
  go_upto_block 0 with (fail)
  rw [hwp]
  clear hwp
  have bs0 : Below w.heap.size w w := Below.refl _ _
  go_cut [5] from 11 to 20 (fun v5 wc => wc.ownsRow w.heap.size 9 1 v5 (leavesL s.data.toList N).length (((leavesL s.data.toList N).map bA).map Value.string) ∧ Below w.heap.size w wc)
  case first =>
    go_wp2_with fail
    go_loopg [5, 11] N (fun kk v i wr => ∃ k : Nat, kk + k = N ∧ i = .int .i64 k ∧ wr.ownsRow w.heap.size 9 1 v (leavesL s.data.toList k).length (((leavesL s.data.toList k).map bA).map Value.string) ∧ Below w.heap.size w wr)
    case atStart => exact ⟨0, rfl, rfl, World.ownsRow_nil _ _ _ _, bs0⟩
    case round =>
      obtain ⟨k, hk, rfl, hown, hbw⟩ := hrel
      by_cases hlt : k < N
      · have hgk : N - (k + 1) < gk := by omega
        have HK := Lib.hid hk; clear hk
        have hpb := Lib.hid (publicOf_any s k wr (he.below hbw) hs (by omega))
        have hll := leavesL_length s.data.toList k
        have hnx : leavesL s.data.toList (k + 1) = leavesL s.data.toList k ++ [publicL s.data.toList k] := rfl
        rw [hll] at hown
        obtain ⟨xs, hxs⟩ : ∃ xs, ((leavesL s.data.toList k).map bA).map Value.string = xs := ⟨_, rfl⟩
        rw [hxs] at hown
        have HXS := Lib.hid hxs
        have HLL := Lib.hid hll
        have HNX := Lib.hid hnx
        clear hll hnx hxs
        go_wp2_with fail
        refine hpb.out.mono ?_
        rintro e w3 ⟨t, rfl, ht, hb3⟩
        have hn3 := owns_below hown hb3
        have hz3 : w.heap.size ≤ w3.heap.size := Nat.le_trans hbw.size hb3.size
        clear hpb hown
        go_wp2_with (at_builtin; refine wpList_append_own _ rfl _ _ 56 rfl w.heap.size 9 i0 (.string ⟨#[]⟩) 1 16 Tryz.underlying56 hi hz0 hz1 hz2 rfl (by decide) _ _ _ rfl (hn3.alloc _) ⟨w3.heap.size, 0, none⟩ 1 1 [.string t] rfl rfl (fun j x h => cell_str1 w3 t _ j x h) (fun u hu => by rw [List.mem_singleton] at hu; subst hu; rfl) (by unfold maxLen; omega) (by omega) (Nat.le_trans hz3 (by simp)) ?_; intro v4 w4 hown4 hg4 hni; clear hni)
        have hb4 : Below w.heap.size w w4 := below_grownBy ((step2 hbw hb3).alloc hz3 _) (hn3.alloc _) hg4 (Nat.le_trans hz3 (by simp))
        have hn4 : w4.ownsRow w.heap.size 9 1 v4 (leavesL s.data.toList (k + 1)).length (((leavesL s.data.toList (k + 1)).map bA).map Value.string) := by
          rw [HNX.out, List.length_append, HLL.out, List.map_append, List.map_append, HXS.out, List.map_cons, List.map_nil, List.map_cons, List.map_nil, ← eq_bA ht.out]
          exact hown4
        clear hown4 hg4 hn3 hb3
        go_roundg (N - (k + 1))
        case measure => exact hgk
        case rel => exact ⟨k + 1, by have := HK.out; omega, by go_num, hn4, hb4⟩
      · obtain rfl : k = N := by omega
        go_wp2_with fail
        go_meet
        case rel => exact ⟨hown, hbw⟩
  case rest =>
    obtain ⟨hown, hbw⟩ := hcut
    have hll := leavesL_length s.data.toList N
    have hNp : 0 < N := by rw [← HN.out]; exact Nat.two_pow_pos h
    obtain ⟨gl, cl, rfl, hgl0, hgl⟩ := World.ownsRow.form hown (by rw [hll]; exact hNp)
    rw [hll]
    have HLL := Lib.hid hll
    clear hll
    go_upto_region 10 with (fail)
    obtain ⟨bo, hbo⟩ : ∃ bo, wc.heap.size = bo := ⟨_, rfl⟩
    rw [hbo]
    have hb1 : Below wc.heap.size wc (wc.alloc (.cells #[.slice none 0 0] 67)) := (Below.refl _ wc).alloc (Nat.le_refl _) _
    have z1 : (wc.alloc (.cells #[.slice none 0 0] 67)).heap.size = bo + 1 := by rw [← hbo]; simp
    have e1 : (wc.alloc (.cells #[.slice none 0 0] 67)).heap[bo]? = some (.cells #[.slice none 0 0] 67 (0, 0)) := by rw [← hbo]; exact heap_alloc_new wc _
    generalize wc.alloc (.cells #[.slice none 0 0] 67) = W1 at hb1 z1 e1 ⊢
    have hb2 : Below W1.heap.size W1 (W1.alloc (.cells #[.func (Fn.func 59) #[] #[.pointer (some ⟨bo, 0, none⟩), .pointer (some ⟨bo + 1, 0, none⟩)]] 94)) := (Below.refl _ W1).alloc (Nat.le_refl _) _
    have e2 : (W1.alloc (.cells #[.func (Fn.func 59) #[] #[.pointer (some ⟨bo, 0, none⟩), .pointer (some ⟨bo + 1, 0, none⟩)]] 94)).heap[bo + 1]? = some (.cells #[.func (Fn.func 59) #[] #[.pointer (some ⟨bo, 0, none⟩), .pointer (some ⟨bo + 1, 0, none⟩)]] 94 (0, 0)) := by rw [← z1]; exact heap_alloc_new W1 _
    generalize W1.alloc (.cells #[.func (Fn.func 59) #[] #[.pointer (some ⟨bo, 0, none⟩), .pointer (some ⟨bo + 1, 0, none⟩)]] 94) = W2 at hb2 e2 ⊢
    have e1' : W2.heap[bo]? = some (.cells #[.slice none 0 0] 67 (0, 0)) := by rw [hb2.block bo (by omega)]; exact e1
    have hbW : Below wc.heap.size wc W2 := hb1.trans (hb2.mono (by omega))
    have hbw2 := step2 hbw hbW
    have hown2 := owns_below hown hbW
    have co := cell_of_one e2
    have hcall := Lib.hid (build_any h (leavesL s.data.toList N) (.slice (some ⟨gl, 0, none⟩) (leavesL s.data.toList N).length cl) bo (bo + 1) (.slice none 0 0) [] w W2 he hbw2 (by have := hbw.size; omega)
      (by rw [HLL.out, HN.out]) (by rw [HLL.out]; omega) (leavesL_le _ N) (owns_zero hown2) e1' e2 (World.ownsRow_nil _ _ _ _) (by simp; omega))
    rw [HLL.out] at hcall
    have E2 := Lib.hid e2
    clear e1 e1' e2 hb1 hb2 hbW hown hown2 hbo z1 hbw
    go_wp2_with fail
    refine hcall.out.mono ?_
    rintro e w5 ⟨rfl, vo', vs', ho5, hv5, hl5, hk5, hb5, hz5⟩
    have co5 := cell_of_one ho5
    have HL5 := Lib.hid hl5
    have HV5 := Lib.hid hv5
    clear co ho5 hl5 hv5 hk5 hcall
    go_wp2_with fail
    go_ret
    exact ⟨_, vs', rfl, HV5.out, by rw [treeL, HN.out]; exact HL5.out, hb5⟩
theorem levelsL_get : ∀ (h : Nat) (l : List (List UInt8)), l.length = 2 ^ h → ∀ i, i ≤ h → ∃ m, (levelsL h l)[i]? = some m ∧ m.length = 2 ^ (h - i)
  | 0, l, hl, i, hi => ⟨l, by obtain rfl : i = 0 := by omega
                              rfl, by simpa using hl⟩
  | h + 1, l, hl, 0, _ => ⟨l, rfl, hl⟩
  | h + 1, l, hl, i + 1, hi => by
    obtain ⟨m, h1, h2⟩ := levelsL_get h (pairUp l) (by rw [pairUp, pairN_length, hl, Nat.pow_succ]; omega) i (by omega)
    exact ⟨m, h1, by rw [h2]; congr 1; omega⟩
/-- the root of a tree, with its error -/
def rootL (s : List UInt8) (h : Int) : List UInt8 := if h < 0 ∨ 6 < h then [] else ((treeL s h.toNat).getD h.toNat []).getD 0 []
def rootE (h : Int) : Int := if h < 0 ∨ 6 < h then 2 else 0
def RootP (l : List UInt8) (c : Int) (w : World) (e : Ending) (w' : World) : Prop := ∃ t : ByteArray, e = .returned (.tuple #[.string t, .int .i64 c]) ∧ Hid (t.data.toList = l) ∧ Below w.heap.size w w'
set_option maxHeartbeats 1000000 in
set_option maxRecDepth 100000 in
theorem root_any (s : ByteArray) (h : Int) (w : World) (he : Env w) (hs : s.size ≤ 1073741824) (hh : -9223372036854775808 ≤ h ∧ h ≤ 9223372036854775807) :
    Calls Tryz.prog 23 #[.string s, .int .i64 h] w (RootP (rootL s.data.toList h) (rootE h) w) := by
  by_cases h0 : h < 0
  · have e1 := Lib.hid (show rootE h = 2 by rw [rootE, if_pos (.inl h0)])
    have e2 := Lib.hid (show rootL s.data.toList h = [] by rw [rootL, if_pos (.inl h0)])
    rw [e1.out, e2.out]
    go_enter Tryz.func23, Tryz.ntmps23
    go_wp2_with fail
    go_ret2
    exact ⟨_, rfl, rfl, below_refl _⟩
  by_cases h6 : 6 < h
  · have e1 := Lib.hid (show rootE h = 2 by rw [rootE, if_pos (.inr h6)])
    have e2 := Lib.hid (show rootL s.data.toList h = [] by rw [rootL, if_pos (.inr h6)])
    rw [e1.out, e2.out]
    have h0' : 0 ≤ h := by omega
    go_enter Tryz.func23, Tryz.ntmps23
    go_wp2_with fail
    go_ret2
    exact ⟨_, rfl, rfl, below_refl _⟩
  obtain ⟨k, rfl⟩ := Int.eq_ofNat_of_zero_le (Int.not_lt.1 h0)
  have hk : k ≤ 6 := by omega
  have e1 := Lib.hid (show rootE (k : Int) = 0 by rw [rootE, if_neg (by omega)])
  have e2 := Lib.hid (show rootL s.data.toList (k : Int) = ((treeL s.data.toList k).getD k []).getD 0 [] by rw [rootL, if_neg (by omega)]; rfl)
  rw [e1.out, e2.out]
  obtain ⟨m, hm1, hm2⟩ := levelsL_get k (leavesL s.data.toList (2 ^ k)) (leavesL_length _ _) k (Nat.le_refl _)
  rw [Nat.sub_self] at hm2
  obtain ⟨r, rfl⟩ : ∃ r, m = [r] := by
    match m, hm2 with
    | [r], _ => exact ⟨r, rfl⟩
  have e3 := Lib.hid (show ((treeL s.data.toList k).getD k []).getD 0 [] = r by
    have h3 : (treeL s.data.toList k).getD k [] = [r] := by rw [treeL, List.getD_eq_getElem?_getD, hm1]; rfl
    rw [h3]; rfl)
  rw [e3.out]
  have hlv := Lib.hid (levels_any s k w he hs hk)
  have HM1 := Lib.hid hm1
  clear hm1 hm2 h0 h6
  have hlen := levelsL_length k (leavesL s.data.toList (2 ^ k))
  go_enter Tryz.func23, Tryz.ntmps23
  go_wp2_with fail
  refine hlv.out.mono ?_
  rintro e w1 ⟨vo, vs, rfl, hown, hlvl, hb⟩
  have hvl : vs.length = k + 1 := hlvl.1.trans hlen
  obtain ⟨x, hx⟩ : ∃ x, vs[k]? = some x := ⟨_, List.getElem?_eq_getElem (by omega)⟩
  have hox := hlvl.2 k x [r] hx HM1.out
  obtain ⟨gx, cx, rfl, _, _⟩ := World.ownsRow.form hox (by simp)
  obtain ⟨go, co, rfl, _, _⟩ := World.ownsRow.form hown (by omega)
  have c1 := World.ownsRow.cells hown (g := go) rfl k _ hx
  have c2 := World.ownsRow.cells hox (g := gx) rfl 0 (.string (bA r)) rfl
  have hadd : ∀ g j, (⟨g, 0, none⟩ : Addr).add j = ⟨g, j, none⟩ := fun g j => by unfold Addr.add; split <;> simp_all
  rw [hadd] at c1 c2
  rw [hvl]
  have HH := Lib.hid hadd
  clear hlv hlvl hox hown hx hvl hlen hadd
  go_wp2_with fail
  go_ret2
  exact ⟨bA r, rfl, rfl, hb⟩
end Go.Proofs.YtadhbnleahipaaaGreatDoor
