/-
  Key trees: the levels, in the program.
-/
import Derived.Test.YtadhbnleahipaaaGreatDoorSignP
import Derived.Deep.CutBlock
import Derived.Deep.CutRange
import Derived.Deep.RegionLaw
import Derived.Deep.AppendLies
import Derived.OneCell
import Derived.Lib.OthersKept
namespace Go.Proofs.YtadhbnleahipaaaGreatDoor
open Go.RowKit
def nodeL (a b : List UInt8) : List UInt8 := hashL [[110, 111, 100, 101], a, b]
/-- the first k nodes above a level -/
def pairN (l : List (List UInt8)) : Nat → List (List UInt8)
  | 0 => []
  | k + 1 => pairN l k ++ [nodeL (l.getD (2 * k) []) (l.getD (2 * k + 1) [])]
def pairUp (l : List (List UInt8)) : List (List UInt8) := pairN l (l.length / 2)
def levelsL : Nat → List (List UInt8) → List (List (List UInt8))
  | 0, l => [l]
  | h + 1, l => l :: levelsL h (pairUp l)
def leavesL (seed : List UInt8) : Nat → List (List UInt8)
  | 0 => []
  | i + 1 => leavesL seed i ++ [publicL seed i]
theorem pairN_length (l : List (List UInt8)) : ∀ k, (pairN l k).length = k
  | 0 => rfl
  | k + 1 => by rw [pairN, List.length_append, pairN_length l k]; rfl
theorem pairN_le (l : List (List UInt8)) : ∀ k, ∀ x ∈ pairN l k, x.length ≤ 16
  | 0 => by intro x hx; cases hx
  | k + 1 => by
    intro x hx
    rw [pairN, List.mem_append] at hx
    rcases hx with hx | hx
    · exact pairN_le l k x hx
    · rw [List.mem_singleton] at hx; subst hx; rw [nodeL, hashL_length]; decide
theorem levelsL_length : ∀ h l, (levelsL h l).length = h + 1
  | 0, _ => rfl
  | h + 1, l => by rw [levelsL, List.length_cons, levelsL_length h]
/-- v is a slice of strings in a row of strings -/
def OwnS (w : World) (v : Value) (l : List (List UInt8)) : Prop := w.ownsRow 0 9 1 v l.length ((l.map bA).map Value.string)
theorem OwnS.strs {w : World} {v : Value} {l : List (List UInt8)} (h : OwnS w v l) : Strs w v (l.map bA) := Row.of_owns h
theorem OwnS.below {w w' : World} {v : Value} {l : List (List UInt8)} (h : OwnS w v l) (hb : Below w.heap.size w w') : OwnS w' v l := owns_below h hb
theorem OwnS.others {w w' : World} {v : Value} {l : List (List UInt8)} {bo : Nat} {cs : Array Value} {fz : Nat × Nat} (h : OwnS w v l) (hbo : w.heap[bo]? = some (.cells cs 67 fz)) (ho : Lib.OthersKept 56 (some bo) w w') : OwnS w' v l := by
  refine ⟨h.1, h.2.imp id fun ⟨g, cap, cur, e1, e2, hg, r⟩ => ⟨g, cap, cur, e1, e2, ho g _ hg ?_ ?_, r⟩⟩
  · intro e
    rw [Option.some.inj e, hbo] at hg
    injection hg with h1
    injection h1 with _ h3 _
    revert h3; decide
  · intro c fz e
    injection e with _ h3 _
    revert h3; decide
/-- the slice values vs are the levels L -/
def LvlIs (w : World) (vs : List Value) (L : List (List (List UInt8))) : Prop := vs.length = L.length ∧ ∀ (i : Nat) (x : Value) (m : List (List UInt8)), vs[i]? = some x → L[i]? = some m → OwnS w x m
theorem LvlIs.others {w w' : World} {vs : List Value} {L : List (List (List UInt8))} {bo : Nat} {cs : Array Value} {fz : Nat × Nat} (h : LvlIs w vs L) (hbo : w.heap[bo]? = some (.cells cs 67 fz)) (ho : Lib.OthersKept 56 (some bo) w w') : LvlIs w' vs L :=
  ⟨h.1, fun i x m hx hm => (h.2 i x m hx hm).others hbo ho⟩
theorem infoSl : (Tryz.prog.info? 56).map (fun i => (i.zero, i.size, i.bytes)) = some (some (.slice none 0 0), 1, 24) := by kernel_rfl
theorem step_append_own {P : Program} {w : World} {ops : Array Oper} {o : Oper} {a : Act} {K : Act → World → Prop} {Q : Exit → Act → World → Prop} {E : Prop} (hgd : o.guard = none) (s x : Operand) (t : TypeId)
    (ho : o.op = .call { callee := .builtin .append, args := #[s, x], argTypes := #[t, t] })
    (base : Nat) (e : TypeId) (i : TypeInfo) (z : Value) (size bytes : Nat) (ht : P.underlying t = some (.slice e)) (hi : P.info? e = some i) (hz : i.zero = some z)
    (hsize : i.size = size) (hby : i.bytes = bytes) (hzs : z.cells.size = size) (hsz : 0 < size)
    (v : Value) (n : Nat) (xs : List Value) (hs : a.eval s = v) (hown : w.ownsRow base e size v n xs)
    (ad : Addr) (m c : Nat) (news : List Value) (hx : a.eval x = .slice (some ad) m c) (hl : news.length = m * size) (hnews : ∀ j u, news[j]? = some u → w.cell? (ad.add j) = some u) (h1 : ∀ u ∈ news, u.oneCell' = true)
    (h63 : n + m ≤ maxLen) (hbytes : (n + m) * bytes ≤ 140737488355328) (hbase : base ≤ w.heap.size)
    (h : ∀ v' w', w'.ownsRow base e size v' (n + m) (xs ++ news) → w.grownBy w' v.ownBlock → (v' = .slice none 0 0 ↔ v = .slice none 0 0 ∧ m = 0) → K (a.put o.dst v') w') :
    if Region.wanted o (yielded ops a.tmps) = true then Oper.wp P o a w K Q else E := by
  have hw : Region.wanted o (yielded ops a.tmps) = true := by simp [Region.wanted, hgd]
  rw [if_pos hw]
  exact wp_append_own w s x t ho base e i z size bytes ht hi hz hsize hby hzs hsz v n xs hs hown ad m c news hx hl hnews h1 h63 hbytes hbase h
/-- what 'build' leaves -/
def BuildP (h : Nat) (l : List (List UInt8)) (bo : Nat) (w0 : World) (vs : List Value) (w : World) (e : Ending) (w' : World) : Prop :=
  e = .returned (.tuple #[]) ∧ ∃ vo' vs', w'.heap[bo]? = some (.cells #[vo'] 67 (0, 0)) ∧ w'.ownsRow w0.heap.size 56 1 vo' (vs ++ vs').length (vs ++ vs') ∧ LvlIs w' vs' (levelsL h l) ∧
    Lib.OthersKept 56 (some bo) w w' ∧ Below w0.heap.size w0 w' ∧ w.heap.size ≤ w'.heap.size
theorem owns_setCell {w : World} {base : Nat} {e : TypeId} {v : Value} {n : Nat} {xs : List Value} (h : w.ownsRow base e 1 v n xs) (p : Addr) (u : Value) {cs : Array Value} {T : TypeId} {fz : Nat × Nat} (hp : w.heap[p.block]? = some (.cells cs T fz)) (hT : T ≠ e) : (w.setCell p u).ownsRow base e 1 v n xs := by
  refine ⟨h.1, h.2.imp id fun ⟨g, cap, cur, e1, e2, hg, r⟩ => ⟨g, cap, cur, e1, e2, ?_, r⟩⟩
  rw [Below.heap_setCell w p u g (fun e3 => ?_)]
  · exact hg
  · rw [e3, hp] at hg
    injection hg with h1
    injection h1 with _ h3 _
    exact hT h3
theorem row_block {w : World} {base : Nat} {e : TypeId} {v : Value} {n : Nat} {xs : List Value} (h : w.ownsRow base e 1 v n xs) : ∀ g, v.ownBlock = some g → ∃ c fz, w.heap[g]? = some (.cells c e fz) := by
  intro g hg
  rcases h.2 with ⟨rfl, _⟩ | ⟨g', cap, cur, rfl, _, hh, _⟩
  · cases hg
  · obtain rfl : g' = g := Option.some.inj hg
    exact ⟨_, _, hh⟩
theorem block_kept {w w' : World} {base : Nat} {e T : TypeId} {v : Value} {n : Nat} {xs : List Value} {b : Nat} {cs : Array Value} {fz : Nat × Nat} (hb : w.heap[b]? = some (.cells cs T fz)) (h : w.ownsRow base e 1 v n xs) (hg : w.grownBy w' v.ownBlock) (hT : T ≠ e) : w'.heap[b]? = some (.cells cs T fz) := by
  rw [hg.block b (Array.getElem?_eq_some_iff.1 hb).1 (fun e1 => ?_)]
  · exact hb
  · obtain ⟨c, fz', hc⟩ := row_block h b e1.symm
    rw [hb] at hc
    injection hc with h1
    injection h1 with _ h3 _
    exact hT h3
/-- what 'build' is to do at height h -/
def BuildSpec (h : Nat) : Prop := ∀ (l : List (List UInt8)) (vl : Value) (bo bf : Nat) (vo : Value) (vs : List Value) (w0 w : World), Env w0 → Below w0.heap.size w0 w → w0.heap.size ≤ bo → l.length = 2 ^ h → l.length ≤ 1000 → (∀ x ∈ l, x.length ≤ 16) → OwnS w vl l →
    w.heap[bo]? = some (.cells #[vo] 67 (0, 0)) → w.heap[bf]? = some (.cells #[.func (Fn.func 59) #[] #[.pointer (some ⟨bo, 0, none⟩), .pointer (some ⟨bf, 0, none⟩)]] 94 (0, 0)) →
    w.ownsRow w0.heap.size 56 1 vo vs.length vs → vs.length + h ≤ 100 →
    Calls Tryz.prog 59 #[vl, .pointer (some ⟨bo, 0, none⟩), .pointer (some ⟨bf, 0, none⟩)] w (BuildP h l bo w0 vs w)
set_option maxHeartbeats 1000000 in
set_option maxRecDepth 100000 in
theorem build_step (h : Nat) (ih : ∀ h', h = h' + 1 → BuildSpec h') : BuildSpec h := by
  intro l vl bo bf vo vs w0 w he hb hbo hl hl2 hs hown ho hf hvo hlen
  have IH := Lib.hid ih; clear ih
  have HS := Lib.hid hs; clear hs
  obtain ⟨i0, hi, hz0, hz1, hz2⟩ := info_parts infoSl
  have hlp : 0 < l.length := by rw [hl]; exact Nat.two_pow_pos h
  obtain ⟨gl, cl, rfl, _, hgl⟩ := World.ownsRow.form hown hlp
  have hws : w0.heap.size ≤ w.heap.size := hb.size
  have co := cell_of_one ho
  have HO := Lib.hid ho
  have HF := Lib.hid hf
  have HL := Lib.hid hl
  clear ho hf hl
  go_enter Tryz.func59, Tryz.ntmps59
  obtain ⟨N, hN⟩ : ∃ N, l.length = N := ⟨_, rfl⟩
  rw [hN] at hlp hl2 ⊢
  have HN := Lib.hid hN; clear hN
  go_wp2_with (at_builtin; refine wpList_append_own _ rfl _ _ 67 rfl w0.heap.size 56 i0 (.slice none 0 0) 1 24 Tryz.underlying67 hi hz0 hz1 hz2 rfl (by decide) _ _ _ rfl (hvo.alloc _) ⟨w.heap.size, 0, none⟩ 1 1 [.slice (some ⟨gl, 0, none⟩) N cl] rfl rfl (fun j x h => cell_new1 w _ _ _ j x h) ?c2 ?c3 ?c4 ?c5 ?_)
  case c2 => intro u hu; rw [List.mem_singleton] at hu; subst hu; rfl
  case c3 => unfold maxLen; omega
  case c4 => omega
  case c5 => simp; omega
  intro v1 w1 hv1 hg1 hni
  clear hni
  obtain ⟨g1, c1, rfl, hgb, hgb2⟩ := World.ownsRow.form hv1 (by omega)
  have hal : Below w.heap.size w (w.alloc (.cells #[.slice (some ⟨gl, 0, none⟩) N cl] 56)) := (Below.refl _ w).alloc (Nat.le_refl _) _
  have ho1 : w1.heap[bo]? = some (.cells #[vo] 67 (0, 0)) := block_kept (by rw [hal.block bo (Array.getElem?_eq_some_iff.1 HO.out).1]; exact HO.out) (hvo.alloc _) hg1 (by decide)
  have hf1 := Lib.hid (block_kept (b := bf) (by rw [hal.block bf (Array.getElem?_eq_some_iff.1 HF.out).1]; exact HF.out) (hvo.alloc _) hg1 (by decide))
  have hk1 : Lib.OthersKept 56 (some bo) w w1 := ((Lib.OthersKept.refl _ _ w).alloc _).grown hg1 (row_block (hvo.alloc _))
  have hb1 := below_grownBy (hb.alloc hws _) (hvo.alloc _) hg1 (by simp; omega)
  have co1 := cell_of_one ho1
  have fo1 := free_of_one ho1
  have hs1 : w.heap.size ≤ w1.heap.size := by have := hg1.size; simp at this; omega
  have HO1 := Lib.hid ho1
  have HK1 := Lib.hid hk1
  clear co hvo ho1 hk1 hg1 hal
  go_upto_if 12 with (fail)
  have ho2 : (w1.setCell ⟨bo, 0, none⟩ (.slice (some ⟨g1, 0, none⟩) (vs.length + 1) c1)).heap[bo]? = some (.cells #[.slice (some ⟨g1, 0, none⟩) (vs.length + 1) c1] 67 (0, 0)) := one_setCell HO1.out
  have hf2 : (w1.setCell ⟨bo, 0, none⟩ (.slice (some ⟨g1, 0, none⟩) (vs.length + 1) c1)).heap[bf]? = _ := (Below.heap_setCell w1 ⟨bo, 0, none⟩ _ bf (fun e => by
    have h1 := hf1.out
    rw [e] at h1
    rw [show (⟨bo, 0, none⟩ : Addr).block = bo from rfl, HO1.out] at h1
    injection h1 with h1
    injection h1 with _ h3 _
    revert h3; decide)).trans hf1.out
  have hv2 := owns_setCell hv1 ⟨bo, 0, none⟩ (.slice (some ⟨g1, 0, none⟩) (vs.length + 1) c1) HO1.out (by decide)
  have hk2 := HK1.out.setCell ⟨bo, 0, none⟩ rfl (.slice (some ⟨g1, 0, none⟩) (vs.length + 1) c1)
  have hb2 := hb1.setCell (p := ⟨bo, 0, none⟩) hbo (.slice (some ⟨g1, 0, none⟩) (vs.length + 1) c1)
  have hz2' : w.heap.size ≤ (w1.setCell ⟨bo, 0, none⟩ (.slice (some ⟨g1, 0, none⟩) (vs.length + 1) c1)).heap.size := by simpa [World.setCell] using hs1
  have hown2 := hown.others HO.out hk2
  generalize w1.setCell ⟨bo, 0, none⟩ (.slice (some ⟨g1, 0, none⟩) (vs.length + 1) c1) = w2 at ho2 hf2 hv2 hk2 hb2 hz2' hown2 ⊢
  have HO2 := Lib.hid ho2
  have HF2 := Lib.hid hf2
  have HK2 := Lib.hid hk2
  clear hgb2 ho2 hf2 hk2 co1 fo1 hv1 hf1 hb1 hs1 HO1 HK1 hb w1
  rcases h with _ | h
  · have hN1 : N = 1 := by rw [← HN.out]; simpa using HL.out
    have hq : ((N : Int) == 1) = true := by rw [hN1]; rfl
    have HN1 := Lib.hid hN1; clear hN1
    go_wp2_with fail
    try simp only [Exit.inBlock, Exit.then]
    refine bodyPost_ret (results_none rfl _ _ _) rfl ⟨rfl, _, [.slice (some ⟨gl, 0, none⟩) N cl], HO2.out, by simpa using hv2, ⟨rfl, ?_⟩, HK2.out, hb2, hz2'⟩
    intro i x m hx hm
    rcases i with _ | i
    · simp only [levelsL] at hm
      obtain rfl := Option.some.inj hx
      obtain rfl := Option.some.inj hm
      rw [← HN.out]
      exact hown2
    · simp at hx
  have hN2 : N = 2 * 2 ^ h := by rw [← HN.out, HL.out, Nat.pow_succ]; omega
  have hM := Nat.two_pow_pos h
  obtain ⟨M, hMM⟩ : ∃ M, 2 ^ h = M := ⟨_, rfl⟩
  rw [hMM] at hN2 hM
  have HMM := Lib.hid hMM; clear hMM
  have hq : ((N : Int) == 1) = false := by simp; omega
  rw [hq]
  clear hq
  have HN2 := Lib.hid hN2
  have hNM1 : N ≤ 2 * M := by omega
  have hNM2 : 2 * M ≤ N := by omega
  clear hN2
  go_upto_block 0 with (fail)
  have bs0 : Below w2.heap.size w2 w2 := Below.refl _ _
  have hlevel : Hid (∀ j, j < N → w2.cell? ⟨gl, j, none⟩ = some (.string (bA (l.getD j [])))) := fun j hj => by
    have := World.ownsRow.cells (g := gl) hown2 rfl j (.string (bA (l.getD j []))) (by
      rw [List.getElem?_map, List.getElem?_map, List.getD_eq_getElem?_getD, List.getElem?_eq_getElem (by rw [HN.out]; exact hj)]; rfl)
    have hadd : (⟨gl, 0, none⟩ : Addr).add j = ⟨gl, j, none⟩ := by unfold Addr.add; split <;> simp_all
    rwa [hadd] at this
  have hsmall : Hid (∀ j, (l.getD j []).length ≤ 16) := fun j => by
    rw [List.getD_eq_getElem?_getD]
    cases hx : l[j]? with
    | none => exact Nat.zero_le _
    | some x => exact HS.out x (List.mem_of_getElem? hx)
  obtain ⟨j0, hj, hj0, hj1, hj2⟩ := info_parts infoStr
  have he2 := he.below hb2
  go_cut [4] from 13 to 31 (fun v4 wc => wc.ownsRow w2.heap.size 9 1 v4 (pairN l M).length (((pairN l M).map bA).map Value.string) ∧ Below w2.heap.size w2 wc)
  case first =>
    go_wp2_with fail
    go_loopg [4, 5] M (fun kk v i wr => ∃ k : Nat, kk + k = M ∧ i = .int .i64 (2 * k : Nat) ∧ wr.ownsRow w2.heap.size 9 1 v (pairN l k).length (((pairN l k).map bA).map Value.string) ∧ Below w2.heap.size w2 wr)
    case atStart => exact ⟨0, by omega, rfl, World.ownsRow_nil _ _ _ _, bs0⟩
    case round =>
      obtain ⟨k, hk, rfl, hnx, hbw⟩ := hrel
      by_cases hlt : k < M
      · have hgk : M - (k + 1) < gk := by omega
        have HK := Lib.hid hk; clear hk
        have hgl2 : gl < w2.heap.size := Nat.lt_of_lt_of_le hgl hz2'
        have ca : wr.cell? ⟨gl, 2 * k, none⟩ = some (.string (bA (l.getD (2 * k) []))) := (hbw.cell (p := ⟨gl, 2 * k, none⟩) hgl2).trans (hlevel.out (2 * k) (by omega))
        have cb : wr.cell? ⟨gl, 2 * k + 1, none⟩ = some (.string (bA (l.getD (2 * k + 1) []))) := (hbw.cell (p := ⟨gl, 2 * k + 1, none⟩) hgl2).trans (hlevel.out (2 * k + 1) (by omega))
        have za : (bA (l.getD (2 * k) [])).size ≤ 1073741824 := Nat.le_trans (hsmall.out (2 * k)) (by decide)
        have zb : (bA (l.getD (2 * k + 1) [])).size ≤ 1073741824 := Nat.le_trans (hsmall.out (2 * k + 1)) (by decide)
        have hpl := pairN_length l k
        rw [hpl] at hnx
        have hnext : pairN l (k + 1) = pairN l k ++ [nodeL (bA (l.getD (2 * k) [])).data.toList (bA (l.getD (2 * k + 1) [])).data.toList] := rfl
        generalize bA (l.getD (2 * k) []) = sa at ca za hnext
        generalize bA (l.getD (2 * k + 1) []) = sb at cb zb hnext
        have HNX := Lib.hid hnext
        have HPL := Lib.hid hpl
        clear hpl hnext
        obtain ⟨xs, hxs⟩ : ∃ xs, ((pairN l k).map bA).map Value.string = xs := ⟨_, rfl⟩
        rw [hxs] at hnx
        have HXS := Lib.hid hxs; clear hxs
        have hnode := fun w' (hw : Below wr.heap.size wr w') => node_any sa sb w' ((he2.below hbw).below hw) za zb
        have HND := Lib.hid hnode; clear hnode
        have g1' : (0 : Int) ≤ 2 * (k : Int) + 1 := by omega
        have g2' : 2 * (k : Int) + 1 < N := by omega
        have g3' : 2 * (k : Int) < N := by omega
        have g4' : (0 : Int) ≤ 2 * (k : Int) := by omega
        have g5' : (2 * (k : Int)).toNat = 2 * k := by omega
        have g6' : (2 * (k : Int) + 1).toNat = 2 * k + 1 := by omega
        have u1 : IntKind.i64.wrap (2 * (k : Int) + 1) = 2 * k + 1 := IntWalk.i64_in _ (by omega)
        go_upto_region 6 with (fail)
        go_region_law (first | (go_simp; go_at_call 51; refine (HND.out _ (Below.refl _ wr).drew).mono ?_; rintro e w3 ⟨t, rfl, ht, hb3⟩; have hn3 := owns_below (w := wr.drew) hnx hb3; have hz3 : w2.heap.size ≤ w3.heap.size := Nat.le_trans hbw.size hb3.size) | (refine step_append_own rfl (.tmp 19) (.tmp 30) 56 rfl w2.heap.size 9 j0 (.string ⟨#[]⟩) 1 16 Tryz.underlying56 hj hj0 hj1 hj2 rfl (by decide) u4 k xs (by simp [Act.eval]) (hn3.alloc _) ⟨w3.heap.size, 0, none⟩ 1 1 [.string t] (by simp [Act.eval]) rfl (fun j x h => cell_str1 w3 t _ j x h) (fun u hu => by rw [List.mem_singleton] at hu; subst hu; rfl) (by unfold maxLen; omega) (by omega) (Nat.le_trans hz3 (by simp)) ?_; intro v4 w4 hown4 hg4 hni; clear hni))
        all_goals
          have hb4 : Below w2.heap.size w2 w4 := below_grownBy (((hbw.drew).trans (hb3.mono hbw.size)).alloc hz3 _) (hn3.alloc _) hg4 (Nat.le_trans hz3 (by simp))
          have hn4 : w4.ownsRow w2.heap.size 9 1 v4 (pairN l (k + 1)).length (((pairN l (k + 1)).map bA).map Value.string) := by
            rw [HNX.out, List.length_append, HPL.out, List.map_append, List.map_append, HXS.out, List.map_cons, List.map_nil, List.map_cons, List.map_nil, ← eq_bA (show t.data.toList = nodeL sa.data.toList sb.data.toList from ht.out)]
            exact hown4
          clear hown4 hg4 hn3 hb3 hnx
          simp only [Exit.inBlock, Exit.then]
          go_wp2_with fail
          go_roundg (M - (k + 1))
        all_goals first
          | exact hgk
          | exact ⟨k + 1, by have := HK.out; omega, by go_num, hn4, hb4⟩
      · obtain rfl : k = M := by omega
        go_wp2_with fail
        go_meet
        case rel => exact ⟨hnx, hbw⟩
  case rest =>
    obtain ⟨hnx, hbw⟩ := hcut
    have hpu : pairUp l = pairN l M := by unfold pairUp; rw [HN.out, show N / 2 = M from by omega]
    have hpl := pairN_length l M
    have hM2 : 0 < (pairN l M).length := by rw [hpl]; exact hM
    obtain ⟨gn, cn, rfl, _, hgn⟩ := World.ownsRow.form hnx hM2
    have hok : Lib.OthersKept 56 (some bo) w2 wc := fun k o hk _ _ => (hbw.block k (Array.getElem?_eq_some_iff.1 hk).1).trans hk
    have hbo3 : Hid (wc.heap[bo]? = _) := (hbw.block bo (Array.getElem?_eq_some_iff.1 HO2.out).1).trans HO2.out
    have hbf3 : Hid (wc.heap[bf]? = _) := (hbw.block bf (Array.getElem?_eq_some_iff.1 HF2.out).1).trans HF2.out
    have hcell := Lib.hid (cell_of_one hbf3.out)
    have hcall := Lib.hid (IH.out h rfl (pairN l M) (.slice (some ⟨gn, 0, none⟩) (pairN l M).length cn) bo bf (.slice (some ⟨g1, 0, none⟩) (vs.length + 1) c1) (vs ++ [.slice (some ⟨gl, 0, none⟩) N cl]) w0 wc he
      (hb2.trans (hbw.mono hb2.size)) hbo (by rw [hpl, HMM.out]) (by rw [hpl]; omega) (pairN_le l M) (owns_zero hnx) hbo3.out hbf3.out
      (by rw [List.length_append]; exact owns_below hv2 hbw) (by rw [List.length_append, List.length_singleton]; omega))
    have hown3 := hown2.below hbw
    have hK3 := Lib.hid (HK2.out.trans hok)
    have hz3 : w.heap.size ≤ wc.heap.size := Nat.le_trans hz2' hbw.size
    rw [hpl] at hcall ⊢
    have hco := hcell.out
    clear hnx hok hv2 hM2
    go_wp2_with fail
    refine hcall.out.mono ?_
    rintro e w5 ⟨rfl, vo', vs', ho5, hv5, hl5, hk5, hb5, hz5⟩
    have HO5 := Lib.hid ho5
    have hown5 := hown3.others hbo3.out hk5
    have HK5 := Lib.hid (hK3.out.trans hk5)
    have hv6 : w5.ownsRow w0.heap.size 56 1 vo' (vs ++ (.slice (some ⟨gl, 0, none⟩) N cl :: vs')).length (vs ++ (.slice (some ⟨gl, 0, none⟩) N cl :: vs')) := by
      rw [← List.append_cons] at hv5; exact hv5
    have HV6 := Lib.hid hv6
    have HL5 := Lib.hid hl5
    rw [HN.out] at hown5
    have HW5 := Lib.hid hown5
    have HB5 := Lib.hid hb5
    have HPU := Lib.hid hpu
    clear ho5 hown5 hk5 hv6 hv5 hl5 hb5 hco hown3 hpu hpl
    go_wp2_with fail
    try simp only [Exit.inBlock, Exit.then]
    first
      | refine bodyPost_end (results_none rfl _ _ _) rfl ?_
      | refine bodyPost_ret (results_none rfl _ _ _) rfl ?_
    refine ⟨rfl, vo', (.slice (some ⟨gl, 0, none⟩) N cl :: vs'), HO5.out, HV6.out, ⟨?_, ?_⟩, HK5.out, HB5.out, Nat.le_trans hz3 hz5⟩
    · rw [List.length_cons, levelsL, List.length_cons, HL5.out.1, HPU.out]
    · intro i x m hx hm
      rcases i with _ | i
      · simp only [levelsL] at hm
        obtain rfl := Option.some.inj hx
        obtain rfl := Option.some.inj hm
        exact HW5.out
      · rw [levelsL, HPU.out] at hm
        exact HL5.out.2 i x m hx hm
theorem build_any : ∀ h, BuildSpec h
  | 0 => build_step 0 (fun h' e => by omega)
  | h + 1 => build_step (h + 1) (fun h' e => by injection e with e; subst e; exact build_any h)
end Go.Proofs.YtadhbnleahipaaaGreatDoor
