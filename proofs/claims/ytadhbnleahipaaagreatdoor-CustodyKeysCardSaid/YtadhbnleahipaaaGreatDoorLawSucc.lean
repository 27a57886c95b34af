/-
  Chapter 47: the law Succeeds, walked out of the contracts.
-/
import Derived.Test.YtadhbnleahipaaaGreatDoorMa
import Derived.Test.YtadhbnleahipaaaGreatDoorFrameTm
import Derived.Deep.RegionHeld3
import Derived.Deep.CutBlock
import Derived.Deep.CutRange
import Derived.Deep.RegionLaw
namespace Go.Proofs.YtadhbnleahipaaaGreatDoor
open Go.RowKit
theorem root0_16 (s : List UInt8) : (bA (rootL s 0)).size = 16 := by
  have h : rootL s ((0 : Nat) : Int) = publicL s ((0 : Nat) : Int) := by rw [rootL_at s 0 (by decide), tree_leaf s 0 0 (by decide)]
  show (rootL s ((0 : Nat) : Int)).length = 16
  rw [h]
  exact public16 s _ (by decide)
theorem signC_ok {b : Cu} {s : List UInt8} (hb : CuOk b) (he : b.e = 0) : CuOk (signC b s 1 1) := by
  rw [sign1_c s he ⟨by decide, by decide⟩]
  exact ⟨hb.root, hb.media, Nat.le_trans (treeSign1_len s b.d 1) (by decide), hb.fr, hb.un⟩
theorem tm_news {w : World} {b o : Nat} {T : List Tm} (hT : TmAt w b o T) (j : Nat) (u : Value) (hu : (T.flatMap Tm.vals)[j]? = some u) : w.cell? ((⟨b, o, none⟩ : Addr).add j) = some u := by
  have hj : j < T.length * 4 := by have := (List.getElem?_eq_some_iff.1 hu).1; rwa [tvals_len] at this
  obtain ⟨v, hv⟩ : ∃ v, (tmAt T (j / 4)).vals[j % 4]? = some v := ⟨_, List.getElem?_eq_getElem (by show j % 4 < 4; omega)⟩
  have h1 := tflat_get T (j / 4) (j % 4) v (by omega) hv
  rw [show j / 4 * 4 + j % 4 = j from by omega, hu] at h1
  cases h1
  have h2 := hT (j / 4) (by omega) (j % 4) u hv
  rw [Addr.add_mid]
  rw [show o + j = o + j / 4 * 4 + j % 4 from by omega]
  exact h2
theorem tm_one {T : List Tm} : ∀ u ∈ T.flatMap Tm.vals, u.oneCell' = true := by
  intro u hu
  obtain ⟨t, _, h⟩ := List.mem_flatMap.1 hu
  simp only [Tm.vals, List.mem_cons, List.not_mem_nil, or_false] at h
  rcases h with rfl | rfl | rfl | rfl <;> rfl
theorem cvals_len (L : List Cu) : (L.flatMap Cu.vals).length = L.length * 5 := by
  induction L with
  | nil => rfl
  | cons c L ih => rw [List.flatMap_cons, List.length_append, ih, List.length_cons]; show 5 + _ = _; omega
theorem cu_news {w : World} {b o : Nat} {T : List Cu} (hT : CuAt w b o T) (j : Nat) (u : Value) (hu : (T.flatMap Cu.vals)[j]? = some u) : w.cell? ((⟨b, o, none⟩ : Addr).add j) = some u := by
  have hj : j < T.length * 5 := by have := (List.getElem?_eq_some_iff.1 hu).1; rwa [cvals_len] at this
  obtain ⟨v, hv⟩ : ∃ v, (cuAt T (j / 5)).vals[j % 5]? = some v := ⟨_, List.getElem?_eq_getElem (by show j % 5 < 5; omega)⟩
  have h1 := flat_get T (j / 5) (j % 5) v (by omega) hv
  rw [show j / 5 * 5 + j % 5 = j from by omega, hu] at h1
  cases h1
  have h2 := hT (j / 5) (by omega) (j % 5) u hv
  rw [Addr.add_mid]
  rw [show o + j = o + j / 5 * 5 + j % 5 from by omega]
  exact h2
theorem cu_one {T : List Cu} : ∀ u ∈ T.flatMap Cu.vals, u.oneCell' = true := by
  intro u hu
  obtain ⟨t, _, h⟩ := List.mem_flatMap.1 hu
  simp only [Cu.vals, List.mem_cons, List.not_mem_nil, or_false] at h
  rcases h with rfl | rfl | rfl | rfl | rfl <;> rfl
theorem cu_one1 (y : Cu) : ∀ u ∈ y.vals, u.oneCell' = true := by
  intro u h
  simp only [Cu.vals, List.mem_cons, List.not_mem_nil, or_false] at h
  rcases h with rfl | rfl | rfl | rfl | rfl <;> rfl
theorem box_news {W : World} {B : Nat} {y : Cu} (h : BoxC W B y) (j : Nat) (u : Value) (hu : y.vals[j]? = some u) : W.cell? ((⟨B, 0, none⟩ : Addr).add j) = some u := by
  rw [Addr.add_mid, Nat.zero_add, h.cell]; exact hu
theorem own_ne {a b n c : Nat} (h : a ≠ b) : some a ≠ (Value.slice (some ⟨b, 0, none⟩) n c).ownBlock := fun e => h (Option.some.inj e)
theorem cusOk_snoc {L : List Cu} {y : Cu} (h : CusOk L) (hy : CuOk y) : CusOk (L ++ [y]) := by
  refine cusOk_of fun c hc => ?_
  rw [List.mem_append, List.mem_singleton] at hc
  rcases hc with hc | rfl
  · obtain ⟨i, hi, rfl⟩ := List.getElem_of_mem hc
    have := h i
    rwa [cuAt_get hi] at this
  · exact hy
theorem own_cell4 {w : World} {base : Nat} {e : TypeId} {size g n cap : Nat} {xs : List Value} (h : w.ownsRow base e size (.slice (some ⟨g, 0, none⟩) n cap) n xs) {j : Nat} (hj : j < xs.length) : ∃ v, w.cell? ⟨g, j, none⟩ = some v ∧ w.frozen? ⟨g, j, none⟩ = false := by
  rcases h.2 with ⟨hv, _⟩ | ⟨g', cap', cur, hv, _, hh, _, _, _, h4⟩
  · cases hv
  · cases hv
    obtain ⟨v, hv⟩ : ∃ v, xs[j]? = some v := ⟨_, List.getElem?_eq_getElem hj⟩
    refine ⟨v, ?_, ?_⟩
    · have h5 : cur[j]? = some v := by
        rw [← h4, List.getElem?_take] at hv
        split at hv
        · rw [← Array.getElem?_toList]; exact hv
        · cases hv
      unfold World.cell?
      rw [hh]; simpa using h5
    · unfold World.frozen?
      rw [hh]; simp
set_option maxRecDepth 100000 in
set_option maxHeartbeats 40000000 in
theorem succ1 (b o cap : Nat) (T : List Tm) (fr un : Int) (w : World) (he : Env w) (h0 : 0 < T.length) (h3 : T.length ≤ 3) (_hb : b < w.heap.size) (hT : TmAt w b o T) (hok : ∀ i, TmOk (tmAt T i)) (hd : 0 ≤ fr ∧ fr ≤ un ∧ un ≤ 1000000000) :
    Calls Tryz.prog 9 #[.slice (some ⟨b, o, none⟩) T.length cap, .int .i64 fr, .int .i64 un] w (TrueP w) := by
  have HF := Lib.hid (show ∀ W, Below w.heap.size w W → Calls Tryz.prog 12 #[] W (TrueP W) from fun W hW => awake47_any W (he.below hW))
  have HE := Lib.hid he
  have HOK := Lib.hid hok
  obtain ⟨i0, hi, hz0, hz1, hz2⟩ := info_parts infoTm
  obtain ⟨x1, x2⟩ := neq0 (show ¬ (T.length : Int) = 0 by omega)
  obtain ⟨d1, d2, d3⟩ := hd
  have hnews := Lib.hid (tm_news hT)
  go_enter Tryz.func9, Tryz.ntmps9
  go_wp2_with (at_builtin; refine wpList_append_own _ rfl _ _ 34 rfl w.heap.size 43 i0 (.agg #[.int .i64 0, .int .i64 0, .bool false, .int .i64 0]) 4 32 Tryz.underlying34 hi hz0 hz1 hz2 rfl (by decide) _ 0 [] rfl (World.ownsRow_made w #[] 0 (Nat.le_refl _) (by decide) rfl) ⟨b, o, none⟩ T.length cap (T.flatMap Tm.vals) rfl ?c0 ?c1 ?c2 ?c3 ?c4 ?c5 ?_)
  case c0 => exact tvals_len T
  case c1 => exact fun j u hu => alloc_old_cell _ (hnews.out j u hu)
  case c2 => exact tm_one
  case c3 => unfold maxLen; omega
  case c4 => omega
  case c5 => simp
  intro v w2 hown hg _
  have kb2 : Below w.heap.size w w2 := below_grownBy ((below_refl w).alloc (Nat.le_refl _) _) (World.ownsRow_made (size := 4) (e := 43) w #[] 0 (Nat.le_refl _) (by decide) rfl) hg (by simp)
  have hown2 : OwnTms w.heap.size w2 v T := by unfold OwnTms; simpa using hown
  clear hown hg hnews
  obtain ⟨g, gcap, rfl⟩ : ∃ g gcap, v = .slice (some ⟨g, 0, none⟩) T.length gcap := by
    rcases hown2.2 with ⟨_, h⟩ | ⟨g, gcap, cur, h1, _⟩
    · omega
    · exact ⟨g, gcap, h1⟩
  have hB : w.heap.size ≤ g := by
    rcases hown2.2 with ⟨h, _⟩ | ⟨g', cap', cur, h1, h2, _⟩
    · cases h
    · cases h1; exact h2
  have hown3 : w2.ownsRow w.heap.size 43 4 (.slice (some ⟨g, 0, none⟩) T.length gcap) T.length ((ownK T 0).flatMap Tm.vals) := hown2
  clear hown2 hi hz0 hz1 hz2
  go_wp2_with fail
  go_loopw [8, 43] (fun _ i wr => ∃ k : Nat, k ≤ T.length ∧ i = .int .i64 k ∧ wr.ownsRow w.heap.size 43 4 (.slice (some ⟨g, 0, none⟩) T.length gcap) T.length ((ownK T k).flatMap Tm.vals) ∧ Below w.heap.size w wr) (fun _ i _ => T.length - (intOf i).toNat)
  case atStart => exact ⟨0, by omega, rfl, hown3, kb2⟩
  case round =>
    obtain ⟨k, hk, rfl, hownk, kb⟩ := hrel
    clear hown3 kb2
    by_cases hlt : k < T.length
    · have hkl : k < (ownK T k).length := by rw [ownK_length]; exact hlt
      obtain ⟨v0, c0, f0⟩ := own_cell4 hownk (j := k * 4 + 3) (by rw [tvals_len, ownK_length]; omega)
      have o1 := owns_set hownk (k * 4 + 3) (.int .i64 0)
      rw [flat_key _ _ _ hkl] at o1
      have kb1 := kb.setCell (p := ⟨g, k * 4 + 3, none⟩) hB (.int .i64 0)
      by_cases hk1 : k = 1
      · subst hk1
        obtain ⟨v1, c1, f1⟩ := own_cell4 o1 (j := 1 * 4 + 3) (by rw [tvals_len, List.length_set, ownK_length]; omega)
        have o2 := owns_set o1 (1 * 4 + 3) (.int .i64 1)
        rw [flat_key _ _ _ (by rw [List.length_set]; exact hkl), tmAt_set hkl, if_pos rfl, List.set_set] at o2
        have kb2 := kb1.setCell (p := ⟨g, 1 * 4 + 3, none⟩) hB (.int .i64 1)
        go_wp2_with fail
        go_roundw
        case rel => exact ⟨2, by omega, by go_num, o2, kb2⟩
        case measure => simp [intOf]; omega
      · have q1 : ((k : Int) == 1) = false := by rw [beq_eq_false_iff_ne]; omega
        have o2 : ownK T (k + 1) = (ownK T k).set k (keyed (tmAt (ownK T k) k) 0) := by rw [ownK, if_neg hk1]
        have O2 := Lib.hid o2
        clear o2 hk1
        go_wp2_with fail
        go_roundw
        case rel => exact ⟨k + 1, by omega, by go_num, by rw [O2.out]; exact o1, kb1⟩
        case measure => simp [intOf]; omega
    · obtain rfl : k = T.length := by omega
      rw [ownK_all] at hownk
      have hrow : TmRow wr (.slice (some ⟨g, 0, none⟩) T.length gcap) (ownTs T) := by
        have e := ownTs_length T
        have h : OwnTms w.heap.size wr (.slice (some ⟨g, 0, none⟩) T.length gcap) (ownTs T) := by unfold OwnTms; rw [e]; exact hownk
        exact tmRow_own h
      have HC1 := Lib.hid (chain_any _ (ownTs T) wr hrow (by rw [ownTs_length]; omega) (ownTs_ok HOK.out))
      have hlC : (chainV (ownTs T)).length = T.length := by rw [chainV_length, ownTs_length]
      have HCO := Lib.hid (chainV_ok (ownTs_ok HOK.out))
      clear hownk hrow
      go_wp2_with fail
      refine HC1.out.mono ?_
      rintro e w3 ⟨u, rfl, hownC, hb3⟩
      have kb3 := step2 kb hb3
      have HX := Lib.hid (show ∀ W, Below w3.heap.size w3 W → Calls Tryz.prog 17 #[u] W (ErrP (checkV (chainV (ownTs T))) W) from fun W hW => check_any u _ W (HE.out.below (step2 kb3 hW)) ((cuRow_own hownC).below hW) (by omega) HCO.out)
      have HOC := Lib.hid hownC
      obtain ⟨cg, ccap, rfl, hcg⟩ : ∃ cg ccap, u = .slice (some ⟨cg, 0, none⟩) T.length ccap ∧ wr.heap.size ≤ cg := by
        rcases hownC.2 with ⟨_, h⟩ | ⟨cg, ccap, cur, h1, h2, _⟩
        · omega
        · exact ⟨cg, ccap, by rw [h1, hlC], h2⟩
      clear hownC HC1 hb3 kb
      go_wp2_with fail
      refine (HX.out _ (below_refl _)).mono ?_
      rintro e w4 ⟨rfl, hb4⟩
      have kb4 := step2 kb3 hb4
      by_cases hq : checkV (chainV (ownTs T)) = 0
      case neg =>
        obtain ⟨y1, y2⟩ := neq0 hq
        clear HCO HOC HX hlC
        generalize checkV (chainV (ownTs T)) = q at *
        go_wp2_with fail
        refine (HF.out _ kb4).mono ?_
        rintro e w9 ⟨rfl, hb9⟩
        go_wp2_with fail
        go_ret
        exact ⟨rfl, step2 kb4 hb9⟩
      have HQ := Lib.hid hq
      rw [hq]
      clear hq HX
      have HRt := Lib.hid (root_any ⟨#[110, 101, 120, 116]⟩ 0 w4 (HE.out.below kb4) (by decide) (by decide))
      go_wp2_with fail
      refine HRt.out.mono ?_
      rintro e w5 ⟨r, rfl, hr, hb5⟩
      have kb5 := step2 kb4 hb5
      obtain rfl : r = bA (rootL [110, 101, 120, 116] 0) := lit_of hr.out
      have hr16 : (bA (rootL [110, 101, 120, 116] 0)).size = 16 := root0_16 _
      generalize bA (rootL [110, 101, 120, 116] 0) = r at *
      have hbe : (bareX r fr un).e = 0 := bareX_e hr16 ⟨d1, d2, d3⟩
      have hbok : CuOk (bareX r fr un) := ⟨by show r.size ≤ _; omega, Nat.zero_le _, Nat.zero_le _, by show _ ≤ fr ∧ fr ≤ _; omega, by show _ ≤ un ∧ un ≤ _; omega⟩
      have hn1 : (T.length : Int) - 1 = ((T.length - 1 : Nat) : Int) := by omega
      have HS := Lib.hid (show ∀ W, Calls Tryz.prog 24 #[.int .i64 ((T.length - 1 : Nat) : Int)] W (StrS (seedL ((T.length - 1 : Nat) : Int)) W) from fun W => seed_any _ W (by omega) (by omega))
      have HCK := Lib.hid (fun h => succ_check (b := bareX r fr un) HQ.out h0 h3 h)
      replace HCK := Lib.hid (HCK.out hbe)
      have hyok := signC_ok (s := seedL ((T.length - 1 : Nat) : Int)) hbok hbe
      have HSG := Lib.hid (show ∀ (W : World) (s1 : ByteArray), Below w5.heap.size w5 W → s1.data.toList = seedL ((T.length - 1 : Nat) : Int) → Calls Tryz.prog 21 #[.agg #[.string r, .string ⟨#[]⟩, .int .i64 fr, .int .i64 un, .string ⟨#[]⟩], .string s1, .int .i64 1, .int .i64 1] W (SigP (signC (bareX r fr un) (seedL ((T.length - 1 : Nat) : Int)) 1 1) 0 W) from fun W s1 hW hs1 => by
        have := cuSign_any (bareX r fr un) s1 1 1 W (HE.out.below (step2 kb5 hW)) hbok (by rw [← toList_size, hs1]; exact Nat.le_trans (seedL_len (T.length - 1) (by omega)) (by decide)) (by decide) (by decide)
        rw [hs1, sign1_e hbe ⟨by decide, by decide⟩] at this
        exact this)
      generalize hy : signC (bareX r fr un) (seedL ((T.length - 1 : Nat) : Int)) 1 1 = y at *
      go_upto_region 15 with (fail)
      go_wp2_with fail
      refine (HS.out _).mono ?_
      rintro e w6 ⟨s1, rfl, hs1, rfl⟩
      go_wp2_with fail
      refine (HSG.out _ s1 (below_refl _) hs1.out).mono ?_
      rintro e w6 ⟨rfl, hb6⟩
      have kb6 := step2 kb5 hb6
      have b56 := hb6
      rw [Cu.vals_arr y]
      have bY := BoxC.new w6 y
      have kY : Below w6.heap.size w6 (w6.alloc (.cells y.vals.toArray 29)) := (below_refl w6).alloc (Nat.le_refl _) _
      generalize hWY : w6.alloc (.cells y.vals.toArray 29) = WY at *
      have kbY := step2 kb6 kY
      go_upto_region 16 with (fail)
      change Code.wp _ _ _ _ (w6.alloc (.cells y.vals.toArray 29))
      rw [hWY]
      clear hWY
      have hat : CuAt w3 cg 0 (chainV (ownTs T)) ∧ cg < w3.heap.size := by
        rcases (cuRow_own HOC.out).2 with ⟨h, _⟩ | ⟨_, g', o', cap', h2, _, _, h3, h5⟩
        · rw [h] at hlC; simp at hlC; omega
        · simp only [Value.slice.injEq, Option.some.injEq, Addr.mk.injEq] at h2
          obtain ⟨⟨rfl, rfl, _⟩, _, _⟩ := h2
          exact ⟨h5, h3⟩
      obtain ⟨hat, hcl⟩ := hat
      have k3Y : Below w3.heap.size w3 WY := step2 (step2 (step2 hb4 hb5) b56) kY
      have HAll := Lib.hid (show ∀ W, Below w3.heap.size w3 W → CuAt W cg 0 (chainV (ownTs T)) from fun W hW => hat.below hW hcl)
      obtain ⟨l0, l1, l2, l3, l4⟩ := cuCells (HAll.out _ k3Y) (i := T.length - 1) (by omega)
      have hlast : (cuAt (chainV (ownTs T)) (T.length - 1)).fr = (tmAt T (T.length - 1)).fr ∧ (cuAt (chainV (ownTs T)) (T.length - 1)).un = (tmAt T (T.length - 1)).un := by
        have hf := (chainC_fields (tmAt (ownTs T) (T.length - 1)) (T.length - 1)).2.2
        rw [chainV_at (show T.length - 1 < (ownTs T).length by rw [ownTs_length]; omega)]
        rw [ownTs_at (show T.length - 1 < T.length by omega)] at hf ⊢
        exact hf
      have HLast := Lib.hid hlast
      clear hat hlast
      generalize hlc : cuAt (chainV (ownTs T)) (T.length - 1) = lc at *
      have Hlc := Lib.hid hlc; clear hlc
      rw [Nat.zero_add] at l0 l1 l2 l3 l4
      have bL := BoxC.new WY lc
      have kL : Below WY.heap.size WY (WY.alloc (.cells lc.vals.toArray 29)) := (below_refl WY).alloc (Nat.le_refl _) _
      generalize hWL : WY.alloc (.cells lc.vals.toArray 29) = WL at *
      have hix : T.length - 1 < T.length := by omega
      generalize T.length - 1 = m at *
      go_upto_region 18 with (fail)
      go_upto_region 19 with (fail)
      change Code.wp _ _ _ _ (WY.alloc (.cells lc.vals.toArray 29))
      rw [hWL]
      clear hWL l0 l1 l2 l3 l4
      obtain ⟨g0, g1, g2, g3, g4, _⟩ := boxC_facts bL
      have HW : Hid (checkV (chainV (ownTs T) ++ [y]) = if fr ≤ lc.fr then 14 else if lc.un < fr then 18 else 0) := by
        rw [Hid, HCK.out, HLast.out.1, HLast.out.2]; rfl
      clear HCK HLast
      obtain ⟨wt, hwt⟩ : ∃ wt : Int, (if fr ≤ lc.fr then (14 : Int) else if lc.un < fr then 18 else 0) = wt := ⟨_, rfl⟩
      rw [hwt] at HW
      have HC1 := Lib.hid (show fr ≤ lc.fr → wt = 14 from fun h => by rw [← hwt, if_pos h])
      have HC2 := Lib.hid (show ¬ fr ≤ lc.fr → lc.un < fr → wt = 18 from fun h h2 => by rw [← hwt, if_neg h, if_pos h2])
      have HC3 := Lib.hid (show ¬ fr ≤ lc.fr → ¬ lc.un < fr → wt = 0 from fun h h2 => by rw [← hwt, if_neg h, if_neg h2])
      clear hwt
      go_upto_block 2 with (fail)
      go_cut [15] from 87 to 96 (fun v wc => v = .int .i64 wt ∧ WL = wc)
      case first =>
        by_cases q1 : fr ≤ lc.fr
        · have e := Lib.hid (HC1.out q1)
          go_wp2_with fail
          go_meet
          case rel => exact ⟨by rw [e.out], rfl⟩
        by_cases q2 : lc.un < fr
        · have e := Lib.hid (HC2.out q1 q2)
          go_wp2_with fail
          go_meet
          case rel => exact ⟨by rw [e.out], rfl⟩
        · have e := Lib.hid (HC3.out q1 q2)
          go_wp2_with fail
          go_meet
          case rel => exact ⟨by rw [e.out], rfl⟩
      obtain ⟨rfl, rfl⟩ := hcut
      clear HC1 HC2 HC3 g0 g1 g2 g3 g4 bL
      go_upto_region 24 with (fail)
      have bYL := bY.below kL
      have hbL := bYL.lt
      have HS0 := Lib.hid (show ∀ W : World, Below WL.heap.size WL W → W.cell? ⟨w6.heap.size, 0, none⟩ = some (.string y.root) ∧ W.cell? ⟨w6.heap.size, 1, none⟩ = some (.string y.media) ∧ W.cell? ⟨w6.heap.size, 2, none⟩ = some (.int .i64 y.fr) ∧ W.cell? ⟨w6.heap.size, 3, none⟩ = some (.int .i64 y.un) ∧ W.cell? ⟨w6.heap.size, 4, none⟩ = some (.string y.sig) from fun W hW => ⟨(bYL.below hW).cell 0, (bYL.below hW).cell 1, (bYL.below hW).cell 2, (bYL.below hW).cell 3, (bYL.below hW).cell 4⟩)
      have kwL : Below w.heap.size w WL := step2 kbY kL
      have kwW := Lib.hid (show ∀ W : World, Below WL.heap.size WL W → Below w.heap.size w W from fun W hW => step2 kwL hW)
      have HN := Lib.hid (show ∀ W : World, Below WL.heap.size WL W → ∀ (j : Nat) (u : Value), ((chainV (ownTs T)).flatMap Cu.vals)[j]? = some u → W.cell? ((⟨cg, 0, none⟩ : Addr).add j) = some u from fun W hW => cu_news (HAll.out _ (step2 (step2 k3Y kL) hW)))
      have hOK := Lib.hid (cusOk_snoc HCO.out hyok)
      have hlT : ((chainV (ownTs T)).flatMap Cu.vals).length = T.length * 5 := by rw [cvals_len, hlC]
      have HCK := Lib.hid (show ∀ (W : World) (v : Value), Below WL.heap.size WL W → W.ownsRow WL.heap.size 29 5 v (T.length + 1) ((chainV (ownTs T)).flatMap Cu.vals ++ y.vals) → Calls Tryz.prog 17 #[v] W (ErrP wt W) from fun W v hW ho => by
        have hl1 : (chainV (ownTs T) ++ [y]).length = T.length + 1 := by rw [List.length_append, hlC]; rfl
        have := check_any v (chainV (ownTs T) ++ [y]) W (HE.out.below (kwW.out W hW)) (cuRow_own (base := WL.heap.size) (by unfold OwnCus; rw [hl1, List.flatMap_append]; simpa using ho)) (by omega) hOK.out
        rw [HW.out] at this
        exact this)
      have hone := Lib.hid (cu_one (T := chainV (ownTs T)))
      generalize (chainV (ownTs T)).flatMap Cu.vals = news at *
      clear HW HAll HOC HCO hlC hyok HQ hOK
      obtain ⟨i0, hi, hz0, hz1, hz2⟩ := info_parts infoCu
      have kd : Below WL.heap.size WL WL.drew := below_drew0 (below_refl _)
      have kE : Below WL.heap.size WL (WL.alloc (.cells #[] 29)).drew := below_drew0 ((below_refl _).alloc (Nat.le_refl _) _)
      have kY : Below WL.heap.size WL (WL.alloc (.cells #[.string y.root, .string y.media, .int .i64 y.fr, .int .i64 y.un, .string y.sig] 29)).drew := below_drew0 ((below_refl _).alloc (Nat.le_refl _) _)
      have kEY : Below WL.heap.size WL ((WL.alloc (.cells #[] 29)).alloc (.cells #[.string y.root, .string y.media, .int .i64 y.fr, .int .i64 y.un, .string y.sig] 29)).drew := below_drew0 (((below_refl _).alloc (Nat.le_refl _) _).alloc ((below_refl WL).alloc (Nat.le_refl _) _).size _)
      have kYE : Below WL.heap.size WL ((WL.alloc (.cells #[.string y.root, .string y.media, .int .i64 y.fr, .int .i64 y.un, .string y.sig] 29)).alloc (.cells #[] 29)).drew := below_drew0 (((below_refl _).alloc (Nat.le_refl _) _).alloc ((below_refl WL).alloc (Nat.le_refl _) _).size _)
      have s0 := HS0.out _ kd
      have sE := HS0.out _ kE
      have sY := HS0.out _ kY
      have sEY := HS0.out _ kEY
      have sYE := HS0.out _ kYE
      have oE : (WL.alloc (.cells #[] 29)).drew.ownsRow WL.heap.size 29 5 (.slice (some ⟨WL.heap.size, 0, none⟩) 0 0) 0 [] := World.ownsRow_made WL #[] 0 (Nat.le_refl _) (by decide) rfl
      have oEY : ((WL.alloc (.cells #[] 29)).alloc (.cells #[.string y.root, .string y.media, .int .i64 y.fr, .int .i64 y.un, .string y.sig] 29)).drew.ownsRow WL.heap.size 29 5 (.slice (some ⟨WL.heap.size, 0, none⟩) 0 0) 0 [] := World.ownsRow.alloc (World.ownsRow_made WL #[] 0 (Nat.le_refl _) (by decide) rfl) _
      have oYE : ((WL.alloc (.cells #[.string y.root, .string y.media, .int .i64 y.fr, .int .i64 y.un, .string y.sig] 29)).alloc (.cells #[] 29)).drew.ownsRow WL.heap.size 29 5 (.slice (some ⟨WL.heap.size + 1, 0, none⟩) 0 0) 0 [] := by
        have := World.ownsRow_made (base := WL.heap.size) (e := 29) (size := 5) (WL.alloc (.cells #[.string y.root, .string y.media, .int .i64 y.fr, .int .i64 y.un, .string y.sig] 29)) #[] 0 ((below_refl WL).alloc (Nat.le_refl _) _).size (by decide) rfl
        rw [World.size_alloc] at this; exact this
      have bEY : BoxC ((WL.alloc (.cells #[] 29)).alloc (.cells #[.string y.root, .string y.media, .int .i64 y.fr, .int .i64 y.un, .string y.sig] 29)).drew (WL.heap.size + 1) y := by
        have := BoxC.new (WL.alloc (.cells #[] 29)) y
        rw [World.size_alloc] at this; exact this
      have bYE : BoxC ((WL.alloc (.cells #[.string y.root, .string y.media, .int .i64 y.fr, .int .i64 y.un, .string y.sig] 29)).alloc (.cells #[] 29)).drew WL.heap.size y := BoxC.alloc (BoxC.new WL y) _
      have nE := HN.out _ kE
      have nEY := HN.out _ kEY
      have nYE := HN.out _ kYE
      have zE := kE.size
      have zEY := kEY.size
      have zYE := kYE.size
      go_region_held3 (fun W => W.cell? ⟨w6.heap.size, 0, none⟩ = some (.string y.root) ∧ W.cell? ⟨w6.heap.size, 1, none⟩ = some (.string y.media) ∧ W.cell? ⟨w6.heap.size, 2, none⟩ = some (.int .i64 y.fr) ∧ W.cell? ⟨w6.heap.size, 3, none⟩ = some (.int .i64 y.un) ∧ W.cell? ⟨w6.heap.size, 4, none⟩ = some (.string y.sig))
        (with_reducible assumption)
        (first
          | ((with_reducible show if Region.wanted _ _ = true then Oper.wp _ _ _ (World.drew (World.alloc WL (.cells #[] 29))) _ _ else _); refine step_append_own rfl (.tmp 97) (.tmp 98) 22 rfl WL.heap.size 29 i0 (.agg #[.string ⟨#[]⟩, .string ⟨#[]⟩, .int .i64 0, .int .i64 0, .string ⟨#[]⟩]) 5 64 Tryz.underlying22 hi hz0 hz1 hz2 rfl (by decide) _ 0 [] (by simp [Act.eval]) oE ⟨cg, 0, none⟩ T.length ccap news (by simp [Act.eval]) hlT nE hone.out (by unfold maxLen; omega) (by omega) (by omega) ?_; intro v7 w7 own7 hg7 hni; clear hni; have k7 := below_grownBy kE oE hg7 zE; have z7 := k7.size; have s7 := HS0.out _ k7; have k7b := k7.alloc z7 (.cells #[.string y.root, .string y.media, .int .i64 y.fr, .int .i64 y.un, .string y.sig] 29); have s7b := HS0.out _ k7b; have own7b := World.ownsRow.alloc own7 (.cells #[.string y.root, .string y.media, .int .i64 y.fr, .int .i64 y.un, .string y.sig] 29); have b7 := BoxC.new w7 y; have n7 := box_news b7; have z7b := k7b.size)
          | ((with_reducible show if Region.wanted _ _ = true then Oper.wp _ _ _ (World.drew (World.alloc (World.alloc WL (.cells #[] 29)) (.cells #[.string y.root, .string y.media, .int .i64 y.fr, .int .i64 y.un, .string y.sig] 29))) _ _ else _); refine step_append_own rfl (.tmp 97) (.tmp 98) 22 rfl WL.heap.size 29 i0 (.agg #[.string ⟨#[]⟩, .string ⟨#[]⟩, .int .i64 0, .int .i64 0, .string ⟨#[]⟩]) 5 64 Tryz.underlying22 hi hz0 hz1 hz2 rfl (by decide) _ 0 [] (by simp [Act.eval]) oEY ⟨cg, 0, none⟩ T.length ccap news (by simp [Act.eval]) hlT nEY hone.out (by unfold maxLen; omega) (by omega) (by omega) ?_; intro v7 w7 own7 hg7 hni; clear hni; have k7 := below_grownBy kEY oEY hg7 zEY; have z7 := k7.size; have s7 := HS0.out _ k7; have b7 : BoxC w7 (WL.heap.size + 1) y := (hg7.block _ bEY.lt (own_ne (by omega))).trans bEY; have n7c := box_news b7)
          | ((with_reducible show if Region.wanted _ _ = true then Oper.wp _ _ _ (World.drew (World.alloc (World.alloc WL (.cells #[.string y.root, .string y.media, .int .i64 y.fr, .int .i64 y.un, .string y.sig] 29)) (.cells #[] 29))) _ _ else _); refine step_append_own rfl (.tmp 97) (.tmp 98) 22 rfl WL.heap.size 29 i0 (.agg #[.string ⟨#[]⟩, .string ⟨#[]⟩, .int .i64 0, .int .i64 0, .string ⟨#[]⟩]) 5 64 Tryz.underlying22 hi hz0 hz1 hz2 rfl (by decide) _ 0 [] (by simp [Act.eval]) oYE ⟨cg, 0, none⟩ T.length ccap news (by simp [Act.eval]) hlT nYE hone.out (by unfold maxLen; omega) (by omega) (by omega) ?_; intro v7 w7 own7 hg7 hni; clear hni; have k7 := below_grownBy kYE oYE hg7 zYE; have z7 := k7.size; have s7 := HS0.out _ k7; have b7 : BoxC w7 WL.heap.size y := (hg7.block _ bYE.lt (own_ne (by omega))).trans bYE; have n7d := box_news b7)
          | ((with_reducible show if Region.wanted _ _ = true then Oper.wp _ _ _ (World.alloc w7 (.cells #[.string y.root, .string y.media, .int .i64 y.fr, .int .i64 y.un, .string y.sig] 29)) _ _ else _); refine step_append_own rfl (.tmp 99) (.tmp 101) 22 rfl WL.heap.size 29 i0 (.agg #[.string ⟨#[]⟩, .string ⟨#[]⟩, .int .i64 0, .int .i64 0, .string ⟨#[]⟩]) 5 64 Tryz.underlying22 hi hz0 hz1 hz2 rfl (by decide) _ _ _ (by simp [Act.eval]) own7b ⟨w7.heap.size, 0, none⟩ 1 1 y.vals (by simp [Act.eval]) rfl n7 (cu_one1 y) (by unfold maxLen; omega) (by omega) (by omega) ?_; intro v8 w8 own8 hg8 hni; clear hni; have k8 := below_grownBy k7b own7b hg8 z7b; have s8 := HS0.out _ k8; have HC8 := Lib.hid (HCK.out w8 v8 k8 (by simpa using own8)))
          | ((with_reducible show if Region.wanted _ _ = true then Oper.wp _ _ _ w7 _ _ else _); refine step_append_own rfl (.tmp 99) (.tmp 101) 22 rfl WL.heap.size 29 i0 (.agg #[.string ⟨#[]⟩, .string ⟨#[]⟩, .int .i64 0, .int .i64 0, .string ⟨#[]⟩]) 5 64 Tryz.underlying22 hi hz0 hz1 hz2 rfl (by decide) _ _ _ (by simp [Act.eval]) own7 ⟨WL.heap.size + 1, 0, none⟩ 1 1 y.vals (by simp [Act.eval]) rfl n7c (cu_one1 y) (by unfold maxLen; omega) (by omega) (by omega) ?_; intro v8 w8 own8 hg8 hni; clear hni; have k8 := below_grownBy k7 own7 hg8 z7; have s8 := HS0.out _ k8; have HC8 := Lib.hid (HCK.out w8 v8 k8 (by simpa using own8)))
          | ((with_reducible show if Region.wanted _ _ = true then Oper.wp _ _ _ w7 _ _ else _); refine step_append_own rfl (.tmp 99) (.tmp 101) 22 rfl WL.heap.size 29 i0 (.agg #[.string ⟨#[]⟩, .string ⟨#[]⟩, .int .i64 0, .int .i64 0, .string ⟨#[]⟩]) 5 64 Tryz.underlying22 hi hz0 hz1 hz2 rfl (by decide) _ _ _ (by simp [Act.eval]) own7 ⟨WL.heap.size, 0, none⟩ 1 1 y.vals (by simp [Act.eval]) rfl n7d (cu_one1 y) (by unfold maxLen; omega) (by omega) (by omega) ?_; intro v8 w8 own8 hg8 hni; clear hni; have k8 := below_grownBy k7 own7 hg8 z7; have s8 := HS0.out _ k8; have HC8 := Lib.hid (HCK.out w8 v8 k8 (by simpa using own8)))
          | (go_at_call 17; refine HC8.out.mono ?_; rintro e w9 ⟨rfl, hb9⟩; have k9 := step2 k8 hb9; have s9 := HS0.out _ k9; have HF9 := Lib.hid (HF.out _ (kwW.out _ k9)))
          | (go_at_call 12; refine HF9.out.mono ?_; rintro e w10 ⟨rfl, hb10⟩; have k10 := step2 k9 hb10; have s10 := HS0.out _ k10))
      all_goals
        have kF := kwW.out _ k10
        clear HN HS0 kwW HF9 HC8 k10 k9 k8
        go_wp2_with fail
        go_ret
        exact ⟨rfl, kF⟩
set_option maxHeartbeats 4000000 in
theorem lawSucc_any (v : Value) (T : List Tm) (fr un : Int) (w : World) (he : Env w) (hr : TmRow w v T) (hok : ∀ i, TmOk (tmAt T i)) (hf : -9223372036854775808 ≤ fr ∧ fr ≤ 9223372036854775807) (hu : -9223372036854775808 ≤ un ∧ un ≤ 9223372036854775807) :
    Calls Tryz.prog 9 #[v, .int .i64 fr, .int .i64 un] w (TrueP w) := by
  have hmax := hr.1
  unfold maxLen at hmax
  by_cases hg : T.length = 0 ∨ 3 < T.length ∨ fr < 0 ∨ 1000000000 < un ∨ un < fr
  · have hv : ∃ a cap, v = .slice a T.length cap := by
      rcases hr.2 with ⟨rfl, a, cap, rfl, _⟩ | ⟨_, b, o, cap, rfl, _⟩
      · exact ⟨a, cap, rfl⟩
      · exact ⟨_, cap, rfl⟩
    obtain ⟨a, cap, rfl⟩ := hv
    have HF := Lib.hid (awake47_any w he)
    clear hr hok he
    generalize T.length = N at *
    by_cases q0 : N = 0
    · subst q0
      clear hg
      go_enter Tryz.func9, Tryz.ntmps9
      go_wp2_with fail
      refine HF.out.mono ?_
      rintro e w9 ⟨rfl, hb9⟩
      go_wp2_with fail
      go_ret
      exact ⟨rfl, hb9⟩
    obtain ⟨x1, x2⟩ := neq0 (show ¬ (N : Int) = 0 by omega)
    by_cases q1 : 3 < N
    · clear hg q0
      go_enter Tryz.func9, Tryz.ntmps9
      go_wp2_with fail
      refine HF.out.mono ?_
      rintro e w9 ⟨rfl, hb9⟩
      go_wp2_with fail
      go_ret
      exact ⟨rfl, hb9⟩
    by_cases q2 : fr < 0
    · clear hg q0
      go_enter Tryz.func9, Tryz.ntmps9
      go_wp2_with fail
      refine HF.out.mono ?_
      rintro e w9 ⟨rfl, hb9⟩
      go_wp2_with fail
      go_ret
      exact ⟨rfl, hb9⟩
    by_cases q3 : 1000000000 < un
    · clear hg q0
      go_enter Tryz.func9, Tryz.ntmps9
      go_wp2_with fail
      refine HF.out.mono ?_
      rintro e w9 ⟨rfl, hb9⟩
      go_wp2_with fail
      go_ret
      exact ⟨rfl, hb9⟩
    have q4 : un < fr := by omega
    clear hg q0
    go_enter Tryz.func9, Tryz.ntmps9
    go_wp2_with fail
    refine HF.out.mono ?_
    rintro e w9 ⟨rfl, hb9⟩
    go_wp2_with fail
    go_ret
    exact ⟨rfl, hb9⟩
  · have hd2 : 0 ≤ fr ∧ fr ≤ un ∧ un ≤ 1000000000 := by omega
    rcases hr.2 with ⟨rfl, a, cap, rfl, _⟩ | ⟨h0, b, o, cap, rfl, _, _, hb, hT⟩
    · exact absurd (.inl rfl) hg
    · exact succ1 b o cap T fr un w he h0 (by omega) hb hT hok hd2
end Go.Proofs.YtadhbnleahipaaaGreatDoor
