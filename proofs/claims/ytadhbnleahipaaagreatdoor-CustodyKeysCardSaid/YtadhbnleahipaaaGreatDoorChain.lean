/-
  Chapter 47: the reference's Chain, walked.
-/
import Derived.Test.YtadhbnleahipaaaGreatDoorChainDef
import Derived.Deep.RegionWith
namespace Go.Proofs.YtadhbnleahipaaaGreatDoor
open Go.RowKit
theorem below_put5 {n B : Nat} {w W : World} (h : Below n w W) (hn : n ≤ B) (c : Cu) :
    Below n w (((((W.setCell ⟨B, 0, none⟩ (.string c.root)).setCell ⟨B, 1, none⟩ (.string c.media)).setCell ⟨B, 2, none⟩ (.int .i64 c.fr)).setCell ⟨B, 3, none⟩ (.int .i64 c.un)).setCell ⟨B, 4, none⟩ (.string c.sig)) := below_putC h hn c
theorem chain_finB5 {wc wb w1 : World} {B : Nat} {bc sc : Cu} (bB3 : BoxC wc B bc) (kb3 : Below B w1 wc)
    (hb9 : Below (wc.alloc (.cells #[.string ⟨#[]⟩, .string ⟨#[]⟩, .int .i64 0, .int .i64 0, .string ⟨#[]⟩] 29)).drew.heap.size (wc.alloc (.cells #[.string ⟨#[]⟩, .string ⟨#[]⟩, .int .i64 0, .int .i64 0, .string ⟨#[]⟩] 29)).drew wb) :
    BoxC (((((wb.setCell ⟨wc.heap.size, 0, none⟩ (.string sc.root)).setCell ⟨wc.heap.size, 1, none⟩ (.string sc.media)).setCell ⟨wc.heap.size, 2, none⟩ (.int .i64 sc.fr)).setCell ⟨wc.heap.size, 3, none⟩ (.int .i64 sc.un)).setCell ⟨wc.heap.size, 4, none⟩ (.string sc.sig)) wc.heap.size sc ∧ B < wc.heap.size ∧ BoxC (((((wb.setCell ⟨wc.heap.size, 0, none⟩ (.string sc.root)).setCell ⟨wc.heap.size, 1, none⟩ (.string sc.media)).setCell ⟨wc.heap.size, 2, none⟩ (.int .i64 sc.fr)).setCell ⟨wc.heap.size, 3, none⟩ (.int .i64 sc.un)).setCell ⟨wc.heap.size, 4, none⟩ (.string sc.sig)) B bc ∧ Below B w1 (((((wb.setCell ⟨wc.heap.size, 0, none⟩ (.string sc.root)).setCell ⟨wc.heap.size, 1, none⟩ (.string sc.media)).setCell ⟨wc.heap.size, 2, none⟩ (.int .i64 sc.fr)).setCell ⟨wc.heap.size, 3, none⟩ (.int .i64 sc.un)).setCell ⟨wc.heap.size, 4, none⟩ (.string sc.sig)) := by
  have h := step2 (below_drew0 ((below_refl wc).alloc (Nat.le_refl _) (.cells #[.string ⟨#[]⟩, .string ⟨#[]⟩, .int .i64 0, .int .i64 0, .string ⟨#[]⟩] 29))) hb9
  have hlt := bB3.lt
  have hz : BoxC (wc.alloc (.cells #[.string ⟨#[]⟩, .string ⟨#[]⟩, .int .i64 0, .int .i64 0, .string ⟨#[]⟩] 29)).drew wc.heap.size cu0 := BoxC.new wc cu0
  exact ⟨(hz.below hb9).put sc, hlt, (bB3.below h).otherPut (by omega) sc, below_putC (kb3.trans (h.mono (by omega))) (by omega) sc⟩

set_option maxRecDepth 100000 in
set_option maxHeartbeats 40000000 in
theorem chain1 (b o cap : Nat) (T : List Tm) (w : World) (hlen : T.length ≤ 1000000) (h0 : 0 < T.length) (hb : b < w.heap.size) (hT : TmAt w b o T) (hok : ∀ i, TmOk (tmAt T i)) :
    Calls Tryz.prog 20 #[.slice (some ⟨b, o, none⟩) T.length cap] w (ChainP (chainV T) w) := by
  have hch : chainV T = accV T T.length := rfl
  rw [hch]
  go_enter Tryz.func20, Tryz.ntmps20
  go_wp2_with fail
  go_loopw [3, 4] (fun v i wr => ∃ k : Nat, k ≤ T.length ∧ i = .int .i64 k ∧ wr.ownsRow w.heap.size 29 5 v k ((accV T k).flatMap Cu.vals) ∧ Below w.heap.size w wr) (fun _ i _ => T.length - (intOf i).toNat)
  case atStart => exact ⟨0, by omega, rfl, World.ownsRow_made w #[] 0 (Nat.le_refl _) (by decide) rfl, (below_refl _).alloc (Nat.le_refl _) _⟩
  case round =>
    obtain ⟨k, hk, rfl, hown, hbw⟩ := hrel
    by_cases hlt : k < T.length
    · have HS := Lib.hid (show ∀ W, Calls Tryz.prog 24 #[.int .i64 k] W (StrS (seedL k) W) from fun W => seed_any k W (by omega) (by omega))
      have HR := Lib.hid (show ∀ (W : World) (t : ByteArray), t.data.toList = seedL k → Calls Tryz.prog 34 #[.string t, .int .i64 1] W (RootP (rootL (seedL k) 1) 0 W) from fun W t ht => by
        have hz : t.size ≤ 1073741824 := by
          have h1 : (numL (k : Int)).length ≤ 30 := by rw [numL_length]; have := itoa_len (show -9223372036854775808 ≤ (k : Int) by omega) (show (k : Int) ≤ 9223372036854775807 by omega); omega
          have h2 : t.size = (seedL k).length := by rw [← toList_size, ht]
          rw [seedL, List.length_append] at h2
          have h3 : lKeeper.length = 7 := rfl
          omega
        have := rootR_any t 1 W hz (by decide)
        rw [ht] at this; exact this)
      have HC := Lib.hid (show ∀ W, Below w.heap.size w W → _ from fun W hW => tmCells (hT.below hW hb) hlt)
      obtain ⟨c0, c1, c2, c3⟩ := HC.out _ hbw
      generalize htm : tmAt T k = tm at *
      go_wp2_with fail
      refine (HS.out _).mono ?_
      rintro e w1 ⟨t, rfl, ht, rfl⟩
      go_wp2_with fail
      refine (HR.out _ t ht.out).mono ?_
      rintro e w1 ⟨r, rfl, hr, hb1⟩
      obtain rfl : r = bA (rootL (seedL k) 1) := lit_of hr.out
      have hbw1 := step2 hbw hb1
      clear c0 c1 c2 c3 hr ht
      obtain ⟨c0, c1, c2, c3⟩ := HC.out _ hbw1
      go_wp2_with fail
      go_region_held3 (fun W => W.cell? ⟨b, o + k * 4, none⟩ = some (.int .i64 tm.fr) ∧ W.cell? ⟨b, o + k * 4 + 1, none⟩ = some (.int .i64 tm.un))
        (first | exact ⟨c0, c1⟩ | exact ⟨alloc_old_cell _ c0, alloc_old_cell _ c1⟩) (fail)
      have hownB := owns_below hown hb1
      have hBw := hbw1.size
      have bB0 := BoxC.new w1 ⟨bA (rootL (seedL k) 1), ByteArray.empty, tm.fr, tm.un, ByteArray.empty⟩
      have kb0 : Below w1.heap.size w1 (w1.alloc (.cells (Cu.vals ⟨bA (rootL (seedL k) 1), ByteArray.empty, tm.fr, tm.un, ByteArray.empty⟩).toArray 29)) := (below_refl w1).alloc (Nat.le_refl _) _
      change Exit.then _ _ _ _ (w1.alloc (.cells (Cu.vals ⟨bA (rootL (seedL k) 1), ByteArray.empty, tm.fr, tm.un, ByteArray.empty⟩).toArray 29)).drew
      generalize hBB : w1.heap.size = B at *
      generalize w1.alloc (.cells (Cu.vals ⟨bA (rootL (seedL k) 1), ByteArray.empty, tm.fr, tm.un, ByteArray.empty⟩).toArray 29) = W2 at *
      have kb1 : Below B w1 W2.drew := kb0.trans ((Below.drew (Below.refl _ _)))
      have bB1 : BoxC W2.drew B ⟨bA (rootL (seedL k) 1), ByteArray.empty, tm.fr, tm.un, ByteArray.empty⟩ := bB0
      generalize W2.drew = W3 at *
      have HT := Lib.hid (show ∀ W, Below B w1 W → Below w.heap.size w W from fun W hW => hbw1.trans (hW.mono hBw))
      clear hown c0 c1 c2 c3 kb0 bB0
      obtain ⟨c0, c1, c2, c3⟩ := HC.out _ (HT.out _ kb1)
      go_upto_if 40 with (fail)
      go_cut [] from 40 to 45 (fun wc => BoxC wc B (bareC tm k) ∧ Below B w1 wc)
      case first =>
        obtain ⟨b0, b1, b2, b3, b4, f0, f1, f2, f3, f4⟩ := boxC_facts bB1
        cases hmed : tm.media with
        | false =>
          rw [hmed] at c2
          have hbare : bareC tm k = ⟨bA (rootL (seedL k) 1), ByteArray.empty, tm.fr, tm.un, ByteArray.empty⟩ := by rw [bareC, hmed]; rfl
          have hbare := Lib.hid hbare
          clear HS HR HC HT
          go_wp2_with fail
          go_meet
          case rel => exact ⟨by rw [hbare.out]; exact bB1, kb1⟩
        | true =>
          rw [hmed] at c2
          have hbare : bareC tm k = ⟨bA (rootL (seedL k) 1), bA (sumB (seedL k)), tm.fr, tm.un, ByteArray.empty⟩ := by rw [bareC, hmed]; rfl
          have hbare := Lib.hid hbare
          clear HR HC HT
          go_wp2_with fail
          refine (HS.out _).mono ?_
          rintro e w4 ⟨t4, rfl, ht4, rfl⟩
          have hzt : t4.size ≤ 1000 := by
            have h1 : (numL (k : Int)).length ≤ 30 := by rw [numL_length]; have := itoa_len (show -9223372036854775808 ≤ (k : Int) by omega) (show (k : Int) ≤ 9223372036854775807 by omega); omega
            have h2 : t4.size = (seedL k).length := by rw [← toList_size, ht4.out]
            rw [seedL, List.length_append] at h2
            have h3 : lKeeper.length = 7 := rfl
            omega
          have HSU := Lib.hid (sumR_any _ [t4] _ (strs_new W3 [t4] #[.string t4] 9 1 rfl rfl (by simp [maxLen])) (by simp; omega))
          have hkb4 : Below B w1 (W3.alloc (.cells #[.string t4] 9)) := kb1.alloc (by have := kb1.size; omega) _
          have bB4 := bB1.alloc (.cells #[.string t4] 9)
          go_wp2_with fail
          refine HSU.out.mono ?_
          rintro e w5 ⟨g, rfl, hg, hb5⟩
          have hkb5 := hkb4.trans (hb5.mono (by have := hkb4.size; omega))
          have bB5 := bB4.below hb5
          have hg2 := hg.out
          simp only [List.map_cons, List.map_nil, List.flatten_cons, List.flatten_nil, List.append_nil, ht4.out] at hg2
          obtain rfl : g = bA (sumB (seedL k)) := lit_of hg2
          clear hg hg2 HSU bB4
          obtain ⟨b0, b1, b2, b3, b4, f0, f1, f2, f3, f4⟩ := boxC_facts bB5
          go_wp2_with fail
          go_meet
          case rel => exact ⟨by rw [hbare.out]; exact setCell_block _ bB5, hkb5.setCell (p := ⟨B, 1, none⟩) (Nat.le_refl _) _⟩
      case rest =>
        obtain ⟨bB3, kb3⟩ := hcut
        clear bB1 kb1 HR c0 c1 c2 c3
        generalize W3 = W3' at *
        clear HS
        go_upto_if 49 with (fail)
        go_cut [8] from 48 to 49 (fun v8 wc2 => v8 = .int .i64 (byC k) ∧ wc2 = wc)
        case first =>
          by_cases hk0 : k = 0
          · subst hk0
            go_wp2_with fail
            go_meet
            case rel => exact ⟨rfl, rfl⟩
          · have hk1 : (k : Int) - 1 = (byC k : Nat) := by rw [byC]; omega
            go_wp2_with fail
            go_meet
            case rel => exact ⟨by rw [hk1], rfl⟩
        case rest =>
          obtain ⟨rfl, rfl⟩ := hcut
          obtain ⟨c0, c1, c2, c3⟩ := HC.out _ (HT.out _ kb3)
          have HS := Lib.hid (show ∀ W, Calls Tryz.prog 24 #[.int .i64 (byC k)] W (StrS (seedL (byC k)) W) from fun W => seed_any (byC k) W (by omega) (by rw [byC]; omega))
          obtain ⟨b0, b1, b2, b3, b4, f0, f1, f2, f3, f4⟩ := boxC_facts bB3
          have hkey := hok k
          rw [htm] at hkey
          have HSG := Lib.hid (show ∀ (W : World) (s1 : ByteArray), s1.data.toList = seedL (byC k) → Calls Tryz.prog 22 #[.agg #[.string (bareC tm k).root, .string (bareC tm k).media, .int .i64 (bareC tm k).fr, .int .i64 (bareC tm k).un, .string (bareC tm k).sig], .string s1, .int .i64 1, .int .i64 tm.key] W (fun e w' => e = .returned (.tuple #[.agg #[.string (signC (bareC tm k) (seedL (byC k)) 1 tm.key).root, .string (signC (bareC tm k) (seedL (byC k)) 1 tm.key).media, .int .i64 (signC (bareC tm k) (seedL (byC k)) 1 tm.key).fr, .int .i64 (signC (bareC tm k) (seedL (byC k)) 1 tm.key).un, .string (signC (bareC tm k) (seedL (byC k)) 1 tm.key).sig], .int .i64 (signE (bareC tm k) 1 tm.key)]) ∧ Below W.heap.size W w') from fun W s1 hs1 => by
            have := cuSignR_any (bareC tm k) s1 1 tm.key W (bareC_ok hkey k) (by rw [← toList_size, hs1]; exact Nat.le_trans (seedL_len (byC k) (by rw [byC]; omega)) (by decide)) (by decide) hkey.key
            rw [hs1] at this; exact this)
          generalize hsc : signC (bareC tm k) (seedL (byC k)) 1 tm.key = sc at *
          generalize hse : signE (bareC tm k) 1 tm.key = se at *
          generalize hbc : bareC tm k = bc at *
          go_upto_region 12 with (fail)
          go_cut [9, 10] from 50 to 61 (fun v9 v10 wc3 => ∃ D, v9 = .pointer (some ⟨D, 0, none⟩) ∧ v10 = .int .i64 se ∧ BoxC wc3 D sc ∧ B < D ∧ BoxC wc3 B bc ∧ Below B w1 wc3)
          case first =>
            have HSK := Lib.hid (show ∀ W, Below wc.heap.size wc W → (W.cell? ⟨b, o + k * 4 + 3, none⟩ = some (.int .i64 tm.key)) ∧ W.cell? ⟨B, 0, none⟩ = some (.string bc.root) ∧ W.cell? ⟨B, 1, none⟩ = some (.string bc.media) ∧ W.cell? ⟨B, 2, none⟩ = some (.int .i64 bc.fr) ∧ W.cell? ⟨B, 3, none⟩ = some (.int .i64 bc.un) ∧ W.cell? ⟨B, 4, none⟩ = some (.string bc.sig) from
              fun W hW => ⟨(HC.out W (HT.out W (kb3.trans (hW.mono (by have := bB3.lt; omega))))).2.2.2, (bB3.below hW).cell 0, (bB3.below hW).cell 1, (bB3.below hW).cell 2, (bB3.below hW).cell 3, (bB3.below hW).cell 4⟩)
            have HSB := Lib.hid (show ∀ (W : World) (s1 : ByteArray), s1.data.toList = seedL (byC k) → Calls Tryz.prog 22 #[.agg #[.string bc.root, .string bc.media, .int .i64 bc.fr, .int .i64 bc.un, .string bc.sig], .string s1, .int .i64 1, .int .i64 tm.key]
                W (fun e w' => e = .returned (.tuple #[.agg #[.string sc.root, .string sc.media, .int .i64 sc.fr, .int .i64 sc.un, .string sc.sig], .int .i64 se]) ∧ Hid (Below W.heap.size W w') ∧ (∀ j, wc.heap.size < W.heap.size → w'.cell? ⟨wc.heap.size, j, none⟩ = W.cell? ⟨wc.heap.size, j, none⟩) ∧ (∀ j, wc.heap.size < W.heap.size → w'.frozen? ⟨wc.heap.size, j, none⟩ = W.frozen? ⟨wc.heap.size, j, none⟩)) from
              fun W s1 hs1 => (HSG.out W s1 hs1).mono fun e w' ⟨h1, h2⟩ => ⟨h1, h2, fun j hj => h2.cell (p := ⟨wc.heap.size, j, none⟩) hj, fun j hj => h2.frozen (p := ⟨wc.heap.size, j, none⟩) hj⟩)
            clear HSG HC HT hsc hse hbc c0 c1 c2 c3 b0 b1 b2 b3 b4 f0 f1 f2 f3 f4 hkey hownB hok hT h0 hb hch hbw hbw1 hk hBw htm hb1
            go_region_held3 (fun W => (W.cell? ⟨b, o + k * 4 + 3, none⟩ = some (.int .i64 tm.key)) ∧ W.cell? ⟨B, 0, none⟩ = some (.string bc.root) ∧ W.cell? ⟨B, 1, none⟩ = some (.string bc.media) ∧ W.cell? ⟨B, 2, none⟩ = some (.int .i64 bc.fr) ∧ W.cell? ⟨B, 3, none⟩ = some (.int .i64 bc.un) ∧ W.cell? ⟨B, 4, none⟩ = some (.string bc.sig))
              ((refine HSK.out _ ?_; first | with_reducible exact below_drew0 (below_refl _) | with_reducible exact below_drew0 ((below_refl wc).alloc (Nat.le_refl _) _) | with_reducible exact step2 (below_drew0 (below_refl _)) hb9.out | with_reducible exact step2 (below_drew0 ((below_refl wc).alloc (Nat.le_refl _) _)) hb9.out | with_reducible exact below_put5 (step2 (below_drew0 ((below_refl wc).alloc (Nat.le_refl _) _)) hb9.out) (Nat.le_refl _) sc | with_reducible exact (step2 (below_drew0 (below_refl _)) hb9.out).alloc (step2 (below_drew0 (below_refl _)) hb9.out).size _))
              (first | (go_at_call 24; refine (HS.out _).mono ?_; rintro e wa ⟨s1, rfl, hs1, rfl⟩) | (go_at_call 22; refine (HSB.out _ s1 hs1.out).mono ?_; rintro e wb ⟨rfl, hb9, z0, y0⟩))
            · clear z0 y0
              go_wp2_with fail
              go_meet
              case rel => exact ⟨_, rfl, rfl, by with_reducible exact chain_finA bB3 kb3 hb9.out⟩
            · clear z0 y0
              go_wp2_with fail
              go_meet
              case rel => exact ⟨_, rfl, rfl, by with_reducible exact chain_finB5 bB3 kb3 hb9.out⟩
            · clear z0 y0
              go_wp2_with fail
              go_meet
              case rel => exact ⟨_, rfl, rfl, by with_reducible exact chain_finB5 bB3 kb3 hb9.out⟩
          case rest =>
            obtain ⟨D, rfl, rfl, bD, hBD, bB4, kb4⟩ := hcut
            have hcv : chainC tm k = if se = 0 then sc else bc := by
              rw [chainC]
              subst hbc
              rw [hse, hsc]
            have hcv := Lib.hid hcv
            have hownR := hownB
            obtain ⟨b0, b1, b2, b3, b4, f0, f1, f2, f3, f4⟩ := boxC_facts bB4
            obtain ⟨d0, d1, d2, d3, d4, _⟩ := boxC_facts bD
            clear hsc hse hbc HSG HS c0 c1 c2 c3
            obtain ⟨i0, hi, hz0, hz1, hz2⟩ := info_parts infoCu
            have hBs := bB4.lt
            by_cases hs0 : se = 0
            · have hcv2 : Hid (chainC tm k = sc) := by rw [Hid, hcv.out, if_pos hs0]
              clear hcv
              subst hs0
              have kb5 := below_putC kb4 (Nat.le_refl B) sc
              have bB5 := bB4.put sc
              obtain ⟨W5, hW5⟩ : ∃ W5, World.putC wc B sc = W5 := ⟨_, rfl⟩
              rw [hW5] at kb5 bB5
              have hown5 := owns_below hownR (by rw [hBB]; exact kb5)
              have hb5 := HT.out _ kb5
              go_upto_region 15 with (fail)
              change Code.wp _ _ _ _ (World.putC wc B sc)
              rw [hW5]
              clear hW5 b0 b1 b2 b3 b4 f0 f1 f2 f3 f4 d0 d1 d2 d3 d4 bB4 bD
              obtain ⟨b0, b1, b2, b3, b4, _⟩ := boxC_facts bB5
              go_wp2_with (at_builtin; refine wpList_append_own _ rfl _ _ 22 rfl w.heap.size 29 i0 (.agg #[.string ⟨#[]⟩, .string ⟨#[]⟩, .int .i64 0, .int .i64 0, .string ⟨#[]⟩]) 5 64 Tryz.underlying22 hi hz0 hz1 hz2 rfl (by decide) _ _ _ rfl (hown5.alloc _) ⟨W5.heap.size, 0, none⟩ 1 1 (Cu.vals sc) rfl rfl ?c1 ?c2 ?c3 ?c4 ?c5 ?_)
              case c1 => exact fun j u hu => hu
              case c2 => simp [Cu.vals, Value.oneCell']
              case c3 => unfold maxLen; omega
              case c4 => omega
              case c5 => have := hb5.size; simp; omega
              intro v' w2 hown2 hgrow2 _
              have hbw2 : Below w.heap.size w w2 := below_grownBy (hb5.alloc hb5.size _) (hown5.alloc _) hgrow2 (by have := hb5.size; simp; omega)
              have hown3 : w2.ownsRow w.heap.size 29 5 v' (k + 1) ((accV T (k + 1)).flatMap Cu.vals) := by
                rw [accV_succ, List.flatMap_append, htm, hcv2.out]; simpa using hown2
              clear hown2 hgrow2 hown5 hi hz0 hz1 hz2 b0 b1 b2 b3 b4 hownR hownB
              go_wp2_with fail
              go_roundw
              case rel => exact ⟨k + 1, by omega, by go_num, hown3, hbw2⟩
              case measure => simp [intOf]; omega
            · have hcv2 : Hid (chainC tm k = bc) := by rw [Hid, hcv.out, if_neg hs0]
              clear hcv
              obtain ⟨x1, x2⟩ := neq0 hs0
              have hown5 := owns_below hownR (by rw [hBB]; exact kb4)
              have hb5 := HT.out _ kb4
              clear f0 f1 f2 f3 f4 d0 d1 d2 d3 d4 hs0
              go_wp2_with (at_builtin; refine wpList_append_own _ rfl _ _ 22 rfl w.heap.size 29 i0 (.agg #[.string ⟨#[]⟩, .string ⟨#[]⟩, .int .i64 0, .int .i64 0, .string ⟨#[]⟩]) 5 64 Tryz.underlying22 hi hz0 hz1 hz2 rfl (by decide) _ _ _ rfl (hown5.alloc _) ⟨wc.heap.size, 0, none⟩ 1 1 (Cu.vals bc) rfl rfl ?c1 ?c2 ?c3 ?c4 ?c5 ?_)
              case c1 => exact fun j u hu => by rw [Addr.add_mid, Nat.zero_add]; exact ((BoxC.new wc bc).cell j).trans hu
              case c2 => simp [Cu.vals, Value.oneCell']
              case c3 => unfold maxLen; omega
              case c4 => omega
              case c5 => have := hb5.size; simp; omega
              intro v' w2 hown2 hgrow2 _
              have hbw2 : Below w.heap.size w w2 := below_grownBy (hb5.alloc hb5.size _) (hown5.alloc _) hgrow2 (by have := hb5.size; simp; omega)
              have hown3 : w2.ownsRow w.heap.size 29 5 v' (k + 1) ((accV T (k + 1)).flatMap Cu.vals) := by
                rw [accV_succ, List.flatMap_append, htm, hcv2.out]; simpa using hown2
              clear hown2 hgrow2 hown5 hi hz0 hz1 hz2 b0 b1 b2 b3 b4 hownR hownB
              go_wp2_with fail
              go_roundw
              case rel => exact ⟨k + 1, by omega, by go_num, hown3, hbw2⟩
              case measure => simp [intOf]; omega
    · obtain rfl : k = T.length := by omega
      have hown' : Hid (OwnCus w.heap.size wr u3 (accV T T.length)) := by
        rw [Hid, OwnCus]
        have hl : (accV T T.length).length = T.length := by simp [accV]
        rw [hl]; exact hown
      clear hown
      go_wp2_with fail
      go_ret
      exact ⟨_, rfl, hown'.out, hbw⟩
theorem chain_any (v : Value) (T : List Tm) (w : World) (hr : TmRow w v T) (hlen : T.length ≤ 1000000) (hok : ∀ i, TmOk (tmAt T i)) : Calls Tryz.prog 20 #[v] w (ChainP (chainV T) w) := by
  rcases hr.2 with ⟨rfl, a, cap, rfl, _⟩ | ⟨h0, b, o, cap, rfl, _, _, hb, hL⟩
  · clear hr hok
    go_enter Tryz.func20, Tryz.ntmps20
    go_wp2_with fail
    refine wp_loop_rounds 1 ?_; rw [rounds_succ]
    go_wp2_with fail
    go_ret
    exact ⟨_, rfl, World.ownsRow_made w #[] 0 (Nat.le_refl _) (by decide) rfl, (below_refl _).alloc (Nat.le_refl _) _⟩
  · exact chain1 b o cap T w hlen h0 hb hL hok
def TermsP (T : List Tm) (w : World) (e : Ending) (w' : World) : Prop :=
  (4 < T.length ∧ e = .returned (.tuple #[.slice none 0 0, .bool false]) ∧ w = w') ∨ (T.length ≤ 4 ∧ ∃ v : Value, e = .returned (.tuple #[v, .bool true]) ∧ OwnCus w.heap.size w' v (chainV T) ∧ Below w.heap.size w w')
theorem terms_any (v : Value) (T : List Tm) (w : World) (hr : TmRow w v T) (hok : ∀ i, TmOk (tmAt T i)) : Calls Tryz.prog 19 #[v] w (TermsP T w) := by
  have hv : ∃ a cap, v = .slice a T.length cap := by
    rcases hr.2 with ⟨rfl, a, cap, rfl, _⟩ | ⟨_, b, o, cap, rfl, _⟩
    · exact ⟨a, cap, rfl⟩
    · exact ⟨_, cap, rfl⟩
  have hmax := hr.1
  unfold maxLen at hmax
  by_cases h4 : 4 < T.length
  · obtain ⟨a, cap, rfl⟩ := hv
    clear hr hok
    go_enter Tryz.func19, Tryz.ntmps19
    go_wp2_with fail
    go_ret2
    exact .inl ⟨h4, rfl, rfl⟩
  · have HC := Lib.hid (chain_any v T w hr (by omega) hok)
    obtain ⟨a, cap, rfl⟩ := hv
    clear hr hok
    go_enter Tryz.func19, Tryz.ntmps19
    go_wp2_with fail
    refine HC.out.mono ?_
    rintro e w1 ⟨u, rfl, hown, hb1⟩
    go_wp2_with fail
    go_ret2
    exact .inr ⟨by omega, u, rfl, hown, hb1⟩
end Go.Proofs.YtadhbnleahipaaaGreatDoor
