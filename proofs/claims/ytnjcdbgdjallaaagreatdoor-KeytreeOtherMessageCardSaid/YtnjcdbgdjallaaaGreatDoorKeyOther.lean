/-
  Chapter 30: the law OtherMessage, walked out of the contracts.
-/
import Derived.Test.YtnjcdbgdjallaaaGreatDoorKeyLawsZ
import Derived.Deep.CutBlock
import Derived.Deep.CutRange
import Derived.BigQuiet
namespace Go.Proofs.YtnjcdbgdjallaaaGreatDoor
open Go.RowKit
theorem itoa16 : Lib.itoa 16 = [49, 54] := by
  rw [Lib.itoa, if_neg (by decide), show Int.toNat 16 = 16 from rfl, Lib.decDigits, dif_neg (by decide), Lib.decDigits, dif_pos (by decide)]; rfl
theorem single_of {q : List ByteArray} {X : List UInt8} (h : [X] = q.map fun s => s.data.toList) : ∃ B : ByteArray, Hid (B.data.toList = X) ∧ q = [B] := by
  match q, h with
  | [B], h => exact ⟨B, Lib.hid (by simpa using h.symm), rfl⟩
/-- a signature of a tree of height 1 with the key 1 -/
theorem sign_one (s m : List UInt8) : treeSignL s 1 1 m = [49, 32, 49, 32] ++ strL (signL s 1 m) ++ strL (publicL s 0) := by
  have e1 : numL 1 = [49, 32] := by rw [numL, Lib.itoa, if_neg (by decide), Lib.decDigits]; rfl
  have h := path_sibs (treeL s 1) 1 1 0
  rw [treeSignL, if_neg (by decide), if_neg (by decide), show (1 : Int).toNat = 1 from rfl, h, sibs, sibs, pathL, e1, show sibI (1 / 2 ^ 0) = 0 from rfl, tree_leaf s 1 0 (by decide)]
  simp
theorem verify_other (r s a b : List UInt8) : verifyL r b (treeSignL s 1 1 a) = if nodeL (publicL s 0) (recoverL b (signL s 1 a)) = r then (1, 0) else (0, 17) := by
  refine verifyL_root (k := 1) (parse_sign s a 1 1 (by decide) (by decide)) ?_ ?_
  · exact (recover_sign s 1 a).1
  · show climb 1 (sibs (treeL s 1) 1 0 1) 0 _ = _
    rw [sibs, sibs, climb, show sibI (1 / 2 ^ 0) = 0 from rfl, if_pos (tree_len s 1 0 0 (by decide) (by decide)), if_neg (by decide), climb, tree_leaf s 1 0 (by decide)]; rfl
set_option maxRecDepth 100000 in
set_option maxHeartbeats 2000000 in
theorem lawKeyOther_any (s a b : ByteArray) (w : World) (he : Env w) (hs : s.size ≤ 140737488355328) (ha : a.size ≤ 140737488355328) (hb : b.size ≤ 140737488355328) :
    Calls Tryz.prog 6 #[.string s, .string a, .string b] w (TrueP w) := by
  have hgr := Lib.hid (great_str3 s a b w _ rfl hs ha hb)
  have hb0 : Below w.heap.size w (w.alloc (.cells #[.string s, .string a, .string b] 9)) := (below_refl w).alloc (Nat.le_refl _) _
  have HF := Lib.hid (show ∀ W, Below w.heap.size w W → Calls Tryz.prog 9 #[] W (TrueP W) from fun W hW => awake_any W (he.below hW))
  go_enter Tryz.func6, Tryz.ntmps6
  go_wp2_with fail
  refine hgr.out.mono ?_
  rintro e w1 ⟨g, rfl, hg, rfl⟩
  clear hgr
  cases g with
  | true =>
    go_wp2_with fail
    refine (HF.out _ hb0).mono ?_
    rintro e w9 ⟨rfl, hb9⟩
    go_wp2_with fail
    go_ret
    exact ⟨rfl, step2 hb0 hb9⟩
  | false =>
    have hz1 : s.size + (a.size + b.size) ≤ 300 := by simpa [totZ] using hg.out rfl
    clear hg
    by_cases hab : a.data.toList = b.data.toList
    · have x1 : (a.toList == b.toList) = true := by rw [beq_lists]; simpa using hab
      clear hab
      go_wp2_with fail
      refine (HF.out _ hb0).mono ?_
      rintro e w9 ⟨rfl, hb9⟩
      go_wp2_with fail
      go_ret
      exact ⟨rfl, step2 hb0 hb9⟩
    have x1 : (a.toList == b.toList) = false := by rw [beq_lists]; simpa using hab
    clear hab
    have hda := Lib.hid (fun W hW => digits_any a W (he.below hW) (by omega))
    have hdb := Lib.hid (fun W hW => digits_any b W (he.below hW) (by omega))
    have hr1 := Lib.hid (fun W hW => root_any s 1 W (he.below hW) (by omega) (by decide))
    have hs1 := Lib.hid (fun W hW => treeSign_any s 1 1 a W (he.below hW) (by omega) (by omega) (by decide) (by decide))
    rw [show rootE 1 = 0 from by decide] at hr1
    rw [show treeSignE 1 1 = 0 from by decide, sign_one] at hs1
    go_wp2_with fail
    refine (hda.out _ hb0).mono ?_
    rintro e w1 ⟨va, rfl, hra, hb1⟩
    have hb1 := step2 hb0 hb1
    go_wp2_with fail
    refine (hdb.out _ hb1).mono ?_
    rintro e w2 ⟨vb, rfl, hrb, hb2⟩
    have hra := owns_below hra hb2
    have hb2 := step2 hb1 hb2
    obtain ⟨D, hD⟩ : ∃ D, digitsL a.data.toList = D := ⟨_, rfl⟩
    obtain ⟨E, hE⟩ : ∃ E, digitsL b.data.toList = E := ⟨_, rfl⟩
    have hDl : D.length = 35 := by rw [← hD]; exact digitsL_length _
    have hEl : E.length = 35 := by rw [← hE]; exact digitsL_length _
    rw [hD] at hra
    rw [hE] at hrb
    obtain ⟨_, hrca⟩ := row_cases (Row.of_owns hra)
    obtain ⟨_, hrcb⟩ := row_cases (Row.of_owns hrb)
    rw [nats_length, hDl] at hrca
    rw [nats_length, hEl] at hrcb
    have HDL := Lib.hid hDl; clear hDl hD
    have HEL := Lib.hid hEl; clear hEl hE
    rcases hrca with ⟨hn, _⟩ | ⟨_, ba, oa, ca, rfl, _, _, hcella⟩
    · exfalso; have := congrArg List.length hn; rw [nats_length, HDL.out] at this; cases this
    rcases hrcb with ⟨hn, _⟩ | ⟨_, bb, ob, cb, rfl, _, _, hcellb⟩
    · exfalso; have := congrArg List.length hn; rw [nats_length, HEL.out] at this; cases this
    have hca : Hid (∀ k, k < 35 → w2.cell? ⟨ba, oa + k, none⟩ = some (.int .i64 (D.getD k 0 : Nat))) := fun k hk => hcella k _ (nats_get D k (by rw [HDL.out]; exact hk))
    have hcb : Hid (∀ k, k < 35 → w2.cell? ⟨bb, ob + k, none⟩ = some (.int .i64 (E.getD k 0 : Nat))) := fun k hk => hcellb k _ (nats_get E k (by rw [HEL.out]; exact hk))
    clear hcella hcellb hra hrb hda hdb
    go_upto_block 0 with (fail)
    go_cut [9] from 46 to 59 (fun v9 wc => (∃ q : Bool, v9 = .bool q) ∧ Below w2.heap.size w2 wc)
    case first =>
      go_wp2_with fail
      go_loopw [9, 46] (fun o i wr => ∃ (k : Nat) (q : Bool), k ≤ 35 ∧ i = .int .i64 k ∧ o = .bool q ∧ Below w2.heap.size w2 wr) (fun _ i _ => 35 - (intOf i).toNat)
      case atStart => exact ⟨0, true, by omega, rfl, rfl, below_refl _⟩
      case round =>
        obtain ⟨k, q, hk, rfl, rfl, hbw⟩ := hrel
        by_cases hlt : k < 35
        · have c1 : wr.cell? ⟨ba, oa + k, none⟩ = some (.int .i64 (D.getD k 0 : Nat)) := by
            have := hca.out k hlt
            exact (hbw.cell (World.block_lt_of_cell? w2 _ this)).trans this
          have c2 : wr.cell? ⟨bb, ob + k, none⟩ = some (.int .i64 (E.getD k 0 : Nat)) := by
            have := hcb.out k hlt
            exact (hbw.cell (World.block_lt_of_cell? w2 _ this)).trans this
          generalize D.getD k 0 = d1 at *
          generalize E.getD k 0 = d2 at *
          cases q with
          | true =>
            go_wp2_with fail
            go_quiet (fail)
            go_wp2_with fail
            go_roundw
            case rel => exact ⟨k + 1, _, by omega, by go_num, rfl, below_drewN hbw _⟩
            case measure => simp [intOf]; omega
          | false =>
            go_wp2_with fail
            go_quiet (fail)
            go_wp2_with fail
            go_roundw
            case rel => exact ⟨k + 1, _, by omega, by go_num, rfl, below_drewN hbw _⟩
            case measure => simp [intOf]; omega
        · go_wp2_with fail
          go_meet
          case rel => exact ⟨⟨q, rfl⟩, hbw⟩
    case rest =>
      obtain ⟨⟨q, rfl⟩, hb3⟩ := hcut
      have hb3 := step2 hb2 hb3
      clear hca hcb
      go_wp2_with fail
      refine (hr1.out _ hb3).mono ?_
      rintro e w4 ⟨r, rfl, hr, hb4⟩
      have hb4 := step2 hb3 hb4
      go_wp2_with fail
      refine (hs1.out _ hb4).mono ?_
      rintro e w5 ⟨g, rfl, hg, hb5⟩
      have hb5 := step2 hb4 hb5
      have hsl : (signL s.data.toList 1 a.data.toList).length = 560 := by rw [signL, if_neg (by decide), sigL_length]
      have hpl : (publicL s.data.toList 0).length = 16 := by rw [publicL, if_neg (by decide), hashL_length]
      have hgl : g.size = 589 := by
        rw [← toList_size, hg.out]
        simp only [List.length_append, strL_length, hsl, hpl]
        rw [show ((560 : Nat) : Int) = 560 from rfl, itoa560, show Lib.itoa ((16 : Nat) : Int) = [49, 54] from itoa16]; rfl
      have hg1 : 589 ≤ g.size := by omega
      have hg2 : g.size ≤ 589 := by omega
      have HG : Hid (g.data.toList = treeSignL s.data.toList 1 1 a.data.toList) := by rw [Hid, sign_one]; exact hg.out
      have HSL := Lib.hid hsl
      have HPL := Lib.hid hpl
      clear hgl hsl hpl hr1 hs1
      have hve := Lib.hid (verify_any r b g w5 (he.below hb5) (by omega) (by omega))
      rw [HG.out, verify_other] at hve
      go_wp2_with fail
      refine hve.out.mono ?_
      rintro e w6 ⟨mm, gg, rfl, hmg, hb6⟩
      have hb6 := step2 hb5 hb6
      clear hve
      go_wp2_with fail
      refine (readString_any g 4 _ (by omega) (he.below hb6)).mono ?_
      rintro e w7 ⟨one, x, y, rfl, hone, hb7⟩
      have hb7 := step2 hb6 hb7
      have hrs := rdStr_strL [49, 32, 49, 32] (signL s.data.toList 1 a.data.toList) (strL (publicL s.data.toList 0))
      rw [← hg.out, show ((([49, 32, 49, 32] : List UInt8).length : Nat) : Int) = 4 from rfl, hone.out] at hrs
      simp only [Prod.mk.injEq] at hrs
      obtain ⟨h1, _, _⟩ := hrs
      have H1 := Lib.hid h1
      have z1 : one.size ≤ 560 := by rw [← toList_size, h1, HSL.out]; decide
      have hrc := Lib.hid (recoverR_any b one w7 (by omega) (by omega))
      clear hone h1
      go_wp2_with fail
      refine hrc.out.mono ?_
      rintro e w8 ⟨ot, rfl, hot, hb8⟩
      have hb8 := step2 hb7 hb8
      rw [H1.out] at hot
      clear hrc
      cases q with
      | true =>
        go_wp2_with fail
        refine (HF.out _ hb8).mono ?_
        rintro e w9 ⟨rfl, hb9⟩
        go_wp2_with fail
        go_ret
        exact ⟨rfl, step2 hb8 hb9⟩
      | false =>
        have hpu := Lib.hid (publicOf_any s 1 w8 (he.below hb8) (by omega) (by decide))
        go_wp2_with fail
        refine hpu.out.mono ?_
        rintro e w9 ⟨p, rfl, hp, hb9⟩
        have hb9 := step2 hb8 hb9
        clear hpu
        by_cases hop : ot.data.toList = p.data.toList
        · have x2 : (ot.toList == p.toList) = true := by rw [beq_lists]; simpa using hop
          clear hop
          go_wp2_with fail
          refine (HF.out _ hb9).mono ?_
          rintro e w10 ⟨rfl, hb10⟩
          go_wp2_with fail
          go_ret
          exact ⟨rfl, step2 hb9 hb10⟩
        have x2 : (ot.toList == p.toList) = false := by rw [beq_lists]; simpa using hop
        clear hop
        by_cases hnr : nodeL (publicL s.data.toList 0) (recoverL b.data.toList (signL s.data.toList 1 a.data.toList)) = r.data.toList
        · have h2 := hmg.out
          rw [if_pos hnr] at h2
          simp only [Prod.mk.injEq] at h2
          obtain ⟨rfl, rfl⟩ := h2
          have HNR := Lib.hid hnr
          clear hmg hnr
          have hmin : min (g.size : Int) 569 = 569 := by omega
          obtain ⟨t, ht⟩ : ∃ t, g.extract 569 g.size = t := ⟨_, rfl⟩
          have htl : Hid (t.data.toList = strL (publicL s.data.toList 0)) := by
            rw [Hid, ← ht, extract_list, hg.out, List.take_of_length_le (by rw [List.length_drop, ← hg.out, toList_size]; exact Nat.le_refl _)]
            rw [show 569 = ([49, 32, 49, 32] ++ strL (signL s.data.toList 1 a.data.toList)).length from by
              rw [List.length_append, strL_length, HSL.out, show ((560 : Nat) : Int) = 560 from rfl, itoa560]; rfl, List.drop_left]
          have hts : t.size ≤ 1000 := by rw [← ht, ByteArray.size_extract]; omega
          go_wp2_with fail
          have hrd := Lib.hid (readStrings_any t w9 (he.below hb9) (by omega))
          rw [htl.out] at hrd
          clear htl
          refine hrd.out.mono ?_
          rintro e w10 ⟨v, q, x, rfl, hq, hown, hb10⟩
          have hb10 := step2 hb9 hb10
          obtain ⟨B, hB, rfl, rfl⟩ : ∃ B : ByteArray, Hid (B.data.toList = publicL s.data.toList 0) ∧ q = [B] ∧ x = 0 := by
            have h1 := hq.out
            have h2 := rdStrs_flat [publicL s.data.toList 0]
            rw [show ([publicL s.data.toList 0].map strL).flatten = strL (publicL s.data.toList 0) from by simp] at h2
            rw [h2] at h1
            simp only [Prod.mk.injEq] at h1
            obtain ⟨h1, rfl⟩ := h1
            obtain ⟨B, hB, hq⟩ := single_of h1
            exact ⟨B, hB, hq, rfl⟩
          obtain ⟨gb, cap, rfl, _, _⟩ := World.ownsRow.form hown Nat.zero_lt_one
          have hadd : (⟨gb, 0, none⟩ : Addr).add 0 = ⟨gb, 0, none⟩ := rfl
          have hc := World.ownsRow.cells hown (g := gb) rfl 0 (.string B) rfl
          rw [hadd] at hc
          have zB : B.size ≤ 1073741824 := by rw [← toList_size, hB.out, HPL.out]; decide
          have zo : ot.size ≤ 1073741824 := by
            rw [← toList_size, hot.out, recoverL]
            split
            · rw [hashL_length]; decide
            · exact Nat.zero_le _
          have hnd := Lib.hid (nodeR_any B ot w10 zB zo)
          clear hown hq hrd hadd ht
          go_wp2_with fail
          refine hnd.out.mono ?_
          rintro e w11 ⟨c, rfl, hcc, hb11⟩
          have hb11 := step2 hb10 hb11
          obtain rfl : c = r := list_inj (by rw [hcc.out, ← HNR.out, hB.out, hot.out]; rfl)
          clear hcc hnd hc
          go_wp2_with fail
          refine (HF.out _ hb11).mono ?_
          rintro e w12 ⟨rfl, hb12⟩
          go_wp2_with fail
          go_ret
          exact ⟨rfl, step2 hb11 hb12⟩
        · have h2 := hmg.out
          rw [if_neg hnr] at h2
          simp only [Prod.mk.injEq] at h2
          obtain ⟨rfl, rfl⟩ := h2
          clear hmg hnr
          go_wp2_with fail
          refine (HF.out _ hb9).mono ?_
          rintro e w10 ⟨rfl, hb10⟩
          go_wp2_with fail
          go_ret
          exact ⟨rfl, step2 hb9 hb10⟩
end Go.Proofs.YtnjcdbgdjallaaaGreatDoor
