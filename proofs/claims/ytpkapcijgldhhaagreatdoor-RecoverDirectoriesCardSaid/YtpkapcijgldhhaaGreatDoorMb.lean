/-
  Recover: the public key of a signature, in the program and in the reference.
  Verify, as a plain function: the parts of a signature, the path to the root. No program in sight.
  parse, Verify: walked, in the program and in the reference.
  Verify: the reference.
-/
import Derived.Test.YtpkapcijgldhhaaGreatDoorMa
import Derived.Deep.CutBlock
import Derived.Deep.CutRange
namespace Go.Proofs.YtpkapcijgldhhaaGreatDoor
open Go.RowKit
/-- the ends of the first n chains, from a signature -/
def endsR (D : List Nat) (sig : List UInt8) : Nat → List (List UInt8)
  | 0 => []
  | i + 1 => endsR D sig i ++ [chainL ((sig.drop (16 * i)).take 16) (15 - D.getD i 0)]
def recoverL (m sig : List UInt8) : List UInt8 := if sig.length = 560 then hashL (lPublic :: endsR (digitsL m) sig 35) else []
def recoverE (sig : List UInt8) : Int := if sig.length = 560 then 0 else 4
theorem endsR_length (D : List Nat) (sig : List UInt8) : ∀ n, (endsR D sig n).length = n
  | 0 => rfl
  | n + 1 => by rw [endsR, List.length_append, endsR_length D sig n]; rfl
theorem chainL_le {x : List UInt8} (h : x.length ≤ 16) (n : Nat) : (chainL x n).length ≤ 16 := by
  cases n with
  | zero => exact h
  | succ n => rw [chainL, hashL_length]; exact Nat.le_refl _
theorem totS_endsR (D : List Nat) (sig : List UInt8) : ∀ n, totS ((endsR D sig n).map bA) ≤ 26 * n
  | 0 => Nat.le_refl _
  | n + 1 => by
    rw [endsR, List.map_append, List.map_cons, List.map_nil, totS_snoc]
    have := totS_endsR D sig n
    have : (bA (chainL ((sig.drop (16 * n)).take 16) (15 - D.getD n 0))).size ≤ 16 := chainL_le (by rw [List.length_take]; omega) _
    omega
set_option maxHeartbeats 1000000 in
set_option maxRecDepth 100000 in
theorem recover_any (m sig : ByteArray) (w : World) (he : Env w) (hm : m.size ≤ 1073741824) (hsg : sig.size ≤ 140737488355328) :
    Calls Tryz.prog 102 #[.string m, .string sig] w (RootP (recoverL m.data.toList sig.data.toList) (recoverE sig.data.toList) w) := by
  by_cases h5 : sig.size = 560
  case neg =>
    have e1 := Lib.hid (show recoverE sig.data.toList = 4 by rw [recoverE, if_neg (by rw [toList_size]; exact h5)])
    have e2 := Lib.hid (show recoverL m.data.toList sig.data.toList = [] by rw [recoverL, if_neg (by rw [toList_size]; exact h5)])
    rw [e1.out, e2.out]
    have hne : ((sig.size : Int) == 560) = false := by
      have : ¬ (sig.size : Int) = 560 := fun e => h5 (by omega)
      simpa using this
    have hne2 : ((sig.size : Int) != 560) = true := by rw [bne, hne]; rfl
    clear h5
    go_enter Tryz.func102, Tryz.ntmps102
    go_wp2_with fail
    go_ret2
    exact ⟨_, rfl, rfl, below_refl _⟩
  have e1 := Lib.hid (show recoverE sig.data.toList = 0 by rw [recoverE, if_pos (by rw [toList_size]; exact h5)])
  have e2 := Lib.hid (show recoverL m.data.toList sig.data.toList = hashL (lPublic :: endsR (digitsL m.data.toList) sig.data.toList 35) by rw [recoverL, if_pos (by rw [toList_size]; exact h5)])
  rw [e1.out, e2.out]
  have hne : ((sig.size : Int) == 560) = true := by
    have : (sig.size : Int) = 560 := by omega
    simpa using this
  have hne2 : ((sig.size : Int) != 560) = false := by rw [bne, hne]; rfl
  have hs1 : 560 ≤ sig.size := by omega
  have hs2 : sig.size ≤ 560 := by omega
  clear h5
  obtain ⟨i0, hi, hz0, hz1, hz2⟩ := info_parts infoStr
  have hdg := Lib.hid (digits_any m w he hm)
  go_enter Tryz.func102, Tryz.ntmps102
  go_wp2_with fail
  refine hdg.out.mono ?_
  rintro e w0 ⟨v, rfl, hrow, hb0⟩
  clear hdg
  obtain ⟨D, hD⟩ : ∃ D, digitsL m.data.toList = D := ⟨_, rfl⟩
  have hDl : D.length = 35 := by rw [← hD]; exact digitsL_length _
  have hDd : Hid (∀ k, D.getD k 0 ≤ 15) := by rw [← hD]; exact fun k => digitsL_getD _ k
  rw [hD] at hrow
  have HD := Lib.hid hD; clear hD
  obtain ⟨hrl, hrc⟩ := row_cases (Row.of_owns hrow)
  rw [nats_length, hDl] at hrc
  have HDL := Lib.hid hDl; clear hDl
  rcases hrc with ⟨hn, _⟩ | ⟨_, ba, oa, ca, rfl, hca, hca2, hcell⟩
  · exfalso; have := congrArg List.length hn; rw [nats_length, HDL.out] at this; cases this
  have hcl : Hid (∀ k, k < 35 → w0.cell? ⟨ba, oa + k, none⟩ = some (.int .i64 (D.getD k 0 : Nat))) := fun k hk => hcell k _ (nats_get D k (by rw [HDL.out]; exact hk))
  clear hcell hrow hrl
  go_wp2_with fail
  go_loopw [6, 15] (fun v i wr => ∃ k : Nat, k ≤ 35 ∧ i = .int .i64 k ∧ OwnStrs w0.heap.size wr v ((endsR D sig.data.toList k).map bA) ∧ Below w0.heap.size w0 wr) (fun _ i _ => 35 - (intOf i).toNat)
  case atStart => exact ⟨0, by omega, rfl, World.ownsRow_nil _ _ _ _, below_refl _⟩
  case round =>
    obtain ⟨k, hk2, rfl, hown, hbw⟩ := hrel
    by_cases hlt : k < 35
    · have ck : wr.cell? ⟨ba, oa + k, none⟩ = some (.int .i64 (D.getD k 0 : Nat)) := by
        have := hcl.out k hlt
        exact (hbw.cell (World.block_lt_of_cell? w0 _ this)).trans this
      obtain ⟨d, hd⟩ : ∃ d, D.getD k 0 = d := ⟨_, rfl⟩
      have hd15 : d ≤ 15 := by rw [← hd]; exact hDd.out k
      rw [hd] at ck
      have HDD := Lib.hid hd; clear hd
      obtain ⟨x, hx⟩ : ∃ x, sig.extract (k * 16) ((k + 1) * 16) = x := ⟨_, rfl⟩
      have hxl : Hid (x.data.toList = (sig.data.toList.drop (16 * k)).take 16) := by
        rw [Hid, ← hx, extract_list, show (k + 1) * 16 - k * 16 = 16 from by omega, show k * 16 = 16 * k from by omega]
      have hxs : x.size ≤ 16 := by rw [← toList_size, hxl.out, List.length_take]; omega
      have HX := Lib.hid hx
      clear hx
      have hwk := Lib.hid (fun W (hW : Env W) => walk_any x (15 - d) W hW (by omega) (by omega))
      go_wp2_with fail
      rw [HX.out, show (15 : Int) - (d : Int) = ((15 - d : Nat) : Int) from by omega]
      refine (hwk.out _ (he.below (step2 hb0 hbw))).mono ?_
      rintro e w2 ⟨u, rfl, hu, hb2⟩
      have hb12 := step2 hbw hb2
      have hown1 := hown.below hb2
      have hown1' : w2.ownsRow w0.heap.size 9 1 _ ((endsR D sig.data.toList k).map bA).length (((endsR D sig.data.toList k).map bA).map Value.string) := hown1
      have hln : ((endsR D sig.data.toList k).map bA).length = k := by rw [List.length_map, endsR_length]
      have hnx : ((endsR D sig.data.toList (k + 1)).map bA).map Value.string = ((endsR D sig.data.toList k).map bA).map Value.string ++ [.string u] := by
        rw [endsR, List.map_append, List.map_append, eq_bA hu.out, hxl.out, HDD.out]; rfl
      have hln2 : ((endsR D sig.data.toList (k + 1)).map bA).length = k + 1 := by rw [List.length_map, endsR_length]
      have HNX := Lib.hid hnx
      have HL2 := Lib.hid hln2
      rw [hln] at hown1'
      clear hln hnx hln2 hown1 hwk hown
      obtain ⟨xs, hxs2⟩ : ∃ xs, ((endsR D sig.data.toList k).map bA).map Value.string = xs := ⟨_, rfl⟩
      rw [hxs2] at hown1'
      have HXS := Lib.hid hxs2; clear hxs2
      go_wp2_with (at_builtin; refine wpList_append_own _ rfl _ _ 57 rfl w0.heap.size 9 i0 (.string ⟨#[]⟩) 1 16 Tryz.underlying57 hi hz0 hz1 hz2 rfl (by decide) _ _ _ rfl (hown1'.alloc _) ⟨w2.heap.size, 0, none⟩ 1 1 [.string u] rfl rfl (fun j x h => cell_str1 w2 u _ j x h) ?c2 ?c3 ?c4 ?c5 ?_)
      case c2 => intro x hx; simp only [List.mem_singleton] at hx; subst hx; rfl
      case c3 => unfold maxLen; omega
      case c4 => omega
      case c5 => have := hb12.size; simp; omega
      intro v' w3 hown2 hgrow _
      have hb3 := below_grownBy (hb12.alloc hb12.size _) (hown1'.alloc _) hgrow (by have := hb12.size; simp; omega)
      have hown3 : OwnStrs w0.heap.size w3 v' ((endsR D sig.data.toList (k + 1)).map bA) := by
        unfold OwnStrs
        rw [HL2.out, HNX.out, HXS.out]
        exact hown2
      clear hgrow hown2 hown1'
      go_wp2_with fail
      go_roundw
      case rel => exact ⟨k + 1, by omega, by go_num, hown3, hb3⟩
      case measure => simp [intOf]; omega
    · obtain rfl : k = 35 := by omega
      have hpb := Lib.hid (public_any _ (endsR D sig.data.toList 35) wr (he.below (step2 hb0 hbw)) hown.strs (by have := totS_endsR D sig.data.toList 35; omega))
      go_wp2_with fail
      refine hpb.out.mono ?_
      rintro e w1 ⟨t, rfl, hts, hb1⟩
      go_wp2_with fail
      go_ret2
      exact ⟨_, rfl, by rw [Hid, hts.out, HD.out], step2 (step2 hb0 hbw) hb1⟩
set_option maxHeartbeats 1000000 in
set_option maxRecDepth 100000 in
theorem recoverR_any (m sig : ByteArray) (w : World) (hm : m.size ≤ 1073741824) (hsg : sig.size ≤ 140737488355328) :
    Calls Tryz.prog 114 #[.string m, .string sig] w (RootP (recoverL m.data.toList sig.data.toList) (recoverE sig.data.toList) w) := by
  by_cases h5 : sig.size = 560
  case neg =>
    have e1 := Lib.hid (show recoverE sig.data.toList = 4 by rw [recoverE, if_neg (by rw [toList_size]; exact h5)])
    have e2 := Lib.hid (show recoverL m.data.toList sig.data.toList = [] by rw [recoverL, if_neg (by rw [toList_size]; exact h5)])
    rw [e1.out, e2.out]
    have hne : ((sig.size : Int) == 560) = false := by
      have : ¬ (sig.size : Int) = 560 := fun e => h5 (by omega)
      simpa using this
    have hne2 : ((sig.size : Int) != 560) = true := by rw [bne, hne]; rfl
    clear h5
    go_enter Tryz.func114, Tryz.ntmps114
    go_wp2_with fail
    go_ret2
    exact ⟨_, rfl, rfl, below_refl _⟩
  have e1 := Lib.hid (show recoverE sig.data.toList = 0 by rw [recoverE, if_pos (by rw [toList_size]; exact h5)])
  have e2 := Lib.hid (show recoverL m.data.toList sig.data.toList = hashL (lPublic :: endsR (digitsL m.data.toList) sig.data.toList 35) by rw [recoverL, if_pos (by rw [toList_size]; exact h5)])
  rw [e1.out, e2.out]
  have hne : ((sig.size : Int) == 560) = true := by
    have : (sig.size : Int) = 560 := by omega
    simpa using this
  have hne2 : ((sig.size : Int) != 560) = false := by rw [bne, hne]; rfl
  have hs1 : 560 ≤ sig.size := by omega
  have hs2 : sig.size ≤ 560 := by omega
  clear h5
  obtain ⟨i0, hi, hz0, hz1, hz2⟩ := info_parts infoStr
  have hown0 : OwnStrs w.heap.size (w.alloc (.cells #[.string ⟨#[112, 117, 98, 108, 105, 99]⟩] 9)) (.slice (some ⟨w.heap.size, 0, none⟩) 1 1) ([lPublic].map bA) := owns_full (base := w.heap.size) (e := 9) w #[.string ⟨#[112, 117, 98, 108, 105, 99]⟩] 1 (Nat.le_refl _) (by decide) rfl
  have hbel0 : Below w.heap.size w (w.alloc (.cells #[.string ⟨#[112, 117, 98, 108, 105, 99]⟩] 9)) := (below_refl w).alloc (Nat.le_refl _) _
  have hdg := Lib.hid (digitsR_any m (w.alloc (.cells #[.string ⟨#[112, 117, 98, 108, 105, 99]⟩] 9)) hm)
  go_enter Tryz.func114, Tryz.ntmps114
  go_wp2_with fail
  refine hdg.out.mono ?_
  rintro e w0 ⟨v, rfl, hrow, hb0⟩
  clear hdg
  have hown0 := hown0.below hb0
  have hb0 := step2 hbel0 hb0
  clear hbel0
  obtain ⟨D, hD⟩ : ∃ D, digitsL m.data.toList = D := ⟨_, rfl⟩
  have hDl : D.length = 35 := by rw [← hD]; exact digitsL_length _
  have hDd : Hid (∀ k, D.getD k 0 ≤ 15) := by rw [← hD]; exact fun k => digitsL_getD _ k
  rw [hD] at hrow
  have HD := Lib.hid hD; clear hD
  rw [hDl] at hrow
  have HDL := Lib.hid hDl; clear hDl
  obtain ⟨hlen, hrow⟩ := hrow
  rcases hrow with ⟨_, hn⟩ | ⟨g, cap, cur, rfl, _, hg, hnc, hcm, hcs, htake⟩
  · cases hn
  have hcur : Hid (∀ k, k < 35 → cur[k]? = some (.int .i64 (D.getD k 0 : Nat))) := fun k hk => by
    have h1 := nats_get D k (by rw [HDL.out]; exact hk)
    rw [← htake, List.getElem?_take, if_pos (by omega)] at h1
    rw [← h1, Array.getElem?_toList]
  have HG := Lib.hid hg
  clear hlen hg hcs htake
  go_wp2_with fail
  go_loopw [6, 16] (fun v i wr => ∃ k : Nat, k ≤ 35 ∧ i = .int .i64 k ∧ OwnStrs w.heap.size wr v ((lPublic :: endsR D sig.data.toList k).map bA) ∧ Hid (wr.heap[g]? = some (.cells cur 3 (0, 0))) ∧ Below w.heap.size w wr) (fun _ i _ => 35 - (intOf i).toNat)
  case atStart => exact ⟨0, by omega, rfl, hown0, HG, hb0⟩
  case round =>
    obtain ⟨k, hk2, rfl, hown, hc, hbw⟩ := hrel
    by_cases hlt : k < 35
    · obtain ⟨d, hd⟩ : ∃ d, D.getD k 0 = d := ⟨_, rfl⟩
      have hd15 : d ≤ 15 := by rw [← hd]; exact hDd.out k
      have ck : wr.cell? ⟨g, k, none⟩ = some (.int .i64 d) := by
        have := hcur.out k hlt
        rw [hd] at this
        unfold World.cell?
        rw [hc.out]
        simpa using this
      have HDD := Lib.hid hd; clear hd
      obtain ⟨x, hx⟩ : ∃ x, sig.extract (16 * k) (16 * k + 16) = x := ⟨_, rfl⟩
      have hxl : Hid (x.data.toList = (sig.data.toList.drop (16 * k)).take 16) := by
        rw [Hid, ← hx, extract_list, show 16 * k + 16 - 16 * k = 16 from by omega]
      have hxs : x.size ≤ 16 := by rw [← toList_size, hxl.out, List.length_take]; omega
      have HX := Lib.hid hx
      clear hx
      have hwk := Lib.hid (fun W => steps_any x (15 - d) W (by omega) (by omega))
      go_wp2_with fail
      rw [HX.out, show (15 : Int) - (d : Int) = ((15 - d : Nat) : Int) from by omega]
      refine (hwk.out _).mono ?_
      rintro e w2 ⟨u, rfl, hu, hb2⟩
      have hb12 := step2 hbw hb2
      have hlt2 := (Array.getElem?_eq_some_iff.1 hc.out).1
      have hc2 : Hid (w2.heap[g]? = some (.cells cur 3 (0, 0))) := by
        rw [Hid, hb2.block g hlt2]; exact hc.out
      have hown1 := hown.below hb2
      have hown1' : w2.ownsRow w.heap.size 9 1 _ ((lPublic :: endsR D sig.data.toList k).map bA).length (((lPublic :: endsR D sig.data.toList k).map bA).map Value.string) := hown1
      have hln : ((lPublic :: endsR D sig.data.toList k).map bA).length = k + 1 := by rw [List.length_map, List.length_cons, endsR_length]
      have hnx : ((lPublic :: endsR D sig.data.toList (k + 1)).map bA).map Value.string = ((lPublic :: endsR D sig.data.toList k).map bA).map Value.string ++ [.string u] := by
        rw [endsR, ← List.cons_append, List.map_append, List.map_append, eq_bA hu.out, hxl.out, HDD.out]; rfl
      have hln2 : ((lPublic :: endsR D sig.data.toList (k + 1)).map bA).length = k + 1 + 1 := by rw [List.length_map, List.length_cons, endsR_length]
      have HNX := Lib.hid hnx
      have HL2 := Lib.hid hln2
      rw [hln] at hown1'
      clear hln hnx hln2 hown1 hwk hown hlt2 hc ck
      obtain ⟨xs, hxs2⟩ : ∃ xs, ((lPublic :: endsR D sig.data.toList k).map bA).map Value.string = xs := ⟨_, rfl⟩
      rw [hxs2] at hown1'
      have HXS := Lib.hid hxs2; clear hxs2
      go_wp2_with (at_builtin; refine wpList_append_own _ rfl _ _ 57 rfl w.heap.size 9 i0 (.string ⟨#[]⟩) 1 16 Tryz.underlying57 hi hz0 hz1 hz2 rfl (by decide) _ _ _ rfl (hown1'.alloc _) ⟨w2.heap.size, 0, none⟩ 1 1 [.string u] rfl rfl (fun j x h => cell_str1 w2 u _ j x h) ?c2 ?c3 ?c4 ?c5 ?_)
      case c2 => intro x hx; simp only [List.mem_singleton] at hx; subst hx; rfl
      case c3 => unfold maxLen; omega
      case c4 => omega
      case c5 => have := hb12.size; simp; omega
      intro v' w3 hown2 hgrow _
      have hb3 := below_grownBy (hb12.alloc hb12.size _) (hown1'.alloc _) hgrow (by have := hb12.size; simp; omega)
      have hlt3 := (Array.getElem?_eq_some_iff.1 hc2.out).1
      have hc3 : Hid (w3.heap[g]? = some (.cells cur 3 (0, 0))) := block_kept (by rw [((Below.refl _ w2).alloc (Nat.le_refl _) _).block g hlt3]; exact hc2.out) (hown1'.alloc _) hgrow (by decide)
      have hown3 : OwnStrs w.heap.size w3 v' ((lPublic :: endsR D sig.data.toList (k + 1)).map bA) := by
        unfold OwnStrs
        rw [HL2.out, HNX.out, HXS.out]
        exact hown2
      clear hgrow hown2 hown1' hlt3 hc2
      go_wp2_with fail
      go_roundw
      case rel => exact ⟨k + 1, by omega, by go_num, hown3, hc3, hb3⟩
      case measure => simp [intOf]; omega
    · obtain rfl : k = 35 := by omega
      have hpb := Lib.hid (H_any _ ((lPublic :: endsR D sig.data.toList 35).map bA) wr hown.strs (by rw [List.map_cons, totS_cons]; have := totS_endsR D sig.data.toList 35; show 10 + 6 + _ ≤ _; omega))
      go_wp2_with fail
      refine hpb.out.mono ?_
      rintro e w1 ⟨t, rfl, hts, hb1⟩
      go_wp2_with fail
      go_ret2
      exact ⟨_, rfl, by rw [Hid, hts.out, map_bA, HD.out], step2 hbw hb1⟩
end Go.Proofs.YtpkapcijgldhhaaGreatDoor

namespace Go.Proofs.YtpkapcijgldhhaaGreatDoor
open Go.RowKit
theorem rdNum_next {l : List UInt8} {a : Nat} {n x : Int} (h : rdNum l a = (n, x, 0)) : ∃ m : Nat, x = m ∧ a < m ∧ m ≤ l.length ∧ -2147483648 ≤ n ∧ n ≤ 2147483647 := by
  by_cases ha : a ≤ l.length
  · rcases indexByte_cases (l.drop a) 32 with ⟨h1, _⟩ | ⟨k, h1, h2, _⟩
    · rw [rdNum_short ha (by rw [h1]; decide)] at h; simp at h
    · rw [List.length_drop] at h2
      cases hd : decB ((l.drop a).take k) with
      | false => rw [rdNum_syntax ha h1 hd] at h; simp at h
      | true =>
        by_cases hr : decVal ((l.drop a).take k) < -2147483648 ∨ 2147483647 < decVal ((l.drop a).take k)
        · rw [rdNum_range ha h1 hd hr] at h; simp at h
        · rw [rdNum_ok ha h1 hd (by omega) (by omega)] at h
          simp only [Prod.mk.injEq, and_true] at h
          exact ⟨a + k + 1, by omega, by omega, by omega, by omega, by omega⟩
  · rw [rdNum_arg (.inr (by omega))] at h; simp at h
theorem rdStr_shift (l : List UInt8) (a b : Nat) (h : a + b ≤ l.length) :
    rdStr l ((a + b : Nat) : Int) = ((rdStr (l.drop a) b).1, (if (rdStr (l.drop a) b).2.2 = 0 then (rdStr (l.drop a) b).2.1 + a else 0), (rdStr (l.drop a) b).2.2) := by
  have hb : b ≤ (l.drop a).length := by rw [List.length_drop]; omega
  have hd : l.drop (a + b) = (l.drop a).drop b := by rw [List.drop_drop]
  rcases indexByte_cases ((l.drop a).drop b) 58 with ⟨h1, _⟩ | ⟨k, h1, _⟩
  · rw [rdStr_short h (by rw [hd, h1]; decide), rdStr_short hb (by rw [h1]; decide)]; rfl
  · rw [rdStr_tail h (by rw [hd]; exact h1), rdStr_tail hb h1, hd, rdStr.rdTail, rdStr.rdTail]
    have e1 : (l.length ≤ a + b + k + 1 + val (((l.drop a).drop b).take k)) ↔ ((l.drop a).length ≤ b + k + 1 + val (((l.drop a).drop b).take k)) := by rw [List.length_drop]; omega
    have e2 : l.getD (a + b + k + 1 + val (((l.drop a).drop b).take k)) 0 = (l.drop a).getD (b + k + 1 + val (((l.drop a).drop b).take k)) 0 := by
      rw [List.getD_eq_getElem?_getD, List.getD_eq_getElem?_getD, List.getElem?_drop]
      congr 2; omega
    have e3 : l.drop (a + b + k + 1) = (l.drop a).drop (b + k + 1) := by rw [List.drop_drop]; congr 1; omega
    rw [e2, e3]
    generalize val (((l.drop a).drop b).take k) = v at *
    split
    · rfl
    · by_cases h3 : l.length ≤ a + b + k + 1 + v
      · rw [if_pos h3, if_pos (e1.1 h3)]; rfl
      · rw [if_neg h3, if_neg (fun h => h3 (e1.2 h))]
        split
        · rfl
        · simp only [if_true]
          congr 2; omega
theorem rdAll_shift (l : List UInt8) (a : Nat) : ∀ (fuel b : Nat) (acc : List (List UInt8)), a + b ≤ l.length → rdAll fuel l (a + b) acc = rdAll fuel (l.drop a) b acc := by
  intro fuel
  induction fuel with
  | zero => intro b acc _; rfl
  | succ fuel ih =>
    intro b acc hab
    by_cases hlt : a + b < l.length
    · have hlt2 : b < (l.drop a).length := by rw [List.length_drop]; omega
      have hs := rdStr_shift l a b (by omega)
      rcases hr : rdStr (l.drop a) b with ⟨x, n, e⟩
      rw [hr] at hs
      by_cases he : e = 0
      · subst he
        obtain ⟨m, rfl, hm1, hm2⟩ := rdStr_next hr
        rw [List.length_drop] at hm2
        have hs2 : rdStr l ((a + b : Nat) : Int) = (x, ((a + m : Nat) : Int), 0) := by rw [hs]; simp; omega
        rw [rdAll_step hlt hs2, rdAll_step hlt2 hr]
        exact ih m _ (by omega)
      · rw [rdAll_err hlt hs he, rdAll_err hlt2 hr he]
    · rw [rdAll_end hlt, rdAll_end (by rw [List.length_drop]; omega)]
theorem rdAll_fuel (l : List UInt8) : ∀ (f g a : Nat) (acc : List (List UInt8)), l.length ≤ a + f → l.length ≤ a + g → rdAll f l a acc = rdAll g l a acc := by
  intro f
  induction f with
  | zero =>
    intro g a acc hf _
    cases g with
    | zero => rfl
    | succ g => rw [rdAll_end (by omega)]; rfl
  | succ f ih =>
    intro g a acc hf hg
    by_cases hlt : a < l.length
    · cases g with
      | zero => omega
      | succ g =>
        rcases hr : rdStr l a with ⟨x, n, e⟩
        by_cases he : e = 0
        · subst he
          obtain ⟨m, rfl, hm1, hm2⟩ := rdStr_next hr
          rw [rdAll_step hlt hr, rdAll_step hlt hr]
          exact ih g m _ (by omega) (by omega)
        · rw [rdAll_err hlt hr he, rdAll_err hlt hr he]
    · rw [rdAll_end hlt]
      cases g with
      | zero => rfl
      | succ g => rw [rdAll_end hlt]
theorem rdAll_acc (l : List UInt8) (x : List UInt8) : ∀ (f a : Nat) (acc : List (List UInt8)), rdAll f l a (x :: acc) = if (rdAll f l a acc).2 = 0 then (x :: (rdAll f l a acc).1, 0) else ([], (rdAll f l a acc).2) := by
  intro f
  induction f with
  | zero => intro a acc; simp [rdAll]
  | succ f ih =>
    intro a acc
    by_cases hlt : a < l.length
    · rcases hr : rdStr l a with ⟨y, n, e⟩
      by_cases he : e = 0
      · subst he
        obtain ⟨m, rfl, hm1, hm2⟩ := rdStr_next hr
        rw [rdAll_step hlt hr, rdAll_step hlt hr, List.cons_append]
        exact ih m _
      · rw [rdAll_err hlt hr he, rdAll_err hlt hr he, if_neg he]
    · rw [rdAll_end hlt, rdAll_end hlt]; simp
theorem rdStr_le (l : List UInt8) (a : Nat) : (rdStr l a).1.length ≤ l.length := by
  by_cases ha : a ≤ l.length
  · rcases indexByte_cases (l.drop a) 58 with ⟨h1, _⟩ | ⟨k, h1, _⟩
    · rw [rdStr_short ha (by rw [h1]; decide)]; exact Nat.zero_le _
    · rw [rdStr_tail ha h1, rdStr.rdTail]
      split
      · exact Nat.zero_le _
      · split
        · exact Nat.zero_le _
        · split
          · exact Nat.zero_le _
          · simp only [List.length_take, List.length_drop]; omega
  · rw [rdStr_arg (.inr (by omega))]; exact Nat.zero_le _
theorem rdAll_le (l : List UInt8) : ∀ (f a : Nat) (acc : List (List UInt8)), (∀ x ∈ acc, x.length ≤ l.length) → ∀ x ∈ (rdAll f l a acc).1, x.length ≤ l.length := by
  intro f
  induction f with
  | zero => intro a acc h; exact h
  | succ f ih =>
    intro a acc h
    rw [rdAll]
    split
    · split
      · refine ih _ _ fun x hx => ?_
        rw [List.mem_append, List.mem_singleton] at hx
        rcases hx with hx | rfl
        · exact h x hx
        · exact rdStr_le l a
      · intro x hx; cases hx
    · exact h
theorem rdStrs_le (l : List UInt8) : ∀ x ∈ (rdStrs l).1, x.length ≤ l.length := rdAll_le l _ _ _ (fun x hx => by cases hx)
theorem rdStrs_nil : rdStrs [] = ([], 0) := rfl
theorem rdStrs_fail {l x : List UInt8} {n e : Int} (h0 : 0 < l.length) (h : rdStr l 0 = (x, n, e)) (he : e ≠ 0) : rdStrs l = ([], e) := rdAll_err h0 h he
theorem rdStrs_cons {l x : List UInt8} {n : Nat} (h0 : 0 < l.length) (h : rdStr l 0 = (x, (n : Int), 0)) :
    rdStrs l = if (rdStrs (l.drop n)).2 = 0 then (x :: (rdStrs (l.drop n)).1, 0) else ([], (rdStrs (l.drop n)).2) := by
  obtain ⟨m, hm, h1, h2⟩ := rdStr_next (a := 0) h
  obtain rfl : n = m := by omega
  have e1 : rdStrs l = rdAll l.length l n [x] := rdAll_step h0 h
  have e2 := rdAll_shift l n l.length 0 [] (by omega)
  have e3 : rdAll l.length (l.drop n) 0 [] = rdStrs (l.drop n) := rdAll_fuel _ _ _ _ _ (by rw [List.length_drop]; omega) (by omega)
  rw [e1, rdAll_acc, show n = n + 0 from rfl, e2, e3]; rfl
/-- the parts of a signature: the key's number, its strings -/
def parseL (l : List UInt8) : Option (Int × List (List UInt8)) :=
  if (rdNum l 0).2.2 ≠ 0 then none
  else if (rdNum l (rdNum l 0).2.1).2.2 ≠ 0 ∨ (rdNum l (rdNum l 0).2.1).1 < 0 ∨ 6 < (rdNum l (rdNum l 0).2.1).1 ∨ (rdNum l 0).1 < 0 ∨ ((2 ^ (rdNum l (rdNum l 0).2.1).1.toNat : Nat) : Int) ≤ (rdNum l 0).1 then none
  else if (rdStrs (l.drop (rdNum l (rdNum l 0).2.1).2.1.toNat)).2 = 0 ∧ ((rdStrs (l.drop (rdNum l (rdNum l 0).2.1).2.1.toNat)).1.length : Int) = (rdNum l (rdNum l 0).2.1).1 + 1 then
    some ((rdNum l 0).1, (rdStrs (l.drop (rdNum l (rdNum l 0).2.1).2.1.toNat)).1)
  else none
theorem parseL_1 {l : List UInt8} {k a e : Int} (h : rdNum l 0 = (k, a, e)) (he : e ≠ 0) : parseL l = none := by rw [parseL, h, if_pos he]
theorem parseL_2 {l : List UInt8} {k a h b f : Int} (h1 : rdNum l 0 = (k, a, 0)) (h2 : rdNum l a = (h, b, f)) (hf : f ≠ 0 ∨ h < 0 ∨ 6 < h ∨ k < 0 ∨ ((2 ^ h.toNat : Nat) : Int) ≤ k) : parseL l = none := by
  rw [parseL, h1, if_neg (by simp)]; simp only; rw [h2, if_pos hf]
theorem parseL_3 {l : List UInt8} {k a h b e : Int} {p : List (List UInt8)} (h1 : rdNum l 0 = (k, a, 0)) (h2 : rdNum l a = (h, b, 0)) (hf : ¬ (h < 0 ∨ 6 < h ∨ k < 0 ∨ ((2 ^ h.toNat : Nat) : Int) ≤ k))
    (h3 : rdStrs (l.drop b.toNat) = (p, e)) : parseL l = if e = 0 ∧ (p.length : Int) = h + 1 then some (k, p) else none := by
  rw [parseL, h1, if_neg (by simp)]; simp only
  rw [h2, if_neg (by simp only [ne_eq, not_true_eq_false, false_or]; exact hf), h3]
theorem parseL_some {l : List UInt8} {k : Int} {p : List (List UInt8)} (h : parseL l = some (k, p)) : 0 ≤ k ∧ k < 64 ∧ 1 ≤ p.length ∧ p.length ≤ 7 ∧ (k : Int) < (2 ^ (p.length - 1) : Nat) := by
  unfold parseL at h
  split at h
  · cases h
  · split at h
    · cases h
    · rename_i h1 h2
      split at h
      · rename_i h3
        simp only [Option.some.injEq, Prod.mk.injEq] at h
        obtain ⟨rfl, rfl⟩ := h
        generalize (rdStrs (l.drop (rdNum l (rdNum l 0).2.1).2.1.toNat)).1.length = z at *
        generalize (rdNum l (rdNum l 0).2.1).1 = hh at *
        generalize (rdNum l 0).1 = kk at *
        obtain ⟨n, rfl⟩ := Int.eq_ofNat_of_zero_le (show 0 ≤ hh by omega)
        have hn : n ≤ 6 := by omega
        have hp := pow_le n hn
        obtain rfl : z = n + 1 := by omega
        rw [Int.toNat_natCast] at h2
        rw [Nat.add_sub_cancel]
        omega
      · cases h
theorem parseL_le {l : List UInt8} {k : Int} {p : List (List UInt8)} (h : parseL l = some (k, p)) : ∀ x ∈ p, x.length ≤ l.length := by
  unfold parseL at h
  split at h
  · cases h
  · split at h
    · cases h
    · split at h
      · simp only [Option.some.injEq, Prod.mk.injEq] at h
        obtain ⟨_, rfl⟩ := h
        intro x hx
        have := rdStrs_le _ x hx
        rw [List.length_drop] at this
        omega
      · cases h
theorem parse_tail {l one : List UInt8} {k a c f : Int} {n b : Nat} (h1 : rdNum l 0 = (k, a, 0)) (h2 : rdNum l a = ((n : Int), (b : Int), 0)) (hf : ¬ ((n : Int) < 0 ∨ 6 < (n : Int) ∨ k < 0 ∨ ((2 ^ n : Nat) : Int) ≤ k)) (hb : b ≤ l.length)
    (h3 : rdStr l b = (one, c, f)) : (f ≠ 0 → parseL l = none) ∧ (f = 0 → ∀ p e, rdStrs (l.drop c.toNat) = (p, e) → parseL l = if e = 0 ∧ p.length = n then some (k, one :: p) else none) := by
  have H : ∀ p e, rdStrs (l.drop b) = (p, e) → parseL l = if e = 0 ∧ (p.length : Int) = (n : Int) + 1 then some (k, p) else none := fun p e h => parseL_3 h1 h2 (by rw [Int.toNat_natCast]; exact hf) (by rw [Int.toNat_natCast]; exact h)
  have hs := rdStr_shift l b 0 (by omega)
  rw [Nat.add_zero, h3] at hs
  rcases hr : rdStr (l.drop b) ((0 : Nat) : Int) with ⟨x, d, e⟩
  rw [hr] at hs
  simp only [Prod.mk.injEq] at hs
  obtain ⟨rfl, hc, rfl⟩ := hs
  by_cases hbl : b < l.length
  · have hlen : 0 < (l.drop b).length := by rw [List.length_drop]; omega
    refine ⟨fun hne => ?_, fun h0 p e hp => ?_⟩
    · rw [H _ _ (rdStrs_fail hlen hr hne), if_neg (fun h => hne h.1)]
    · subst h0
      obtain ⟨m, rfl, hm1, hm2⟩ := rdStr_next hr
      rw [if_pos rfl] at hc
      obtain rfl : c = ((b + m : Nat) : Int) := by omega
      rw [Int.toNat_natCast] at hp
      have hcons := rdStrs_cons hlen hr
      rw [List.drop_drop, hp] at hcons
      by_cases he : e = 0
      · subst he
        rw [if_pos rfl] at hcons
        rw [H _ _ hcons]
        by_cases hl : p.length = n
        · rw [if_pos ⟨rfl, by show ((p.length + 1 : Nat) : Int) = _; omega⟩, if_pos ⟨rfl, hl⟩]
        · rw [if_neg (fun h => hl (by have h2 : ((p.length + 1 : Nat) : Int) = (n : Int) + 1 := h.2; omega)), if_neg (fun h => hl h.2)]
      · rw [if_neg he] at hcons
        rw [H _ _ hcons, if_neg (fun h => he h.1), if_neg (fun h => he h.1)]
  · have hd : l.drop b = [] := List.drop_eq_nil_of_le (by omega)
    have hnone : parseL l = none := by
      rw [H [] 0 (by rw [hd]; rfl), if_neg (fun h => by have := h.2; simp only [List.length_nil] at this; omega)]
    refine ⟨fun _ => hnone, fun h0 => ?_⟩
    subst h0
    obtain ⟨m, rfl, hm1, hm2⟩ := rdStr_next hr
    rw [hd] at hm2
    simp only [List.length_nil] at hm2
    omega
/-- up the path: what stands at the root, or nothing where a node has another length -/
def climb (key : Nat) : List (List UInt8) → Nat → List UInt8 → Option (List UInt8)
  | [], _, a => some a
  | o :: r, i, a => if o.length = 16 then climb key r (i + 1) (if key / 2 ^ i % 2 = 0 then nodeL a o else nodeL o a) else none
def verifyL (root m sig : List UInt8) : Int × Int :=
  match parseL sig with
  | none => (0, 17)
  | some (key, parts) =>
    if recoverE (parts.getD 0 []) = 0 then
      match climb key.toNat (parts.drop 1) 0 (recoverL m (parts.getD 0 [])) with
      | none => (0, 17)
      | some a => if a = root then (key, 0) else (0, 17)
    else (0, 17)
theorem verifyL_none {root m sig : List UInt8} (h : parseL sig = none) : verifyL root m sig = (0, 17) := by rw [verifyL, h]
theorem verifyL_short {root m sig : List UInt8} {k : Int} {p : List (List UInt8)} (h : parseL sig = some (k, p)) (hr : recoverE (p.getD 0 []) ≠ 0) : verifyL root m sig = (0, 17) := by rw [verifyL, h]; simp only; rw [if_neg hr]
theorem verifyL_path {root m sig : List UInt8} {k : Int} {p : List (List UInt8)} (h : parseL sig = some (k, p)) (hr : recoverE (p.getD 0 []) = 0) (hc : climb k.toNat (p.drop 1) 0 (recoverL m (p.getD 0 [])) = none) : verifyL root m sig = (0, 17) := by rw [verifyL, h]; simp only; rw [if_pos hr, hc]
theorem verifyL_root {root m sig a : List UInt8} {k : Int} {p : List (List UInt8)} (h : parseL sig = some (k, p)) (hr : recoverE (p.getD 0 []) = 0) (hc : climb k.toNat (p.drop 1) 0 (recoverL m (p.getD 0 [])) = some a) :
    verifyL root m sig = if a = root then (k, 0) else (0, 17) := by rw [verifyL, h]; simp only; rw [if_pos hr, hc]
end Go.Proofs.YtpkapcijgldhhaaGreatDoor

namespace Go.Proofs.YtpkapcijgldhhaaGreatDoor
open Go.RowKit
theorem OwnStrs.form' {base : Nat} {w : World} {v : Value} {p : List ByteArray} (h : OwnStrs base w v p) : p.length ≤ maxLen ∧ ∃ a c, v = .slice a p.length c := by
  obtain ⟨h1, h2⟩ := row_cases h.strs
  simp only [List.length_map] at h1 h2
  refine ⟨h1, ?_⟩
  rcases h2 with ⟨h0, a, c, rfl, _⟩ | ⟨_, b, o, c, rfl, _⟩
  · obtain rfl : p = [] := by simpa using h0
    exact ⟨a, c, rfl⟩
  · exact ⟨_, _, rfl⟩
def ParseP (l : List UInt8) (w : World) (e : Ending) (w' : World) : Prop :=
  ∃ (key : Int) (v : Value) (k : List ByteArray) (ok : Bool), e = .returned (.tuple #[.int .i64 key, v, .bool ok]) ∧ OwnStrs w.heap.size w' v k ∧ Hid (ok = true → parseL l = some (key, k.map fun s => s.data.toList)) ∧ Hid (ok = false → parseL l = none) ∧ Below w.heap.size w w'
theorem ParseP.no {l : List UInt8} {w w' : World} (h : parseL l = none) (hb : Below w.heap.size w w') : ParseP l w (.returned (.tuple #[.int .i64 0, .slice none 0 0, .bool false])) w' :=
  ⟨0, .slice none 0 0, [], false, rfl, World.ownsRow_nil _ _ _ _, (fun e => by cases e), fun _ => h, hb⟩
theorem neq0V {x : Int} (h : ¬ x = 0) : (x == 0) = false ∧ (x != 0) = true := by
  have : (x == 0) = false := by simpa using h
  exact ⟨this, by rw [bne, this]; rfl⟩
set_option maxHeartbeats 1000000 in
set_option maxRecDepth 100000 in
theorem parse_any (s : ByteArray) (w : World) (he : Env w) (hs : s.size ≤ 1099511627776) :
    Calls Tryz.prog 101 #[.string s] w (ParseP s.data.toList w) := by
  go_enter Tryz.func101, Tryz.ntmps101
  go_wp2_with fail
  refine (readNumber_any s 0 _ (by omega) he).mono ?_
  rintro e w1 ⟨k, a, x, rfl, h1, hb1⟩
  by_cases hx : x = 0
  case neg =>
    obtain ⟨x1, x2⟩ := neq0V hx
    have hp := Lib.hid (parseL_1 h1.out hx)
    clear hx h1
    go_wp2_with fail
    go_ret3
    exact .no hp.out hb1
  subst hx
  obtain ⟨a, rfl, ha0, ha1, hk0, hk1⟩ := rdNum_next (a := 0) h1.out
  rw [toList_size] at ha1
  go_wp2_with fail
  refine (readNumber_any s a _ (by omega) (he.below hb1)).mono ?_
  rintro e w2 ⟨h, b, y, rfl, h2, hb2⟩
  have hb12 := step2 hb1 hb2
  by_cases hy : y = 0
  case neg =>
    obtain ⟨x1, x2⟩ := neq0V hy
    have hp := Lib.hid (parseL_2 h1.out h2.out (.inl hy))
    clear hy h1 h2
    go_wp2_with fail
    go_ret3
    exact .no hp.out hb12
  subst hy
  by_cases h0 : h < 0
  · have hp := Lib.hid (parseL_2 h1.out h2.out (.inr (.inl h0)))
    clear h1 h2
    go_wp2_with fail
    go_ret3
    exact .no hp.out hb12
  by_cases h6 : 6 < h
  · have hp := Lib.hid (parseL_2 h1.out h2.out (.inr (.inr (.inl h6))))
    clear h1 h2
    have h0' : 0 ≤ h := by omega
    go_wp2_with fail
    go_ret3
    exact .no hp.out hb12
  obtain ⟨n, rfl⟩ := Int.eq_ofNat_of_zero_le (Int.not_lt.1 h0)
  have hn : n ≤ 6 := by omega
  by_cases k0 : k < 0
  · have hp := Lib.hid (parseL_2 h1.out h2.out (.inr (.inr (.inr (.inl k0)))))
    clear h1 h2 h0 h6
    go_wp2_with fail
    go_ret3
    exact .no hp.out hb12
  have hwp := wrap_pow n hn
  have hpl := pow_le n hn
  by_cases k1 : (2 ^ n : Nat) ≤ k
  · have hp := Lib.hid (parseL_2 h1.out h2.out (.inr (.inr (.inr (.inr k1)))))
    obtain ⟨N, hN⟩ : ∃ N, 2 ^ n = N := ⟨_, rfl⟩
    rw [hN] at hwp hpl k1
    have k0' : 0 ≤ k := by omega
    clear h1 h2 h0 h6 hN
    go_wp2_with fail
    go_ret3
    exact .no hp.out hb12
  obtain ⟨b, rfl, hb0, hbs, _⟩ := rdNum_next (a := a) h2.out
  rw [toList_size] at hbs
  have H3 := Lib.hid (show ∀ p e, rdStrs (s.data.toList.drop b) = (p, e) → parseL s.data.toList = if e = 0 ∧ (p.length : Int) = n + 1 then some (k, p) else none from
    fun p e h3 => parseL_3 h1.out h2.out (by rw [Int.toNat_natCast]; omega) (by rw [Int.toNat_natCast]; exact h3))
  obtain ⟨N, hN⟩ : ∃ N, 2 ^ n = N := ⟨_, rfl⟩
  rw [hN] at hwp hpl k1
  clear h1 h2 h0 h6 hN ha0 ha1
  obtain ⟨t, ht⟩ : ∃ t, s.extract b s.size = t := ⟨_, rfl⟩
  have htl : Hid (t.data.toList = s.data.toList.drop b) := by
    rw [Hid, ← ht, extract_list, List.take_of_length_le]
    rw [List.length_drop, toList_size]; exact Nat.le_refl _
  have hts : t.size ≤ 1099511627776 := by rw [← ht, ByteArray.size_extract]; omega
  have hrd := Lib.hid (readStrings_any t w2 (he.below hb12) hts)
  go_wp2_with fail
  refine hrd.out.mono ?_
  rintro e w3 ⟨v, p, x, rfl, h3, hown, hb3⟩
  have hb13 := step2 hb12 hb3
  have h4 := H3.out (p.map fun s => s.data.toList) x (by rw [← htl.out]; exact h3.out)
  rw [List.length_map] at h4
  have hown3 : OwnStrs w.heap.size w3 v p := by
    obtain ⟨q1, q2⟩ := hown
    exact ⟨q1, q2.imp id fun ⟨g, cap, cur, e1, hg, r⟩ => ⟨g, cap, cur, e1, by have := hb12.size; omega, r⟩⟩
  obtain ⟨hpm, fa, fc, hv⟩ := hown3.form'
  unfold maxLen at hpm
  rw [hv]
  rw [hv] at hown3
  have H4 := Lib.hid h4
  have HT := Lib.hid ht
  clear h3 hown h4 H3 ht hv hrd
  by_cases hx : x = 0
  case neg =>
    obtain ⟨x1, x2⟩ := neq0V hx
    have hp := Lib.hid (show parseL s.data.toList = none by rw [H4.out, if_neg (fun h => hx h.1)])
    clear hx
    go_wp2_with fail
    go_ret3
    exact ⟨_, _, p, false, rfl, hown3, (fun e => by cases e), fun _ => hp.out, hb13⟩
  subst hx
  by_cases hl : p.length = n + 1
  · have hp := Lib.hid (show parseL s.data.toList = some (k, p.map fun s => s.data.toList) by rw [H4.out, if_pos ⟨rfl, by omega⟩])
    have hq : ((p.length : Int) == (n : Int) + 1) = true := by simp; omega
    clear hl
    go_wp2_with fail
    go_ret3
    exact ⟨_, _, p, true, rfl, hown3, fun _ => hp.out, (fun e => by cases e), hb13⟩
  · have hp := Lib.hid (show parseL s.data.toList = none by rw [H4.out, if_neg (fun h => hl (by omega))])
    have hq : ((p.length : Int) == (n : Int) + 1) = false := by
      have : ¬ (p.length : Int) = (n : Int) + 1 := by omega
      simpa using this
    clear hl
    go_wp2_with fail
    go_ret3
    exact ⟨_, _, p, false, rfl, hown3, (fun e => by cases e), fun _ => hp.out, hb13⟩
def VerP (r : Int × Int) (w : World) (e : Ending) (w' : World) : Prop := ∃ n x : Int, e = .returned (.tuple #[.int .i64 n, .int .i64 x]) ∧ Hid (r = (n, x)) ∧ Below w.heap.size w w'
theorem climb_snoc (key : Nat) (P : List (List UInt8)) (i : Nat) (o a : List UInt8) (h : P[i]? = some o) :
    climb key (P.drop i) i a = if o.length = 16 then climb key (P.drop (i + 1)) (i + 1) (if key / 2 ^ i % 2 = 0 then nodeL a o else nodeL o a) else none := by
  obtain ⟨hlt, rfl⟩ := List.getElem?_eq_some_iff.1 h
  rw [List.drop_eq_getElem_cons hlt, climb]
theorem shr_bit0 : ∀ k : Nat, k < 64 → ∀ i : Nat, i < 7 → k / 2 ^ i % 2 = 0 → bits BinOp.and IntKind.i64 ((k : Int) / 2 ^ i) 1 = 0 := by decide +kernel
theorem shr_bit1 : ∀ k : Nat, k < 64 → ∀ i : Nat, i < 7 → ¬ k / 2 ^ i % 2 = 0 → bits BinOp.and IntKind.i64 ((k : Int) / 2 ^ i) 1 = 1 := by decide +kernel
set_option maxHeartbeats 1000000 in
set_option maxRecDepth 100000 in
theorem verify_any (root m sig : ByteArray) (w : World) (he : Env w) (hm : m.size ≤ 1073741824) (hs : sig.size ≤ 1073741824) :
    Calls Tryz.prog 63 #[.string root, .string m, .string sig] w (VerP (verifyL root.data.toList m.data.toList sig.data.toList) w) := by
  have hpa := Lib.hid (parse_any sig w he (by omega))
  go_enter Tryz.func63, Tryz.ntmps63
  go_wp2_with fail
  refine hpa.out.mono ?_
  rintro e w1 ⟨key, v, p, ok, rfl, hown, hok, hno, hb1⟩
  clear hpa
  cases ok with
  | false =>
    have hp := Lib.hid (verifyL_none (root := root.data.toList) (m := m.data.toList) (hno.out rfl))
    clear hok hno
    go_wp2_with fail
    go_ret2
    exact ⟨_, _, rfl, hp.out, hb1⟩
  | true =>
    have hps := hok.out rfl
    obtain ⟨k0, k1, p1, p7, kp⟩ := parseL_some hps
    have hple := parseL_le hps
    rw [List.length_map] at p1 p7 kp
    obtain ⟨key, rfl⟩ := Int.eq_ofNat_of_zero_le k0
    obtain ⟨n, hln⟩ : ∃ n, p.length = n + 1 := ⟨p.length - 1, by omega⟩
    unfold OwnStrs at hown
    rw [hln] at hown p7
    have hown0 := hown
    obtain ⟨_, ⟨_, h0⟩ | ⟨g, cap, cur, rfl, _, _, hcap1, hcap2, _⟩⟩ := hown
    · cases h0
    have hcells : Hid (∀ (i : Nat) (u : ByteArray), p[i]? = some u → w1.cell? ⟨g, i, none⟩ = some (.string u)) := fun i u hu => by
      have hadd : (⟨g, 0, none⟩ : Addr).add i = ⟨g, i, none⟩ := by unfold Addr.add; split <;> simp_all
      have := World.ownsRow.cells hown0 (g := g) rfl i (.string u) (by rw [List.getElem?_map, hu]; rfl)
      rw [hadd] at this; exact this
    unfold maxLen at hcap2
    obtain ⟨p0, hp0⟩ : ∃ p0, p[0]? = some p0 := ⟨_, List.getElem?_eq_getElem (by omega)⟩
    have c0 := hcells.out 0 p0 hp0
    have hP0 : (p.map fun s => s.data.toList).getD 0 [] = p0.data.toList := by rw [List.getD_eq_getElem?_getD, List.getElem?_map, hp0]; rfl
    have hle : ∀ (i : Nat) (u : ByteArray), p[i]? = some u → u.size ≤ 1073741824 := fun i u hu => by
      have := hple u.data.toList (List.mem_map_of_mem (List.mem_of_getElem? hu))
      rw [toList_size, toList_size] at this; omega
    have hz0 := hle 0 p0 hp0
    have HLE := Lib.hid hle
    have HPS := Lib.hid hps
    have HP0 := Lib.hid hP0
    have hrc := Lib.hid (recover_any m p0 w1 (he.below hb1) hm (by omega))
    have hlt0 : Hid (∀ i, i < n → ∃ u : ByteArray, p[i + 1]? = some u) := fun i hi => ⟨_, List.getElem?_eq_getElem (by omega)⟩
    have HLN := Lib.hid hln
    clear hok hno hps hple hP0 hown0 hp0 k0 hle kp p1 hln
    go_wp2_with fail
    refine hrc.out.mono ?_
    rintro e w2 ⟨a0, rfl, ha0, hb2⟩
    have hb12 := step2 hb1 hb2
    by_cases hE : recoverE p0.data.toList = 0
    case neg =>
      obtain ⟨x1, x2⟩ := neq0V hE
      have hp := Lib.hid (verifyL_short (root := root.data.toList) (m := m.data.toList) HPS.out (by rw [HP0.out]; exact hE))
      clear hE
      go_wp2_with fail
      go_ret2
      exact ⟨_, _, rfl, hp.out, hb12⟩
    rw [hE]
    have hE2 : Hid (recoverE ((p.map fun s => s.data.toList).getD 0 []) = 0) := by rw [Hid, HP0.out]; exact hE
    have HCN := Lib.hid (fun h => verifyL_path (root := root.data.toList) (m := m.data.toList) HPS.out hE2.out h)
    have HCS := Lib.hid (fun a h => verifyL_root (root := root.data.toList) (m := m.data.toList) (a := a) HPS.out hE2.out h)
    rw [HP0.out, ← ha0.out, Int.toNat_natCast] at HCN HCS
    have za0 : a0.size ≤ 1073741824 := by
      rw [← toList_size, ha0.out, recoverL]
      split
      · rw [hashL_length]; decide
      · exact Nat.zero_le _
    clear hE hrc c0
    have hrest : Hid (((p.map fun s => s.data.toList).drop 1).length = n) := by rw [Hid, List.length_drop, List.length_map, HLN.out]; rfl
    obtain ⟨P, hP⟩ : ∃ P, (p.map fun s => s.data.toList).drop 1 = P := ⟨_, rfl⟩
    rw [hP] at HCN HCS hrest
    have HPP := Lib.hid hP
    clear hP
    have key64 : key < 64 := by omega
    clear k1
    have hroot : ∀ b : ByteArray, Hid (climb key P 0 a0.data.toList = some b.data.toList) → (b.toList == root.toList) = true ∧ (b.toList != root.toList) = false ∧ Hid (verifyL root.data.toList m.data.toList sig.data.toList = ((key : Int), 0)) ∨
        (b.toList == root.toList) = false ∧ (b.toList != root.toList) = true ∧ Hid (verifyL root.data.toList m.data.toList sig.data.toList = (0, 17)) := fun b hb => by
      have hv := HCS.out _ hb.out
      rw [bne, beq_lists]
      by_cases hr : b.data.toList = root.data.toList
      · left; rw [if_pos hr] at hv; exact ⟨by simpa using hr, by simpa using hr, hv⟩
      · right; rw [if_neg hr] at hv; exact ⟨by simpa using hr, by simpa using hr, hv⟩
    have HR := Lib.hid hroot; clear hroot
    by_cases hc1 : cap = 1
    · subst hc1
      obtain rfl : n = 0 := by omega
      have hP0 : P = [] := List.eq_nil_of_length_eq_zero hrest.out
      have hcl : Hid (climb key P 0 a0.data.toList = some a0.data.toList) := by rw [Hid, hP0, climb]
      rcases HR.out a0 hcl with ⟨x1, x2, hv⟩ | ⟨x1, x2, hv⟩
      · go_wp2_with fail
        refine wp_loop_rounds 1 ?_; rw [rounds_succ]
        go_wp2_with fail
        go_ret2
        exact ⟨_, _, rfl, hv, hb12⟩
      · go_wp2_with fail
        refine wp_loop_rounds 1 ?_; rw [rounds_succ]
        go_wp2_with fail
        go_ret2
        exact ⟨_, _, rfl, hv, hb12⟩
    go_wp2_with fail
    go_loopw [11, 36] (fun o i wr => ∃ (k : Nat) (b : ByteArray), k ≤ n ∧ i = .int .i64 k ∧ o = .string b ∧ b.size ≤ 1073741824 ∧ Hid (climb key P 0 a0.data.toList = climb key (P.drop k) k b.data.toList) ∧ Below w2.heap.size w2 wr) (fun _ i _ => n - (intOf i).toNat)
    case atStart => exact ⟨0, a0, by omega, rfl, rfl, za0, rfl, below_refl _⟩
    case round =>
      obtain ⟨k, b, hk2, rfl, rfl, hbs, hcl, hbw⟩ := hrel
      by_cases hlt : k < n
      · obtain ⟨o, ho⟩ := hlt0.out k hlt
        have co := hcells.out _ o ho
        rw [Nat.add_comm] at co
        have co2 := ((hb2.cell (World.block_lt_of_cell? w1 _ co)).trans co)
        have ck := (hbw.cell (World.block_lt_of_cell? w2 _ co2)).trans co2
        have hPk : P[k]? = some o.data.toList := by
          rw [← HPP.out, List.getElem?_drop, Nat.add_comm, List.getElem?_map, ho]; rfl
        have hos := HLE.out _ o ho
        have hstep := climb_snoc key P k o.data.toList b.data.toList hPk
        rw [← hcl.out] at hstep
        clear co co2 ho hPk
        by_cases h16 : o.size = 16
        case neg =>
          have hv : Hid (verifyL root.data.toList m.data.toList sig.data.toList = (0, 17)) := HCN.out (by rw [hstep, if_neg (by rw [toList_size]; exact h16)])
          have hne : ((o.size : Int) == 16) = false := by
            have : ¬ (o.size : Int) = 16 := fun e => h16 (by omega)
            simpa using this
          have hne2 : ((o.size : Int) != 16) = true := by rw [bne, hne]; rfl
          clear h16 hstep
          go_wp2_with fail
          go_ret2
          exact ⟨_, _, rfl, hv, step2 hb12 hbw⟩
        rw [if_pos (by rw [toList_size]; exact h16)] at hstep
        have hne : ((o.size : Int) == 16) = true := by
          have : (o.size : Int) = 16 := by omega
          simpa using this
        have hne2 : ((o.size : Int) != 16) = false := by rw [bne, hne]; rfl
        clear h16
        by_cases hz : key / 2 ^ k % 2 = 0
        · rw [if_pos hz] at hstep
          have hbit := shr_bit0 key key64 k (by omega) hz
          have hnd := Lib.hid (node_any b o wr (he.below (step2 hb12 hbw)) (by omega) (by omega))
          clear hz
          go_wp2_with fail
          refine hnd.out.mono ?_
          rintro e w3 ⟨c, rfl, hc, hb3⟩
          have hcs : c.size ≤ 1073741824 := by rw [← toList_size, hc.out, hashL_length]; decide
          have HST : Hid (climb key P 0 a0.data.toList = climb key (P.drop (k + 1)) (k + 1) c.data.toList) := by rw [Hid, hc.out]; exact hstep
          clear hnd hstep ck
          go_wp2_with fail
          go_roundw
          case rel => exact ⟨k + 1, c, by omega, by go_num, rfl, hcs, HST, step2 hbw hb3⟩
          case measure => simp [intOf]; omega
        · rw [if_neg hz] at hstep
          have hbit := shr_bit1 key key64 k (by omega) hz
          have hnd := Lib.hid (node_any o b wr (he.below (step2 hb12 hbw)) (by omega) (by omega))
          clear hz
          go_wp2_with fail
          refine hnd.out.mono ?_
          rintro e w3 ⟨c, rfl, hc, hb3⟩
          have hcs : c.size ≤ 1073741824 := by rw [← toList_size, hc.out, hashL_length]; decide
          have HST : Hid (climb key P 0 a0.data.toList = climb key (P.drop (k + 1)) (k + 1) c.data.toList) := by rw [Hid, hc.out]; exact hstep
          clear hnd hstep ck
          go_wp2_with fail
          go_roundw
          case rel => exact ⟨k + 1, c, by omega, by go_num, rfl, hcs, HST, step2 hbw hb3⟩
          case measure => simp [intOf]; omega
      · obtain rfl : k = n := by omega
        have hdr : P.drop k = [] := List.drop_eq_nil_of_le (by rw [hrest.out]; exact Nat.le_refl _)
        rw [hdr, climb] at hcl
        rcases HR.out b hcl with ⟨x1, x2, hv⟩ | ⟨x1, x2, hv⟩
        · go_wp2_with fail
          go_ret2
          exact ⟨_, _, rfl, hv, step2 hb12 hbw⟩
        · go_wp2_with fail
          go_ret2
          exact ⟨_, _, rfl, hv, step2 hb12 hbw⟩
end Go.Proofs.YtpkapcijgldhhaaGreatDoor

namespace Go.Proofs.YtpkapcijgldhhaaGreatDoor
open Go.RowKit
theorem climb_none (key : Nat) (P : List (List UInt8)) : ∀ (n i : Nat) (a : List UInt8), P.length ≤ i + n → (∃ k, i ≤ k ∧ ∃ o, P[k]? = some o ∧ o.length ≠ 16) → climb key (P.drop i) i a = none := by
  intro n
  induction n with
  | zero =>
    rintro i a h ⟨k, hk, o, ho, _⟩
    have := (List.getElem?_eq_some_iff.1 ho).1
    omega
  | succ n ih =>
    rintro i a h ⟨k, hk, o, ho, h16⟩
    have hlt := (List.getElem?_eq_some_iff.1 ho).1
    rw [climb_snoc key P i P[i] a (List.getElem?_eq_getElem (by omega))]
    split
    · rename_i hl
      refine ih (i + 1) _ (by omega) ⟨k, ?_, o, ho, h16⟩
      rcases Nat.lt_or_ge i k with h' | h'
      · exact h'
      · exfalso
        obtain rfl : k = i := by omega
        rw [List.getElem?_eq_getElem (by omega)] at ho
        injection ho with ho
        exact h16 (ho ▸ hl)
    · rfl
set_option maxHeartbeats 1000000 in
set_option maxRecDepth 100000 in
theorem verifyR_any (root m sig : ByteArray) (w : World) (hm : m.size ≤ 1073741824) (hs : sig.size ≤ 1073741824) :
    Calls Tryz.prog 68 #[.string root, .string m, .string sig] w (VerP (verifyL root.data.toList m.data.toList sig.data.toList) w) := by
  have hno : ∀ w', parseL sig.data.toList = none → Below w.heap.size w w' → VerP (verifyL root.data.toList m.data.toList sig.data.toList) w (.returned (.tuple #[.int .i64 0, .int .i64 17])) w' := fun w' h hb => ⟨0, 17, rfl, verifyL_none h, hb⟩
  have HNO := Lib.hid hno; clear hno
  go_enter Tryz.func68, Tryz.ntmps68
  go_wp2_with fail
  refine (refReadNumber_any sig 0 _ (by omega)).mono ?_
  rintro e w1 ⟨k, a, x, rfl, h1, rfl⟩
  by_cases hx : x = 0
  case neg =>
    obtain ⟨x1, x2⟩ := neq0V hx
    have hp := HNO.out w (parseL_1 h1.out hx) (below_refl _)
    have HP := Lib.hid hp
    clear hx h1 hp
    go_wp2_with fail
    go_ret2
    exact HP.out
  subst hx
  obtain ⟨a, rfl, ha0, ha1, hk0, hk1⟩ := rdNum_next (a := 0) h1.out
  rw [toList_size] at ha1
  go_wp2_with fail
  refine (refReadNumber_any sig a _ (by omega)).mono ?_
  rintro e w2 ⟨h, b, y, rfl, h2, rfl⟩
  have H2 := Lib.hid (fun hf => HNO.out w (parseL_2 h1.out h2.out hf) (below_refl _))
  by_cases hy : y = 0
  case neg =>
    obtain ⟨x1, x2⟩ := neq0V hy
    have hp := Lib.hid (H2.out (.inl hy))
    clear hy h1 h2 H2
    go_wp2_with fail
    go_ret2
    exact hp.out
  subst hy
  by_cases h0 : h < 0
  · have hp := Lib.hid (H2.out (.inr (.inl h0)))
    clear h1 h2 H2
    go_wp2_with fail
    go_ret2
    exact hp.out
  by_cases h6 : 6 < h
  · have hp := Lib.hid (H2.out (.inr (.inr (.inl h6))))
    clear h1 h2 H2
    have h0' : 0 ≤ h := by omega
    go_wp2_with fail
    go_ret2
    exact hp.out
  obtain ⟨n, rfl⟩ := Int.eq_ofNat_of_zero_le (Int.not_lt.1 h0)
  have hn : n ≤ 6 := by omega
  by_cases k0 : k < 0
  · have hp := Lib.hid (H2.out (.inr (.inr (.inr (.inl k0)))))
    clear h1 h2 h0 h6 H2
    go_wp2_with fail
    go_ret2
    exact hp.out
  have hpl := pow_le n hn
  obtain ⟨N, hN⟩ : ∃ N, 2 ^ n = N := ⟨_, rfl⟩
  have hsz := Lib.hid (fun w => size_any n N w (by omega) hN)
  by_cases k1 : (2 ^ n : Nat) ≤ k
  · have hp := Lib.hid (H2.out (.inr (.inr (.inr (.inr k1)))))
    rw [hN] at hpl k1
    have k0' : 0 ≤ k := by omega
    clear h1 h2 h0 h6 hN H2
    go_wp2_with fail
    refine (hsz.out _).mono ?_
    rintro e w1 ⟨rfl, rfl⟩
    go_wp2_with fail
    go_ret2
    exact hp.out
  obtain ⟨b, rfl, hb0, hbs, _⟩ := rdNum_next (a := a) h2.out
  rw [toList_size] at hbs
  have H3 := Lib.hid (show ∀ one c f, rdStr sig.data.toList b = (one, c, f) → _ from fun one c f h3 => parse_tail h1.out h2.out (by omega) (by rw [toList_size]; exact hbs) h3)
  rw [hN] at hpl k1
  obtain ⟨k, rfl⟩ := Int.eq_ofNat_of_zero_le (Int.not_lt.1 k0)
  clear h1 h2 h0 h6 hN ha0 ha1 H2 k0
  go_wp2_with fail
  refine (hsz.out _).mono ?_
  rintro e w1 ⟨rfl, rfl⟩
  go_wp2_with fail
  refine (refReadString_any sig b _ (by omega)).mono ?_
  rintro e w1 ⟨one, c, f, rfl, h3, rfl⟩
  have h4 := H3.out _ _ _ h3.out
  have hones : one.size ≤ 1073741824 := by
    have := rdStr_le sig.data.toList b
    rw [h3.out, toList_size, toList_size] at this
    omega
  by_cases hf : f = 0
  case neg =>
    obtain ⟨x1, x2⟩ := neq0V hf
    have hp := Lib.hid (HNO.out w (h4.1 hf) (below_refl _))
    clear hf h3 h4 H3
    go_wp2_with fail
    go_ret2
    exact hp.out
  subst hf
  obtain ⟨c, rfl, hc0, hcs⟩ := rdStr_next h3.out
  rw [toList_size] at hcs
  have h5 := h4.2 rfl
  rw [Int.toNat_natCast] at h5
  have H5 := Lib.hid h5
  clear h3 h4 H3 h5
  go_wp2_with fail
  refine (recoverR_any m one _ hm (by omega)).mono ?_
  rintro e w2 ⟨a0, rfl, ha0, hb2⟩
  by_cases hE : recoverE one.data.toList = 0
  case neg =>
    obtain ⟨x1, x2⟩ := neq0V hE
    have hp : Hid (verifyL root.data.toList m.data.toList sig.data.toList = (0, 17)) := by
      rcases hrs : rdStrs (sig.data.toList.drop c) with ⟨p, e⟩
      have h6 := H5.out p e hrs
      by_cases hq : e = 0 ∧ p.length = n
      · rw [if_pos hq] at h6; exact verifyL_short h6 hE
      · rw [if_neg hq] at h6; exact verifyL_none h6
    clear hE
    go_wp2_with fail
    go_ret2
    exact ⟨_, _, rfl, hp, hb2⟩
  rw [hE]
  have za0 : a0.size ≤ 1073741824 := by
    rw [← toList_size, ha0.out, recoverL]
    split
    · rw [hashL_length]; decide
    · exact Nat.zero_le _
  have HE := Lib.hid hE
  clear hE
  obtain ⟨t, ht⟩ : ∃ t, sig.extract c sig.size = t := ⟨_, rfl⟩
  have htl : Hid (t.data.toList = sig.data.toList.drop c) := by
    rw [Hid, ← ht, extract_list, List.take_of_length_le]
    rw [List.length_drop, toList_size]; exact Nat.le_refl _
  have hts : t.size ≤ 1073741824 := by rw [← ht, ByteArray.size_extract]; omega
  go_wp2_with fail
  refine (refReadStrings_any t w2 (by omega)).mono ?_
  rintro e w3 ⟨v, p, x, rfl, h6, hown, hb3⟩
  have hb23 := step2 hb2 hb3
  have h7 := H5.out _ _ (htl.out ▸ h6.out)
  have hle : Hid (∀ (i : Nat) (u : ByteArray), p[i]? = some u → u.size ≤ 1073741824) := fun i u hu => by
    have := rdStrs_le t.data.toList u.data.toList (by rw [h6.out]; exact List.mem_map_of_mem (List.mem_of_getElem? hu))
    rw [toList_size, toList_size] at this; omega
  have H7 := Lib.hid h7
  clear ht h6 h7 H5
  by_cases hx : x = 0
  case neg =>
    obtain ⟨x1, x2⟩ := neq0V hx
    have hp : Hid (verifyL root.data.toList m.data.toList sig.data.toList = (0, 17)) := verifyL_none (by rw [H7.out, if_neg (fun h => hx h.1)])
    clear hx
    go_wp2_with fail
    go_ret2
    exact ⟨_, _, rfl, hp, hb23⟩
  subst hx
  obtain ⟨hpm, fa, fc, hv⟩ := hown.form'
  unfold maxLen at hpm
  by_cases hl : p.length = n
  case neg =>
    have hp : Hid (verifyL root.data.toList m.data.toList sig.data.toList = (0, 17)) := verifyL_none (by rw [H7.out, if_neg (fun h => hl (by have := h.2; rw [List.length_map] at this; exact this))])
    have hq : ((p.length : Int) == (n : Int)) = false := by
      have : ¬ (p.length : Int) = (n : Int) := by omega
      simpa using this
    have hq2 : ((p.length : Int) != (n : Int)) = true := by rw [bne, hq]; rfl
    rw [hv]
    clear hl hv
    go_wp2_with fail
    go_ret2
    exact ⟨_, _, rfl, hp, hb23⟩
  have hps : Hid (parseL sig.data.toList = some ((k : Int), one.data.toList :: p.map fun s => s.data.toList)) := by
    rw [Hid, H7.out, if_pos ⟨rfl, by rw [List.length_map]; exact hl⟩]
  have HCN := Lib.hid (fun h => verifyL_path (root := root.data.toList) (m := m.data.toList) hps.out HE.out h)
  have HCS := Lib.hid (fun a h => verifyL_root (root := root.data.toList) (m := m.data.toList) (a := a) hps.out HE.out h)
  rw [show (one.data.toList :: p.map fun s => s.data.toList).getD 0 [] = one.data.toList from rfl, ← ha0.out, Int.toNat_natCast, show (one.data.toList :: p.map fun s => s.data.toList).drop 1 = p.map fun s => s.data.toList from rfl] at HCN HCS
  obtain ⟨P, hP⟩ : ∃ P, (p.map fun s => s.data.toList) = P := ⟨_, rfl⟩
  have hPl : Hid (P.length = n) := by rw [Hid, ← hP, List.length_map]; exact hl
  rw [hP] at HCN HCS
  have HPP := Lib.hid hP
  have HLL := Lib.hid hl
  have hk64 : k < 64 := by omega
  have hroot : ∀ b : ByteArray, Hid (climb k P 0 a0.data.toList = some b.data.toList) → (b.toList == root.toList) = true ∧ (b.toList != root.toList) = false ∧ Hid (verifyL root.data.toList m.data.toList sig.data.toList = ((k : Int), 0)) ∨
      (b.toList == root.toList) = false ∧ (b.toList != root.toList) = true ∧ Hid (verifyL root.data.toList m.data.toList sig.data.toList = (0, 17)) := fun b hb => by
    have hv := HCS.out _ hb.out
    rw [bne, beq_lists]
    by_cases hr : b.data.toList = root.data.toList
    · left; rw [if_pos hr] at hv; exact ⟨by simpa using hr, by simpa using hr, hv⟩
    · right; rw [if_neg hr] at hv; exact ⟨by simpa using hr, by simpa using hr, hv⟩
  have HR := Lib.hid hroot; clear hroot
  have hcells : Hid (∀ g cap, v = .slice (some ⟨g, 0, none⟩) n cap → ∀ (i : Nat) (u : ByteArray), p[i]? = some u → w3.cell? ⟨g, i, none⟩ = some (.string u)) := fun g cap hg i u hu => by
    have hadd : (⟨g, 0, none⟩ : Addr).add i = ⟨g, i, none⟩ := by unfold Addr.add; split <;> simp_all
    have := World.ownsRow.cells hown (g := g) (by rw [hg]; rfl) i (.string u) (by rw [List.getElem?_map, hu]; rfl)
    rw [hadd] at this; exact this
  have hown2 := hown
  unfold OwnStrs at hown2
  rw [hl] at hown2 hv hpm
  have hform : Hid (0 < n → ∃ g cap, v = .slice (some ⟨g, 0, none⟩) n cap) := fun h0 => by
    obtain ⟨g, cap, e, _⟩ := World.ownsRow.form hown2 h0
    exact ⟨g, cap, e⟩
  clear hP hl hown hown2 H7 hps
  by_cases hn0 : n = 0
  · subst hn0
    rw [hv]
    have hP0 : P = [] := List.eq_nil_of_length_eq_zero hPl.out
    have hcl : Hid (climb k P 0 a0.data.toList = some a0.data.toList) := by rw [Hid, hP0, climb]
    clear hv hP0
    rcases HR.out a0 hcl with ⟨x1, x2, hv⟩ | ⟨x1, x2, hv⟩
    · go_wp2_with fail
      refine wp_loop_rounds 1 ?_; rw [rounds_succ]
      go_wp2_with fail
      go_ret2
      exact ⟨_, _, rfl, hv, hb23⟩
    · go_wp2_with fail
      refine wp_loop_rounds 1 ?_; rw [rounds_succ]
      go_wp2_with fail
      go_ret2
      exact ⟨_, _, rfl, hv, hb23⟩
  obtain ⟨g, cap, hg⟩ := hform.out (by omega)
  have hcl0 := Lib.hid (hcells.out g cap hg)
  rw [hg]
  clear hv hg hcells hform
  go_wp2_with fail
  go_loopw [13, 15, 16] (fun o q i wr => ∃ (j : Nat) (b : ByteArray), j ≤ n ∧ i = .int .i64 j ∧ q = .int .i64 (k / 2 ^ j : Nat) ∧ o = .string b ∧ b.size ≤ 1073741824 ∧ Hid (climb k P 0 a0.data.toList = climb k (P.drop j) j b.data.toList) ∧ Below w3.heap.size w3 wr) (fun _ _ i _ => n - (intOf i).toNat)
  case atStart => exact ⟨0, a0, by omega, rfl, by simp, rfl, za0, rfl, below_refl _⟩
  case round =>
    obtain ⟨j, b, hj2, rfl, rfl, rfl, hbz, hcl, hbw⟩ := hrel
    by_cases hlt : j < n
    · obtain ⟨o, ho⟩ : ∃ o : ByteArray, p[j]? = some o := ⟨_, List.getElem?_eq_getElem (by rw [HLL.out]; exact hlt)⟩
      have co := hcl0.out _ o ho
      have ck := (hbw.cell (World.block_lt_of_cell? w3 _ co)).trans co
      have hPk : P[j]? = some o.data.toList := by rw [← HPP.out, List.getElem?_map, ho]; rfl
      have hos := hle.out _ o ho
      have hstep := climb_snoc k P j o.data.toList b.data.toList hPk
      rw [← hcl.out] at hstep
      have hdiv : k / 2 ^ (j + 1) = k / 2 ^ j / 2 := by rw [Nat.pow_succ, Nat.div_div_eq_div_mul]
      have hq64 : k / 2 ^ j < 64 := Nat.lt_of_le_of_lt (Nat.div_le_self _ _) (by omega)
      generalize k / 2 ^ j = q at *
      have HD := Lib.hid hdiv
      clear co ho hPk hdiv
      by_cases h16 : o.size = 16
      case neg =>
        have hv : Hid (verifyL root.data.toList m.data.toList sig.data.toList = (0, 17)) := HCN.out (by rw [hstep, if_neg (by rw [toList_size]; exact h16)])
        have hne : ((o.size : Int) == 16) = false := by
          have : ¬ (o.size : Int) = 16 := fun e => h16 (by omega)
          simpa using this
        have hne2 : ((o.size : Int) != 16) = true := by rw [bne, hne]; rfl
        clear h16 hstep
        go_wp2_with fail
        go_ret2
        exact ⟨_, _, rfl, hv, step2 hb23 hbw⟩
      rw [if_pos (by rw [toList_size]; exact h16)] at hstep
      have hne : ((o.size : Int) == 16) = true := by
        have : (o.size : Int) = 16 := by omega
        simpa using this
      have hne2 : ((o.size : Int) != 16) = false := by rw [bne, hne]; rfl
      clear h16
      by_cases hz : q % 2 = 0
      · rw [if_pos hz] at hstep
        have hbit : (((q : Int) % 2) == 0) = true := by simp; omega
        have hnd := Lib.hid (nodeR_any b o wr (by omega) (by omega))
        clear hz
        go_wp2_with fail
        refine hnd.out.mono ?_
        rintro e w4 ⟨c, rfl, hc, hb4⟩
        have hcs : c.size ≤ 1073741824 := by rw [← toList_size, hc.out, hashL_length]; decide
        have HST : Hid (climb k P 0 a0.data.toList = climb k (P.drop (j + 1)) (j + 1) c.data.toList) := by rw [Hid, hc.out]; exact hstep
        clear hnd hstep ck
        go_wp2_with fail
        go_roundw
        case rel => exact ⟨j + 1, c, by omega, by go_num, by rw [HD.out]; go_num, rfl, hcs, HST, step2 hbw hb4⟩
        case measure => simp [intOf]; omega
      · rw [if_neg hz] at hstep
        have hbit : (((q : Int) % 2) == 0) = false := by simp; omega
        have hnd := Lib.hid (nodeR_any o b wr (by omega) (by omega))
        clear hz
        go_wp2_with fail
        refine hnd.out.mono ?_
        rintro e w4 ⟨c, rfl, hc, hb4⟩
        have hcs : c.size ≤ 1073741824 := by rw [← toList_size, hc.out, hashL_length]; decide
        have HST : Hid (climb k P 0 a0.data.toList = climb k (P.drop (j + 1)) (j + 1) c.data.toList) := by rw [Hid, hc.out]; exact hstep
        clear hnd hstep ck
        go_wp2_with fail
        go_roundw
        case rel => exact ⟨j + 1, c, by omega, by go_num, by rw [HD.out]; go_num, rfl, hcs, HST, step2 hbw hb4⟩
        case measure => simp [intOf]; omega
    · obtain rfl : j = n := by omega
      have hdr : P.drop j = [] := List.drop_eq_nil_of_le (by rw [hPl.out]; exact Nat.le_refl _)
      rw [hdr, climb] at hcl
      rcases HR.out b hcl with ⟨x1, x2, hv⟩ | ⟨x1, x2, hv⟩
      · go_wp2_with fail
        go_ret2
        exact ⟨_, _, rfl, hv, step2 hb23 hbw⟩
      · go_wp2_with fail
        go_ret2
        exact ⟨_, _, rfl, hv, step2 hb23 hbw⟩
end Go.Proofs.YtpkapcijgldhhaaGreatDoor
