/-
  Digits: the digits of a message and its checksum, in the program and in the reference; the reference's public key; signatures.
  The reference's public key and the signatures.
  The program's signatures; the nodes of key trees.
  Key trees: the levels, in the program.
  Key trees: levels and roots, in the program.
  What the reach of a card says of the data among its arguments: strings, slices and structs, however deep.
-/
import Derived.Test.YtpkapcijgldhhaaGreatDoorCf01
import Derived.Test.YtpkapcijgldhhaaGreatDoorCf03
import Derived.Test.YtpkapcijgldhhaaGreatDoorCf19
import Derived.Test.YtpkapcijgldhhaaGreatDoorCf05
import Derived.Test.YtpkapcijgldhhaaGreatDoorCf06
import Derived.Test.YtpkapcijgldhhaaGreatDoorCf07
import Derived.Test.YtpkapcijgldhhaaGreatDoorCe18
import Derived.Test.YtpkapcijgldhhaaGreatDoorCe17
import Derived.Deep.CutBlock
import Derived.Deep.CutRange
import Derived.Shelf.Strings.BuilderK
import Derived.Deep.RegionLaw
import Derived.Deep.AppendLies
import Derived.OneCell
import Derived.Lib.OthersKept
import Derived.Laws.EntriesVeiled
import Derived.Test.YtpkapcijgldhhaaGreatDoorCe07
namespace Go.Proofs.YtpkapcijgldhhaaGreatDoor
open Go.RowKit
set_option maxHeartbeats 1000000 in
set_option maxRecDepth 100000 in
theorem digitsR_any (m : ByteArray) (w : World) (hm : m.size ≤ 1073741824) :
    Calls Tryz.prog 88 #[.string m] w (DigP (digitsL m.data.toList) w) := by
  obtain ⟨i0, hi, hz0, hz1, hz2⟩ := info_parts infoInt
  go_enter Tryz.func88, Tryz.ntmps88
  go_wp2_with fail
  refine (H_new w [⟨#[109, 101, 115, 115, 97, 103, 101]⟩, m] _ _ _ rfl rfl (by rw [totS_cons, totS_cons, totS_nil]; show 10 + 7 + _ ≤ _; omega)).mono ?_
  rintro e w1 ⟨h, rfl, hh, hb1⟩
  have hh' : h.data.toList = hashL [lMessage, m.data.toList] := hh.out
  have hhs : h.size = 16 := by rw [← toList_size, hh']; exact hashL_length _
  have HH := Lib.hid hh'
  have HS := Lib.hid hhs
  clear hh hh' hhs
  have hown0 := Lib.hid (owns_full (base := w.heap.size) (e := 3) w1 #[] 0 hb1.size (by decide) rfl)
  have hb2 := hb1.alloc hb1.size (.cells #[] 3)
  go_wp2_with fail
  go_loopw [4, 5, 6] (fun v c i wr => ∃ k : Nat, k ≤ 16 ∧ i = .int .i64 k ∧ c = .int .i64 (cks h.data.toList k) ∧ wr.ownsRow w.heap.size 3 1 v (digs h.data.toList k).length (nats (digs h.data.toList k)) ∧ Below w.heap.size w wr) (fun _ _ i _ => 16 - (intOf i).toNat)
  case atStart => exact ⟨0, by omega, rfl, rfl, hown0.out, hb2⟩
  case round =>
    obtain ⟨k, hk, rfl, rfl, hown, hbw⟩ := hrel
    by_cases hlt : k < 16
    · have hks : k < h.size := by rw [HS.out]; exact hlt
      have hg := getD_list h k hks
      have hcl := cks_le h.data.toList k
      have hbl := (h[k]).toNat_lt
      have hn1 : digs h.data.toList (k + 1) = digs h.data.toList k ++ [h[k].toNat / 16, h[k].toNat % 16] := by rw [digs, hg]
      have hn2 : cks h.data.toList (k + 1) = cks h.data.toList k + (30 - h[k].toNat / 16 - h[k].toNat % 16) := by rw [cks, hg]
      have hdl := digs_length h.data.toList k
      rw [hdl] at hown
      obtain ⟨C, hC⟩ : ∃ C, cks h.data.toList k = C := ⟨_, rfl⟩
      obtain ⟨D, hD⟩ : ∃ D, digs h.data.toList k = D := ⟨_, rfl⟩
      rw [hC] at hcl hn2 ⊢
      rw [hD] at hown hn1
      have HN1 := Lib.hid hn1
      have HN2 := Lib.hid hn2
      have HDL := Lib.hid hdl
      have HC := Lib.hid hC
      have HD := Lib.hid hD
      clear hg hn1 hn2 hdl hC hD
      obtain ⟨b, hb⟩ : ∃ b, h[k].toNat = b := ⟨_, rfl⟩
      rw [hb] at hbl HN1 HN2
      obtain ⟨q, hq⟩ : ∃ q, b / 16 = q := ⟨_, rfl⟩
      obtain ⟨r, hr⟩ : ∃ r, b % 16 = r := ⟨_, rfl⟩
      have hq1 : q ≤ 15 := by omega
      have hr1 : r ≤ 15 := by omega
      have d1 : (b : Int) / 16 = q := by omega
      have d2 : (b : Int) % 16 = r := by omega
      have d3 : (b : Int).tdiv 16 = q := by rw [Int.tdiv_eq_ediv_of_nonneg (by omega)]; exact d1
      have d4 : (b : Int).tmod 16 = r := by rw [Int.tmod_eq_emod_of_nonneg (by omega)]; exact d2
      have d5 : IntKind.i64.wrap (b : Int) = b := IntWalk.i64_in _ (by omega)
      have d6 : IntKind.i64.wrap (q : Int) = q := IntWalk.i64_in _ (by omega)
      have d7 : IntKind.i64.wrap (r : Int) = r := IntWalk.i64_in _ (by omega)
      have d8 : (k : Int) < h.size := by omega
      rw [hq, hr] at HN1 HN2
      have HQ := Lib.hid hq
      have HR := Lib.hid hr
      clear hq hr
      go_upto_region 7 with (fail)
      go_quiet (fail)
      clear d1 d2 d3 d4
      have hown1 : (wr.drewN nq).ownsRow w.heap.size 3 1 _ (2 * k) (nats D) := hown
      have hbw1 : Below w.heap.size w (wr.drewN nq) := below_drewN hbw nq
      clear hown hbw
      generalize wr.drewN nq = w2 at hown1 hbw1 ⊢
      go_wp2_with (at_builtin; refine wpList_append_own _ rfl _ _ 150 rfl w.heap.size 3 i0 (.int .i64 0) 1 8 Tryz.underlying150 hi hz0 hz1 hz2 rfl (by decide) _ _ _ rfl (hown1.alloc _) ⟨w2.heap.size, 0, none⟩ 2 2 [.int .i64 q, .int .i64 r] rfl rfl (fun j x h => cell_new2 w2 _ _ _ j x h) ?c2 ?c3 ?c4 ?c5 ?_)
      case c2 => intro x hx; simp only [List.mem_cons, List.mem_nil_iff, or_false] at hx; rcases hx with rfl | rfl <;> rfl
      case c3 => unfold maxLen; omega
      case c4 => omega
      case c5 => have := hbw1.size; simp; omega
      intro v' w3 hown2 hgrow _
      have hb3 := below_grownBy (hbw1.alloc hbw1.size _) (hown1.alloc _) hgrow (by have := hbw1.size; simp; omega)
      have hown3 : w3.ownsRow w.heap.size 3 1 v' (digs h.data.toList (k + 1)).length (nats (digs h.data.toList (k + 1))) := by
        rw [HN1.out, nats_append, List.length_append, ← HD.out, HDL.out, HD.out]
        exact hown2
      clear hgrow hown2 hown1
      go_wp2_with fail
      go_roundw
      case rel => exact ⟨k + 1, by omega, by go_num, by rw [HN2.out]; congr 1; omega, hown3, hb3⟩
      case measure => simp [intOf]; omega
    · obtain rfl : k = 16 := by omega
      have hcl := cks_le h.data.toList 16
      have hdl := digs_length h.data.toList 16
      rw [hdl] at hown
      obtain ⟨C, hC⟩ : ∃ C, cks h.data.toList 16 = C := ⟨_, rfl⟩
      obtain ⟨D, hD⟩ : ∃ D, digs h.data.toList 16 = D := ⟨_, rfl⟩
      rw [hC] at hcl ⊢
      rw [hD] at hown
      have HDL := Lib.hid hdl
      have HC := Lib.hid hC
      have HD := Lib.hid hD
      clear hdl hC hD
      obtain ⟨q, hq⟩ : ∃ q, C / 256 = q := ⟨_, rfl⟩
      obtain ⟨r, hr⟩ : ∃ r, C / 16 % 16 = r := ⟨_, rfl⟩
      obtain ⟨z, hz⟩ : ∃ z, C % 16 = z := ⟨_, rfl⟩
      have d1 : (C : Int) / 256 = q := by omega
      have d2 : (C : Int) / 16 % 16 = r := by omega
      have d3 : (C : Int) % 16 = z := by omega
      have HQ := Lib.hid hq
      have HR := Lib.hid hr
      have HZ := Lib.hid hz
      clear hq hr hz
      go_wp2_with (at_builtin; refine wpList_append_own _ rfl _ _ 150 rfl w.heap.size 3 i0 (.int .i64 0) 1 8 Tryz.underlying150 hi hz0 hz1 hz2 rfl (by decide) _ _ _ rfl (hown.alloc _) ⟨wr.heap.size, 0, none⟩ 3 3 [.int .i64 q, .int .i64 r, .int .i64 z] rfl rfl (fun j x h => cell_new3 wr _ _ _ _ j x h) ?c2 ?c3 ?c4 ?c5 ?_)
      case c2 => intro x hx; simp only [List.mem_cons, List.mem_nil_iff, or_false] at hx; rcases hx with rfl | rfl | rfl <;> rfl
      case c3 => unfold maxLen; omega
      case c4 => omega
      case c5 => have := hbw.size; simp; omega
      intro v' w3 hown2 hgrow _
      have hb3 := below_grownBy (hbw.alloc hbw.size _) (hown.alloc _) hgrow (by have := hbw.size; simp; omega)
      have hrow : w3.ownsRow 0 3 1 v' (digitsL m.data.toList).length (nats (digitsL m.data.toList)) := by
        rw [digitsL_length, digitsL, ← HH.out, HC.out, HQ.out, HR.out, HZ.out, HD.out, nats_append]
        exact owns_zero hown2
      clear hgrow hown2 hown
      go_wp2_with fail
      go_ret
      exact ⟨_, rfl, hrow, hb3⟩
end Go.Proofs.YtpkapcijgldhhaaGreatDoor

namespace Go.Proofs.YtpkapcijgldhhaaGreatDoor
open Go.RowKit
set_option maxHeartbeats 1000000 in
set_option maxRecDepth 100000 in
theorem publicR_any (s : ByteArray) (key : Int) (w : World) (hs : s.size ≤ 1073741824) (hk : -9223372036854775808 ≤ key ∧ key ≤ 9223372036854775807) :
    Calls Tryz.prog 86 #[.string s, .int .i64 key] w (StrP (publicL s.data.toList key) w) := by
  by_cases h0 : key < 0
  · go_enter Tryz.func86, Tryz.ntmps86
    go_wp2_with fail
    go_ret
    exact ⟨_, rfl, by rw [Hid, publicL, if_pos h0], below_refl _⟩
  obtain ⟨i0, hi, hz0, hz1, hz2⟩ := info_parts infoStr
  have h0' : 0 ≤ key := by omega
  have hown0 := Lib.hid (owns_full (base := w.heap.size) (e := 9) w #[.string ⟨#[112, 117, 98, 108, 105, 99]⟩] 1 (Nat.le_refl _) (by decide) rfl)
  have hbel0 : Below w.heap.size w (w.alloc (.cells #[.string ⟨#[112, 117, 98, 108, 105, 99]⟩] 9)) := (below_refl w).alloc (Nat.le_refl _) _
  go_enter Tryz.func86, Tryz.ntmps86
  go_wp2_with fail
  go_loopw [5, 6] (fun v i wr => ∃ k : Nat, k ≤ 35 ∧ i = .int .i64 k ∧ OwnStrs w.heap.size wr v ((lPublic :: endsL s.data.toList key k).map bA) ∧ Below w.heap.size w wr) (fun _ i _ => 35 - (intOf i).toNat)
  case atStart => exact ⟨0, by omega, rfl, hown0.out, hbel0⟩
  case round =>
    obtain ⟨k, hk2, rfl, hown, hbw⟩ := hrel
    by_cases hlt : k < 35
    · have hsc := secretR_any s key k wr hs hk (by omega)
      have HSC := Lib.hid hsc; clear hsc
      go_wp2_with fail
      refine HSC.out.mono ?_
      rintro e w1 ⟨x, rfl, hx, hb1⟩
      have hxs : x.size ≤ 1073741824 := by rw [← toList_size, hx.out, secretL_length]; decide
      have hwk := Lib.hid (steps_any x 15 w1 hxs (by decide))
      go_wp2_with fail
      refine hwk.out.mono ?_
      rintro e w2 ⟨u, rfl, hu, hb2⟩
      have hb12 := step2 (step2 hbw hb1) hb2
      have hown1 := (hown.below hb1).below hb2
      have hown1' : w2.ownsRow w.heap.size 9 1 _ ((lPublic :: endsL s.data.toList key k).map bA).length (((lPublic :: endsL s.data.toList key k).map bA).map Value.string) := hown1
      have hln : ((lPublic :: endsL s.data.toList key k).map bA).length = k + 1 := by rw [List.length_map, List.length_cons, endsL_length]
      have hnx : ((lPublic :: endsL s.data.toList key (k + 1)).map bA).map Value.string = ((lPublic :: endsL s.data.toList key k).map bA).map Value.string ++ [.string u] := by
        rw [endsL, ← List.cons_append, List.map_append, List.map_append, eq_bA hu.out, hx.out]; rfl
      have hln2 : ((lPublic :: endsL s.data.toList key (k + 1)).map bA).length = k + 1 + 1 := by rw [List.length_map, List.length_cons, endsL_length]
      have HNX := Lib.hid hnx
      have HL2 := Lib.hid hln2
      rw [hln] at hown1'
      clear hln hnx hln2 hown1 hwk HSC hown
      obtain ⟨xs, hxs2⟩ : ∃ xs, ((lPublic :: endsL s.data.toList key k).map bA).map Value.string = xs := ⟨_, rfl⟩
      rw [hxs2] at hown1'
      have HXS := Lib.hid hxs2; clear hxs2
      go_wp2_with (at_builtin; refine wpList_append_own _ rfl _ _ 57 rfl w.heap.size 9 i0 (.string ⟨#[]⟩) 1 16 Tryz.underlying57 hi hz0 hz1 hz2 rfl (by decide) _ _ _ rfl (hown1'.alloc _) ⟨w2.heap.size, 0, none⟩ 1 1 [.string u] rfl rfl (fun j x h => cell_str1 w2 u _ j x h) ?c2 ?c3 ?c4 ?c5 ?_)
      case c2 => intro x hx; simp only [List.mem_singleton] at hx; subst hx; rfl
      case c3 => unfold maxLen; omega
      case c4 => omega
      case c5 => have := hb12.size; simp; omega
      intro v' w3 hown2 hgrow _
      have hb3 := below_grownBy (hb12.alloc hb12.size _) (hown1'.alloc _) hgrow (by have := hb12.size; simp; omega)
      have hown3 : OwnStrs w.heap.size w3 v' ((lPublic :: endsL s.data.toList key (k + 1)).map bA) := by
        unfold OwnStrs
        rw [HL2.out, HNX.out, HXS.out]
        exact hown2
      clear hgrow hown2 hown1'
      go_wp2_with fail
      go_roundw
      case rel => exact ⟨k + 1, by omega, by go_num, hown3, hb3⟩
      case measure => simp [intOf]; omega
    · obtain rfl : k = 35 := by omega
      have hpb := Lib.hid (H_any _ ((lPublic :: endsL s.data.toList key 35).map bA) wr hown.strs (by rw [List.map_cons, totS_cons, totS_ends]; show 10 + 6 + _ ≤ _; omega))
      go_wp2_with fail
      refine hpb.out.mono ?_
      rintro e w1 ⟨t, rfl, hts, hb1⟩
      go_wp2_with fail
      go_ret
      exact ⟨_, rfl, by rw [Hid, hts.out, map_bA, publicL, if_neg (by omega)], step2 hbw hb1⟩
/-- the first n parts of a signature -/
def sigL (seed : List UInt8) (key : Int) (D : List Nat) : Nat → List UInt8
  | 0 => []
  | i + 1 => sigL seed key D i ++ chainL (secretL seed key i) (D.getD i 0)
theorem sigL_length (seed : List UInt8) (key : Int) (D : List Nat) : ∀ n, (sigL seed key D n).length = 16 * n
  | 0 => rfl
  | n + 1 => by rw [sigL, List.length_append, sigL_length seed key D n, chainL16 (secretL_length _ _ _)]; omega
/-- a signature -/
def signL (seed : List UInt8) (key : Int) (m : List UInt8) : List UInt8 := if key < 0 then [] else sigL seed key (digitsL m) 35
set_option maxHeartbeats 1000000 in
set_option maxRecDepth 100000 in
theorem signR_any (s : ByteArray) (key : Int) (m : ByteArray) (w : World) (hs : s.size ≤ 1073741824) (hm : m.size ≤ 1073741824) (hk : -9223372036854775808 ≤ key ∧ key ≤ 9223372036854775807) :
    Calls Tryz.prog 56 #[.string s, .int .i64 key, .string m] w (StrP (signL s.data.toList key m.data.toList) w) := by
  by_cases h0 : key < 0
  · go_enter Tryz.func56, Tryz.ntmps56
    go_wp2_with fail
    go_ret
    exact ⟨_, rfl, by rw [Hid, signL, if_pos h0], below_refl _⟩
  have h0' : 0 ≤ key := by omega
  have hdg := Lib.hid (digitsR_any m w hm)
  go_enter Tryz.func56, Tryz.ntmps56
  go_wp2_with fail
  refine hdg.out.mono ?_
  rintro e w0 ⟨v, rfl, hrow, hb0⟩
  clear hdg
  obtain ⟨D, hD⟩ : ∃ D, digitsL m.data.toList = D := ⟨_, rfl⟩
  have hDl : D.length = 35 := by rw [← hD]; exact digitsL_length _
  have hDd : Hid (∀ k, D.getD k 0 ≤ 15) := by rw [← hD]; exact fun k => digitsL_getD _ k
  rw [hD] at hrow
  have HD := Lib.hid hD; clear hD
  obtain ⟨hrl, hrc⟩ := row_cases (Row.of_owns hrow)
  rw [nats_length, hDl] at hrc
  have HDL := Lib.hid hDl; clear hDl
  rcases hrc with ⟨hn, _⟩ | ⟨_, ba, oa, ca, rfl, hca, hca2, hcell⟩
  · exfalso; have := congrArg List.length hn; rw [nats_length, HDL.out] at this; cases this
  have hcl : Hid (∀ k, k < 35 → w0.cell? ⟨ba, oa + k, none⟩ = some (.int .i64 (D.getD k 0 : Nat))) := fun k hk => hcell k _ (nats_get D k (by rw [HDL.out]; exact hk))
  clear hcell hrow hrl
  go_wp2_with fail
  go_loopw [7, 15] (fun o i wr => ∃ (k : Nat) (u : ByteArray), k ≤ 35 ∧ i = .int .i64 k ∧ o = .string u ∧ Hid (u.data.toList = sigL s.data.toList key D k) ∧ Below w0.heap.size w0 wr) (fun _ i _ => 35 - (intOf i).toNat)
  case atStart => exact ⟨0, ⟨#[]⟩, by omega, rfl, rfl, rfl, below_refl _⟩
  case round =>
    obtain ⟨k, u, hk2, rfl, rfl, hu, hbw⟩ := hrel
    have hus : u.size ≤ 1000 := by rw [← toList_size, hu.out, sigL_length]; omega
    by_cases hlt : k < 35
    · have ck : wr.cell? ⟨ba, oa + k, none⟩ = some (.int .i64 (D.getD k 0 : Nat)) := by
        have := hcl.out k hlt
        exact (hbw.cell (World.block_lt_of_cell? w0 _ this)).trans this
      obtain ⟨d, hd⟩ : ∃ d, D.getD k 0 = d := ⟨_, rfl⟩
      have hd15 : d ≤ 15 := by rw [← hd]; exact hDd.out k
      rw [hd] at ck
      have HDD := Lib.hid hd; clear hd
      have hsc := Lib.hid (secretR_any s key k wr hs hk (by omega))
      go_wp2_with fail
      refine hsc.out.mono ?_
      rintro e w1 ⟨x, rfl, hx, hb1⟩
      have hxs : x.size ≤ 1073741824 := by rw [← toList_size, hx.out, secretL_length]; decide
      have hwk := Lib.hid (steps_any x d w1 hxs (by omega))
      go_wp2_with fail
      refine hwk.out.mono ?_
      rintro e w2 ⟨y, rfl, hy, hb2⟩
      have hys : y.size ≤ 1000 := by rw [← toList_size, hy.out, chainL16 (by rw [hx.out]; exact secretL_length _ _ _)]; decide
      have hb12 := step2 (step2 hbw hb1) hb2
      clear hsc hwk ck
      go_wp2_with fail
      go_roundw
      case rel => exact ⟨k + 1, u ++ y, by omega, by go_num, rfl, by rw [Hid, append_list, hu.out, hy.out, hx.out, sigL, HDD.out], hb12⟩
      case measure => simp [intOf]; omega
    · obtain rfl : k = 35 := by omega
      go_wp2_with fail
      go_ret
      exact ⟨_, rfl, by rw [Hid, hu.out, signL, if_neg (by omega), HD.out], step2 hb0 hbw⟩
end Go.Proofs.YtpkapcijgldhhaaGreatDoor

namespace Go.Proofs.YtpkapcijgldhhaaGreatDoor
open Go.RowKit
theorem nodeR_any (a b : ByteArray) (w : World) (ha : a.size ≤ 1073741824) (hb : b.size ≤ 1073741824) :
    Calls Tryz.prog 87 #[.string a, .string b] w (StrP (hashL [[110, 111, 100, 101], a.data.toList, b.data.toList]) w) := by
  go_enter Tryz.func87, Tryz.ntmps87
  go_wp2_with fail
  refine (H_new w [⟨#[110, 111, 100, 101]⟩, a, b] _ _ _ rfl rfl (by rw [totS_cons, totS_cons, totS_cons, totS_nil]; show 10 + 4 + _ ≤ _; omega)).mono ?_
  rintro e w1 ⟨t, rfl, hts, hb1⟩
  go_wp2_with fail
  go_ret
  exact ⟨_, rfl, hts, hb1⟩
theorem size_any (h N : Nat) (w : World) (hh : h ≤ 60) (hN : Hid (2 ^ h = N)) :
    Calls Tryz.prog 54 #[.int .i64 h] w fun e w' => e = .returned (.int .i64 N) ∧ w = w' := by
  go_enter Tryz.func54, Tryz.ntmps54
  go_wp2_with fail
  go_loop [3, 4] (fun n i => ∃ k m : Nat, k ≤ h ∧ i = .int .i64 k ∧ n = .int .i64 m ∧ Hid (m = 2 ^ k) ∧ m ≤ 1152921504606846976) (fun _ i => h - (intOf i).toNat)
  case atStart => exact ⟨0, 1, by omega, rfl, rfl, rfl, by decide⟩
  case round =>
    obtain ⟨k, m, hk, rfl, rfl, hm, hml⟩ := hrel
    by_cases hlt : k < h
    · have h2 : 2 * m ≤ 1152921504606846976 := by
        rw [hm.out]
        have := Nat.pow_le_pow_right (n := 2) (by decide) (show k + 1 ≤ 60 by omega)
        rw [Nat.pow_succ] at this
        omega
      go_wp2_with fail
      go_round
      case rel => exact ⟨k + 1, 2 * m, by omega, by go_num, by go_num, by rw [Hid, hm.out, Nat.pow_succ]; omega, h2⟩
      case measure => simp [intOf]; omega
    · obtain rfl : k = h := by omega
      go_wp2_with fail
      go_ret
      exact ⟨ret_int (by rw [hm.out, hN.out]), rfl⟩
end Go.Proofs.YtpkapcijgldhhaaGreatDoor

namespace Go.Proofs.YtpkapcijgldhhaaGreatDoor
open Go.RowKit
/-- the first k nodes above a level -/
def pairN (l : List (List UInt8)) : Nat → List (List UInt8)
  | 0 => []
  | k + 1 => pairN l k ++ [nodeL (l.getD (2 * k) []) (l.getD (2 * k + 1) [])]
def pairUp (l : List (List UInt8)) : List (List UInt8) := pairN l (l.length / 2)
def levelsL : Nat → List (List UInt8) → List (List (List UInt8))
  | 0, l => [l]
  | h + 1, l => l :: levelsL h (pairUp l)
def leavesL (seed : List UInt8) : Nat → List (List UInt8)
  | 0 => []
  | i + 1 => leavesL seed i ++ [publicL seed i]
theorem pairN_length (l : List (List UInt8)) : ∀ k, (pairN l k).length = k
  | 0 => rfl
  | k + 1 => by rw [pairN, List.length_append, pairN_length l k]; rfl
theorem pairN_le (l : List (List UInt8)) : ∀ k, ∀ x ∈ pairN l k, x.length ≤ 16
  | 0 => by intro x hx; cases hx
  | k + 1 => by
    intro x hx
    rw [pairN, List.mem_append] at hx
    rcases hx with hx | hx
    · exact pairN_le l k x hx
    · rw [List.mem_singleton] at hx; subst hx; rw [nodeL, hashL_length]; decide
theorem levelsL_length : ∀ h l, (levelsL h l).length = h + 1
  | 0, _ => rfl
  | h + 1, l => by rw [levelsL, List.length_cons, levelsL_length h]
theorem infoSl : (Tryz.prog.info? 57).map (fun i => (i.zero, i.size, i.bytes)) = some (some (.slice none 0 0), 1, 24) := by kernel_rfl
theorem step_append_ownL {P : Program} {w : World} {ops : Array Oper} {o : Oper} {a : Act} {K : Act → World → Prop} {Q : Exit → Act → World → Prop} {E : Prop} (hgd : o.guard = none) (s x : Operand) (t : TypeId)
    (ho : o.op = .call { callee := .builtin .append, args := #[s, x], argTypes := #[t, t] })
    (base : Nat) (e : TypeId) (i : TypeInfo) (z : Value) (size bytes : Nat) (ht : P.underlying t = some (.slice e)) (hi : P.info? e = some i) (hz : i.zero = some z)
    (hsize : i.size = size) (hby : i.bytes = bytes) (hzs : z.cells.size = size) (hsz : 0 < size)
    (v : Value) (n : Nat) (xs : List Value) (hs : a.eval s = v) (hown : w.ownsRow base e size v n xs)
    (ad : Addr) (m c : Nat) (news : List Value) (hx : a.eval x = .slice (some ad) m c) (hl : news.length = m * size) (hnews : ∀ j u, news[j]? = some u → w.cell? (ad.add j) = some u) (h1 : ∀ u ∈ news, u.oneCell' = true)
    (h63 : n + m ≤ maxLen) (hbytes : (n + m) * bytes ≤ 140737488355328) (hbase : base ≤ w.heap.size)
    (h : ∀ v' w', w'.ownsRow base e size v' (n + m) (xs ++ news) → w.grownBy w' v.ownBlock → (v' = .slice none 0 0 ↔ v = .slice none 0 0 ∧ m = 0) → K (a.put o.dst v') w') :
    if Region.wanted o (yielded ops a.tmps) = true then Oper.wp P o a w K Q else E := by
  have hw : Region.wanted o (yielded ops a.tmps) = true := by simp [Region.wanted, hgd]
  rw [if_pos hw]
  exact wp_append_own w s x t ho base e i z size bytes ht hi hz hsize hby hzs hsz v n xs hs hown ad m c news hx hl hnews h1 h63 hbytes hbase h
theorem row_block {w : World} {base : Nat} {e : TypeId} {v : Value} {n : Nat} {xs : List Value} (h : w.ownsRow base e 1 v n xs) : ∀ g, v.ownBlock = some g → ∃ c fz, w.heap[g]? = some (.cells c e fz) := by
  intro g hg
  rcases h.2 with ⟨rfl, _⟩ | ⟨g', cap, cur, rfl, _, hh, _⟩
  · cases hg
  · obtain rfl : g' = g := Option.some.inj hg
    exact ⟨_, _, hh⟩
theorem block_kept {w w' : World} {base : Nat} {e T : TypeId} {v : Value} {n : Nat} {xs : List Value} {b : Nat} {cs : Array Value} {fz : Nat × Nat} (hb : w.heap[b]? = some (.cells cs T fz)) (h : w.ownsRow base e 1 v n xs) (hg : w.grownBy w' v.ownBlock) (hT : T ≠ e) : w'.heap[b]? = some (.cells cs T fz) := by
  rw [hg.block b (Array.getElem?_eq_some_iff.1 hb).1 (fun e1 => ?_)]
  · exact hb
  · obtain ⟨c, fz', hc⟩ := row_block h b e1.symm
    rw [hb] at hc
    injection hc with h1
    injection h1 with _ h3 _
    exact hT h3
end Go.Proofs.YtpkapcijgldhhaaGreatDoor

namespace Go.Proofs.YtpkapcijgldhhaaGreatDoor
open Go.RowKit
theorem leavesL_length (s : List UInt8) : ∀ n, (leavesL s n).length = n
  | 0 => rfl
  | n + 1 => by rw [leavesL, List.length_append, leavesL_length s n]; rfl
theorem publicL_le (s : List UInt8) (k : Int) : (publicL s k).length ≤ 16 := by
  unfold publicL
  split
  · exact Nat.zero_le _
  · rw [hashL_length]; exact Nat.le_refl _
theorem leavesL_le (s : List UInt8) : ∀ n, ∀ x ∈ leavesL s n, x.length ≤ 16
  | 0 => by intro x hx; cases hx
  | n + 1 => by
    intro x hx
    rw [leavesL, List.mem_append] at hx
    rcases hx with hx | hx
    · exact leavesL_le s n x hx
    · rw [List.mem_singleton] at hx; subst hx; exact publicL_le _ _
def treeL (s : List UInt8) (h : Nat) : List (List (List UInt8)) := levelsL h (leavesL s (2 ^ h))
def LvlP (L : List (List (List UInt8))) (w : World) (e : Ending) (w' : World) : Prop :=
  ∃ vo vs, e = .returned vo ∧ w'.ownsRow w.heap.size 57 1 vo vs.length vs ∧ LvlIs w' vs L ∧ Below w.heap.size w w'
theorem levelsL_get : ∀ (h : Nat) (l : List (List UInt8)), l.length = 2 ^ h → ∀ i, i ≤ h → ∃ m, (levelsL h l)[i]? = some m ∧ m.length = 2 ^ (h - i)
  | 0, l, hl, i, hi => ⟨l, by obtain rfl : i = 0 := by omega
                              rfl, by simpa using hl⟩
  | h + 1, l, hl, 0, _ => ⟨l, rfl, hl⟩
  | h + 1, l, hl, i + 1, hi => by
    obtain ⟨m, h1, h2⟩ := levelsL_get h (pairUp l) (by rw [pairUp, pairN_length, hl, Nat.pow_succ]; omega) i (by omega)
    exact ⟨m, h1, by rw [h2]; congr 1; omega⟩
/-- the root of a tree, with its error -/
def rootL (s : List UInt8) (h : Int) : List UInt8 := if h < 0 ∨ 6 < h then [] else ((treeL s h.toNat).getD h.toNat []).getD 0 []
def rootE (h : Int) : Int := if h < 0 ∨ 6 < h then 2 else 0
end Go.Proofs.YtpkapcijgldhhaaGreatDoor

namespace Go.Proofs.YtpkapcijgldhhaaGreatDoor
open Go.RowKit
section
variable {H : Type} {P : Program}
/-- each weight of a datum is within the reach -/
def Wt (P : Program) (t : TypeId) (d : DataW H) : Prop := ∀ n ∈ d.weights P t, n ≤ reachBytes
theorem Wt.each {ts : List TypeId} {ds : List (DataW H)} (h : (DataW.weightsEach P ts ds).all (· ≤ reachBytes) = true) {j : Nat} {t : TypeId} {d : DataW H} (ht : ts[j]? = some t) (hd : ds[j]? = some d) : Wt P t d := fun n hn => by
  have := List.all_eq_true.1 h n (DataW.weights_mem_each ht hd n hn)
  simpa using this
theorem Wt.string {t : TypeId} {b : List UInt8} (h : Wt P t (.lit (.string b) : DataW H)) : b.length ≤ reachBytes := h b.length (by simp [DataW.weights])
theorem Wt.agg {t : TypeId} {fs : Array Field} {parts : List (DataW H)} (h : Wt P t (.agg parts)) (hu : P.underlying t = some (.struct fs)) {j : Nat} {tj : TypeId} {d : DataW H} (ht : (fs.toList.map (·.type))[j]? = some tj) (hd : parts[j]? = some d) : Wt P tj d := fun n hn =>
  h n (by simp only [DataW.weights, hu]; exact DataW.weights_mem_each ht hd n hn)
theorem weightsAll_mem {e : TypeId} : ∀ {ds : List (DataW H)} {d : DataW H}, d ∈ ds → ∀ n ∈ d.weights P e, n ∈ DataW.weightsAll P e ds
  | x :: r, d, hd, n, hn => by
    simp only [DataW.weightsAll, List.mem_append]
    rcases List.mem_cons.1 hd with rfl | hd
    · exact .inl hn
    · exact .inr (weightsAll_mem hd n hn)
theorem Wt.slice {t e : TypeId} {elems spare : List (DataW H)} (h : Wt P t (.slice elems spare)) (hu : P.underlying t = some (.slice e)) : (elems.length + spare.length) * P.bytesOf e ≤ reachBytes ∧ ∀ d ∈ elems, Wt P e d := by
  refine ⟨h _ (by simp [DataW.weights, hu]), fun d hd n hn => h n ?_⟩
  simp only [DataW.weights, hu, List.mem_cons, List.mem_append]
  exact .inr (.inl (weightsAll_mem hd n hn))
end
end Go.Proofs.YtpkapcijgldhhaaGreatDoor
