/-
  The reference's public key and the signatures.
-/
import Derived.Test.YtadhbnleahipaaaGreatDoorDigits
import Derived.Deep.CutBlock
import Derived.Deep.CutRange
namespace Go.Proofs.YtadhbnleahipaaaGreatDoor
open Go.RowKit
set_option maxHeartbeats 1000000 in
set_option maxRecDepth 100000 in
theorem publicR_any (s : ByteArray) (key : Int) (w : World) (hs : s.size ≤ 1073741824) (hk : -9223372036854775808 ≤ key ∧ key ≤ 9223372036854775807) :
    Calls Tryz.prog 78 #[.string s, .int .i64 key] w (StrP (publicL s.data.toList key) w) := by
  by_cases h0 : key < 0
  · go_enter Tryz.func78, Tryz.ntmps78
    go_wp2_with fail
    go_ret
    exact ⟨_, rfl, by rw [Hid, publicL, if_pos h0], below_refl _⟩
  obtain ⟨i0, hi, hz0, hz1, hz2⟩ := info_parts infoStr
  have h0' : 0 ≤ key := by omega
  have hown0 := Lib.hid (owns_full (base := w.heap.size) (e := 9) w #[.string ⟨#[112, 117, 98, 108, 105, 99]⟩] 1 (Nat.le_refl _) (by decide) rfl)
  have hbel0 : Below w.heap.size w (w.alloc (.cells #[.string ⟨#[112, 117, 98, 108, 105, 99]⟩] 9)) := (below_refl w).alloc (Nat.le_refl _) _
  go_enter Tryz.func78, Tryz.ntmps78
  go_wp2_with fail
  go_loopw [5, 6] (fun v i wr => ∃ k : Nat, k ≤ 35 ∧ i = .int .i64 k ∧ OwnStrs w.heap.size wr v ((lPublic :: endsL s.data.toList key k).map bA) ∧ Below w.heap.size w wr) (fun _ i _ => 35 - (intOf i).toNat)
  case atStart => exact ⟨0, by omega, rfl, hown0.out, hbel0⟩
  case round =>
    obtain ⟨k, hk2, rfl, hown, hbw⟩ := hrel
    by_cases hlt : k < 35
    · have hsc := secretR_any s key k wr hs hk (by omega)
      have HSC := Lib.hid hsc; clear hsc
      go_wp2_with fail
      refine HSC.out.mono ?_
      rintro e w1 ⟨x, rfl, hx, hb1⟩
      have hxs : x.size ≤ 1073741824 := by rw [← toList_size, hx.out, secretL_length]; decide
      have hwk := Lib.hid (steps_any x 15 w1 hxs (by decide))
      go_wp2_with fail
      refine hwk.out.mono ?_
      rintro e w2 ⟨u, rfl, hu, hb2⟩
      have hb12 := step2 (step2 hbw hb1) hb2
      have hown1 := (hown.below hb1).below hb2
      have hown1' : w2.ownsRow w.heap.size 9 1 _ ((lPublic :: endsL s.data.toList key k).map bA).length (((lPublic :: endsL s.data.toList key k).map bA).map Value.string) := hown1
      have hln : ((lPublic :: endsL s.data.toList key k).map bA).length = k + 1 := by rw [List.length_map, List.length_cons, endsL_length]
      have hnx : ((lPublic :: endsL s.data.toList key (k + 1)).map bA).map Value.string = ((lPublic :: endsL s.data.toList key k).map bA).map Value.string ++ [.string u] := by
        rw [endsL, ← List.cons_append, List.map_append, List.map_append, eq_bA hu.out, hx.out]; rfl
      have hln2 : ((lPublic :: endsL s.data.toList key (k + 1)).map bA).length = k + 1 + 1 := by rw [List.length_map, List.length_cons, endsL_length]
      have HNX := Lib.hid hnx
      have HL2 := Lib.hid hln2
      rw [hln] at hown1'
      clear hln hnx hln2 hown1 hwk HSC hown
      obtain ⟨xs, hxs2⟩ : ∃ xs, ((lPublic :: endsL s.data.toList key k).map bA).map Value.string = xs := ⟨_, rfl⟩
      rw [hxs2] at hown1'
      have HXS := Lib.hid hxs2; clear hxs2
      go_wp2_with (at_builtin; refine wpList_append_own _ rfl _ _ 56 rfl w.heap.size 9 i0 (.string ⟨#[]⟩) 1 16 Tryz.underlying56 hi hz0 hz1 hz2 rfl (by decide) _ _ _ rfl (hown1'.alloc _) ⟨w2.heap.size, 0, none⟩ 1 1 [.string u] rfl rfl (fun j x h => cell_str1 w2 u _ j x h) ?c2 ?c3 ?c4 ?c5 ?_)
      case c2 => intro x hx; simp only [List.mem_singleton] at hx; subst hx; rfl
      case c3 => unfold maxLen; omega
      case c4 => omega
      case c5 => have := hb12.size; simp; omega
      intro v' w3 hown2 hgrow _
      have hb3 := below_grownBy (hb12.alloc hb12.size _) (hown1'.alloc _) hgrow (by have := hb12.size; simp; omega)
      have hown3 : OwnStrs w.heap.size w3 v' ((lPublic :: endsL s.data.toList key (k + 1)).map bA) := by
        unfold OwnStrs
        rw [HL2.out, HNX.out, HXS.out]
        exact hown2
      clear hgrow hown2 hown1'
      go_wp2_with fail
      go_roundw
      case rel => exact ⟨k + 1, by omega, by go_num, hown3, hb3⟩
      case measure => simp [intOf]; omega
    · obtain rfl : k = 35 := by omega
      have hpb := Lib.hid (H_any _ ((lPublic :: endsL s.data.toList key 35).map bA) wr hown.strs (by rw [List.map_cons, totS_cons, totS_ends]; show 10 + 6 + _ ≤ _; omega))
      go_wp2_with fail
      refine hpb.out.mono ?_
      rintro e w1 ⟨t, rfl, hts, hb1⟩
      go_wp2_with fail
      go_ret
      exact ⟨_, rfl, by rw [Hid, hts.out, map_bA, publicL, if_neg (by omega)], step2 hbw hb1⟩
/-- the first n parts of a signature -/
def sigL (seed : List UInt8) (key : Int) (D : List Nat) : Nat → List UInt8
  | 0 => []
  | i + 1 => sigL seed key D i ++ chainL (secretL seed key i) (D.getD i 0)
theorem sigL_length (seed : List UInt8) (key : Int) (D : List Nat) : ∀ n, (sigL seed key D n).length = 16 * n
  | 0 => rfl
  | n + 1 => by rw [sigL, List.length_append, sigL_length seed key D n, chainL16 (secretL_length _ _ _)]; omega
/-- a signature -/
def signL (seed : List UInt8) (key : Int) (m : List UInt8) : List UInt8 := if key < 0 then [] else sigL seed key (digitsL m) 35
theorem digitsL_getD (m : List UInt8) (k : Nat) : (digitsL m).getD k 0 ≤ 15 := by
  rw [List.getD_eq_getElem?_getD]
  cases h : (digitsL m)[k]? with
  | none => decide
  | some x => exact digitsL_le m x (List.mem_of_getElem? h)
theorem nats_get (D : List Nat) (k : Nat) (h : k < D.length) : (nats D)[k]? = some (.int .i64 (D.getD k 0 : Nat)) := by
  unfold nats
  rw [List.getElem?_map, List.getElem?_eq_getElem h, List.getD_eq_getElem?_getD, List.getElem?_eq_getElem h]; rfl
set_option maxHeartbeats 1000000 in
set_option maxRecDepth 100000 in
theorem signR_any (s : ByteArray) (key : Int) (m : ByteArray) (w : World) (hs : s.size ≤ 1073741824) (hm : m.size ≤ 1073741824) (hk : -9223372036854775808 ≤ key ∧ key ≤ 9223372036854775807) :
    Calls Tryz.prog 57 #[.string s, .int .i64 key, .string m] w (StrP (signL s.data.toList key m.data.toList) w) := by
  by_cases h0 : key < 0
  · go_enter Tryz.func57, Tryz.ntmps57
    go_wp2_with fail
    go_ret
    exact ⟨_, rfl, by rw [Hid, signL, if_pos h0], below_refl _⟩
  have h0' : 0 ≤ key := by omega
  have hdg := Lib.hid (digitsR_any m w hm)
  go_enter Tryz.func57, Tryz.ntmps57
  go_wp2_with fail
  refine hdg.out.mono ?_
  rintro e w0 ⟨v, rfl, hrow, hb0⟩
  clear hdg
  obtain ⟨D, hD⟩ : ∃ D, digitsL m.data.toList = D := ⟨_, rfl⟩
  have hDl : D.length = 35 := by rw [← hD]; exact digitsL_length _
  have hDd : Hid (∀ k, D.getD k 0 ≤ 15) := by rw [← hD]; exact fun k => digitsL_getD _ k
  rw [hD] at hrow
  have HD := Lib.hid hD; clear hD
  obtain ⟨hrl, hrc⟩ := row_cases (Row.of_owns hrow)
  rw [nats_length, hDl] at hrc
  have HDL := Lib.hid hDl; clear hDl
  rcases hrc with ⟨hn, _⟩ | ⟨_, ba, oa, ca, rfl, hca, hca2, hcell⟩
  · exfalso; have := congrArg List.length hn; rw [nats_length, HDL.out] at this; cases this
  have hcl : Hid (∀ k, k < 35 → w0.cell? ⟨ba, oa + k, none⟩ = some (.int .i64 (D.getD k 0 : Nat))) := fun k hk => hcell k _ (nats_get D k (by rw [HDL.out]; exact hk))
  clear hcell hrow hrl
  go_wp2_with fail
  go_loopw [7, 15] (fun o i wr => ∃ (k : Nat) (u : ByteArray), k ≤ 35 ∧ i = .int .i64 k ∧ o = .string u ∧ Hid (u.data.toList = sigL s.data.toList key D k) ∧ Below w0.heap.size w0 wr) (fun _ i _ => 35 - (intOf i).toNat)
  case atStart => exact ⟨0, ⟨#[]⟩, by omega, rfl, rfl, rfl, below_refl _⟩
  case round =>
    obtain ⟨k, u, hk2, rfl, rfl, hu, hbw⟩ := hrel
    have hus : u.size ≤ 1000 := by rw [← toList_size, hu.out, sigL_length]; omega
    by_cases hlt : k < 35
    · have ck : wr.cell? ⟨ba, oa + k, none⟩ = some (.int .i64 (D.getD k 0 : Nat)) := by
        have := hcl.out k hlt
        exact (hbw.cell (World.block_lt_of_cell? w0 _ this)).trans this
      obtain ⟨d, hd⟩ : ∃ d, D.getD k 0 = d := ⟨_, rfl⟩
      have hd15 : d ≤ 15 := by rw [← hd]; exact hDd.out k
      rw [hd] at ck
      have HDD := Lib.hid hd; clear hd
      have hsc := Lib.hid (secretR_any s key k wr hs hk (by omega))
      go_wp2_with fail
      refine hsc.out.mono ?_
      rintro e w1 ⟨x, rfl, hx, hb1⟩
      have hxs : x.size ≤ 1073741824 := by rw [← toList_size, hx.out, secretL_length]; decide
      have hwk := Lib.hid (steps_any x d w1 hxs (by omega))
      go_wp2_with fail
      refine hwk.out.mono ?_
      rintro e w2 ⟨y, rfl, hy, hb2⟩
      have hys : y.size ≤ 1000 := by rw [← toList_size, hy.out, chainL16 (by rw [hx.out]; exact secretL_length _ _ _)]; decide
      have hb12 := step2 (step2 hbw hb1) hb2
      clear hsc hwk ck
      go_wp2_with fail
      go_roundw
      case rel => exact ⟨k + 1, u ++ y, by omega, by go_num, rfl, by rw [Hid, append_list, hu.out, hy.out, hx.out, sigL, HDD.out], hb12⟩
      case measure => simp [intOf]; omega
    · obtain rfl : k = 35 := by omega
      go_wp2_with fail
      go_ret
      exact ⟨_, rfl, by rw [Hid, hu.out, signL, if_neg (by omega), HD.out], step2 hb0 hbw⟩
end Go.Proofs.YtadhbnleahipaaaGreatDoor
