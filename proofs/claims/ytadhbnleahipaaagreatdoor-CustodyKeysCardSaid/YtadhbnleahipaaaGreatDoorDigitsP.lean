/-
  Digits: the digits of a message and its checksum, in the program and in the reference; the reference's public key; signatures.
-/
import Derived.Test.YtadhbnleahipaaaGreatDoorDigits
import Derived.Deep.CutBlock
import Derived.Deep.CutRange
namespace Go.Proofs.YtadhbnleahipaaaGreatDoor
open Go.RowKit
set_option maxHeartbeats 1000000 in
set_option maxRecDepth 100000 in
theorem digits_any (m : ByteArray) (w : World) (he : Env w) (hm : m.size ≤ 1073741824) :
    Calls Tryz.prog 74 #[.string m] w (DigP (digitsL m.data.toList) w) := by
  obtain ⟨i0, hi, hz0, hz1, hz2⟩ := info_parts infoInt
  go_enter Tryz.func74, Tryz.ntmps74
  go_wp2_with fail
  refine (hash_new w [⟨#[109, 101, 115, 115, 97, 103, 101]⟩, m] _ _ _ he rfl rfl (by rw [totS_cons, totS_cons, totS_nil]; show 10 + 7 + _ ≤ _; omega)).mono ?_
  rintro e w1 ⟨h, rfl, hh, hb1⟩
  have hh' : h.data.toList = hashL [lMessage, m.data.toList] := hh.out
  have hhs : h.size = 16 := by rw [← toList_size, hh']; exact hashL_length _
  have HH := Lib.hid hh'
  have HS := Lib.hid hhs
  clear hh hh' hhs
  have hcv := fun (W : World) => Lib.run_convert_string_bytes (P := Tryz.prog) W 9 39 5 h Tryz.underlying9 Tryz.underlying39 Tryz.underlying5
  go_wp2_with fail
  obtain ⟨B, hB⟩ : ∃ B, w1.heap.size = B := ⟨_, rfl⟩
  have hBw : w.heap.size ≤ B := by rw [← hB]; exact hb1.size
  have hcell : ∀ j, j < 16 → (Lib.bytesWorld w1 5 h).cell? ⟨B, j, none⟩ = some (.int .u8 (h.data.toList.getD j 0).toNat) := fun j hj => by
    rw [← hB]; exact Lib.bytesWorld_cell w1 _ h j (by rw [HS.out]; exact hj)
  have hbW := hb1.trans ((below_bytes w1 h 5).mono hb1.size)
  have hzW : (Lib.bytesWorld w1 5 h).heap.size = B + 1 := by rw [Lib.bytesWorld_size, hB]
  rw [hB]
  clear hcv hb1 hB
  generalize Lib.bytesWorld w1 5 h = W1 at hcell hbW hzW ⊢
  have HCELL := Lib.hid hcell
  have HZW := Lib.hid hzW
  clear hcell hzW
  have hb0 : Below (B + 1) W1 W1 := Below.refl _ _
  go_loopw [3, 4, 14] (fun v c i wr => ∃ k : Nat, k ≤ 16 ∧ i = .int .i64 k ∧ c = .int .i64 (cks h.data.toList k) ∧ wr.ownsRow (B + 1) 3 1 v (digs h.data.toList k).length (nats (digs h.data.toList k)) ∧ Below (B + 1) W1 wr) (fun _ _ i _ => 16 - (intOf i).toNat)
  case atStart => exact ⟨0, by omega, rfl, rfl, World.ownsRow_nil _ _ _ _, hb0⟩
  case round =>
    obtain ⟨k, hk, rfl, rfl, hown, hbw⟩ := hrel
    have hzr : B + 1 ≤ wr.heap.size := by have := hbw.size; have := HZW.out; omega
    by_cases hlt : k < 16
    · have hcl := cks_le h.data.toList k
      have hbl := (h.data.toList.getD k 0).toNat_lt
      have ck : wr.cell? ⟨B, k, none⟩ = some (.int .u8 (h.data.toList.getD k 0).toNat) := (hbw.cell (p := ⟨B, k, none⟩) (Nat.lt_succ_self B)).trans (HCELL.out k hlt)
      have hn1 : digs h.data.toList (k + 1) = digs h.data.toList k ++ [(h.data.toList.getD k 0).toNat / 16, (h.data.toList.getD k 0).toNat % 16] := by rw [digs]
      have hn2 : cks h.data.toList (k + 1) = cks h.data.toList k + (30 - (h.data.toList.getD k 0).toNat / 16 - (h.data.toList.getD k 0).toNat % 16) := by rw [cks]
      have hdl := digs_length h.data.toList k
      rw [hdl] at hown
      obtain ⟨C, hC⟩ : ∃ C, cks h.data.toList k = C := ⟨_, rfl⟩
      obtain ⟨D, hD⟩ : ∃ D, digs h.data.toList k = D := ⟨_, rfl⟩
      rw [hC] at hcl hn2 ⊢
      rw [hD] at hown hn1
      have HN1 := Lib.hid hn1
      have HN2 := Lib.hid hn2
      have HDL := Lib.hid hdl
      have HC := Lib.hid hC
      have HD := Lib.hid hD
      clear hn1 hn2 hdl hC hD
      obtain ⟨b, hb⟩ : ∃ b, (h.data.toList.getD k 0).toNat = b := ⟨_, rfl⟩
      rw [hb] at hbl HN1 HN2 ck
      have HBB := Lib.hid hb; clear hb
      obtain ⟨q, hq⟩ : ∃ q, b / 16 = q := ⟨_, rfl⟩
      obtain ⟨r, hr⟩ : ∃ r, b % 16 = r := ⟨_, rfl⟩
      have hq1 : q ≤ 15 := by omega
      have hr1 : r ≤ 15 := by omega
      have d1 : (b : Int) / 16 = q := by omega
      have d2 : (b : Int) % 16 = r := by omega
      have d3 : (b : Int).tdiv 16 = q := by rw [Int.tdiv_eq_ediv_of_nonneg (by omega)]; exact d1
      have d4 : (b : Int).tmod 16 = r := by rw [Int.tmod_eq_emod_of_nonneg (by omega)]; exact d2
      have d5 : IntKind.i64.wrap (b : Int) = b := IntWalk.i64_in _ (by omega)
      have d6 : IntKind.i64.wrap (q : Int) = q := IntWalk.i64_in _ (by omega)
      have d7 : IntKind.i64.wrap (r : Int) = r := IntWalk.i64_in _ (by omega)
      have d8 : (k : Int) < h.size := by rw [HS.out]; omega
      rw [hq, hr] at HN1 HN2
      have HQ := Lib.hid hq
      have HR := Lib.hid hr
      clear hq hr
      go_wp2_with (at_builtin; refine wpList_append_own _ rfl _ _ 115 rfl (B + 1) 3 i0 (.int .i64 0) 1 8 Tryz.underlying115 hi hz0 hz1 hz2 rfl (by decide) _ _ _ rfl (hown.alloc _) ⟨wr.heap.size, 0, none⟩ 2 2 [.int .i64 q, .int .i64 r] rfl rfl (fun j x h => cell_new2 wr _ _ _ j x h) ?c2 ?c3 ?c4 ?c5 ?_)
      case c2 => intro x hx; simp only [List.mem_cons, List.mem_nil_iff, or_false] at hx; rcases hx with rfl | rfl <;> rfl
      case c3 => unfold maxLen; omega
      case c4 => omega
      case c5 => simp; omega
      intro v' w3 hown2 hgrow _
      have hb3 := below_grownBy (hbw.alloc hzr _) (hown.alloc _) hgrow (by simp; omega)
      have hown3 : w3.ownsRow (B + 1) 3 1 v' (digs h.data.toList (k + 1)).length (nats (digs h.data.toList (k + 1))) := by
        rw [HN1.out, nats_append, List.length_append, ← HD.out, HDL.out, HD.out]
        exact hown2
      clear hgrow hown2
      go_wp2_with fail
      go_roundw
      case rel => exact ⟨k + 1, by omega, by go_num, by rw [HN2.out]; congr 1; omega, hown3, hb3⟩
      case measure => simp [intOf]; omega
    · obtain rfl : k = 16 := by omega
      have d9 : (16 : Int) = h.size := by rw [HS.out]; rfl
      have D9 := Lib.hid d9
      have d10 : (h.size : Int) ≤ 16 := by omega
      clear d9
      have hcl := cks_le h.data.toList 16
      have hdl := digs_length h.data.toList 16
      rw [hdl] at hown
      obtain ⟨C, hC⟩ : ∃ C, cks h.data.toList 16 = C := ⟨_, rfl⟩
      obtain ⟨D, hD⟩ : ∃ D, digs h.data.toList 16 = D := ⟨_, rfl⟩
      rw [hC] at hcl ⊢
      rw [hD] at hown
      have HDL := Lib.hid hdl
      have HC := Lib.hid hC
      have HD := Lib.hid hD
      clear hdl hC hD
      obtain ⟨q, hq⟩ : ∃ q, C / 256 = q := ⟨_, rfl⟩
      obtain ⟨r, hr⟩ : ∃ r, C / 16 % 16 = r := ⟨_, rfl⟩
      obtain ⟨z, hz⟩ : ∃ z, C % 16 = z := ⟨_, rfl⟩
      have d1 : (C : Int) / 256 = q := by omega
      have d2 : (C : Int) / 16 % 16 = r := by omega
      have d3 : (C : Int) % 16 = z := by omega
      have HQ := Lib.hid hq
      have HR := Lib.hid hr
      have HZ := Lib.hid hz
      clear hq hr hz
      go_wp2_with (at_builtin; refine wpList_append_own _ rfl _ _ 115 rfl (B + 1) 3 i0 (.int .i64 0) 1 8 Tryz.underlying115 hi hz0 hz1 hz2 rfl (by decide) _ _ _ rfl (hown.alloc _) ⟨wr.heap.size, 0, none⟩ 3 3 [.int .i64 q, .int .i64 r, .int .i64 z] rfl rfl (fun j x h => cell_new3 wr _ _ _ _ j x h) ?c2 ?c3 ?c4 ?c5 ?_)
      case c2 => intro x hx; simp only [List.mem_cons, List.mem_nil_iff, or_false] at hx; rcases hx with rfl | rfl | rfl <;> rfl
      case c3 => unfold maxLen; omega
      case c4 => omega
      case c5 => simp; omega
      intro v' w3 hown2 hgrow _
      have hb3 := below_grownBy (hbw.alloc hzr _) (hown.alloc _) hgrow (by simp; omega)
      have hrow : w3.ownsRow 0 3 1 v' (digitsL m.data.toList).length (nats (digitsL m.data.toList)) := by
        rw [digitsL_length, digitsL, ← HH.out, HC.out, HQ.out, HR.out, HZ.out, HD.out, nats_append]
        exact owns_zero hown2
      clear hgrow hown2
      go_wp2_with fail
      go_ret
      exact ⟨_, rfl, hrow, hbW.trans (hb3.mono (by omega))⟩
end Go.Proofs.YtadhbnleahipaaaGreatDoor
