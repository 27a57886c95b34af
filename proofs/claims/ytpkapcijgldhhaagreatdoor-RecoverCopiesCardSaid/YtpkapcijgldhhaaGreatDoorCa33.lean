/-
  The walks of the reference's digits, Check, Signed, Encode and Digest of chapter 40.
-/
import Derived.Test.YtpkapcijgldhhaaGreatDoorCa32
import Derived.Test.YtpkapcijgldhhaaGreatDoorCa27
namespace Go.Proofs.YtpkapcijgldhhaaGreatDoor
open Go.RowKit Go.Shelf

set_option maxHeartbeats 1000000 in
theorem rdigits_any (n : Nat) (w : World) (hn : n < 1000000000) : Calls Tryz.prog 49 #[.int .i64 n] w (StrS (dg 8 n) w) := by
  go_enter Tryz.func49, Tryz.ntmps49
  go_wp2_with fail
  go_loop [0, 3, 4] (fun m v i => ∃ (k q : Nat) (t : ByteArray), k ≤ 8 ∧ i = .int .i64 k ∧ m = .int .i64 q ∧ v = .string t ∧ q < 1000000000 ∧ Hid (dg 8 n = dg (8 - k) q ++ t.data.toList) ∧ t.size = k) (fun _ _ i => 8 - (intOf i).toNat)
  case atStart => exact ⟨0, n, ⟨#[]⟩, by omega, rfl, rfl, rfl, hn, by rw [Hid]; simp, rfl⟩
  case round =>
    obtain ⟨k, q, t, hk, rfl, rfl, rfl, hq, hE, hts⟩ := hrel
    by_cases hlt : k < 8
    · have Hd := Lib.hid (digit_at (q % 10) (Nat.mod_lt _ (by decide)))
      have HN := Lib.hid (show dg (8 - k) q = dg (8 - (k + 1)) (q / 10) ++ [UInt8.ofNat (48 + q % 10)] from by
        rw [show 8 - k = (8 - (k + 1)) + 1 from by omega]; rfl)
      have e1 : Int.tmod (q : Int) 10 = ((q % 10 : Nat) : Int) := by rw [Int.tmod_eq_emod_of_nonneg (by omega)]; omega
      have e2 : Int.tdiv (q : Int) 10 = ((q / 10 : Nat) : Int) := by rw [Int.tdiv_eq_ediv_of_nonneg (by omega)]; omega
      have b1 : q % 10 < 10 := Nat.mod_lt _ (by decide)
      have b2 : q / 10 < 1000000000 := by omega
      generalize q % 10 = r at *
      generalize q / 10 = q2 at *
      go_wp2_with fail
      go_round
      case rel => exact ⟨k + 1, q2, _, by omega, by go_num, rfl, rfl, b2, by rw [Hid, append_list, Hd.out, ← List.append_assoc, ← HN.out]; exact hE.out, by rw [ByteArray.size_append, ← toList_size, Hd.out, hts]; simp; omega⟩
      case measure => simp [intOf]; omega
    · obtain rfl : k = 8 := by omega
      go_wp2_with fail
      go_ret
      exact ⟨t, rfl, hE.out.symm, rfl⟩
def chkS (f : Int) (N : Nat) (e : Int) (l : Nat) : Int := if f = 0 then (if 400 < N then 6 else if e = 0 then (if 2000 < l then 6 else 0) else e) else f
theorem chkS_f {f : Int} {N : Nat} {e : Int} {l : Nat} (h : f ≠ 0) : chkS f N e l = f := by rw [chkS, if_neg h]
theorem chkS_n {N : Nat} {e : Int} {l : Nat} (h : 400 < N) : chkS 0 N e l = 6 := by rw [chkS, if_pos rfl, if_pos h]
theorem chkS_e {N : Nat} {e : Int} {l : Nat} (h : ¬ 400 < N) (he : e ≠ 0) : chkS 0 N e l = e := by rw [chkS, if_pos rfl, if_neg h, if_neg he]
theorem chkS_l {N : Nat} {l : Nat} (h : ¬ 400 < N) : chkS 0 N 0 l = if 2000 < l then 6 else 0 := by rw [chkS, if_pos rfl, if_neg h, if_pos rfl]
theorem numQ (n : Int) (h : -9223372036854775808 ≤ n ∧ n ≤ 9223372036854775807) : ∃ t : ByteArray, Hid (t.data.toList = numL n) ∧ t.size ≤ 21 ∧ Hid (∀ W, Calls Tryz.prog 51 #[.int .i64 n] W fun e w' => e = .returned (.string t) ∧ w' = W) := refNumberQ n h.1 h.2
end Go.Proofs.YtpkapcijgldhhaaGreatDoor
