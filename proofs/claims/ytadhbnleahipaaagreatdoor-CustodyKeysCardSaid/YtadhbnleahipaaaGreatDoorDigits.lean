/-
  Digits: the digits of a message and its checksum, in the program and in the reference; the reference's public key; signatures.
-/
import Derived.Test.YtadhbnleahipaaaGreatDoorHash
import Derived.Deep.CutBlock
import Derived.Deep.CutRange
namespace Go.Proofs.YtadhbnleahipaaaGreatDoor
open Go.RowKit
def lMessage : List UInt8 := [109, 101, 115, 115, 97, 103, 101]
def digs (h : List UInt8) : Nat → List Nat
  | 0 => []
  | k + 1 => digs h k ++ [(h.getD k 0).toNat / 16, (h.getD k 0).toNat % 16]
def cks (h : List UInt8) : Nat → Nat
  | 0 => 0
  | k + 1 => cks h k + (30 - (h.getD k 0).toNat / 16 - (h.getD k 0).toNat % 16)
def digitsL (m : List UInt8) : List Nat :=
  digs (hashL [lMessage, m]) 16 ++ [cks (hashL [lMessage, m]) 16 / 256, cks (hashL [lMessage, m]) 16 / 16 % 16, cks (hashL [lMessage, m]) 16 % 16]
theorem digs_length (h : List UInt8) : ∀ k, (digs h k).length = 2 * k
  | 0 => rfl
  | k + 1 => by rw [digs, List.length_append, digs_length h k]; simp; omega
theorem digitsL_length (m : List UInt8) : (digitsL m).length = 35 := by rw [digitsL, List.length_append, digs_length]; rfl
theorem cks_le (h : List UInt8) : ∀ k, cks h k ≤ 30 * k
  | 0 => Nat.le_refl _
  | k + 1 => by have := cks_le h k; rw [cks]; omega
theorem digs_le (h : List UInt8) : ∀ k, ∀ d ∈ digs h k, d ≤ 15
  | 0 => by intro d hd; cases hd
  | k + 1 => by
    intro d hd
    rw [digs, List.mem_append] at hd
    rcases hd with hd | hd
    · exact digs_le h k d hd
    · have := (h.getD k 0).toNat_lt
      simp only [List.mem_cons, List.mem_nil_iff, or_false] at hd
      rcases hd with rfl | rfl <;> omega
theorem digitsL_le (m : List UInt8) : ∀ d ∈ digitsL m, d ≤ 15 := by
  intro d hd
  rw [digitsL, List.mem_append] at hd
  have := cks_le (hashL [lMessage, m]) 16
  rcases hd with hd | hd
  · exact digs_le _ _ d hd
  · simp only [List.mem_cons, List.mem_nil_iff, or_false] at hd
    rcases hd with rfl | rfl | rfl <;> omega
def nats (l : List Nat) : List Value := l.map fun (n : Nat) => Value.int .i64 (n : Int)
def DigP (l : List Nat) (w : World) (e : Ending) (w' : World) : Prop := ∃ v, e = .returned v ∧ w'.ownsRow 0 3 1 v l.length (nats l) ∧ Below w.heap.size w w'
theorem owns_zero {w : World} {base : Nat} {e : TypeId} {v : Value} {n : Nat} {xs : List Value} (h : w.ownsRow base e 1 v n xs) : w.ownsRow 0 e 1 v n xs :=
  ⟨h.1, h.2.imp id fun ⟨g, cap, cur, e1, _, r⟩ => ⟨g, cap, cur, e1, Nat.zero_le _, r⟩⟩
theorem infoInt : (Tryz.prog.info? 3).map (fun i => (i.zero, i.size, i.bytes)) = some (some (.int .i64 0), 1, 8) := by kernel_rfl
theorem nats_append (a b : List Nat) : nats (a ++ b) = nats a ++ nats b := List.map_append
theorem nats_length (a : List Nat) : (nats a).length = a.length := List.length_map ..
theorem cell_new2 (w : World) (a b : Value) (T : TypeId) (j : Nat) (u : Value) (h : [a, b][j]? = some u) : (w.alloc (.cells #[a, b] T)).cell? ((⟨w.heap.size, 0, none⟩ : Addr).add j) = some u := by
  have hadd : (⟨w.heap.size, 0, none⟩ : Addr).add j = ⟨w.heap.size, j, none⟩ := by unfold Addr.add; split <;> simp_all
  rw [hadd, alloc_new_cell]; simpa using h
theorem cell_new3 (w : World) (a b c : Value) (T : TypeId) (j : Nat) (u : Value) (h : [a, b, c][j]? = some u) : (w.alloc (.cells #[a, b, c] T)).cell? ((⟨w.heap.size, 0, none⟩ : Addr).add j) = some u := by
  have hadd : (⟨w.heap.size, 0, none⟩ : Addr).add j = ⟨w.heap.size, j, none⟩ := by unfold Addr.add; split <;> simp_all
  rw [hadd, alloc_new_cell]; simpa using h
set_option maxHeartbeats 1000000 in
set_option maxRecDepth 100000 in
theorem digitsR_any (m : ByteArray) (w : World) (hm : m.size ≤ 1073741824) :
    Calls Tryz.prog 81 #[.string m] w (DigP (digitsL m.data.toList) w) := by
  obtain ⟨i0, hi, hz0, hz1, hz2⟩ := info_parts infoInt
  go_enter Tryz.func81, Tryz.ntmps81
  go_wp2_with fail
  refine (H_new w [⟨#[109, 101, 115, 115, 97, 103, 101]⟩, m] _ _ _ rfl rfl (by rw [totS_cons, totS_cons, totS_nil]; show 10 + 7 + _ ≤ _; omega)).mono ?_
  rintro e w1 ⟨h, rfl, hh, hb1⟩
  have hh' : h.data.toList = hashL [lMessage, m.data.toList] := hh.out
  have hhs : h.size = 16 := by rw [← toList_size, hh']; exact hashL_length _
  have HH := Lib.hid hh'
  have HS := Lib.hid hhs
  clear hh hh' hhs
  have hown0 := Lib.hid (owns_full (base := w.heap.size) (e := 3) w1 #[] 0 hb1.size (by decide) rfl)
  have hb2 := hb1.alloc hb1.size (.cells #[] 3)
  go_wp2_with fail
  go_loopw [4, 5, 6] (fun v c i wr => ∃ k : Nat, k ≤ 16 ∧ i = .int .i64 k ∧ c = .int .i64 (cks h.data.toList k) ∧ wr.ownsRow w.heap.size 3 1 v (digs h.data.toList k).length (nats (digs h.data.toList k)) ∧ Below w.heap.size w wr) (fun _ _ i _ => 16 - (intOf i).toNat)
  case atStart => exact ⟨0, by omega, rfl, rfl, hown0.out, hb2⟩
  case round =>
    obtain ⟨k, hk, rfl, rfl, hown, hbw⟩ := hrel
    by_cases hlt : k < 16
    · have hks : k < h.size := by rw [HS.out]; exact hlt
      have hg := getD_list h k hks
      have hcl := cks_le h.data.toList k
      have hbl := (h[k]).toNat_lt
      have hn1 : digs h.data.toList (k + 1) = digs h.data.toList k ++ [h[k].toNat / 16, h[k].toNat % 16] := by rw [digs, hg]
      have hn2 : cks h.data.toList (k + 1) = cks h.data.toList k + (30 - h[k].toNat / 16 - h[k].toNat % 16) := by rw [cks, hg]
      have hdl := digs_length h.data.toList k
      rw [hdl] at hown
      obtain ⟨C, hC⟩ : ∃ C, cks h.data.toList k = C := ⟨_, rfl⟩
      obtain ⟨D, hD⟩ : ∃ D, digs h.data.toList k = D := ⟨_, rfl⟩
      rw [hC] at hcl hn2 ⊢
      rw [hD] at hown hn1
      have HN1 := Lib.hid hn1
      have HN2 := Lib.hid hn2
      have HDL := Lib.hid hdl
      have HC := Lib.hid hC
      have HD := Lib.hid hD
      clear hg hn1 hn2 hdl hC hD
      obtain ⟨b, hb⟩ : ∃ b, h[k].toNat = b := ⟨_, rfl⟩
      rw [hb] at hbl HN1 HN2
      obtain ⟨q, hq⟩ : ∃ q, b / 16 = q := ⟨_, rfl⟩
      obtain ⟨r, hr⟩ : ∃ r, b % 16 = r := ⟨_, rfl⟩
      have hq1 : q ≤ 15 := by omega
      have hr1 : r ≤ 15 := by omega
      have d1 : (b : Int) / 16 = q := by omega
      have d2 : (b : Int) % 16 = r := by omega
      have d3 : (b : Int).tdiv 16 = q := by rw [Int.tdiv_eq_ediv_of_nonneg (by omega)]; exact d1
      have d4 : (b : Int).tmod 16 = r := by rw [Int.tmod_eq_emod_of_nonneg (by omega)]; exact d2
      have d5 : IntKind.i64.wrap (b : Int) = b := IntWalk.i64_in _ (by omega)
      have d6 : IntKind.i64.wrap (q : Int) = q := IntWalk.i64_in _ (by omega)
      have d7 : IntKind.i64.wrap (r : Int) = r := IntWalk.i64_in _ (by omega)
      have d8 : (k : Int) < h.size := by omega
      rw [hq, hr] at HN1 HN2
      have HQ := Lib.hid hq
      have HR := Lib.hid hr
      clear hq hr
      go_upto_region 7 with (fail)
      go_quiet (fail)
      clear d1 d2 d3 d4
      have hown1 : (wr.drewN nq).ownsRow w.heap.size 3 1 _ (2 * k) (nats D) := hown
      have hbw1 : Below w.heap.size w (wr.drewN nq) := below_drewN hbw nq
      clear hown hbw
      generalize wr.drewN nq = w2 at hown1 hbw1 ⊢
      go_wp2_with (at_builtin; refine wpList_append_own _ rfl _ _ 115 rfl w.heap.size 3 i0 (.int .i64 0) 1 8 Tryz.underlying115 hi hz0 hz1 hz2 rfl (by decide) _ _ _ rfl (hown1.alloc _) ⟨w2.heap.size, 0, none⟩ 2 2 [.int .i64 q, .int .i64 r] rfl rfl (fun j x h => cell_new2 w2 _ _ _ j x h) ?c2 ?c3 ?c4 ?c5 ?_)
      case c2 => intro x hx; simp only [List.mem_cons, List.mem_nil_iff, or_false] at hx; rcases hx with rfl | rfl <;> rfl
      case c3 => unfold maxLen; omega
      case c4 => omega
      case c5 => have := hbw1.size; simp; omega
      intro v' w3 hown2 hgrow _
      have hb3 := below_grownBy (hbw1.alloc hbw1.size _) (hown1.alloc _) hgrow (by have := hbw1.size; simp; omega)
      have hown3 : w3.ownsRow w.heap.size 3 1 v' (digs h.data.toList (k + 1)).length (nats (digs h.data.toList (k + 1))) := by
        rw [HN1.out, nats_append, List.length_append, ← HD.out, HDL.out, HD.out]
        exact hown2
      clear hgrow hown2 hown1
      go_wp2_with fail
      go_roundw
      case rel => exact ⟨k + 1, by omega, by go_num, by rw [HN2.out]; congr 1; omega, hown3, hb3⟩
      case measure => simp [intOf]; omega
    · obtain rfl : k = 16 := by omega
      have hcl := cks_le h.data.toList 16
      have hdl := digs_length h.data.toList 16
      rw [hdl] at hown
      obtain ⟨C, hC⟩ : ∃ C, cks h.data.toList 16 = C := ⟨_, rfl⟩
      obtain ⟨D, hD⟩ : ∃ D, digs h.data.toList 16 = D := ⟨_, rfl⟩
      rw [hC] at hcl ⊢
      rw [hD] at hown
      have HDL := Lib.hid hdl
      have HC := Lib.hid hC
      have HD := Lib.hid hD
      clear hdl hC hD
      obtain ⟨q, hq⟩ : ∃ q, C / 256 = q := ⟨_, rfl⟩
      obtain ⟨r, hr⟩ : ∃ r, C / 16 % 16 = r := ⟨_, rfl⟩
      obtain ⟨z, hz⟩ : ∃ z, C % 16 = z := ⟨_, rfl⟩
      have d1 : (C : Int) / 256 = q := by omega
      have d2 : (C : Int) / 16 % 16 = r := by omega
      have d3 : (C : Int) % 16 = z := by omega
      have HQ := Lib.hid hq
      have HR := Lib.hid hr
      have HZ := Lib.hid hz
      clear hq hr hz
      go_wp2_with (at_builtin; refine wpList_append_own _ rfl _ _ 115 rfl w.heap.size 3 i0 (.int .i64 0) 1 8 Tryz.underlying115 hi hz0 hz1 hz2 rfl (by decide) _ _ _ rfl (hown.alloc _) ⟨wr.heap.size, 0, none⟩ 3 3 [.int .i64 q, .int .i64 r, .int .i64 z] rfl rfl (fun j x h => cell_new3 wr _ _ _ _ j x h) ?c2 ?c3 ?c4 ?c5 ?_)
      case c2 => intro x hx; simp only [List.mem_cons, List.mem_nil_iff, or_false] at hx; rcases hx with rfl | rfl | rfl <;> rfl
      case c3 => unfold maxLen; omega
      case c4 => omega
      case c5 => have := hbw.size; simp; omega
      intro v' w3 hown2 hgrow _
      have hb3 := below_grownBy (hbw.alloc hbw.size _) (hown.alloc _) hgrow (by have := hbw.size; simp; omega)
      have hrow : w3.ownsRow 0 3 1 v' (digitsL m.data.toList).length (nats (digitsL m.data.toList)) := by
        rw [digitsL_length, digitsL, ← HH.out, HC.out, HQ.out, HR.out, HZ.out, HD.out, nats_append]
        exact owns_zero hown2
      clear hgrow hown2 hown
      go_wp2_with fail
      go_ret
      exact ⟨_, rfl, hrow, hb3⟩
end Go.Proofs.YtadhbnleahipaaaGreatDoor
