/-
  The walks of dates, names of kinds and targets.
  The walks of names of kinds and of targets.
  The walk of the reference's check of an entry.
  Entries: what the laws need besides: errors are not zero, bounds of encodings and of what is decoded. Plain.
-/
import Derived.Test.YtpkapcijgldhhaaGreatDoorCf01
import Derived.Test.YtpkapcijgldhhaaGreatDoorCe11
import Derived.Test.YtpkapcijgldhhaaGreatDoorCe07
import Derived.Test.YtpkapcijgldhhaaGreatDoorCe08
import Derived.Test.YtpkapcijgldhhaaGreatDoorCe24
import Derived.Test.YtpkapcijgldhhaaGreatDoorCe12
import Derived.Deep.Cut
import Derived.Deep.CutRange
import Derived.Deep.CutBlock
import Derived.Test.YtpkapcijgldhhaaGreatDoorCe13
namespace Go.Proofs.YtpkapcijgldhhaaGreatDoor
open Go.RowKit Go.Shelf
def DateP (b : Bool) (w : World) (e : Ending) (w' : World) : Prop := ∃ n : Int, e = .returned (.tuple #[.int .i64 n, .bool b]) ∧ w = w'
theorem val_lt : ∀ l : List UInt8, l.all isDig = true → val l < 10 ^ l.length := by
  suffices h : ∀ n, ∀ l : List UInt8, l.length = n → l.all isDig = true → val l < 10 ^ l.length from fun l => h _ l rfl
  intro n
  induction n with
  | zero => intro l h _; rw [List.eq_nil_of_length_eq_zero h]; decide
  | succ n ih =>
    intro l h hd
    rcases List.eq_nil_or_concat l with rfl | ⟨l', c, rfl⟩
    · cases h
    rw [List.concat_eq_append] at *
    rw [List.all_append, Bool.and_eq_true] at hd
    have h1 := ih l' (by simpa using h) hd.1
    have h2 : val (l' ++ [c]) = 10 * val l' + (c.toNat - 48) := valFrom_snoc l' c 0
    have h3 := hd.2
    simp only [List.all_cons, List.all_nil, Bool.and_true, isDig, decide_eq_true_eq] at h3
    rw [h2, List.length_append, List.length_singleton, Nat.pow_succ]
    omega
theorem val_snoc (s : ByteArray) (k : Nat) (h : k < s.size) : val (s.data.toList.take (k + 1)) = 10 * val (s.data.toList.take k) + (s[k].toNat - 48) := by
  rw [take_snoc s k h]; exact valFrom_snoc _ _ 0
theorem dig_take (s : ByteArray) (k : Nat) (h : k < s.size) : (s.data.toList.take (k + 1)).all isDig = ((s.data.toList.take k).all isDig && isDig s[k]) := by
  rw [take_snoc s k h, List.all_append]; simp
theorem dig_hit (s : ByteArray) (k : Nat) (h : k < s.size) (hb : ¬ (48 ≤ s[k].toNat ∧ s[k].toNat ≤ 57)) : s.data.toList.all isDig = false := by
  rw [List.all_eq_false]
  exact ⟨s[k], List.mem_of_getElem? (get_list s k h), by simpa [isDig] using hb⟩
theorem dateB_of (s : ByteArray) : dateB s.data.toList = (decide (1 ≤ s.size) && decide (s.size ≤ 10) && (decide (s.size ≤ 1) || decide (s.data.toList.head? ≠ some 48)) && s.data.toList.all isDig && decide (val s.data.toList ≤ 1000000000)) := rfl
end Go.Proofs.YtpkapcijgldhhaaGreatDoor

namespace Go.Proofs.YtpkapcijgldhhaaGreatDoor
open Go.RowKit Go.Shelf

theorem refName_any (k : Int) (w : World) : Calls Tryz.prog 129 #[.int .i64 k] w (StrS (nameL k) w) := by
  by_cases h : 1 ≤ k ∧ k ≤ 6
  · have : k = 1 ∨ k = 2 ∨ k = 3 ∨ k = 4 ∨ k = 5 ∨ k = 6 := by omega
    rcases this with rfl | rfl | rfl | rfl | rfl | rfl
    all_goals
      clear h
      go_enter Tryz.func129, Tryz.ntmps129
      go_wp2_with fail
      go_ret
      exact ⟨_, rfl, rfl, rfl⟩
  · have HN : Hid (nameL k = []) := by
      rw [Hid, nameL, if_neg (by omega), if_neg (by omega), if_neg (by omega), if_neg (by omega), if_neg (by omega), if_neg (by omega)]
    have q1 : (k == 1) = false := by simp; omega
    have q2 : (k == 2) = false := by simp; omega
    have q3 : (k == 3) = false := by simp; omega
    have q4 : (k == 4) = false := by simp; omega
    have q5 : (k == 5) = false := by simp; omega
    have q6 : (k == 6) = false := by simp; omega
    clear h
    go_enter Tryz.func129, Tryz.ntmps129
    go_wp2_with fail
    go_ret
    exact ⟨_, rfl, HN.out.symm, rfl⟩
end Go.Proofs.YtpkapcijgldhhaaGreatDoor

namespace Go.Proofs.YtpkapcijgldhhaaGreatDoor
open Go.RowKit Go.Shelf
theorem nameL_nil {k : Int} : nameL k = [] ↔ (k < 1 ∨ 6 < k) := by
  constructor
  · intro h
    by_cases h1 : 1 ≤ k ∧ k ≤ 6
    · have : k = 1 ∨ k = 2 ∨ k = 3 ∨ k = 4 ∨ k = 5 ∨ k = 6 := by omega
      rcases this with rfl | rfl | rfl | rfl | rfl | rfl <;> cases h
    · omega
  · intro h
    unfold nameL
    rw [if_neg (by omega), if_neg (by omega), if_neg (by omega), if_neg (by omega), if_neg (by omega), if_neg (by omega)]
theorem exSum_bd {X : List Ex} : ∀ {k : Nat}, k ≤ X.length → firstE (exE 1 X) k = 0 → 0 ≤ exSum (X.take k) ∧ exSum (X.take k) ≤ 65536 * k
  | 0, _, _ => by simp [exSum]
  | k + 1, hk, h => by
    have h0 : firstE (exE 1 X) k = 0 := by
      rw [firstE] at h
      split at h
      · assumption
      · rename_i h1; exact absurd h h1
    have h1 : exOk (exAt X k) = true := by
      have := firstE_all h k (Nat.lt_succ_self k)
      cases e : exOk (exAt X k)
      · rw [exE_bad e] at this; cases this
      · rfl
    have h2 := exOk_iff.1 h1
    have h3 := exSum_bd (Nat.le_of_succ_le hk) h0
    have h4 := exSum_take X k hk
    omega
end Go.Proofs.YtpkapcijgldhhaaGreatDoor

namespace Go.Proofs.YtpkapcijgldhhaaGreatDoor
open Go.RowKit Go.Shelf
/-- small entries have small encodings -/
theorem strL_bd {u : List UInt8} {n : Nat} (h : u.length ≤ n) (hn : n ≤ 1000000) : (strL u).length ≤ n + 22 := by
  rw [strL_length]
  have := itoa_len (n := (u.length : Int)) (by omega) (by omega)
  omega
theorem numL_le {n : Int} (h0 : -9223372036854775808 ≤ n) (h1 : n ≤ 9223372036854775807) : (numL n).length ≤ 21 := by
  rw [numL_length]; have := itoa_len h0 h1; omega
theorem flat_bd {α : Type} {f : α → List UInt8} {n : Nat} : ∀ {A : List α}, (∀ x ∈ A, (f x).length ≤ n) → (A.flatMap f).length ≤ n * A.length
  | [], _ => by simp
  | x :: A, h => by
    rw [List.flatMap_cons, List.length_append, List.length_cons, Nat.mul_succ]
    have h1 := h x (by simp)
    have h2 := flat_bd (f := f) (n := n) (A := A) fun y hy => h y (by simp [hy])
    omega
theorem small_head {e : En} (hs : SmallE e) : (headL e).length ≤ 12000 := by
  obtain ⟨h1, h2, h3, h4, h5, h6⟩ := hs
  unfold headL
  simp only [List.length_append]
  have a1 : (strL (nameL e.kind)).length ≤ 29 := strL_bd (n := 7) (by unfold nameL; (repeat' split) <;> decide) (by decide)
  have a2 : (strL e.path.data.toList).length ≤ 322 := strL_bd (n := 300) h1 (by decide)
  have a3 := numL_le (n := (e.attrs.length : Int)) (by omega) (by omega)
  have a4 : (e.attrs.flatMap atL).length ≤ 244 * e.attrs.length := flat_bd fun x hx => by
    obtain ⟨i, hi, rfl⟩ := List.getElem_of_mem hx
    have h7 := h6 i hi
    rw [atAt_get hi] at h7
    unfold atL
    rw [List.length_append]
    have b1 : (strL e.attrs[i].key.data.toList).length ≤ 122 := strL_bd (n := 100) h7.1 (by decide)
    have b2 : (strL e.attrs[i].value.data.toList).length ≤ 122 := strL_bd (n := 100) h7.2 (by decide)
    omega
  have a5 : (strL e.target.data.toList).length ≤ 322 := strL_bd (n := 300) h2 (by decide)
  have a6 : 244 * e.attrs.length ≤ 244 * 30 := Nat.mul_le_mul_left _ h5
  omega
end Go.Proofs.YtpkapcijgldhhaaGreatDoor
