/-
  Directory texts as plain data: the check of a session, its text, the reading of a text.
  Sessions: bounds, errors are not zero, what the laws of chapter 40 need besides. Plain.
  Chapter 40: a session among the arguments, opened: a struct with a slice of entries, each with two slices of structs.
-/
import Derived.Test.YtpkapcijgldhhaaGreatDoorCf01
import Derived.Test.YtpkapcijgldhhaaGreatDoorCf02
import Derived.Test.YtpkapcijgldhhaaGreatDoorCf03
import Derived.Test.YtpkapcijgldhhaaGreatDoorCf19
import Derived.Test.YtpkapcijgldhhaaGreatDoorCe14
import Derived.Test.YtpkapcijgldhhaaGreatDoorCe13
import Derived.Test.YtpkapcijgldhhaaGreatDoorCe24
import Derived.Test.YtpkapcijgldhhaaGreatDoorCe07
namespace Go.Proofs.YtpkapcijgldhhaaGreatDoor

/-! ### eight digits -/
/-! ### sessions -/
def entsE (X : List En) : Int := firstE (fun i => chkE (enAt X i)) X.length
def signedL (s : Se) : List UInt8 := preL s.number s.date s.prev.data.toList s.stream.size (sumB s.stream.data.toList) s.entries
def sgnE (s : Se) : Int :=
  if fieldsE s.number s.date s.prev.size = 0 then
    (if 14680064 < s.stream.size ∨ 400 < s.entries.length then 6
     else if entsE s.entries = 0 then (if 2000 < s.sl.size ∨ 90000000 < (signedL s).length then 6 else 0) else entsE s.entries)
  else fieldsE s.number s.date s.prev.size
def restL (s : Se) : List UInt8 := signedL s ++ strL s.sl.data.toList
def textL (s : Se) : List UInt8 := withLen (restL s)

/-! ### reading -/
theorem lenR_prefix {l : List UInt8} {m : Nat} (h : 8 ≤ m) : (l.take m).take 8 = l.take 8 := by rw [List.take_take, Nat.min_eq_left h]
/-! ### a session and what is read of it -/
def Se.de (s : Se) : De := ⟨s.number, s.date, s.prev.data.toList, s.stream.size, sumB s.stream.data.toList, s.entries, s.sl.data.toList⟩
theorem sgnE_parts {s : Se} (h : sgnE s = 0) : fieldsE s.number s.date s.prev.size = 0 ∧ s.stream.size ≤ 14680064 ∧ s.entries.length ≤ 400 ∧ (∀ e ∈ s.entries, chkE e = 0) ∧ s.sl.size ≤ 2000 ∧ (signedL s).length ≤ 90000000 := by
  unfold sgnE at h
  split at h
  · rename_i h0
    split at h
    · cases h
    rename_i h1
    split at h
    · rename_i h2
      split at h
      · cases h
      rename_i h3
      refine ⟨h0, by omega, by omega, fun e he => ?_, by omega, by omega⟩
      obtain ⟨i, hi, rfl⟩ := List.getElem_of_mem he
      have := firstE_all h2 i hi
      rwa [enAt_get hi] at this
    · rename_i h2; exact absurd h h2
  · rename_i h0; exact absurd h h0
theorem validD_de {s : Se} (h : sgnE s = 0) : ValidD s.de := by
  obtain ⟨h1, h2, h3, h4, h5, h6⟩ := sgnE_parts h
  refine ⟨?_, h3, h4⟩
  unfold aftE
  have e : fieldsE s.de.number s.de.date s.de.prev.length = 0 := h1
  rw [if_pos e, if_neg (by show ¬ ((s.stream.size : Int) < 0 ∨ 14680064 < (s.stream.size : Int)); omega), if_neg (by show ¬ (sumB s.stream.data.toList).length ≠ 32; rw [sumB_length]; decide), if_neg (by show ¬ 2000 < s.sl.data.toList.length; have : s.sl.data.toList.length = s.sl.size := rfl; omega)]
theorem restL_len {s : Se} (h : sgnE s = 0) : (restL s).length < 100000000 := by
  obtain ⟨h1, h2, h3, h4, h5, h6⟩ := sgnE_parts h
  unfold restL
  rw [List.length_append]
  have := strL_bd (u := s.sl.data.toList) (n := 2000) h5 (by decide)
  omega
theorem dir_round {s : Se} (h : sgnE s = 0) : dirR (textL s) = .ok s.de := dirR_ok.2 ⟨validD_de h, rfl, restL_len h⟩
end Go.Proofs.YtpkapcijgldhhaaGreatDoor

namespace Go.Proofs.YtpkapcijgldhhaaGreatDoor
open Go.RowKit Go.Shelf

/-- what Great = 0 says of a session -/
def SmallS (s : Se) : Prop := s.prev.size ≤ 100 ∧ s.stream.size ≤ 1000 ∧ s.sl.size ≤ 2100 ∧ (s.entries.length ≤ 12 ∨ s.entries.length = 401) ∧ ∀ i, i < s.entries.length → SmallE (enAt s.entries i)
/-- the bounds of what came in -/
structure SeWf (s : Se) : Prop where
  number : -9223372036854775808 ≤ s.number ∧ s.number ≤ 9223372036854775807
  date : -9223372036854775808 ≤ s.date ∧ s.date ≤ 9223372036854775807
  prev : s.prev.size ≤ 9223372036854775807
  stream : s.stream.size ≤ 9223372036854775807
  sl : s.sl.size ≤ 9223372036854775807
  ents : ∀ i, EnWf (enAt s.entries i)
theorem fieldsE_bd {n d : Int} {p : Nat} (h : fieldsE n d p = 0) : (1 ≤ n ∧ n ≤ 255) ∧ (0 ≤ d ∧ d ≤ 1000000000) ∧ (p = 0 ∨ p = 32) := by
  unfold fieldsE at h
  split at h
  · cases h
  split at h
  · cases h
  omega
theorem take_flatE (X : List En) (k : Nat) (h : k < X.length) : (X.take (k + 1)).flatMap bodyL = (X.take k).flatMap bodyL ++ bodyL (enAt X k) := by
  rw [List.take_succ_eq_append_getElem h, List.flatMap_append, enAt_get h]; simp
theorem errE_ne {X : List En} {k : Nat} (hk : k < X.length) (h0 : firstE (fun i => chkE (enAt X i)) k = 0) (hc : chkE (enAt X k) ≠ 0) : entsE X = chkE (enAt X k) := firstE_stop h0 hc hk
end Go.Proofs.YtpkapcijgldhhaaGreatDoor

namespace Go.Proofs.YtpkapcijgldhhaaGreatDoor
open Go.ChangeShapes Go.WideShapes Go.ChangeAt Go.RowKit Go.Deep
theorem se_ens_cells : Tryz.prog.cellsOf 51 = 1 := by kernel_rfl
section
variable {H : Type} {enc : TypeId × Value → H} {w : World} {base : Nat}
def ErP (w : World) (x : ER) : Prop := (AtRow w x.va x.e.attrs ∧ ExRow w x.vx x.e.exts) ∧ EnWf x.e
theorem er0_p (w : World) : ErP w er0 := by
  refine ⟨⟨grow_nil w none 0 (fun _ => rfl), grow_nil w none 0 (fun _ => rfl)⟩, by decide, by decide, fun i => ?_, by decide, by decide, by decide, fun i => ?_⟩
  · show (atAt [] i).key.size ≤ _ ∧ (atAt [] i).value.size ≤ _
    rw [show atAt [] i = at0 from by simp [atAt]]; decide
  · show ExOk (exAt [] i)
    rw [show exAt [] i = ex0 from by simp [exAt]]; exact ex0_okE
end
end Go.Proofs.YtpkapcijgldhhaaGreatDoor
