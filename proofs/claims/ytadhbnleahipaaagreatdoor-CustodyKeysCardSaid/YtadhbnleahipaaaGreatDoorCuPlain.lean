/-
  Chapter 47: what Check and Keeper answer. Plain functions, no program in sight.
-/
import Derived.Test.YtadhbnleahipaaaGreatDoorCustodyR
import Derived.Test.YtadhbnleahipaaaGreatDoorTreePlain
namespace Go.Proofs.YtadhbnleahipaaaGreatDoor
open Go.RowKit
def cu0 : Cu := ⟨ByteArray.empty, ByteArray.empty, 0, 0, ByteArray.empty⟩
def Cu.e (c : Cu) : Int := cuE c.root.data.toList c.media.data.toList c.fr c.un
def Cu.d (c : Cu) : List UInt8 := cuL c.root.data.toList c.media.data.toList c.fr c.un
def cuAt (L : List Cu) (i : Nat) : Cu := L.getD i cu0
def sgnB (L : List Cu) (i : Nat) : ByteArray := (cuAt L (i - 1)).root
/-- the key that signed a statement, and its error -/
def keyV (L : List Cu) (i : Nat) : Int × Int := verifyL (sgnB L i).data.toList (cuAt L i).d (cuAt L i).sig.data.toList
def usedB (L : List Cu) (p : List Nat) (i : Nat) : Bool := p.any fun j => decide ((sgnB L j).data.toList = (sgnB L i).data.toList ∧ (keyV L j).1 = (keyV L i).1)
/-- the error of a statement behind the statements p -/
def oneP (L : List Cu) (p : List Nat) (i : Nat) : Int :=
  if (cuAt L i).e ≠ 0 then (cuAt L i).e
  else if 0 < i ∧ (cuAt L i).fr ≤ (cuAt L (i - 1)).fr then 14
  else if 0 < i ∧ (cuAt L (i - 1)).un < (cuAt L i).fr then 18
  else if (keyV L i).2 ≠ 0 then 17
  else if usedB L p i = true then 17 else 0
def oneV (L : List Cu) (i : Nat) : Int := oneP L (List.range i) i
/-- the first error among the first n -/
def checkN (L : List Cu) : Nat → Int
  | 0 => 0
  | n + 1 => if checkN L n ≠ 0 then checkN L n else oneV L n
def checkV (L : List Cu) : Int := checkN L L.length
def kpV (L : List Cu) (date : Int) : Nat → Int × Int
  | 0 => (0, 9)
  | n + 1 => if (cuAt L n).fr ≤ date then (if (cuAt L n).un < date then (0, 9) else ((n : Int), 0)) else kpV L date n
def keepV (L : List Cu) (date : Int) : Int × Int := if checkV L ≠ 0 then (0, checkV L) else kpV L date L.length
theorem checkN_zero (L : List Cu) : checkN L 0 = 0 := rfl
theorem checkN_step {L : List Cu} {n : Nat} (h : checkN L n = 0) : checkN L (n + 1) = oneV L n := by rw [checkN, if_neg (by omega)]
theorem checkN_err {L : List Cu} {k : Nat} (h : checkN L k ≠ 0) : ∀ {n}, k ≤ n → checkN L n = checkN L k := by
  intro n hn
  obtain ⟨d, rfl⟩ := Nat.exists_eq_add_of_le hn
  clear hn
  induction d with
  | zero => rfl
  | succ d ih => rw [← Nat.add_assoc, checkN, ih, if_pos h]
theorem checkN_ok {L : List Cu} {n : Nat} (h : checkN L n = 0) : ∀ {k}, k ≤ n → checkN L k = 0 := by
  intro k hk
  by_cases hz : checkN L k = 0
  · exact hz
  · rw [checkN_err hz hk] at h; exact absurd h hz
theorem checkN_one {L : List Cu} {n i : Nat} (h : checkN L n = 0) (hi : i < n) : oneV L i = 0 := by
  rw [← checkN_step (checkN_ok h (Nat.le_of_lt hi))]; exact checkN_ok h hi
theorem checkN_of {L : List Cu} : ∀ {n : Nat}, (∀ i, i < n → oneV L i = 0) → checkN L n = 0
  | 0, _ => rfl
  | n + 1, h => by rw [checkN_step (checkN_of fun i hi => h i (by omega))]; exact h n (by omega)
/-- the first error at k -/
theorem checkV_at {L : List Cu} {k : Nat} (hk : k < L.length) (h0 : checkN L k = 0) (h1 : oneV L k ≠ 0) : checkV L = oneV L k := by
  have h2 := checkN_step h0
  rw [checkV, checkN_err (k := k + 1) (by rw [h2]; exact h1) hk, h2]
theorem cuAt_take {L : List Cu} {k i : Nat} (h : i < k) : cuAt (L.take k) i = cuAt L i := by
  rw [cuAt, cuAt, List.getD_eq_getElem?_getD, List.getD_eq_getElem?_getD, List.getElem?_take, if_pos h]
theorem cuAt_app {L M : List Cu} {i : Nat} (h : i < L.length) : cuAt (L ++ M) i = cuAt L i := by
  rw [cuAt, cuAt, List.getD_eq_getElem?_getD, List.getD_eq_getElem?_getD, List.getElem?_append_left h]
theorem cuAt_last (L : List Cu) (c : Cu) : cuAt (L ++ [c]) L.length = c := by
  rw [cuAt, List.getD_eq_getElem?_getD, List.getElem?_append_right (Nat.le_refl _)]; simp
theorem cuAt_get {L : List Cu} {i : Nat} (h : i < L.length) : cuAt L i = L[i] := by
  rw [cuAt, List.getD_eq_getElem?_getD, List.getElem?_eq_getElem h]; rfl
/-- oneP looks at the statements in p, at i, and at their predecessors alone -/
theorem keyV_congr {L M : List Cu} {i : Nat} (h : cuAt L i = cuAt M i) (h' : cuAt L (i - 1) = cuAt M (i - 1)) : keyV L i = keyV M i := by
  rw [keyV, keyV, sgnB, sgnB, h, h']
theorem oneV_congr {L M : List Cu} {i : Nat} (h : ∀ j, j ≤ i → cuAt L j = cuAt M j) : oneV L i = oneV M i := by
  have hk : ∀ j, j ≤ i → keyV L j = keyV M j := fun j hj => keyV_congr (h j hj) (h (j - 1) (by omega))
  have hu : usedB L (List.range i) i = usedB M (List.range i) i := by
    rw [usedB, usedB]
    have : ∀ j ∈ List.range i, (decide ((sgnB L j).data.toList = (sgnB L i).data.toList ∧ (keyV L j).1 = (keyV L i).1)) = (decide ((sgnB M j).data.toList = (sgnB M i).data.toList ∧ (keyV M j).1 = (keyV M i).1)) := fun j hj => by
      have hj := List.mem_range.1 hj
      rw [hk j (by omega), hk i (Nat.le_refl _), sgnB, sgnB, sgnB, sgnB, h (j - 1) (by omega), h (i - 1) (by omega)]
    rw [Bool.eq_iff_iff, List.any_eq_true, List.any_eq_true]
    exact ⟨fun ⟨j, hj, e⟩ => ⟨j, hj, by rw [← this j hj]; exact e⟩, fun ⟨j, hj, e⟩ => ⟨j, hj, by rw [this j hj]; exact e⟩⟩
  rw [oneV, oneV, oneP, oneP, hu, hk i (Nat.le_refl _), h i (Nat.le_refl _), h (i - 1) (by omega)]
theorem checkN_congr {L M : List Cu} : ∀ {n : Nat}, (∀ j, j < n → cuAt L j = cuAt M j) → checkN L n = checkN M n
  | 0, _ => rfl
  | n + 1, h => by rw [checkN, checkN, checkN_congr (n := n) fun j hj => h j (by omega), oneV_congr fun j hj => h j (by omega)]
theorem checkV_take (L : List Cu) (k : Nat) (h : k ≤ L.length) : checkV (L.take k) = checkN L k := by
  rw [checkV, List.length_take, Nat.min_eq_left h]; exact checkN_congr fun j hj => cuAt_take hj
theorem checkV_snoc (L : List Cu) (c : Cu) (h : checkV L = 0) : checkV (L ++ [c]) = oneV (L ++ [c]) L.length := by
  have h0 : checkN (L ++ [c]) L.length = 0 := by rw [← h, checkV]; exact checkN_congr fun j hj => cuAt_app hj
  rw [checkV, List.length_append, List.length_cons, List.length_nil, checkN_step h0]
theorem verifyL_err {r m s : List UInt8} : (verifyL r m s).2 = 0 ∨ (verifyL r m s).2 = 17 := by
  unfold verifyL
  split
  · exact .inr rfl
  · split
    · split
      · exact .inr rfl
      · split
        · exact .inl rfl
        · exact .inr rfl
    · exact .inr rfl
theorem verifyL_zero {r m s : List UInt8} (h : (verifyL r m s).2 ≠ 0) : (verifyL r m s).1 = 0 := by
  revert h
  unfold verifyL
  split
  · exact fun _ => rfl
  · split
    · split
      · exact fun _ => rfl
      · split
        · exact fun h => absurd rfl h
        · exact fun _ => rfl
    · exact fun _ => rfl
theorem verifyL_key (r m s : List UInt8) : 0 ≤ (verifyL r m s).1 ∧ (verifyL r m s).1 < 64 := by
  unfold verifyL
  split
  · exact ⟨by decide, by decide⟩
  · rename_i h
    have h1 := parseL_some h
    split
    · split
      · exact ⟨by decide, by decide⟩
      · split
        · exact ⟨h1.1, h1.2.1⟩
        · exact ⟨by decide, by decide⟩
    · exact ⟨by decide, by decide⟩
/-- bounds that the walks ask -/
structure CuOk (c : Cu) : Prop where
  root : c.root.size ≤ 1000000
  media : c.media.size ≤ 1000000
  sig : c.sig.size ≤ 1000000
  fr : -9223372036854775808 ≤ c.fr ∧ c.fr ≤ 9223372036854775807
  un : -9223372036854775808 ≤ c.un ∧ c.un ≤ 9223372036854775807
def CusOk (L : List Cu) : Prop := ∀ j, CuOk (cuAt L j)
theorem cusOk_of {L : List Cu} (h : ∀ c ∈ L, CuOk c) : CusOk L := by
  intro j
  by_cases hj : j < L.length
  · rw [cuAt_get hj]; exact h _ (List.getElem_mem hj)
  · rw [cuAt, List.getD_eq_getElem?_getD, List.getElem?_eq_none (by omega)]
    exact ⟨by decide, by decide, by decide, by decide, by decide⟩
theorem cu_dlen (c : Cu) : c.d.length ≤ 32 := by
  rw [Cu.d, cuL]
  split
  · rw [cuD, sumB_length]; exact Nat.le_refl _
  · exact Nat.zero_le _
end Go.Proofs.YtadhbnleahipaaaGreatDoor
