/-
  Verify, as a plain function: the parts of a signature, the path to the root. No program in sight.
-/
import Derived.Test.YtadhbnleahipaaaGreatDoorRecover
namespace Go.Proofs.YtadhbnleahipaaaGreatDoor
open Go.RowKit
theorem rdNum_next {l : List UInt8} {a : Nat} {n x : Int} (h : rdNum l a = (n, x, 0)) : ∃ m : Nat, x = m ∧ a < m ∧ m ≤ l.length ∧ -2147483648 ≤ n ∧ n ≤ 2147483647 := by
  by_cases ha : a ≤ l.length
  · rcases indexByte_cases (l.drop a) 32 with ⟨h1, _⟩ | ⟨k, h1, h2, _⟩
    · rw [rdNum_short ha (by rw [h1]; decide)] at h; simp at h
    · rw [List.length_drop] at h2
      cases hd : decB ((l.drop a).take k) with
      | false => rw [rdNum_syntax ha h1 hd] at h; simp at h
      | true =>
        by_cases hr : decVal ((l.drop a).take k) < -2147483648 ∨ 2147483647 < decVal ((l.drop a).take k)
        · rw [rdNum_range ha h1 hd hr] at h; simp at h
        · rw [rdNum_ok ha h1 hd (by omega) (by omega)] at h
          simp only [Prod.mk.injEq, and_true] at h
          exact ⟨a + k + 1, by omega, by omega, by omega, by omega, by omega⟩
  · rw [rdNum_arg (.inr (by omega))] at h; simp at h
theorem rdStr_shift (l : List UInt8) (a b : Nat) (h : a + b ≤ l.length) :
    rdStr l ((a + b : Nat) : Int) = ((rdStr (l.drop a) b).1, (if (rdStr (l.drop a) b).2.2 = 0 then (rdStr (l.drop a) b).2.1 + a else 0), (rdStr (l.drop a) b).2.2) := by
  have hb : b ≤ (l.drop a).length := by rw [List.length_drop]; omega
  have hd : l.drop (a + b) = (l.drop a).drop b := by rw [List.drop_drop]
  rcases indexByte_cases ((l.drop a).drop b) 58 with ⟨h1, _⟩ | ⟨k, h1, _⟩
  · rw [rdStr_short h (by rw [hd, h1]; decide), rdStr_short hb (by rw [h1]; decide)]; rfl
  · rw [rdStr_tail h (by rw [hd]; exact h1), rdStr_tail hb h1, hd, rdStr.rdTail, rdStr.rdTail]
    have e1 : (l.length ≤ a + b + k + 1 + val (((l.drop a).drop b).take k)) ↔ ((l.drop a).length ≤ b + k + 1 + val (((l.drop a).drop b).take k)) := by rw [List.length_drop]; omega
    have e2 : l.getD (a + b + k + 1 + val (((l.drop a).drop b).take k)) 0 = (l.drop a).getD (b + k + 1 + val (((l.drop a).drop b).take k)) 0 := by
      rw [List.getD_eq_getElem?_getD, List.getD_eq_getElem?_getD, List.getElem?_drop]
      congr 2; omega
    have e3 : l.drop (a + b + k + 1) = (l.drop a).drop (b + k + 1) := by rw [List.drop_drop]; congr 1; omega
    rw [e2, e3]
    generalize val (((l.drop a).drop b).take k) = v at *
    split
    · rfl
    · by_cases h3 : l.length ≤ a + b + k + 1 + v
      · rw [if_pos h3, if_pos (e1.1 h3)]; rfl
      · rw [if_neg h3, if_neg (fun h => h3 (e1.2 h))]
        split
        · rfl
        · simp only [if_true]
          congr 2; omega
theorem rdAll_shift (l : List UInt8) (a : Nat) : ∀ (fuel b : Nat) (acc : List (List UInt8)), a + b ≤ l.length → rdAll fuel l (a + b) acc = rdAll fuel (l.drop a) b acc := by
  intro fuel
  induction fuel with
  | zero => intro b acc _; rfl
  | succ fuel ih =>
    intro b acc hab
    by_cases hlt : a + b < l.length
    · have hlt2 : b < (l.drop a).length := by rw [List.length_drop]; omega
      have hs := rdStr_shift l a b (by omega)
      rcases hr : rdStr (l.drop a) b with ⟨x, n, e⟩
      rw [hr] at hs
      by_cases he : e = 0
      · subst he
        obtain ⟨m, rfl, hm1, hm2⟩ := rdStr_next hr
        rw [List.length_drop] at hm2
        have hs2 : rdStr l ((a + b : Nat) : Int) = (x, ((a + m : Nat) : Int), 0) := by rw [hs]; simp; omega
        rw [rdAll_step hlt hs2, rdAll_step hlt2 hr]
        exact ih m _ (by omega)
      · rw [rdAll_err hlt hs he, rdAll_err hlt2 hr he]
    · rw [rdAll_end hlt, rdAll_end (by rw [List.length_drop]; omega)]
theorem rdAll_fuel (l : List UInt8) : ∀ (f g a : Nat) (acc : List (List UInt8)), l.length ≤ a + f → l.length ≤ a + g → rdAll f l a acc = rdAll g l a acc := by
  intro f
  induction f with
  | zero =>
    intro g a acc hf _
    cases g with
    | zero => rfl
    | succ g => rw [rdAll_end (by omega)]; rfl
  | succ f ih =>
    intro g a acc hf hg
    by_cases hlt : a < l.length
    · cases g with
      | zero => omega
      | succ g =>
        rcases hr : rdStr l a with ⟨x, n, e⟩
        by_cases he : e = 0
        · subst he
          obtain ⟨m, rfl, hm1, hm2⟩ := rdStr_next hr
          rw [rdAll_step hlt hr, rdAll_step hlt hr]
          exact ih g m _ (by omega) (by omega)
        · rw [rdAll_err hlt hr he, rdAll_err hlt hr he]
    · rw [rdAll_end hlt]
      cases g with
      | zero => rfl
      | succ g => rw [rdAll_end hlt]
theorem rdAll_acc (l : List UInt8) (x : List UInt8) : ∀ (f a : Nat) (acc : List (List UInt8)), rdAll f l a (x :: acc) = if (rdAll f l a acc).2 = 0 then (x :: (rdAll f l a acc).1, 0) else ([], (rdAll f l a acc).2) := by
  intro f
  induction f with
  | zero => intro a acc; simp [rdAll]
  | succ f ih =>
    intro a acc
    by_cases hlt : a < l.length
    · rcases hr : rdStr l a with ⟨y, n, e⟩
      by_cases he : e = 0
      · subst he
        obtain ⟨m, rfl, hm1, hm2⟩ := rdStr_next hr
        rw [rdAll_step hlt hr, rdAll_step hlt hr, List.cons_append]
        exact ih m _
      · rw [rdAll_err hlt hr he, rdAll_err hlt hr he, if_neg he]
    · rw [rdAll_end hlt, rdAll_end hlt]; simp
theorem rdStr_le (l : List UInt8) (a : Nat) : (rdStr l a).1.length ≤ l.length := by
  by_cases ha : a ≤ l.length
  · rcases indexByte_cases (l.drop a) 58 with ⟨h1, _⟩ | ⟨k, h1, _⟩
    · rw [rdStr_short ha (by rw [h1]; decide)]; exact Nat.zero_le _
    · rw [rdStr_tail ha h1, rdStr.rdTail]
      split
      · exact Nat.zero_le _
      · split
        · exact Nat.zero_le _
        · split
          · exact Nat.zero_le _
          · simp only [List.length_take, List.length_drop]; omega
  · rw [rdStr_arg (.inr (by omega))]; exact Nat.zero_le _
theorem rdAll_le (l : List UInt8) : ∀ (f a : Nat) (acc : List (List UInt8)), (∀ x ∈ acc, x.length ≤ l.length) → ∀ x ∈ (rdAll f l a acc).1, x.length ≤ l.length := by
  intro f
  induction f with
  | zero => intro a acc h; exact h
  | succ f ih =>
    intro a acc h
    rw [rdAll]
    split
    · split
      · refine ih _ _ fun x hx => ?_
        rw [List.mem_append, List.mem_singleton] at hx
        rcases hx with hx | rfl
        · exact h x hx
        · exact rdStr_le l a
      · intro x hx; cases hx
    · exact h
theorem rdStrs_le (l : List UInt8) : ∀ x ∈ (rdStrs l).1, x.length ≤ l.length := rdAll_le l _ _ _ (fun x hx => by cases hx)
theorem rdStrs_nil : rdStrs [] = ([], 0) := rfl
theorem rdStrs_fail {l x : List UInt8} {n e : Int} (h0 : 0 < l.length) (h : rdStr l 0 = (x, n, e)) (he : e ≠ 0) : rdStrs l = ([], e) := rdAll_err h0 h he
theorem rdStrs_cons {l x : List UInt8} {n : Nat} (h0 : 0 < l.length) (h : rdStr l 0 = (x, (n : Int), 0)) :
    rdStrs l = if (rdStrs (l.drop n)).2 = 0 then (x :: (rdStrs (l.drop n)).1, 0) else ([], (rdStrs (l.drop n)).2) := by
  obtain ⟨m, hm, h1, h2⟩ := rdStr_next (a := 0) h
  obtain rfl : n = m := by omega
  have e1 : rdStrs l = rdAll l.length l n [x] := rdAll_step h0 h
  have e2 := rdAll_shift l n l.length 0 [] (by omega)
  have e3 : rdAll l.length (l.drop n) 0 [] = rdStrs (l.drop n) := rdAll_fuel _ _ _ _ _ (by rw [List.length_drop]; omega) (by omega)
  rw [e1, rdAll_acc, show n = n + 0 from rfl, e2, e3]; rfl
/-- the parts of a signature: the key's number, its strings -/
def parseL (l : List UInt8) : Option (Int × List (List UInt8)) :=
  if (rdNum l 0).2.2 ≠ 0 then none
  else if (rdNum l (rdNum l 0).2.1).2.2 ≠ 0 ∨ (rdNum l (rdNum l 0).2.1).1 < 0 ∨ 6 < (rdNum l (rdNum l 0).2.1).1 ∨ (rdNum l 0).1 < 0 ∨ ((2 ^ (rdNum l (rdNum l 0).2.1).1.toNat : Nat) : Int) ≤ (rdNum l 0).1 then none
  else if (rdStrs (l.drop (rdNum l (rdNum l 0).2.1).2.1.toNat)).2 = 0 ∧ ((rdStrs (l.drop (rdNum l (rdNum l 0).2.1).2.1.toNat)).1.length : Int) = (rdNum l (rdNum l 0).2.1).1 + 1 then
    some ((rdNum l 0).1, (rdStrs (l.drop (rdNum l (rdNum l 0).2.1).2.1.toNat)).1)
  else none
theorem parseL_1 {l : List UInt8} {k a e : Int} (h : rdNum l 0 = (k, a, e)) (he : e ≠ 0) : parseL l = none := by rw [parseL, h, if_pos he]
theorem parseL_2 {l : List UInt8} {k a h b f : Int} (h1 : rdNum l 0 = (k, a, 0)) (h2 : rdNum l a = (h, b, f)) (hf : f ≠ 0 ∨ h < 0 ∨ 6 < h ∨ k < 0 ∨ ((2 ^ h.toNat : Nat) : Int) ≤ k) : parseL l = none := by
  rw [parseL, h1, if_neg (by simp)]; simp only; rw [h2, if_pos hf]
theorem parseL_3 {l : List UInt8} {k a h b e : Int} {p : List (List UInt8)} (h1 : rdNum l 0 = (k, a, 0)) (h2 : rdNum l a = (h, b, 0)) (hf : ¬ (h < 0 ∨ 6 < h ∨ k < 0 ∨ ((2 ^ h.toNat : Nat) : Int) ≤ k))
    (h3 : rdStrs (l.drop b.toNat) = (p, e)) : parseL l = if e = 0 ∧ (p.length : Int) = h + 1 then some (k, p) else none := by
  rw [parseL, h1, if_neg (by simp)]; simp only
  rw [h2, if_neg (by simp only [ne_eq, not_true_eq_false, false_or]; exact hf), h3]
theorem parseL_some {l : List UInt8} {k : Int} {p : List (List UInt8)} (h : parseL l = some (k, p)) : 0 ≤ k ∧ k < 64 ∧ 1 ≤ p.length ∧ p.length ≤ 7 ∧ (k : Int) < (2 ^ (p.length - 1) : Nat) := by
  unfold parseL at h
  split at h
  · cases h
  · split at h
    · cases h
    · rename_i h1 h2
      split at h
      · rename_i h3
        simp only [Option.some.injEq, Prod.mk.injEq] at h
        obtain ⟨rfl, rfl⟩ := h
        generalize (rdStrs (l.drop (rdNum l (rdNum l 0).2.1).2.1.toNat)).1.length = z at *
        generalize (rdNum l (rdNum l 0).2.1).1 = hh at *
        generalize (rdNum l 0).1 = kk at *
        obtain ⟨n, rfl⟩ := Int.eq_ofNat_of_zero_le (show 0 ≤ hh by omega)
        have hn : n ≤ 6 := by omega
        have hp := pow_le n hn
        obtain rfl : z = n + 1 := by omega
        rw [Int.toNat_natCast] at h2
        rw [Nat.add_sub_cancel]
        omega
      · cases h
theorem parseL_le {l : List UInt8} {k : Int} {p : List (List UInt8)} (h : parseL l = some (k, p)) : ∀ x ∈ p, x.length ≤ l.length := by
  unfold parseL at h
  split at h
  · cases h
  · split at h
    · cases h
    · split at h
      · simp only [Option.some.injEq, Prod.mk.injEq] at h
        obtain ⟨_, rfl⟩ := h
        intro x hx
        have := rdStrs_le _ x hx
        rw [List.length_drop] at this
        omega
      · cases h
theorem parse_tail {l one : List UInt8} {k a c f : Int} {n b : Nat} (h1 : rdNum l 0 = (k, a, 0)) (h2 : rdNum l a = ((n : Int), (b : Int), 0)) (hf : ¬ ((n : Int) < 0 ∨ 6 < (n : Int) ∨ k < 0 ∨ ((2 ^ n : Nat) : Int) ≤ k)) (hb : b ≤ l.length)
    (h3 : rdStr l b = (one, c, f)) : (f ≠ 0 → parseL l = none) ∧ (f = 0 → ∀ p e, rdStrs (l.drop c.toNat) = (p, e) → parseL l = if e = 0 ∧ p.length = n then some (k, one :: p) else none) := by
  have H : ∀ p e, rdStrs (l.drop b) = (p, e) → parseL l = if e = 0 ∧ (p.length : Int) = (n : Int) + 1 then some (k, p) else none := fun p e h => parseL_3 h1 h2 (by rw [Int.toNat_natCast]; exact hf) (by rw [Int.toNat_natCast]; exact h)
  have hs := rdStr_shift l b 0 (by omega)
  rw [Nat.add_zero, h3] at hs
  rcases hr : rdStr (l.drop b) ((0 : Nat) : Int) with ⟨x, d, e⟩
  rw [hr] at hs
  simp only [Prod.mk.injEq] at hs
  obtain ⟨rfl, hc, rfl⟩ := hs
  by_cases hbl : b < l.length
  · have hlen : 0 < (l.drop b).length := by rw [List.length_drop]; omega
    refine ⟨fun hne => ?_, fun h0 p e hp => ?_⟩
    · rw [H _ _ (rdStrs_fail hlen hr hne), if_neg (fun h => hne h.1)]
    · subst h0
      obtain ⟨m, rfl, hm1, hm2⟩ := rdStr_next hr
      rw [if_pos rfl] at hc
      obtain rfl : c = ((b + m : Nat) : Int) := by omega
      rw [Int.toNat_natCast] at hp
      have hcons := rdStrs_cons hlen hr
      rw [List.drop_drop, hp] at hcons
      by_cases he : e = 0
      · subst he
        rw [if_pos rfl] at hcons
        rw [H _ _ hcons]
        by_cases hl : p.length = n
        · rw [if_pos ⟨rfl, by show ((p.length + 1 : Nat) : Int) = _; omega⟩, if_pos ⟨rfl, hl⟩]
        · rw [if_neg (fun h => hl (by have h2 : ((p.length + 1 : Nat) : Int) = (n : Int) + 1 := h.2; omega)), if_neg (fun h => hl h.2)]
      · rw [if_neg he] at hcons
        rw [H _ _ hcons, if_neg (fun h => he h.1), if_neg (fun h => he h.1)]
  · have hd : l.drop b = [] := List.drop_eq_nil_of_le (by omega)
    have hnone : parseL l = none := by
      rw [H [] 0 (by rw [hd]; rfl), if_neg (fun h => by have := h.2; simp only [List.length_nil] at this; omega)]
    refine ⟨fun _ => hnone, fun h0 => ?_⟩
    subst h0
    obtain ⟨m, rfl, hm1, hm2⟩ := rdStr_next hr
    rw [hd] at hm2
    simp only [List.length_nil] at hm2
    omega
/-- up the path: what stands at the root, or nothing where a node has another length -/
def climb (key : Nat) : List (List UInt8) → Nat → List UInt8 → Option (List UInt8)
  | [], _, a => some a
  | o :: r, i, a => if o.length = 16 then climb key r (i + 1) (if key / 2 ^ i % 2 = 0 then nodeL a o else nodeL o a) else none
def verifyL (root m sig : List UInt8) : Int × Int :=
  match parseL sig with
  | none => (0, 17)
  | some (key, parts) =>
    if recoverE (parts.getD 0 []) = 0 then
      match climb key.toNat (parts.drop 1) 0 (recoverL m (parts.getD 0 [])) with
      | none => (0, 17)
      | some a => if a = root then (key, 0) else (0, 17)
    else (0, 17)
theorem verifyL_none {root m sig : List UInt8} (h : parseL sig = none) : verifyL root m sig = (0, 17) := by rw [verifyL, h]
theorem verifyL_short {root m sig : List UInt8} {k : Int} {p : List (List UInt8)} (h : parseL sig = some (k, p)) (hr : recoverE (p.getD 0 []) ≠ 0) : verifyL root m sig = (0, 17) := by rw [verifyL, h]; simp only; rw [if_neg hr]
theorem verifyL_path {root m sig : List UInt8} {k : Int} {p : List (List UInt8)} (h : parseL sig = some (k, p)) (hr : recoverE (p.getD 0 []) = 0) (hc : climb k.toNat (p.drop 1) 0 (recoverL m (p.getD 0 [])) = none) : verifyL root m sig = (0, 17) := by rw [verifyL, h]; simp only; rw [if_pos hr, hc]
theorem verifyL_root {root m sig a : List UInt8} {k : Int} {p : List (List UInt8)} (h : parseL sig = some (k, p)) (hr : recoverE (p.getD 0 []) = 0) (hc : climb k.toNat (p.drop 1) 0 (recoverL m (p.getD 0 [])) = some a) :
    verifyL root m sig = if a = root then (k, 0) else (0, 17) := by rw [verifyL, h]; simp only; rw [if_pos hr, hc]
end Go.Proofs.YtadhbnleahipaaaGreatDoor
