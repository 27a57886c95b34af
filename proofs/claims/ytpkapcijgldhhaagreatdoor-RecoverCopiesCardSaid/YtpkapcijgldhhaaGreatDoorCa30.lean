/-
  Recovery of directories from frames: the plain law.
-/
import Derived.Test.YtpkapcijgldhhaaGreatDoorCa22
import Derived.Test.YtpkapcijgldhhaaGreatDoorCa08
import Derived.Test.YtpkapcijgldhhaaGreatDoorCa29
namespace Go.Proofs.YtpkapcijgldhhaaGreatDoor
/-- a frame -/
structure Fr where
  kind : Int
  reel : Int
  session : Int
  index : Int
  length : Int
  data : Int
  spare : Int
  archive : Int
  payload : ByteArray
def fr0 : Fr := ⟨0, 0, 0, 0, 0, 0, 0, 0, ⟨#[]⟩⟩
def frAt (F : List Fr) (i : Nat) : Fr := F.getD i fr0
theorem frAt_get {F : List Fr} {i : Nat} (h : i < F.length) : frAt F i = F[i] := by
  unfold frAt; rw [List.getD_eq_getElem?_getD, List.getElem?_eq_getElem h]; rfl
def fits (k s r i : Int) (f : Fr) : Prop := f.kind = k ∧ f.session = s ∧ f.reel = r ∧ f.index = i
/-- the frame at a position, or the error -/
noncomputable def payR (k s r i : Int) : Option Fr → List Fr → Except Int Fr
  | none, [] => .error 19
  | some f, [] => .ok f
  | none, f :: L => if isB (fits k s r i f) then payR k s r i (some f) L else payR k s r i none L
  | some g, f :: L => if isB (fits k s r i f) then (if isB (g = f) then payR k s r i (some f) L else .error 20) else payR k s r i (some g) L
theorem drop_at {F : List Fr} {j : Nat} (h : j < F.length) : F.drop j = frAt F j :: F.drop (j + 1) := by
  rw [frAt_get h]; exact List.drop_eq_getElem_cons h
theorem pay_end (k s r i : Int) (st : Option Fr) (F : List Fr) : payR k s r i st (F.drop F.length) = match st with | none => .error 19 | some f => .ok f := by
  rw [List.drop_length]; cases st <;> rfl
theorem pay_skip {k s r i : Int} {F : List Fr} {j : Nat} (h : j < F.length) (hn : ¬ fits k s r i (frAt F j)) (st : Option Fr) : payR k s r i st (F.drop j) = payR k s r i st (F.drop (j + 1)) := by
  rw [drop_at h]
  cases st <;> (rw [payR, isB_no hn]; rfl)
theorem pay_first {k s r i : Int} {F : List Fr} {j : Nat} (h : j < F.length) (hn : fits k s r i (frAt F j)) : payR k s r i none (F.drop j) = payR k s r i (some (frAt F j)) (F.drop (j + 1)) := by
  rw [drop_at h, payR, isB_yes hn]; rfl
theorem pay_again {k s r i : Int} {F : List Fr} {j : Nat} (h : j < F.length) (hn : fits k s r i (frAt F j)) {g : Fr} (hg : g = frAt F j) : payR k s r i (some g) (F.drop j) = payR k s r i (some (frAt F j)) (F.drop (j + 1)) := by
  rw [drop_at h, payR, isB_yes hn, isB_yes hg]; rfl
theorem pay_clash {k s r i : Int} {F : List Fr} {j : Nat} (h : j < F.length) (hn : fits k s r i (frAt F j)) {g : Fr} (hg : g ≠ frAt F j) : payR k s r i (some g) (F.drop j) = .error 20 := by
  rw [drop_at h, payR, isB_yes hn, isB_no hg]; rfl
theorem pay_mem {k s r i : Int} : ∀ (L : List Fr) (st : Option Fr) (f : Fr), payR k s r i st L = .ok f → (f ∈ L ∧ fits k s r i f) ∨ st = some f
  | [], none, f, h => by cases h
  | [], some g, f, h => by injection h with h; rw [h]; exact .inr rfl
  | g :: L, none, f, h => by
    rw [payR] at h
    by_cases hf : fits k s r i g
    · rw [isB_yes hf, if_pos rfl] at h
      rcases pay_mem L _ f h with ⟨h1, h2⟩ | h1
      · exact .inl ⟨List.mem_cons_of_mem _ h1, h2⟩
      · cases h1; exact .inl ⟨List.mem_cons_self, hf⟩
    · rw [isB_no hf, if_neg (by decide)] at h
      rcases pay_mem L _ f h with ⟨h1, h2⟩ | h1
      · exact .inl ⟨List.mem_cons_of_mem _ h1, h2⟩
      · cases h1
  | g :: L, some a, f, h => by
    rw [payR] at h
    by_cases hf : fits k s r i g
    · rw [isB_yes hf, if_pos rfl] at h
      by_cases hg : a = g
      · rw [isB_yes hg, if_pos rfl] at h
        rcases pay_mem L _ f h with ⟨h1, h2⟩ | h1
        · exact .inl ⟨List.mem_cons_of_mem _ h1, h2⟩
        · cases h1; exact .inl ⟨List.mem_cons_self, hf⟩
      · rw [isB_no hg, if_neg (by decide)] at h; cases h
    · rw [isB_no hf, if_neg (by decide)] at h
      rcases pay_mem L _ f h with ⟨h1, h2⟩ | h1
      · exact .inl ⟨List.mem_cons_of_mem _ h1, h2⟩
      · exact .inr h1
theorem pay_none {k s r i : Int} {F : List Fr} {f : Fr} (h : payR k s r i none F = .ok f) : f ∈ F ∧ fits k s r i f := by
  rcases pay_mem F none f h with h | h
  · exact h
  · cases h
/-- the part of a directory at a position -/
noncomputable def ownR (F : List Fr) (s r i : Int) : Option (List UInt8) :=
  match payR 68 s r i none F with
  | .error _ => none
  | .ok f => if 0 ≤ f.length ∧ f.length ≤ f.payload.size then some (f.payload.data.toList.take f.length.toNat) else none
theorem own_err {F : List Fr} {s r i x : Int} (h : payR 68 s r i none F = .error x) : ownR F s r i = none := by unfold ownR; rw [h]
theorem own_out {F : List Fr} {s r i : Int} {f : Fr} (h : payR 68 s r i none F = .ok f) (hn : ¬ (0 ≤ f.length ∧ f.length ≤ f.payload.size)) : ownR F s r i = none := by unfold ownR; rw [h]; exact if_neg hn
theorem own_in {F : List Fr} {s r i : Int} {f : Fr} (h : payR 68 s r i none F = .ok f) (hn : 0 ≤ f.length ∧ f.length ≤ f.payload.size) : ownR F s r i = some (f.payload.data.toList.take f.length.toNat) := by unfold ownR; rw [h]; exact if_pos hn
theorem own_mem {F : List Fr} {s r i : Int} {t : List UInt8} (h : ownR F s r i = some t) : ∃ f ∈ F, f.index = i ∧ t.length ≤ f.payload.size := by
  unfold ownR at h
  rcases hp : payR 68 s r i none F with x | f
  · rw [hp] at h; cases h
  · rw [hp] at h
    obtain ⟨h1, h2⟩ := pay_none hp
    refine ⟨f, h1, h2.2.2.2, ?_⟩
    simp only at h
    split at h
    · cases h
      rw [List.length_take]
      exact Nat.min_le_right _ _
    · cases h
/-- none: two reels contradict each other; some none: nothing found yet -/
noncomputable def stp (st : Option (Option (List UInt8))) : Option (List UInt8) → Option (Option (List UInt8))
  | none => st
  | some t => match st with
    | none => none
    | some none => some (some t)
    | some (some c) => if isB (t = c) then some (some t) else none
noncomputable def foldS (F : List Fr) (s i : Int) : Nat → Option (Option (List UInt8))
  | 0 => some none
  | k + 1 => stp (foldS F s i k) (ownR F s k i)
noncomputable def partR (F : List Fr) (s fm i : Int) : Option (List UInt8) :=
  match ownR F s fm i with
  | some t => some t
  | none => match foldS F s i 15 with
    | none => none
    | some o => o
theorem part_own {F : List Fr} {s fm i : Int} {t : List UInt8} (h : ownR F s fm i = some t) : partR F s fm i = some t := by unfold partR; rw [h]
theorem part_fold {F : List Fr} {s fm i : Int} (h : ownR F s fm i = none) : partR F s fm i = match foldS F s i 15 with | none => none | some o => o := by unfold partR; rw [h]
theorem fold_mem {F : List Fr} {s i : Int} : ∀ (k : Nat) (t : List UInt8), foldS F s i k = some (some t) → ∃ f ∈ F, f.index = i ∧ t.length ≤ f.payload.size
  | 0, t, h => by cases h
  | k + 1, t, h => by
    rw [foldS] at h
    rcases ho : ownR F s k i with _ | u
    · rw [ho] at h; exact fold_mem k t h
    · rw [ho] at h
      rcases hf : foldS F s i k with _ | _ | c
      · rw [hf] at h; cases h
      · rw [hf] at h
        injection h with h; injection h with h; subst h
        exact own_mem ho
      · rw [hf] at h
        have h : (if isB (u = c) then some (some u) else none) = some (some t) := h
        split at h
        · injection h with h; injection h with h; subst h
          exact own_mem ho
        · cases h
theorem part_mem {F : List Fr} {s fm i : Int} {t : List UInt8} (h : partR F s fm i = some t) : ∃ f ∈ F, f.index = i ∧ t.length ≤ f.payload.size := by
  unfold partR at h
  rcases ho : ownR F s fm i with _ | u
  · rw [ho] at h
    rcases hf : foldS F s i 15 with _ | o
    · rw [hf] at h; cases h
    · rw [hf] at h
      have h : o = some t := h
      subst h; exact fold_mem 15 t hf
  · rw [ho] at h
    injection h with h; subst h; exact own_mem ho
noncomputable def partsR (F : List Fr) (s fm : Int) : Nat → Option (List UInt8)
  | 0 => some []
  | k + 1 => match partsR F s fm k, partR F s fm k with
    | some a, some t => some (a ++ t)
    | _, _ => none
theorem parts_next {F : List Fr} {s fm : Int} {k : Nat} {a t : List UInt8} (h : partsR F s fm k = some a) (ht : partR F s fm k = some t) : partsR F s fm (k + 1) = some (a ++ t) := by rw [partsR, h, ht]
theorem parts_stop {F : List Fr} {s fm : Int} {k : Nat} (h : partR F s fm k = none) : ∀ m, k < m → partsR F s fm m = none
  | 0, hm => absurd hm (Nat.not_lt_zero _)
  | m + 1, hm => by
    rw [partsR]
    by_cases e : k = m
    · subst e
      rw [h]
      cases partsR F s fm k <;> rfl
    · rw [parts_stop h m (by omega)]
theorem cover_le : ∀ (k : Nat) (L : List Fr), (∀ i, i < k → ∃ f ∈ L, f.index = (i : Int)) → k ≤ L.length
  | 0, _, _ => Nat.zero_le _
  | k + 1, L, h => by
    have ih := cover_le k (L.filter fun f => f.index != (k : Int)) fun i hi => by
      obtain ⟨f, hf, he⟩ := h i (by omega)
      refine ⟨f, List.mem_filter.2 ⟨hf, ?_⟩, he⟩
      rw [bne_iff_ne, he]; omega
    obtain ⟨g, hg, he⟩ := h k (by omega)
    have : (L.filter fun f => f.index != (k : Int)).length < L.length := by
      rw [List.length_filter_lt_length_iff_exists]
      refine ⟨g, hg, ?_⟩
      rw [he]; simp
    omega
theorem parts_cover {F : List Fr} {s fm : Int} : ∀ (k : Nat) (a : List UInt8), partsR F s fm k = some a → ∀ i, i < k → ∃ f ∈ F, f.index = (i : Int)
  | 0, _, _, i, hi => absurd hi (Nat.not_lt_zero _)
  | k + 1, a, h, i, hi => by
    rw [partsR] at h
    rcases hp : partsR F s fm k with _ | b
    · rw [hp] at h; cases h
    · rcases ht : partR F s fm k with _ | t
      · rw [hp, ht] at h; cases h
      · by_cases e : i = k
        · subst e
          obtain ⟨f, h1, h2, _⟩ := part_mem ht
          exact ⟨f, h1, h2⟩
        · exact parts_cover k b hp i (by omega)
theorem parts_le {F : List Fr} {s fm : Int} {M : Nat} (hF : ∀ f ∈ F, f.payload.size ≤ M) : ∀ (k : Nat) (a : List UInt8), partsR F s fm k = some a → a.length ≤ k * M
  | 0, a, h => by cases h; exact Nat.zero_le _
  | k + 1, a, h => by
    rw [partsR] at h
    rcases hp : partsR F s fm k with _ | b
    · rw [hp] at h; cases h
    · rcases ht : partR F s fm k with _ | t
      · rw [hp, ht] at h; cases h
      · rw [hp, ht] at h
        injection h with h; subst h
        have h1 := parts_le hF k b hp
        obtain ⟨f, h2, _, h3⟩ := part_mem ht
        have h4 := hF f h2
        rw [List.length_append, Nat.succ_mul]; omega
/-- at most 1000 frames with payloads of at most 100 bytes -/
def SmallF (F : List Fr) : Prop := F.length ≤ 1000 ∧ ∀ f ∈ F, f.payload.size ≤ 100
theorem parts_bd {F : List Fr} {s fm : Int} (hF : SmallF F) {k : Nat} {a : List UInt8} (h : partsR F s fm k = some a) : k ≤ 1000 ∧ a.length ≤ 100000 := by
  have h1 := cover_le k F (parts_cover k a h)
  have h2 := parts_le hF.2 k a h
  have := hF.1
  omega
noncomputable def textR (F : List Fr) (s fm : Int) : Option (List UInt8) :=
  match partR F s fm 0 with
  | none => none
  | some f => match lenR f with
    | .error _ => none
    | .ok n => match partsR F s fm ((n.toNat + 27) / 28) with
      | none => none
      | some a => if (a.length : Int) = n then some a else none
theorem text_none {F : List Fr} {s fm : Int} (h : partR F s fm 0 = none) : textR F s fm = none := by unfold textR; rw [h]
theorem text_len {F : List Fr} {s fm x : Int} {f : List UInt8} (h : partR F s fm 0 = some f) (hl : lenR f = .error x) : textR F s fm = none := by unfold textR; rw [h]; simp only; rw [hl]
theorem text_miss {F : List Fr} {s fm n : Int} {f : List UInt8} {k : Nat} (h : partR F s fm 0 = some f) (hl : lenR f = .ok n) (hk : 28 * (k : Int) < n) (hp : partR F s fm k = none) : textR F s fm = none := by
  unfold textR; rw [h]; simp only; rw [hl]; simp only
  rw [parts_stop hp ((n.toNat + 27) / 28) (by omega)]
theorem text_end {F : List Fr} {s fm n : Int} {f a : List UInt8} {k : Nat} (h : partR F s fm 0 = some f) (hl : lenR f = .ok n) (hk : ¬ 28 * (k : Int) < n) (hk2 : 28 * (k : Int) < n + 28) (h0 : 0 ≤ n) (hp : partsR F s fm k = some a) :
    textR F s fm = if (a.length : Int) = n then some a else none := by
  unfold textR; rw [h]; simp only; rw [hl]; simp only
  rw [show (n.toNat + 27) / 28 = k from by omega, hp]
theorem text_bd {F : List Fr} {s fm : Int} (hF : SmallF F) {t : List UInt8} (h : textR F s fm = some t) : t.length ≤ 100000 := by
  unfold textR at h
  rcases h1 : partR F s fm 0 with _ | f
  · rw [h1] at h; cases h
  · rw [h1] at h; simp only at h
    rcases h2 : lenR f with x | n
    · rw [h2] at h; cases h
    · rw [h2] at h; simp only at h
      rcases h3 : partsR F s fm ((n.toNat + 27) / 28) with _ | a
      · rw [h3] at h; cases h
      · rw [h3] at h; simp only at h
        split at h
        · cases h; exact (parts_bd hF h3).2
        · cases h
/-- what a seal signs -/
def sealed (l : List UInt8) (x : De) : List UInt8 := (l.take (l.length - (strL x.sl).length)).drop 8
/-- a directory text is accepted -/
def AccR (l : List UInt8) (s : Int) (root : List UInt8) : Prop := ∃ x, dirR l = .ok x ∧ x.number = s ∧ (root = [] ∨ (verifyL root (sumB (sealed l x)) x.sl).2 = 0)
theorem acc_err {l root : List UInt8} {s e : Int} (h : dirR l = .error e) : isB (AccR l s root) = false := isB_no fun ⟨x, h1, _⟩ => by rw [h] at h1; cases h1
theorem acc_num {l root : List UInt8} {s : Int} {x : De} (h : dirR l = .ok x) (hn : x.number ≠ s) : isB (AccR l s root) = false := isB_no fun ⟨y, h1, h2, _⟩ => by rw [h] at h1; cases h1; exact hn h2
theorem acc_plain {l : List UInt8} {s : Int} {x : De} (h : dirR l = .ok x) (hn : x.number = s) : isB (AccR l s []) = true := isB_yes ⟨x, h, hn, .inl rfl⟩
theorem acc_root {l root : List UInt8} {s : Int} {x : De} (h : dirR l = .ok x) (hn : x.number = s) (hr : root ≠ []) : isB (AccR l s root) = isB ((verifyL root (sumB (sealed l x)) x.sl).2 = 0) :=
  isB_iff ⟨fun ⟨y, h1, _, h3⟩ => by rw [h] at h1; cases h1; exact h3.resolve_left hr, fun h1 => ⟨x, h, hn, .inr h1⟩⟩
theorem sealed_bd {l : List UInt8} {x : De} (h : dirR l = .ok x) : 8 + (strL x.sl).length ≤ l.length := by
  obtain ⟨h1, h2, _⟩ := dirR_ok.1 h
  rw [h2, withLen, List.length_append, dg_length, bodyD, List.length_append]; omega
/-- the first accepted text of the reels r, r + 1 .. -/
noncomputable def goD (F : List Fr) (s : Int) (root : List UInt8) : Nat → Option (List UInt8)
  | 0 => none
  | k + 1 => match textR F s ((15 - (k + 1) : Nat) : Int) with
    | none => goD F s root k
    | some t => if isB (AccR t s root) then some t else goD F s root k
theorem goD_no {F : List Fr} {s : Int} {root : List UInt8} {r : Nat} (hr : r < 15) (h : textR F s (r : Int) = none) : goD F s root (15 - r) = goD F s root (15 - (r + 1)) := by
  rw [show 15 - r = (15 - (r + 1)) + 1 from by omega, goD, show 15 - (15 - (r + 1) + 1) = r from by omega, h]
theorem goD_not {F : List Fr} {s : Int} {root t : List UInt8} {r : Nat} (hr : r < 15) (h : textR F s (r : Int) = some t) (ha : isB (AccR t s root) = false) : goD F s root (15 - r) = goD F s root (15 - (r + 1)) := by
  rw [show 15 - r = (15 - (r + 1)) + 1 from by omega, goD, show 15 - (15 - (r + 1) + 1) = r from by omega, h]
  simp only [ha]; rfl
theorem goD_yes {F : List Fr} {s : Int} {root t : List UInt8} {r : Nat} (hr : r < 15) (h : textR F s (r : Int) = some t) (ha : isB (AccR t s root) = true) : goD F s root (15 - r) = some t := by
  rw [show 15 - r = (15 - (r + 1)) + 1 from by omega, goD, show 15 - (15 - (r + 1) + 1) = r from by omega, h]
  simp only [ha]; rfl
end Go.Proofs.YtpkapcijgldhhaaGreatDoor
