/-
  Recovery of directories from frames: the plain law.
  Frames in memory; the frame at a position, in the program and in the reference.
  The frame at a position, in the reference.
  The part of a directory at a position, in the reference.
  The part of a directory, from a reel or from the others, in the reference.
-/
import Derived.Test.YtpkapcijgldhhaaGreatDoorMe
import Derived.Test.YtpkapcijgldhhaaGreatDoorAttrR
import Derived.Test.YtpkapcijgldhhaaGreatDoorMb
import Derived.Test.YtpkapcijgldhhaaGreatDoorEntRows
import Derived.Deep.Cut
import Derived.Deep.CutRange
import Derived.Deep.CutBlock
import Derived.Deep.QuietTactic
import Derived.BigQuiet
import Derived.Test.YtpkapcijgldhhaaGreatDoorHdW
import Derived.Test.YtpkapcijgldhhaaGreatDoorMixRef
namespace Go.Proofs.YtpkapcijgldhhaaGreatDoor
/-- a frame -/
structure Fr where
  kind : Int
  reel : Int
  session : Int
  index : Int
  length : Int
  data : Int
  spare : Int
  archive : Int
  payload : ByteArray
def fr0 : Fr := ⟨0, 0, 0, 0, 0, 0, 0, 0, ⟨#[]⟩⟩
def frAt (F : List Fr) (i : Nat) : Fr := F.getD i fr0
theorem frAt_get {F : List Fr} {i : Nat} (h : i < F.length) : frAt F i = F[i] := by
  unfold frAt; rw [List.getD_eq_getElem?_getD, List.getElem?_eq_getElem h]; rfl
def fits (k s r i : Int) (f : Fr) : Prop := f.kind = k ∧ f.session = s ∧ f.reel = r ∧ f.index = i
/-- the frame at a position, or the error -/
noncomputable def payR (k s r i : Int) : Option Fr → List Fr → Except Int Fr
  | none, [] => .error 19
  | some f, [] => .ok f
  | none, f :: L => if isB (fits k s r i f) then payR k s r i (some f) L else payR k s r i none L
  | some g, f :: L => if isB (fits k s r i f) then (if isB (g = f) then payR k s r i (some f) L else .error 20) else payR k s r i (some g) L
theorem drop_at {F : List Fr} {j : Nat} (h : j < F.length) : F.drop j = frAt F j :: F.drop (j + 1) := by
  rw [frAt_get h]; exact List.drop_eq_getElem_cons h
theorem pay_end (k s r i : Int) (st : Option Fr) (F : List Fr) : payR k s r i st (F.drop F.length) = match st with | none => .error 19 | some f => .ok f := by
  rw [List.drop_length]; cases st <;> rfl
theorem pay_skip {k s r i : Int} {F : List Fr} {j : Nat} (h : j < F.length) (hn : ¬ fits k s r i (frAt F j)) (st : Option Fr) : payR k s r i st (F.drop j) = payR k s r i st (F.drop (j + 1)) := by
  rw [drop_at h]
  cases st <;> (rw [payR, isB_no hn]; rfl)
theorem pay_first {k s r i : Int} {F : List Fr} {j : Nat} (h : j < F.length) (hn : fits k s r i (frAt F j)) : payR k s r i none (F.drop j) = payR k s r i (some (frAt F j)) (F.drop (j + 1)) := by
  rw [drop_at h, payR, isB_yes hn]; rfl
theorem pay_again {k s r i : Int} {F : List Fr} {j : Nat} (h : j < F.length) (hn : fits k s r i (frAt F j)) {g : Fr} (hg : g = frAt F j) : payR k s r i (some g) (F.drop j) = payR k s r i (some (frAt F j)) (F.drop (j + 1)) := by
  rw [drop_at h, payR, isB_yes hn, isB_yes hg]; rfl
theorem pay_clash {k s r i : Int} {F : List Fr} {j : Nat} (h : j < F.length) (hn : fits k s r i (frAt F j)) {g : Fr} (hg : g ≠ frAt F j) : payR k s r i (some g) (F.drop j) = .error 20 := by
  rw [drop_at h, payR, isB_yes hn, isB_no hg]; rfl
theorem pay_mem {k s r i : Int} : ∀ (L : List Fr) (st : Option Fr) (f : Fr), payR k s r i st L = .ok f → (f ∈ L ∧ fits k s r i f) ∨ st = some f
  | [], none, f, h => by cases h
  | [], some g, f, h => by injection h with h; rw [h]; exact .inr rfl
  | g :: L, none, f, h => by
    rw [payR] at h
    by_cases hf : fits k s r i g
    · rw [isB_yes hf, if_pos rfl] at h
      rcases pay_mem L _ f h with ⟨h1, h2⟩ | h1
      · exact .inl ⟨List.mem_cons_of_mem _ h1, h2⟩
      · cases h1; exact .inl ⟨List.mem_cons_self, hf⟩
    · rw [isB_no hf, if_neg (by decide)] at h
      rcases pay_mem L _ f h with ⟨h1, h2⟩ | h1
      · exact .inl ⟨List.mem_cons_of_mem _ h1, h2⟩
      · cases h1
  | g :: L, some a, f, h => by
    rw [payR] at h
    by_cases hf : fits k s r i g
    · rw [isB_yes hf, if_pos rfl] at h
      by_cases hg : a = g
      · rw [isB_yes hg, if_pos rfl] at h
        rcases pay_mem L _ f h with ⟨h1, h2⟩ | h1
        · exact .inl ⟨List.mem_cons_of_mem _ h1, h2⟩
        · cases h1; exact .inl ⟨List.mem_cons_self, hf⟩
      · rw [isB_no hg, if_neg (by decide)] at h; cases h
    · rw [isB_no hf, if_neg (by decide)] at h
      rcases pay_mem L _ f h with ⟨h1, h2⟩ | h1
      · exact .inl ⟨List.mem_cons_of_mem _ h1, h2⟩
      · exact .inr h1
theorem pay_none {k s r i : Int} {F : List Fr} {f : Fr} (h : payR k s r i none F = .ok f) : f ∈ F ∧ fits k s r i f := by
  rcases pay_mem F none f h with h | h
  · exact h
  · cases h
/-- the part of a directory at a position -/
noncomputable def ownR (F : List Fr) (s r i : Int) : Option (List UInt8) :=
  match payR 68 s r i none F with
  | .error _ => none
  | .ok f => if 0 ≤ f.length ∧ f.length ≤ f.payload.size then some (f.payload.data.toList.take f.length.toNat) else none
theorem own_err {F : List Fr} {s r i x : Int} (h : payR 68 s r i none F = .error x) : ownR F s r i = none := by unfold ownR; rw [h]
theorem own_out {F : List Fr} {s r i : Int} {f : Fr} (h : payR 68 s r i none F = .ok f) (hn : ¬ (0 ≤ f.length ∧ f.length ≤ f.payload.size)) : ownR F s r i = none := by unfold ownR; rw [h]; exact if_neg hn
theorem own_in {F : List Fr} {s r i : Int} {f : Fr} (h : payR 68 s r i none F = .ok f) (hn : 0 ≤ f.length ∧ f.length ≤ f.payload.size) : ownR F s r i = some (f.payload.data.toList.take f.length.toNat) := by unfold ownR; rw [h]; exact if_pos hn
theorem own_mem {F : List Fr} {s r i : Int} {t : List UInt8} (h : ownR F s r i = some t) : ∃ f ∈ F, f.index = i ∧ t.length ≤ f.payload.size := by
  unfold ownR at h
  rcases hp : payR 68 s r i none F with x | f
  · rw [hp] at h; cases h
  · rw [hp] at h
    obtain ⟨h1, h2⟩ := pay_none hp
    refine ⟨f, h1, h2.2.2.2, ?_⟩
    simp only at h
    split at h
    · cases h
      rw [List.length_take]
      exact Nat.min_le_right _ _
    · cases h
/-- none: two reels contradict each other; some none: nothing found yet -/
noncomputable def stp (st : Option (Option (List UInt8))) : Option (List UInt8) → Option (Option (List UInt8))
  | none => st
  | some t => match st with
    | none => none
    | some none => some (some t)
    | some (some c) => if isB (t = c) then some (some t) else none
noncomputable def foldS (F : List Fr) (s i : Int) : Nat → Option (Option (List UInt8))
  | 0 => some none
  | k + 1 => stp (foldS F s i k) (ownR F s k i)
noncomputable def partR (F : List Fr) (s fm i : Int) : Option (List UInt8) :=
  match ownR F s fm i with
  | some t => some t
  | none => match foldS F s i 15 with
    | none => none
    | some o => o
theorem stp_none (o : Option (List UInt8)) : stp none o = none := by cases o <;> rfl
theorem fold_clash {F : List Fr} {s i : Int} : ∀ {k m : Nat}, foldS F s i k = none → k ≤ m → foldS F s i m = none
  | k, m, h, hm => by
    induction m with
    | zero => obtain rfl : k = 0 := by omega
              exact h
    | succ m ih =>
      by_cases e : k = m + 1
      · subst e; exact h
      · rw [foldS, ih (by omega), stp_none]
theorem part_own {F : List Fr} {s fm i : Int} {t : List UInt8} (h : ownR F s fm i = some t) : partR F s fm i = some t := by unfold partR; rw [h]
theorem part_fold {F : List Fr} {s fm i : Int} (h : ownR F s fm i = none) : partR F s fm i = match foldS F s i 15 with | none => none | some o => o := by unfold partR; rw [h]
theorem fold_mem {F : List Fr} {s i : Int} : ∀ (k : Nat) (t : List UInt8), foldS F s i k = some (some t) → ∃ f ∈ F, f.index = i ∧ t.length ≤ f.payload.size
  | 0, t, h => by cases h
  | k + 1, t, h => by
    rw [foldS] at h
    rcases ho : ownR F s k i with _ | u
    · rw [ho] at h; exact fold_mem k t h
    · rw [ho] at h
      rcases hf : foldS F s i k with _ | _ | c
      · rw [hf] at h; cases h
      · rw [hf] at h
        injection h with h; injection h with h; subst h
        exact own_mem ho
      · rw [hf] at h
        have h : (if isB (u = c) then some (some u) else none) = some (some t) := h
        split at h
        · injection h with h; injection h with h; subst h
          exact own_mem ho
        · cases h
theorem part_mem {F : List Fr} {s fm i : Int} {t : List UInt8} (h : partR F s fm i = some t) : ∃ f ∈ F, f.index = i ∧ t.length ≤ f.payload.size := by
  unfold partR at h
  rcases ho : ownR F s fm i with _ | u
  · rw [ho] at h
    rcases hf : foldS F s i 15 with _ | o
    · rw [hf] at h; cases h
    · rw [hf] at h
      have h : o = some t := h
      subst h; exact fold_mem 15 t hf
  · rw [ho] at h
    injection h with h; subst h; exact own_mem ho
noncomputable def partsR (F : List Fr) (s fm : Int) : Nat → Option (List UInt8)
  | 0 => some []
  | k + 1 => match partsR F s fm k, partR F s fm k with
    | some a, some t => some (a ++ t)
    | _, _ => none
theorem parts_next {F : List Fr} {s fm : Int} {k : Nat} {a t : List UInt8} (h : partsR F s fm k = some a) (ht : partR F s fm k = some t) : partsR F s fm (k + 1) = some (a ++ t) := by rw [partsR, h, ht]
theorem parts_stop {F : List Fr} {s fm : Int} {k : Nat} (h : partR F s fm k = none) : ∀ m, k < m → partsR F s fm m = none
  | 0, hm => absurd hm (Nat.not_lt_zero _)
  | m + 1, hm => by
    rw [partsR]
    by_cases e : k = m
    · subst e
      rw [h]
      cases partsR F s fm k <;> rfl
    · rw [parts_stop h m (by omega)]
theorem cover_le : ∀ (k : Nat) (L : List Fr), (∀ i, i < k → ∃ f ∈ L, f.index = (i : Int)) → k ≤ L.length
  | 0, _, _ => Nat.zero_le _
  | k + 1, L, h => by
    have ih := cover_le k (L.filter fun f => f.index != (k : Int)) fun i hi => by
      obtain ⟨f, hf, he⟩ := h i (by omega)
      refine ⟨f, List.mem_filter.2 ⟨hf, ?_⟩, he⟩
      rw [bne_iff_ne, he]; omega
    obtain ⟨g, hg, he⟩ := h k (by omega)
    have : (L.filter fun f => f.index != (k : Int)).length < L.length := by
      rw [List.length_filter_lt_length_iff_exists]
      refine ⟨g, hg, ?_⟩
      rw [he]; simp
    omega
theorem parts_cover {F : List Fr} {s fm : Int} : ∀ (k : Nat) (a : List UInt8), partsR F s fm k = some a → ∀ i, i < k → ∃ f ∈ F, f.index = (i : Int)
  | 0, _, _, i, hi => absurd hi (Nat.not_lt_zero _)
  | k + 1, a, h, i, hi => by
    rw [partsR] at h
    rcases hp : partsR F s fm k with _ | b
    · rw [hp] at h; cases h
    · rcases ht : partR F s fm k with _ | t
      · rw [hp, ht] at h; cases h
      · by_cases e : i = k
        · subst e
          obtain ⟨f, h1, h2, _⟩ := part_mem ht
          exact ⟨f, h1, h2⟩
        · exact parts_cover k b hp i (by omega)
theorem parts_le {F : List Fr} {s fm : Int} {M : Nat} (hF : ∀ f ∈ F, f.payload.size ≤ M) : ∀ (k : Nat) (a : List UInt8), partsR F s fm k = some a → a.length ≤ k * M
  | 0, a, h => by cases h; exact Nat.zero_le _
  | k + 1, a, h => by
    rw [partsR] at h
    rcases hp : partsR F s fm k with _ | b
    · rw [hp] at h; cases h
    · rcases ht : partR F s fm k with _ | t
      · rw [hp, ht] at h; cases h
      · rw [hp, ht] at h
        injection h with h; subst h
        have h1 := parts_le hF k b hp
        obtain ⟨f, h2, _, h3⟩ := part_mem ht
        have h4 := hF f h2
        rw [List.length_append, Nat.succ_mul]; omega
/-- at most 1000 frames with payloads of at most 100 bytes -/
def SmallF (F : List Fr) : Prop := F.length ≤ 1000 ∧ ∀ f ∈ F, f.payload.size ≤ 100
theorem parts_bd {F : List Fr} {s fm : Int} (hF : SmallF F) {k : Nat} {a : List UInt8} (h : partsR F s fm k = some a) : k ≤ 1000 ∧ a.length ≤ 100000 := by
  have h1 := cover_le k F (parts_cover k a h)
  have h2 := parts_le hF.2 k a h
  have := hF.1
  omega
noncomputable def textR (F : List Fr) (s fm : Int) : Option (List UInt8) :=
  match partR F s fm 0 with
  | none => none
  | some f => match lenR f with
    | .error _ => none
    | .ok n => match partsR F s fm ((n.toNat + 27) / 28) with
      | none => none
      | some a => if (a.length : Int) = n then some a else none
theorem text_none {F : List Fr} {s fm : Int} (h : partR F s fm 0 = none) : textR F s fm = none := by unfold textR; rw [h]
theorem text_len {F : List Fr} {s fm x : Int} {f : List UInt8} (h : partR F s fm 0 = some f) (hl : lenR f = .error x) : textR F s fm = none := by unfold textR; rw [h]; simp only; rw [hl]
theorem text_miss {F : List Fr} {s fm n : Int} {f : List UInt8} {k : Nat} (h : partR F s fm 0 = some f) (hl : lenR f = .ok n) (hk : 28 * (k : Int) < n) (hp : partR F s fm k = none) : textR F s fm = none := by
  unfold textR; rw [h]; simp only; rw [hl]; simp only
  rw [parts_stop hp ((n.toNat + 27) / 28) (by omega)]
theorem text_end {F : List Fr} {s fm n : Int} {f a : List UInt8} {k : Nat} (h : partR F s fm 0 = some f) (hl : lenR f = .ok n) (hk : ¬ 28 * (k : Int) < n) (hk2 : 28 * (k : Int) < n + 28) (h0 : 0 ≤ n) (hp : partsR F s fm k = some a) :
    textR F s fm = if (a.length : Int) = n then some a else none := by
  unfold textR; rw [h]; simp only; rw [hl]; simp only
  rw [show (n.toNat + 27) / 28 = k from by omega, hp]
theorem text_bd {F : List Fr} {s fm : Int} (hF : SmallF F) {t : List UInt8} (h : textR F s fm = some t) : t.length ≤ 100000 := by
  unfold textR at h
  rcases h1 : partR F s fm 0 with _ | f
  · rw [h1] at h; cases h
  · rw [h1] at h; simp only at h
    rcases h2 : lenR f with x | n
    · rw [h2] at h; cases h
    · rw [h2] at h; simp only at h
      rcases h3 : partsR F s fm ((n.toNat + 27) / 28) with _ | a
      · rw [h3] at h; cases h
      · rw [h3] at h; simp only at h
        split at h
        · cases h; exact (parts_bd hF h3).2
        · cases h
/-- what a seal signs -/
def sealed (l : List UInt8) (x : De) : List UInt8 := (l.take (l.length - (strL x.sl).length)).drop 8
/-- a directory text is accepted -/
def AccR (l : List UInt8) (s : Int) (root : List UInt8) : Prop := ∃ x, dirR l = .ok x ∧ x.number = s ∧ (root = [] ∨ (verifyL root (sumB (sealed l x)) x.sl).2 = 0)
theorem acc_err {l root : List UInt8} {s e : Int} (h : dirR l = .error e) : isB (AccR l s root) = false := isB_no fun ⟨x, h1, _⟩ => by rw [h] at h1; cases h1
theorem acc_num {l root : List UInt8} {s : Int} {x : De} (h : dirR l = .ok x) (hn : x.number ≠ s) : isB (AccR l s root) = false := isB_no fun ⟨y, h1, h2, _⟩ => by rw [h] at h1; cases h1; exact hn h2
theorem acc_plain {l : List UInt8} {s : Int} {x : De} (h : dirR l = .ok x) (hn : x.number = s) : isB (AccR l s []) = true := isB_yes ⟨x, h, hn, .inl rfl⟩
theorem acc_root {l root : List UInt8} {s : Int} {x : De} (h : dirR l = .ok x) (hn : x.number = s) (hr : root ≠ []) : isB (AccR l s root) = isB ((verifyL root (sumB (sealed l x)) x.sl).2 = 0) :=
  isB_iff ⟨fun ⟨y, h1, _, h3⟩ => by rw [h] at h1; cases h1; exact h3.resolve_left hr, fun h1 => ⟨x, h, hn, .inr h1⟩⟩
theorem sealed_bd {l : List UInt8} {x : De} (h : dirR l = .ok x) : 8 + (strL x.sl).length ≤ l.length := by
  obtain ⟨h1, h2, _⟩ := dirR_ok.1 h
  rw [h2, withLen, List.length_append, dg_length, bodyD, List.length_append]; omega
/-- the first accepted text of the reels r, r + 1 .. -/
noncomputable def goD (F : List Fr) (s : Int) (root : List UInt8) : Nat → Option (List UInt8)
  | 0 => none
  | k + 1 => match textR F s ((15 - (k + 1) : Nat) : Int) with
    | none => goD F s root k
    | some t => if isB (AccR t s root) then some t else goD F s root k
theorem goD_no {F : List Fr} {s : Int} {root : List UInt8} {r : Nat} (hr : r < 15) (h : textR F s (r : Int) = none) : goD F s root (15 - r) = goD F s root (15 - (r + 1)) := by
  rw [show 15 - r = (15 - (r + 1)) + 1 from by omega, goD, show 15 - (15 - (r + 1) + 1) = r from by omega, h]
theorem goD_not {F : List Fr} {s : Int} {root t : List UInt8} {r : Nat} (hr : r < 15) (h : textR F s (r : Int) = some t) (ha : isB (AccR t s root) = false) : goD F s root (15 - r) = goD F s root (15 - (r + 1)) := by
  rw [show 15 - r = (15 - (r + 1)) + 1 from by omega, goD, show 15 - (15 - (r + 1) + 1) = r from by omega, h]
  simp only [ha]; rfl
theorem goD_yes {F : List Fr} {s : Int} {root t : List UInt8} {r : Nat} (hr : r < 15) (h : textR F s (r : Int) = some t) (ha : isB (AccR t s root) = true) : goD F s root (15 - r) = some t := by
  rw [show 15 - r = (15 - (r + 1)) + 1 from by omega, goD, show 15 - (15 - (r + 1) + 1) = r from by omega, h]
  simp only [ha]; rfl
end Go.Proofs.YtpkapcijgldhhaaGreatDoor

namespace Go.Proofs.YtpkapcijgldhhaaGreatDoor
open Go.RowKit Go.Shelf
def Fr.vals (f : Fr) : List Value := [.int .i64 f.kind, .int .i64 f.reel, .int .i64 f.session, .int .i64 f.index, .int .i64 f.length, .int .i64 f.data, .int .i64 f.spare, .int .u32 f.archive, .string f.payload]
def FrAt (w : World) (b o : Nat) (F : List Fr) : Prop := GAt 9 Fr.vals fr0 w b o F
def FrRow (w : World) (v : Value) (F : List Fr) : Prop := GRow 9 Fr.vals fr0 w v F
theorem frCells {w : World} {b o : Nat} {F : List Fr} (h : FrAt w b o F) {i : Nat} (hi : i < F.length) :
    w.cell? ⟨b, o + i * 9, none⟩ = some (.int .i64 (frAt F i).kind) ∧ w.cell? ⟨b, o + i * 9 + 1, none⟩ = some (.int .i64 (frAt F i).reel) ∧ w.cell? ⟨b, o + i * 9 + 2, none⟩ = some (.int .i64 (frAt F i).session) ∧
    w.cell? ⟨b, o + i * 9 + 3, none⟩ = some (.int .i64 (frAt F i).index) ∧ w.cell? ⟨b, o + i * 9 + 4, none⟩ = some (.int .i64 (frAt F i).length) ∧ w.cell? ⟨b, o + i * 9 + 5, none⟩ = some (.int .i64 (frAt F i).data) ∧
    w.cell? ⟨b, o + i * 9 + 6, none⟩ = some (.int .i64 (frAt F i).spare) ∧ w.cell? ⟨b, o + i * 9 + 7, none⟩ = some (.int .u32 (frAt F i).archive) ∧ w.cell? ⟨b, o + i * 9 + 8, none⟩ = some (.string (frAt F i).payload) :=
  ⟨h i hi 0 _ rfl, h i hi 1 _ rfl, h i hi 2 _ rfl, h i hi 3 _ rfl, h i hi 4 _ rfl, h i hi 5 _ rfl, h i hi 6 _ rfl, h i hi 7 _ rfl, h i hi 8 _ rfl⟩
/-- what is returned of a position -/
def PayQ (r : Except Int Fr) (w : World) (e : Ending) (w' : World) : Prop :=
  (match r with
    | .ok f => e = .returned (.tuple #[.string f.payload, .int .i64 f.length, .int .i64 0])
    | .error x => e = .returned (.tuple #[.string ⟨#[]⟩, .int .i64 0, .int .i64 x])) ∧ Below w.heap.size w w'
theorem boxr (w : World) (c1 : List Value) (T1 : TypeId) : Below w.heap.size w (w.alloc (.cells c1.toArray T1)) ∧ Box (w.alloc (.cells c1.toArray T1)) w.heap.size c1 T1 :=
  ⟨(below_refl w).alloc (Nat.le_refl _) _, Box.new w c1 T1⟩
theorem fr_ext {x y : Fr} (h0 : x.kind = y.kind) (h1 : x.reel = y.reel) (h2 : x.session = y.session) (h3 : x.index = y.index) (h4 : x.length = y.length) (h5 : x.data = y.data) (h6 : x.spare = y.spare) (h7 : x.archive = y.archive) (h8 : x.payload = y.payload) : x = y := by
  cases x; cases y; simp_all
theorem str_inj {s t : ByteArray} (h : s.data.toList = t.data.toList) : s = t := by
  cases s with | mk a => cases t with | mk b => cases a; cases b; simp at h; subst h; rfl
theorem fr_ne {x y : Fr} (h : ¬ x = y) : x.kind ≠ y.kind ∨ x.reel ≠ y.reel ∨ x.session ≠ y.session ∨ x.index ≠ y.index ∨ x.length ≠ y.length ∨ x.data ≠ y.data ∨ x.spare ≠ y.spare ∨ x.archive ≠ y.archive ∨ x.payload ≠ y.payload := by
  by_cases h0 : x.kind = y.kind
  case neg => exact .inl h0
  by_cases h1 : x.reel = y.reel
  case neg => exact .inr (.inl h1)
  by_cases h2 : x.session = y.session
  case neg => exact .inr (.inr (.inl h2))
  by_cases h3 : x.index = y.index
  case neg => exact .inr (.inr (.inr (.inl h3)))
  by_cases h4 : x.length = y.length
  case neg => exact .inr (.inr (.inr (.inr (.inl h4))))
  by_cases h5 : x.data = y.data
  case neg => exact .inr (.inr (.inr (.inr (.inr (.inl h5)))))
  by_cases h6 : x.spare = y.spare
  case neg => exact .inr (.inr (.inr (.inr (.inr (.inr (.inl h6))))))
  by_cases h7 : x.archive = y.archive
  case neg => exact .inr (.inr (.inr (.inr (.inr (.inr (.inr (.inl h7)))))))
  by_cases h8 : x.payload = y.payload
  case neg => exact .inr (.inr (.inr (.inr (.inr (.inr (.inr (.inr h8)))))))
  exact absurd (fr_ext h0 h1 h2 h3 h4 h5 h6 h7 h8) h
theorem pay_on {kd se re ix : Int} {F : List Fr} {k b o : Nat} {p : Value} {R : Except Int Fr} (hlt : k < F.length) (hn : ¬ fits kd se re ix (frAt F k))
    (hp : (p = .pointer none ∧ Hid (payR kd se re ix none (F.drop k) = R)) ∨ ∃ j, j < F.length ∧ p = .pointer (some ⟨b, o + j * 9, none⟩) ∧ Hid (payR kd se re ix (some (frAt F j)) (F.drop k) = R)) :
    (p = .pointer none ∧ Hid (payR kd se re ix none (F.drop (k + 1)) = R)) ∨ ∃ j, j < F.length ∧ p = .pointer (some ⟨b, o + j * 9, none⟩) ∧ Hid (payR kd se re ix (some (frAt F j)) (F.drop (k + 1)) = R) := by
  rcases hp with ⟨h1, h2⟩ | ⟨j, h1, h2, h3⟩
  · exact .inl ⟨h1, by rw [Hid, ← pay_skip hlt hn]; exact h2.out⟩
  · exact .inr ⟨j, h1, h2, by rw [Hid, ← pay_skip hlt hn]; exact h3.out⟩
set_option maxRecDepth 100000 in
set_option maxHeartbeats 4000000 in
theorem payload1 (ar : Int) (b o cap : Nat) (F : List Fr) (kd se re ix : Int) (w : World) (h0 : 0 < F.length) (hmax : F.length ≤ maxLen) (hb : b < w.heap.size) (hF : FrAt w b o F) :
    Calls Tryz.prog 70 #[.agg #[.int .u32 ar, .slice (some ⟨b, o, none⟩) F.length cap], .int .i64 kd, .int .i64 se, .int .i64 re, .int .i64 ix] w (PayQ (payR kd se re ix none F) w) := by
  unfold maxLen at hmax
  have HC := Lib.hid (show ∀ W : World, Below w.heap.size w W → ∀ k, k < F.length → _ from fun W hW k hk => frCells (hF.below hW hb) (i := k) hk)
  obtain ⟨kb0, bC0⟩ := boxr w [.int .u32 ar, .slice (some ⟨b, o, none⟩) F.length cap] 25
  change Below _ _ (w.alloc (.cells #[.int .u32 ar, .slice (some ⟨b, o, none⟩) F.length cap] 25)) at kb0
  change Box (w.alloc (.cells #[.int .u32 ar, .slice (some ⟨b, o, none⟩) F.length cap] 25)) _ _ _ at bC0
  obtain ⟨R, hR⟩ : ∃ R, payR kd se re ix none F = R := ⟨_, rfl⟩
  rw [hR]
  have HR0 := Lib.hid (show payR kd se re ix none (F.drop 0) = R from hR)
  clear hR hF
  go_enter Tryz.func70, Tryz.ntmps70
  go_upto_region 1 with (fail)
  obtain ⟨W0, hW0⟩ : ∃ W0, w.alloc (.cells #[.int .u32 ar, .slice (some ⟨b, o, none⟩) F.length cap] 25) = W0 := ⟨_, rfl⟩
  change Code.wp _ _ _ _ (w.alloc (.cells #[.int .u32 ar, .slice (some ⟨b, o, none⟩) F.length cap] 25))
  rw [hW0] at kb0 bC0 ⊢
  clear hW0
  have HB := Lib.hid (show ∀ W : World, Below W0.heap.size W0 W → Box W w.heap.size [.int .u32 ar, .slice (some ⟨b, o, none⟩) F.length cap] 25 from fun W hW => bC0.below hW)
  have KB := Lib.hid (show ∀ W : World, Below W0.heap.size W0 W → Below w.heap.size w W from fun W hW => step2 kb0 hW)
  have c1 := bC0.cell 1
  have c0 := bC0.cell 0
  clear kb0 bC0
  go_wp2_with fail
  go_loopw [13, 14, 15, 19] (fun p _ _ i wr => ∃ k : Nat, k ≤ F.length ∧ i = .int .i64 k ∧ Below W0.heap.size W0 wr ∧ ((p = .pointer none ∧ Hid (payR kd se re ix none (F.drop k) = R)) ∨ ∃ j, j < F.length ∧ p = .pointer (some ⟨b, o + j * 9, none⟩) ∧ Hid (payR kd se re ix (some (frAt F j)) (F.drop k) = R))) (fun _ _ _ i _ => F.length - (intOf i).toNat)
  case atStart => exact ⟨0, by omega, rfl, below_refl _, .inl ⟨rfl, HR0⟩⟩
  case round =>
    clear c0 c1 HR0
    obtain ⟨k, hk, rfl, kb, hp⟩ := hrel
    have c1 : wr.cell? ⟨w.heap.size, 1, none⟩ = some (.slice (some ⟨b, o, none⟩) F.length cap) := (HB.out _ kb).cell 1
    by_cases hlt : k < F.length
    · obtain ⟨q0, q1, q2, q3, q4, q5, q6, q7, q8⟩ := HC.out _ (KB.out _ kb) k hlt
      have hix : (0 : Int) ≤ (k : Int) ∧ (k : Int) < (F.length : Int) := by omega
      have hskip := fun hn => pay_on hlt hn hp
      by_cases e0 : (frAt F k).kind = kd
      case neg =>
        have x0 : ((frAt F k).kind != kd) = true := bne_iff_ne.2 e0
        have hs := Lib.hid (hskip (fun h => e0 h.1))
        clear hp hskip e0
        go_wp2_with fail
        go_roundw
        case rel => exact ⟨k + 1, by omega, by go_num, kb, hs.out⟩
        case measure => simp [intOf]; omega
      have x0 : ((frAt F k).kind != kd) = false := by rw [e0]; simp
      by_cases e1 : (frAt F k).session = se
      case neg =>
        have x1 : ((frAt F k).session != se) = true := bne_iff_ne.2 e1
        have hs := Lib.hid (hskip (fun h => e1 h.2.1))
        clear hp hskip e1 e0
        go_wp2_with fail
        go_roundw
        case rel => exact ⟨k + 1, by omega, by go_num, kb, hs.out⟩
        case measure => simp [intOf]; omega
      have x1 : ((frAt F k).session != se) = false := by rw [e1]; simp
      by_cases e2 : (frAt F k).reel = re
      case neg =>
        have x2 : ((frAt F k).reel != re) = true := bne_iff_ne.2 e2
        have hs := Lib.hid (hskip (fun h => e2 h.2.2.1))
        clear hp hskip e1 e0 e2
        go_wp2_with fail
        go_roundw
        case rel => exact ⟨k + 1, by omega, by go_num, kb, hs.out⟩
        case measure => simp [intOf]; omega
      have x2 : ((frAt F k).reel != re) = false := by rw [e2]; simp
      by_cases e3 : (frAt F k).index = ix
      case neg =>
        have x3 : ((frAt F k).index != ix) = true := bne_iff_ne.2 e3
        have hs := Lib.hid (hskip (fun h => e3 h.2.2.2))
        clear hp hskip e1 e0 e2 e3
        go_wp2_with fail
        go_roundw
        case rel => exact ⟨k + 1, by omega, by go_num, kb, hs.out⟩
        case measure => simp [intOf]; omega
      have x3 : ((frAt F k).index != ix) = false := by rw [e3]; simp
      have hfit : Hid (fits kd se re ix (frAt F k)) := ⟨e0, e1, e2, e3⟩
      clear hskip e0 e1 e2 e3
      rcases hp with ⟨rfl, h2⟩ | ⟨j, hj, rfl, h3⟩
      · have hs : Hid (payR kd se re ix (some (frAt F k)) (F.drop (k + 1)) = R) := by rw [Hid, ← pay_first hlt hfit.out]; exact h2.out
        clear h2 hfit
        go_upto_region 7 with (fail)
        go_quiet (fail)
        go_wp2_with fail
        go_roundw
        case rel => exact ⟨k + 1, by omega, by go_num, below_drewN kb _, .inr ⟨k, hlt, rfl, hs⟩⟩
        case measure => simp [intOf]; omega
      · obtain ⟨r0, r1, r2, r3, r4, r5, r6, r7, r8⟩ := HC.out _ (KB.out _ kb) j hj
        by_cases hg : frAt F j = frAt F k
        · have hs : Hid (payR kd se re ix (some (frAt F k)) (F.drop (k + 1)) = R) := by rw [Hid, ← pay_again hlt hfit.out hg]; exact h3.out
          clear h3 hfit
          rw [hg] at r0 r1 r2 r3 r4 r5 r6 r7 r8
          clear hg
          go_upto_region 7 with (fail)
          go_quiet (fail)
          go_wp2_with fail
          go_roundw
          case rel => exact ⟨k + 1, by omega, by go_num, below_drewN kb _, .inr ⟨k, hlt, rfl, hs⟩⟩
          case measure => simp [intOf]; omega
        · have hs : Hid (R = .error 20) := by rw [Hid, ← h3.out]; exact pay_clash hlt hfit.out hg
          clear h3 hfit
          rcases fr_ne hg with hne | hne | hne | hne | hne | hne | hne | hne | hne
          · have y0 : ((frAt F j).kind == (frAt F k).kind) = false := by rw [beq_eq_false_iff_ne]; exact hne
            clear hne
            go_upto_region 7 with (fail)
            go_quiet (fail)
            go_wp2_with fail
            go_ret3
            rw [hs.out]
            exact ⟨rfl, KB.out _ (below_drewN kb _)⟩
          · have y1 : ((frAt F j).reel == (frAt F k).reel) = false := by rw [beq_eq_false_iff_ne]; exact hne
            clear hne
            go_upto_region 7 with (fail)
            go_quiet (fail)
            go_wp2_with fail
            go_ret3
            rw [hs.out]
            exact ⟨rfl, KB.out _ (below_drewN kb _)⟩
          · have y2 : ((frAt F j).session == (frAt F k).session) = false := by rw [beq_eq_false_iff_ne]; exact hne
            clear hne
            go_upto_region 7 with (fail)
            go_quiet (fail)
            go_wp2_with fail
            go_ret3
            rw [hs.out]
            exact ⟨rfl, KB.out _ (below_drewN kb _)⟩
          · have y3 : ((frAt F j).index == (frAt F k).index) = false := by rw [beq_eq_false_iff_ne]; exact hne
            clear hne
            go_upto_region 7 with (fail)
            go_quiet (fail)
            go_wp2_with fail
            go_ret3
            rw [hs.out]
            exact ⟨rfl, KB.out _ (below_drewN kb _)⟩
          · have y4 : ((frAt F j).length == (frAt F k).length) = false := by rw [beq_eq_false_iff_ne]; exact hne
            clear hne
            go_upto_region 7 with (fail)
            go_quiet (fail)
            go_wp2_with fail
            go_ret3
            rw [hs.out]
            exact ⟨rfl, KB.out _ (below_drewN kb _)⟩
          · have y5 : ((frAt F j).data == (frAt F k).data) = false := by rw [beq_eq_false_iff_ne]; exact hne
            clear hne
            go_upto_region 7 with (fail)
            go_quiet (fail)
            go_wp2_with fail
            go_ret3
            rw [hs.out]
            exact ⟨rfl, KB.out _ (below_drewN kb _)⟩
          · have y6 : ((frAt F j).spare == (frAt F k).spare) = false := by rw [beq_eq_false_iff_ne]; exact hne
            clear hne
            go_upto_region 7 with (fail)
            go_quiet (fail)
            go_wp2_with fail
            go_ret3
            rw [hs.out]
            exact ⟨rfl, KB.out _ (below_drewN kb _)⟩
          · have y7 : ((frAt F j).archive == (frAt F k).archive) = false := by rw [beq_eq_false_iff_ne]; exact hne
            clear hne
            go_upto_region 7 with (fail)
            go_quiet (fail)
            go_wp2_with fail
            go_ret3
            rw [hs.out]
            exact ⟨rfl, KB.out _ (below_drewN kb _)⟩
          · have y8 : ((frAt F j).payload.toList == (frAt F k).payload.toList) = false := by rw [str_eq]; exact decide_eq_false (fun h => hne (str_inj h))
            clear hne
            go_upto_region 7 with (fail)
            go_quiet (fail)
            go_wp2_with fail
            go_ret3
            rw [hs.out]
            exact ⟨rfl, KB.out _ (below_drewN kb _)⟩
    · obtain rfl : k = F.length := by omega
      rcases hp with ⟨rfl, h2⟩ | ⟨j, hj, rfl, h3⟩
      · have hs : Hid (R = .error 19) := by rw [Hid, ← h2.out, pay_end]
        clear h2
        go_wp2_with fail
        go_ret3
        rw [hs.out]
        exact ⟨rfl, KB.out _ kb⟩
      · have hs : Hid (R = .ok (frAt F j)) := by rw [Hid, ← h3.out, pay_end]
        obtain ⟨r0, r1, r2, r3, r4, r5, r6, r7, r8⟩ := HC.out _ (KB.out _ kb) j hj
        clear h3
        go_upto_region 13 with (fail)
        go_quiet (fail)
        go_wp2_with fail
        go_ret3
        rw [hs.out]
        exact ⟨rfl, KB.out _ (below_drewN kb _)⟩
theorem payload0 (ar : Int) (a : Option Addr) (cap : Nat) (kd se re ix : Int) (w : World) :
    Calls Tryz.prog 70 #[.agg #[.int .u32 ar, .slice a 0 cap], .int .i64 kd, .int .i64 se, .int .i64 re, .int .i64 ix] w (PayQ (.error 19) w) := by
  obtain ⟨kb0, bC0⟩ := boxr w [.int .u32 ar, .slice a 0 cap] 25
  go_enter Tryz.func70, Tryz.ntmps70
  go_upto_region 1 with (fail)
  obtain ⟨W0, hW0⟩ : ∃ W0, w.alloc (.cells #[.int .u32 ar, .slice a 0 cap] 25) = W0 := ⟨_, rfl⟩
  change Code.wp _ _ _ _ (w.alloc (.cells #[.int .u32 ar, .slice a 0 cap] 25))
  change Below _ _ (w.alloc (.cells #[.int .u32 ar, .slice a 0 cap] 25)) at kb0
  change Box (w.alloc (.cells #[.int .u32 ar, .slice a 0 cap] 25)) _ _ _ at bC0
  rw [hW0] at kb0 bC0 ⊢
  clear hW0
  have c1 : W0.cell? ⟨w.heap.size, 1, none⟩ = some (.slice a 0 cap) := bC0.cell 1
  go_wp2_with fail
  go_loopw [13, 14, 15, 19] (fun p _ _ i wr => p = .pointer none ∧ i = .int .i64 0 ∧ wr = W0) (fun _ _ _ i _ => (intOf i).toNat)
  case atStart => exact ⟨rfl, rfl, rfl⟩
  case round =>
    obtain ⟨rfl, rfl, rfl⟩ := hrel
    go_wp2_with fail
    go_ret3
    exact ⟨rfl, kb0⟩
theorem payload_any (ar : Int) (v : Value) (F : List Fr) (kd se re ix : Int) (w : World) (hr : FrRow w v F) :
    Calls Tryz.prog 70 #[.agg #[.int .u32 ar, v], .int .i64 kd, .int .i64 se, .int .i64 re, .int .i64 ix] w (PayQ (payR kd se re ix none F) w) := by
  rcases hr.2 with ⟨rfl, a, cap, rfl, _⟩ | ⟨h0, b, o, cap, rfl, _, _, hb, hF⟩
  · exact payload0 ar a cap kd se re ix w
  · exact payload1 ar b o cap F kd se re ix w h0 hr.1 hb hF
end Go.Proofs.YtpkapcijgldhhaaGreatDoor

namespace Go.Proofs.YtpkapcijgldhhaaGreatDoor
open Go.RowKit Go.Shelf
def put9 (W : World) (B : Nat) (h : Fr) : World := (((((((((W.setCell ⟨B, 0, none⟩ (.int .i64 h.kind)).setCell ⟨B, 1, none⟩ (.int .i64 h.reel)).setCell ⟨B, 2, none⟩ (.int .i64 h.session)).setCell ⟨B, 3, none⟩ (.int .i64 h.index)).setCell ⟨B, 4, none⟩ (.int .i64 h.length)).setCell ⟨B, 5, none⟩ (.int .i64 h.data)).setCell ⟨B, 6, none⟩ (.int .i64 h.spare)).setCell ⟨B, 7, none⟩ (.int .u32 h.archive)).setCell ⟨B, 8, none⟩ (.string h.payload))
theorem Box.put9 {W : World} {B : Nat} {g : Fr} {T : TypeId} (hB : Box W B g.vals T) (h : Fr) : Box (put9 W B h) B h.vals T :=
  (((((((((hB.set (j := 0) (.int .i64 h.kind)).set (j := 1) (.int .i64 h.reel)).set (j := 2) (.int .i64 h.session)).set (j := 3) (.int .i64 h.index)).set (j := 4) (.int .i64 h.length)).set (j := 5) (.int .i64 h.data)).set (j := 6) (.int .i64 h.spare)).set (j := 7) (.int .u32 h.archive)).set (j := 8) (.string h.payload))
theorem Box.other9 {W : World} {B E : Nat} {cs : List Value} {T : TypeId} (hB : Box W E cs T) (hn : B ≠ E) (h : Fr) : Box (Go.Proofs.YtpkapcijgldhhaaGreatDoor.put9 W B h) E cs T :=
  (((((((((hB.setOther (j := 0) hn _).setOther (j := 1) hn _).setOther (j := 2) hn _).setOther (j := 3) hn _).setOther (j := 4) hn _).setOther (j := 5) hn _).setOther (j := 6) hn _).setOther (j := 7) hn _).setOther (j := 8) hn _)
theorem below_put9 {n B : Nat} {w W : World} (hb : Below n w W) (hn : n ≤ B) (h : Fr) : Below n w (Go.Proofs.YtpkapcijgldhhaaGreatDoor.put9 W B h) :=
  (((((((((hb.setCell (p := ⟨B, 0, none⟩) hn _).setCell (p := ⟨B, 1, none⟩) hn _).setCell (p := ⟨B, 2, none⟩) hn _).setCell (p := ⟨B, 3, none⟩) hn _).setCell (p := ⟨B, 4, none⟩) hn _).setCell (p := ⟨B, 5, none⟩) hn _).setCell (p := ⟨B, 6, none⟩) hn _).setCell (p := ⟨B, 7, none⟩) hn _).setCell (p := ⟨B, 8, none⟩) hn _)
theorem Box.cells9 {W : World} {D : Nat} {g : Fr} {T : TypeId} (h : Box W D g.vals T) :
    W.cell? ⟨D, 0, none⟩ = some (.int .i64 g.kind) ∧ W.cell? ⟨D, 1, none⟩ = some (.int .i64 g.reel) ∧ W.cell? ⟨D, 2, none⟩ = some (.int .i64 g.session) ∧ W.cell? ⟨D, 3, none⟩ = some (.int .i64 g.index) ∧ W.cell? ⟨D, 4, none⟩ = some (.int .i64 g.length) ∧
    W.cell? ⟨D, 5, none⟩ = some (.int .i64 g.data) ∧ W.cell? ⟨D, 6, none⟩ = some (.int .i64 g.spare) ∧ W.cell? ⟨D, 7, none⟩ = some (.int .u32 g.archive) ∧ W.cell? ⟨D, 8, none⟩ = some (.string g.payload) :=
  ⟨h.cell 0, h.cell 1, h.cell 2, h.cell 3, h.cell 4, h.cell 5, h.cell 6, h.cell 7, h.cell 8⟩
theorem Box.froz9 {W : World} {D : Nat} {cs : List Value} {T : TypeId} (h : Box W D cs T) :
    W.frozen? ⟨D, 0, none⟩ = false ∧ W.frozen? ⟨D, 1, none⟩ = false ∧ W.frozen? ⟨D, 2, none⟩ = false ∧ W.frozen? ⟨D, 3, none⟩ = false ∧ W.frozen? ⟨D, 4, none⟩ = false ∧
    W.frozen? ⟨D, 5, none⟩ = false ∧ W.frozen? ⟨D, 6, none⟩ = false ∧ W.frozen? ⟨D, 7, none⟩ = false ∧ W.frozen? ⟨D, 8, none⟩ = false :=
  ⟨h.frozen 0, h.frozen 1, h.frozen 2, h.frozen 3, h.frozen 4, h.frozen 5, h.frozen 6, h.frozen 7, h.frozen 8⟩
theorem pay_onR {kd se re ix : Int} {F : List Fr} {k : Nat} {p : Value} {g : Fr} {R : Except Int Fr} (hlt : k < F.length) (hn : ¬ fits kd se re ix (frAt F k))
    (hp : (p = .bool false ∧ Hid (payR kd se re ix none (F.drop k) = R)) ∨ (p = .bool true ∧ Hid (payR kd se re ix (some g) (F.drop k) = R))) :
    (p = .bool false ∧ Hid (payR kd se re ix none (F.drop (k + 1)) = R)) ∨ (p = .bool true ∧ Hid (payR kd se re ix (some g) (F.drop (k + 1)) = R)) := by
  rcases hp with ⟨h1, h2⟩ | ⟨h1, h2⟩
  · exact .inl ⟨h1, by rw [Hid, ← pay_skip hlt hn]; exact h2.out⟩
  · exact .inr ⟨h1, by rw [Hid, ← pay_skip hlt hn]; exact h2.out⟩
set_option maxRecDepth 100000 in
set_option maxHeartbeats 8000000 in
theorem payloadR1 (ar : Int) (b o cap : Nat) (F : List Fr) (kd se re ix : Int) (w : World) (h0 : 0 < F.length) (hmax : F.length ≤ maxLen) (hb : b < w.heap.size) (hF : FrAt w b o F) :
    Calls Tryz.prog 40 #[.agg #[.int .u32 ar, .slice (some ⟨b, o, none⟩) F.length cap], .int .i64 kd, .int .i64 se, .int .i64 re, .int .i64 ix] w (PayQ (payR kd se re ix none F) w) := by
  unfold maxLen at hmax
  have HC := Lib.hid (show ∀ W : World, Below w.heap.size w W → ∀ k, k < F.length → _ from fun W hW k hk => frCells (hF.below hW hb) (i := k) hk)
  obtain ⟨kb0, bC0⟩ := boxr w [.int .u32 ar, .slice (some ⟨b, o, none⟩) F.length cap] 25
  obtain ⟨kb1, bX0⟩ := boxr (w.alloc (.cells [.int .u32 ar, .slice (some ⟨b, o, none⟩) F.length cap].toArray 25)) fr0.vals 46
  replace bC0 := bC0.below kb1
  replace kb0 := step2 kb0 kb1
  clear kb1
  rw [World.size_alloc] at bX0
  obtain ⟨R, hR⟩ : ∃ R, payR kd se re ix none F = R := ⟨_, rfl⟩
  rw [hR]
  have HR0 := Lib.hid (show payR kd se re ix none (F.drop 0) = R from hR)
  clear hR hF
  go_enter Tryz.func40, Tryz.ntmps40
  go_upto_region 3 with (fail)
  obtain ⟨W0, hW0⟩ : ∃ W0, (w.alloc (.cells [.int .u32 ar, .slice (some ⟨b, o, none⟩) F.length cap].toArray 25)).alloc (.cells fr0.vals.toArray 46) = W0 := ⟨_, rfl⟩
  change Code.wp _ _ _ _ ((w.alloc (.cells [.int .u32 ar, .slice (some ⟨b, o, none⟩) F.length cap].toArray 25)).alloc (.cells fr0.vals.toArray 46))
  rw [hW0] at kb0 bC0 bX0 ⊢
  clear hW0
  go_wp2_with fail
  go_loopw [13, 15, 16] (fun p i _ wr => ∃ (k : Nat) (g : Fr), k ≤ F.length ∧ i = .int .i64 k ∧ Below w.heap.size w wr ∧ Box wr w.heap.size [.int .u32 ar, .slice (some ⟨b, o, none⟩) F.length cap] 25 ∧ Box wr (w.heap.size + 1) g.vals 46 ∧
    ((p = .bool false ∧ Hid (payR kd se re ix none (F.drop k) = R)) ∨ (p = .bool true ∧ Hid (payR kd se re ix (some g) (F.drop k) = R)))) (fun _ i _ _ => F.length - (intOf i).toNat)
  case atStart => exact ⟨0, fr0, by omega, rfl, kb0, bC0, bX0, .inl ⟨rfl, HR0⟩⟩
  case round =>
    clear HR0 kb0 bC0 bX0
    obtain ⟨k, g, hk, rfl, kb, bC, bX, hp⟩ := hrel
    have c1 : wr.cell? ⟨w.heap.size, 1, none⟩ = some (.slice (some ⟨b, o, none⟩) F.length cap) := bC.cell 1
    by_cases hlt : k < F.length
    · obtain ⟨q0, q1, q2, q3, q4, q5, q6, q7, q8⟩ := HC.out _ kb k hlt
      have hix : (0 : Int) ≤ (k : Int) ∧ (k : Int) < (F.length : Int) := by omega
      obtain ⟨kF, bF⟩ := boxr wr (frAt F k).vals 46
      have k1 := step2 kb kF
      have bC1 := bC.below kF
      have bX1 := bX.below kF
      obtain ⟨W1, hW1⟩ : ∃ W1, wr.alloc (.cells (frAt F k).vals.toArray 46) = W1 := ⟨_, rfl⟩
      rw [hW1] at kF bF k1 bC1 bX1
      go_upto_region 6 with (fail)
      go_upto_region 7 with (fail)
      change Code.wp _ _ _ _ (wr.alloc (.cells (frAt F k).vals.toArray 46))
      rw [hW1]
      clear hW1 q0 q1 q2 q3 q4 q5 q6 q7 q8 c1 bC bX kb
      obtain ⟨z0, z1, z2, z3, z4, z5, z6, z7, z8⟩ := bF.cells9
      by_cases e0 : (frAt F k).kind = kd
      case neg =>
        have x0 : ((frAt F k).kind != kd) = true := bne_iff_ne.2 e0
        have hs := Lib.hid (pay_onR hlt (fun h => e0 h.1) hp)
        clear hp e0 bF
        go_wp2_with fail
        go_roundw
        case rel => exact ⟨k + 1, g, by omega, by go_num, k1, bC1, bX1, hs.out⟩
        case measure => simp [intOf]; omega
      have x0 : ((frAt F k).kind != kd) = false := by rw [e0]; simp
      by_cases e1 : (frAt F k).session = se
      case neg =>
        have x1 : ((frAt F k).session != se) = true := bne_iff_ne.2 e1
        have hs := Lib.hid (pay_onR hlt (fun h => e1 h.2.1) hp)
        clear hp e0 e1 bF
        go_wp2_with fail
        go_roundw
        case rel => exact ⟨k + 1, g, by omega, by go_num, k1, bC1, bX1, hs.out⟩
        case measure => simp [intOf]; omega
      have x1 : ((frAt F k).session != se) = false := by rw [e1]; simp
      by_cases e2 : (frAt F k).reel = re
      case neg =>
        have x2 : ((frAt F k).reel != re) = true := bne_iff_ne.2 e2
        have hs := Lib.hid (pay_onR hlt (fun h => e2 h.2.2.1) hp)
        clear hp e0 e1 e2 bF
        go_wp2_with fail
        go_roundw
        case rel => exact ⟨k + 1, g, by omega, by go_num, k1, bC1, bX1, hs.out⟩
        case measure => simp [intOf]; omega
      have x2 : ((frAt F k).reel != re) = false := by rw [e2]; simp
      by_cases e3 : (frAt F k).index = ix
      case neg =>
        have x3 : ((frAt F k).index != ix) = true := bne_iff_ne.2 e3
        have hs := Lib.hid (pay_onR hlt (fun h => e3 h.2.2.2) hp)
        clear hp e0 e1 e2 e3 bF
        go_wp2_with fail
        go_roundw
        case rel => exact ⟨k + 1, g, by omega, by go_num, k1, bC1, bX1, hs.out⟩
        case measure => simp [intOf]; omega
      have x3 : ((frAt F k).index != ix) = false := by rw [e3]; simp
      have hfit : Hid (fits kd se re ix (frAt F k)) := ⟨e0, e1, e2, e3⟩
      obtain ⟨s0, s1, s2, s3, s4, s5, s6, s7, s8⟩ := bX1.froz9
      clear e0 e1 e2 e3
      rcases hp with ⟨rfl, h2⟩ | ⟨rfl, h3⟩
      · have hs : Hid (payR kd se re ix (some (frAt F k)) (F.drop (k + 1)) = R) := by rw [Hid, ← pay_first hlt hfit.out]; exact h2.out
        obtain ⟨r0, r1, r2, r3, r4, r5, r6, r7, r8⟩ := bX1.cells9
        clear h2 hfit
        go_upto_region 5 with (fail)
        change Code.wp _ _ _ _ (put9 W1 (w.heap.size + 1) (frAt F k))
        have k2 := below_put9 k1 (Nat.le_succ _) (frAt F k)
        have bC2 := bC1.other9 (show w.heap.size + 1 ≠ w.heap.size by omega) (frAt F k)
        have bX2 := bX1.put9 (frAt F k)
        generalize put9 W1 (w.heap.size + 1) (frAt F k) = W2 at *
        clear z0 z1 z2 z3 z4 z5 z6 z7 z8
        go_wp2_with fail
        go_roundw
        case rel => exact ⟨k + 1, frAt F k, by omega, by go_num, k2, bC2, bX2, .inr ⟨rfl, hs⟩⟩
        case measure => simp [intOf]; omega
      · by_cases hg : g = frAt F k
        · have hs : Hid (payR kd se re ix (some (frAt F k)) (F.drop (k + 1)) = R) := by rw [Hid, ← pay_again hlt hfit.out hg]; exact h3.out
          clear h3 hfit
          have bX3 := bX1
          rw [hg] at bX3
          obtain ⟨r0, r1, r2, r3, r4, r5, r6, r7, r8⟩ := bX3.cells9
          clear hg bX3
          go_upto_region 5 with (fail)
          change Code.wp _ _ _ _ (put9 W1 (w.heap.size + 1) (frAt F k))
          have k2 := below_put9 k1 (Nat.le_succ _) (frAt F k)
          have bC2 := bC1.other9 (show w.heap.size + 1 ≠ w.heap.size by omega) (frAt F k)
          have bX2 := bX1.put9 (frAt F k)
          generalize put9 W1 (w.heap.size + 1) (frAt F k) = W2 at *
          clear r0 r1 r2 r3 r4 r5 r6 r7 r8 z0 z1 z2 z3 z4 z5 z6 z7 z8
          go_wp2_with fail
          go_roundw
          case rel => exact ⟨k + 1, frAt F k, by omega, by go_num, k2, bC2, bX2, .inr ⟨rfl, hs⟩⟩
          case measure => simp [intOf]; omega
        · have hs : Hid (R = .error 20) := by rw [Hid, ← h3.out]; exact pay_clash hlt hfit.out hg
          obtain ⟨r0, r1, r2, r3, r4, r5, r6, r7, r8⟩ := bX1.cells9
          clear h3 hfit
          rcases fr_ne hg with hne | hne | hne | hne | hne | hne | hne | hne | hne
          · have y : (g.kind == (frAt F k).kind) = false := by rw [beq_eq_false_iff_ne]; exact hne
            clear hne
            go_wp2_with fail
            go_ret3
            rw [hs.out]
            exact ⟨rfl, k1⟩
          · have y : (g.reel == (frAt F k).reel) = false := by rw [beq_eq_false_iff_ne]; exact hne
            clear hne
            go_wp2_with fail
            go_ret3
            rw [hs.out]
            exact ⟨rfl, k1⟩
          · have y : (g.session == (frAt F k).session) = false := by rw [beq_eq_false_iff_ne]; exact hne
            clear hne
            go_wp2_with fail
            go_ret3
            rw [hs.out]
            exact ⟨rfl, k1⟩
          · have y : (g.index == (frAt F k).index) = false := by rw [beq_eq_false_iff_ne]; exact hne
            clear hne
            go_wp2_with fail
            go_ret3
            rw [hs.out]
            exact ⟨rfl, k1⟩
          · have y : (g.length == (frAt F k).length) = false := by rw [beq_eq_false_iff_ne]; exact hne
            clear hne
            go_wp2_with fail
            go_ret3
            rw [hs.out]
            exact ⟨rfl, k1⟩
          · have y : (g.data == (frAt F k).data) = false := by rw [beq_eq_false_iff_ne]; exact hne
            clear hne
            go_wp2_with fail
            go_ret3
            rw [hs.out]
            exact ⟨rfl, k1⟩
          · have y : (g.spare == (frAt F k).spare) = false := by rw [beq_eq_false_iff_ne]; exact hne
            clear hne
            go_wp2_with fail
            go_ret3
            rw [hs.out]
            exact ⟨rfl, k1⟩
          · have y : (g.archive == (frAt F k).archive) = false := by rw [beq_eq_false_iff_ne]; exact hne
            clear hne
            go_wp2_with fail
            go_ret3
            rw [hs.out]
            exact ⟨rfl, k1⟩
          · have y : (g.payload.toList == (frAt F k).payload.toList) = false := by rw [str_eq]; exact decide_eq_false (fun h => hne (str_inj h))
            clear hne
            go_wp2_with fail
            go_ret3
            rw [hs.out]
            exact ⟨rfl, k1⟩
    · obtain rfl : k = F.length := by omega
      rcases hp with ⟨rfl, h2⟩ | ⟨rfl, h3⟩
      · have hs : Hid (R = .error 19) := by rw [Hid, ← h2.out, pay_end]
        clear h2
        go_wp2_with fail
        go_ret3
        rw [hs.out]
        exact ⟨rfl, kb⟩
      · have hs : Hid (R = .ok g) := by rw [Hid, ← h3.out, pay_end]
        obtain ⟨r0, r1, r2, r3, r4, r5, r6, r7, r8⟩ := bX.cells9
        clear h3
        go_upto_region 14 with (fail)
        go_quiet (fail)
        go_wp2_with fail
        go_ret3
        rw [hs.out]
        exact ⟨rfl, below_drewN kb _⟩
theorem payloadR0 (ar : Int) (a : Option Addr) (cap : Nat) (kd se re ix : Int) (w : World) :
    Calls Tryz.prog 40 #[.agg #[.int .u32 ar, .slice a 0 cap], .int .i64 kd, .int .i64 se, .int .i64 re, .int .i64 ix] w (PayQ (.error 19) w) := by
  obtain ⟨kb0, bC0⟩ := boxr w [.int .u32 ar, .slice a 0 cap] 25
  obtain ⟨kb1, _⟩ := boxr (w.alloc (.cells [.int .u32 ar, .slice a 0 cap].toArray 25)) fr0.vals 46
  have kb2 := step2 kb0 kb1
  replace bC0 := bC0.below kb1
  clear kb0 kb1
  go_enter Tryz.func40, Tryz.ntmps40
  go_upto_region 3 with (fail)
  obtain ⟨W0, hW0⟩ : ∃ W0, (w.alloc (.cells [.int .u32 ar, .slice a 0 cap].toArray 25)).alloc (.cells fr0.vals.toArray 46) = W0 := ⟨_, rfl⟩
  change Code.wp _ _ _ _ ((w.alloc (.cells [.int .u32 ar, .slice a 0 cap].toArray 25)).alloc (.cells fr0.vals.toArray 46))
  rw [hW0] at kb2 bC0 ⊢
  clear hW0
  have c1 : W0.cell? ⟨w.heap.size, 1, none⟩ = some (.slice a 0 cap) := bC0.cell 1
  go_wp2_with fail
  go_loopw [13, 15, 16] (fun p i _ wr => p = .bool false ∧ i = .int .i64 0 ∧ wr = W0) (fun _ i _ _ => (intOf i).toNat)
  case atStart => exact ⟨rfl, rfl, rfl⟩
  case round =>
    obtain ⟨rfl, rfl, rfl⟩ := hrel
    go_wp2_with fail
    go_ret3
    exact ⟨rfl, kb2⟩
theorem payloadR_any (ar : Int) (v : Value) (F : List Fr) (kd se re ix : Int) (w : World) (hr : FrRow w v F) :
    Calls Tryz.prog 40 #[.agg #[.int .u32 ar, v], .int .i64 kd, .int .i64 se, .int .i64 re, .int .i64 ix] w (PayQ (payR kd se re ix none F) w) := by
  rcases hr.2 with ⟨rfl, a, cap, rfl, _⟩ | ⟨h0, b, o, cap, rfl, _, _, hb, hF⟩
  · exact payloadR0 ar a cap kd se re ix w
  · exact payloadR1 ar b o cap F kd se re ix w h0 hr.1 hb hF
end Go.Proofs.YtpkapcijgldhhaaGreatDoor

namespace Go.Proofs.YtpkapcijgldhhaaGreatDoor
open Go.RowKit Go.Shelf
theorem pay_err {k s r i x : Int} : ∀ (L : List Fr) (st : Option Fr), payR k s r i st L = .error x → x = 19 ∨ x = 20
  | [], none, h => by injection h with h; exact .inl h.symm
  | [], some g, h => by cases h
  | f :: L, none, h => by
    rw [payR] at h
    split at h
    · exact pay_err L _ h
    · exact pay_err L _ h
  | f :: L, some g, h => by
    rw [payR] at h
    split at h
    · split at h
      · exact pay_err L _ h
      · injection h with h; exact .inr h.symm
    · exact pay_err L _ h
def partV (o : Option (List UInt8)) : List Value := match o with | none => [.string ⟨#[]⟩, .int .i64 0] | some t => [.string (bA' t), .int .i64 1]
def PartQ (o : Option (List UInt8)) (w : World) (e : Ending) (w' : World) : Prop := e = .returned (.agg (partV o).toArray) ∧ Below w.heap.size w w'
theorem infoPart : (Tryz.prog.info? 75).map (·.size) = some 2 := by kernel_rfl
theorem results_part {fn : Func} {p : Tmp} (h : fn.results = #[.cell p 75]) (tmps : Array Value) (w : World) (B : Nat) (hp : tmps.getD p undef = .pointer (some ⟨B, 0, none⟩)) {o : Option (List UInt8)} (hb : Box w B (partV o) 75) :
    (results fn tmps).run Tryz.prog w = .ok (.agg (partV o).toArray) w := by
  refine results_cell_mid h tmps w B 0 hp (partV o) _ (fun j v hv => by rw [Nat.zero_add, hb.cell]; exact hv) Tryz.underlying75 rfl ?_
  cases o <;> exact infoPart
theorem take_str (b : ByteArray) (n : Nat) : b.extract 0 n = bA' (b.data.toList.take n) := by
  apply str_inj
  rw [bA'_list]
  simp
theorem Box.set2 {W : World} {B : Nat} {v0 v1 : Value} {T : TypeId} (h : Box W B [v0, v1] T) (u0 u1 : Value) : Box ((W.setCell ⟨B, 0, none⟩ u0).setCell ⟨B, 1, none⟩ u1) B [u0, u1] T := (h.set (j := 0) u0).set (j := 1) u1
theorem below_set2 {n B : Nat} {w W : World} (h : Below n w W) (hn : n ≤ B) (u0 u1 : Value) : Below n w ((W.setCell ⟨B, 0, none⟩ u0).setCell ⟨B, 1, none⟩ u1) := (h.setCell (p := ⟨B, 0, none⟩) hn _).setCell (p := ⟨B, 1, none⟩) hn _
set_option maxRecDepth 100000 in
set_option maxHeartbeats 4000000 in
theorem ownR_any (ar : Int) (v : Value) (F : List Fr) (s r i : Int) (w : World) (hr : FrRow w v F) (hF : SmallF F) :
    Calls Tryz.prog 107 #[.agg #[.int .u32 ar, v], .int .i64 s, .int .i64 r, .int .i64 i] w (PartQ (ownR F s r i) w) := by
  obtain ⟨kb0, bC0⟩ := boxr w [.int .u32 ar, v] 25
  obtain ⟨kb1, bX0⟩ := boxr (w.alloc (.cells [.int .u32 ar, v].toArray 25)) (partV none) 75
  replace bC0 := bC0.below kb1
  replace kb0 := step2 kb0 kb1
  clear kb1
  rw [World.size_alloc] at bX0
  go_enter Tryz.func107, Tryz.ntmps107
  go_upto_region 1 with (fail)
  obtain ⟨W0, hW0⟩ : ∃ W0, (w.alloc (.cells [.int .u32 ar, v].toArray 25)).alloc (.cells (partV none).toArray 75) = W0 := ⟨_, rfl⟩
  change Code.wp _ _ _ _ ((w.alloc (.cells [.int .u32 ar, v].toArray 25)).alloc (.cells (partV none).toArray 75))
  rw [hW0] at kb0 bC0 bX0 ⊢
  clear hW0
  have c0 : W0.cell? ⟨w.heap.size, 0, none⟩ = some (.int .u32 ar) := bC0.cell 0
  have c1 : W0.cell? ⟨w.heap.size, 1, none⟩ = some v := bC0.cell 1
  have HP := Lib.hid (payloadR_any ar v F 68 s r i W0 (hr.below kb0))
  go_wp2_with fail
  refine HP.out.mono ?_
  rintro e w1 ⟨he, hb1⟩
  have k1 := step2 kb0 hb1
  have bX1 := bX0.below hb1
  clear HP c0 c1
  rcases hp : payR 68 s r i none F with x | f
  · rw [hp] at he
    obtain rfl := he
    have ho := own_err hp
    obtain ⟨x1, x2⟩ := neq0 (show ¬ x = 0 by rcases pay_err _ _ hp with rfl | rfl <;> decide)
    have f0 : w1.frozen? ⟨w.heap.size + 1, 0, none⟩ = false := bX1.frozen 0
    have f1 : w1.frozen? ⟨w.heap.size + 1, 1, none⟩ = false := bX1.frozen 1
    have d0 : w1.cell? ⟨w.heap.size + 1, 0, none⟩ = some (.string ⟨#[]⟩) := bX1.cell 0
    have d1 : w1.cell? ⟨w.heap.size + 1, 1, none⟩ = some (.int .i64 0) := bX1.cell 1
    have Ho := Lib.hid ho
    clear hp ho
    go_wp2_with fail
    refine bodyPost_ret (results_part rfl _ _ (w.heap.size + 1) rfl (o := none) (bX1.set2 _ _)) rfl ⟨by rw [Ho.out], below_set2 k1 (Nat.le_succ _) _ _⟩
  · rw [hp] at he
    obtain rfl := he
    have hsz : (f.payload.size : Int) ≤ 1000 := by have := hF.2 f (pay_none hp).1; omega
    have f0 : w1.frozen? ⟨w.heap.size + 1, 0, none⟩ = false := bX1.frozen 0
    have f1 : w1.frozen? ⟨w.heap.size + 1, 1, none⟩ = false := bX1.frozen 1
    have d0 : w1.cell? ⟨w.heap.size + 1, 0, none⟩ = some (.string ⟨#[]⟩) := bX1.cell 0
    have d1 : w1.cell? ⟨w.heap.size + 1, 1, none⟩ = some (.int .i64 0) := bX1.cell 1
    by_cases q0 : f.length < 0
    · have Ho := Lib.hid (own_out hp (fun h => by omega))
      clear hp
      go_wp2_with fail
      refine bodyPost_ret (results_part rfl _ _ (w.heap.size + 1) rfl (o := none) (bX1.set2 _ _)) rfl ⟨by rw [Ho.out], below_set2 k1 (Nat.le_succ _) _ _⟩
    by_cases q1 : (f.payload.size : Int) < f.length
    · have Ho := Lib.hid (own_out hp (fun h => by omega))
      clear hp
      go_wp2_with fail
      refine bodyPost_ret (results_part rfl _ _ (w.heap.size + 1) rfl (o := none) (bX1.set2 _ _)) rfl ⟨by rw [Ho.out], below_set2 k1 (Nat.le_succ _) _ _⟩
    have Ho := Lib.hid (own_in hp (by omega))
    obtain ⟨n, hn⟩ : ∃ n : Nat, f.length = n := ⟨f.length.toNat, by omega⟩
    rw [hn] at Ho q0 q1
    rw [hn]
    rw [Int.toNat_natCast] at Ho
    have hn1 : n ≤ f.payload.size := by omega
    have hn2 : (n : Int) ≤ (f.payload.size : Int) := by omega
    have hn0 : (0 : Int) ≤ (n : Int) := by omega
    clear hp hn
    generalize f.payload = pl at *
    go_wp2_with fail
    rw [take_str]
    refine bodyPost_ret (results_part rfl _ _ (w.heap.size + 1) rfl (o := some (List.take n pl.data.toList)) (bX1.set2 _ _)) rfl ⟨by rw [Ho.out], below_set2 k1 (Nat.le_succ _) _ _⟩
end Go.Proofs.YtpkapcijgldhhaaGreatDoor

namespace Go.Proofs.YtpkapcijgldhhaaGreatDoor
open Go.RowKit Go.Shelf
theorem fold_skip {F : List Fr} {s i : Int} {k : Nat} {o : Option (List UInt8)} (h : foldS F s i k = some o) (ho : ownR F s k i = none) : foldS F s i (k + 1) = some o := by rw [foldS, h, ho]; rfl
theorem fold_new {F : List Fr} {s i : Int} {k : Nat} {t : List UInt8} (h : foldS F s i k = some none) (ho : ownR F s k i = some t) : foldS F s i (k + 1) = some (some t) := by rw [foldS, h, ho]; rfl
theorem fold_same {F : List Fr} {s i : Int} {k : Nat} {t : List UInt8} (h : foldS F s i k = some (some t)) (ho : ownR F s k i = some t) : foldS F s i (k + 1) = some (some t) := by
  rw [foldS, h, ho]; show (if isB (t = t) then _ else _) = _; rw [isB_yes rfl]; rfl
theorem fold_other {F : List Fr} {s i : Int} {k : Nat} {t c : List UInt8} (h : foldS F s i k = some (some c)) (ho : ownR F s k i = some t) (hn : t ≠ c) : foldS F s i (k + 1) = none := by
  rw [foldS, h, ho]; show (if isB (t = c) then _ else _) = _; rw [isB_no hn]; rfl
theorem Box.cells2 {W : World} {D : Nat} {v0 v1 : Value} {T : TypeId} (h : Box W D [v0, v1] T) : W.cell? ⟨D, 0, none⟩ = some v0 ∧ W.cell? ⟨D, 1, none⟩ = some v1 := ⟨h.cell 0, h.cell 1⟩
theorem Box.froz2 {W : World} {D : Nat} {cs : List Value} {T : TypeId} (h : Box W D cs T) : W.frozen? ⟨D, 0, none⟩ = false ∧ W.frozen? ⟨D, 1, none⟩ = false := ⟨h.frozen 0, h.frozen 1⟩
theorem Box.other2 {W : World} {B E : Nat} {cs : List Value} {T : TypeId} (h : Box W E cs T) (hn : B ≠ E) (u0 u1 : Value) : Box ((W.setCell ⟨B, 0, none⟩ u0).setCell ⟨B, 1, none⟩ u1) E cs T := (h.setOther (j := 0) hn u0).setOther (j := 1) hn u1
set_option maxRecDepth 100000 in
set_option maxHeartbeats 4000000 in
theorem partR_any (ar : Int) (v : Value) (F : List Fr) (s fm i : Int) (w : World) (hr : FrRow w v F) (hF : SmallF F) :
    Calls Tryz.prog 65 #[.agg #[.int .u32 ar, v], .int .i64 s, .int .i64 fm, .int .i64 i] w (PartQ (partR F s fm i) w) := by
  have HO := Lib.hid (show ∀ W, Below w.heap.size w W → ∀ r, Calls Tryz.prog 107 #[.agg #[.int .u32 ar, v], .int .i64 s, .int .i64 r, .int .i64 i] W (PartQ (ownR F s r i) W) from fun W hW r => ownR_any ar v F s r i W (hr.below hW) hF)
  clear hr hF
  obtain ⟨kb0, bC0⟩ := boxr w [.int .u32 ar, v] 25
  obtain ⟨kb1, bX0⟩ := boxr (w.alloc (.cells [.int .u32 ar, v].toArray 25)) (partV none) 75
  replace bC0 := bC0.below kb1
  replace kb0 := step2 kb0 kb1
  clear kb1
  rw [World.size_alloc] at bX0
  go_enter Tryz.func65, Tryz.ntmps65
  go_upto_region 1 with (fail)
  obtain ⟨W0, hW0⟩ : ∃ W0, (w.alloc (.cells [.int .u32 ar, v].toArray 25)).alloc (.cells (partV none).toArray 75) = W0 := ⟨_, rfl⟩
  change Code.wp _ _ _ _ ((w.alloc (.cells [.int .u32 ar, v].toArray 25)).alloc (.cells (partV none).toArray 75))
  rw [hW0] at kb0 bC0 bX0 ⊢
  clear hW0
  obtain ⟨c0, c1⟩ := bC0.cells2
  have HP := Lib.hid (HO.out _ kb0 fm)
  go_wp2_with fail
  refine HP.out.mono ?_
  rintro e w1 ⟨he, hb1⟩
  have k1 := step2 kb0 hb1
  have bX1 := bX0.below hb1
  have bC1 := bC0.below hb1
  clear HP c0 c1
  rcases hp : ownR F s fm i with _ | t
  case some =>
    rw [hp] at he
    obtain rfl := he
    have Ho := Lib.hid (part_own hp)
    obtain ⟨kP, bP⟩ := boxr w1 (partV (some t)) 75
    have k2 := step2 k1 kP
    have bX2 := bX1.below kP
    obtain ⟨W2, hW2⟩ : ∃ W2, w1.alloc (.cells (partV (some t)).toArray 75) = W2 := ⟨_, rfl⟩
    rw [hW2] at kP bP k2 bX2
    clear hp
    dsimp only [partV]
    go_upto_region 2 with (fail)
    change Code.wp _ _ _ _ (w1.alloc (.cells (partV (some t)).toArray 75))
    rw [hW2]
    clear hW2
    obtain ⟨p0, p1⟩ := bP.cells2
    obtain ⟨d0, d1⟩ := bX2.cells2
    obtain ⟨f0, f1⟩ := bX2.froz2
    go_wp2_with fail
    refine bodyPost_ret (results_part rfl _ _ (w.heap.size + 1) rfl (o := some t) (bX2.set2 _ _)) rfl ⟨by rw [Ho.out], below_set2 k2 (Nat.le_succ _) _ _⟩
  rw [hp] at he
  obtain rfl := he
  have Ho := Lib.hid (part_fold hp)
  obtain ⟨kP, bP⟩ := boxr w1 (partV none) 75
  have k2 := step2 k1 kP
  have bX2 := bX1.below kP
  have bC2 := bC1.below kP
  obtain ⟨W2, hW2⟩ : ∃ W2, w1.alloc (.cells (partV none).toArray 75) = W2 := ⟨_, rfl⟩
  rw [hW2] at kP bP k2 bX2 bC2
  clear hp
  dsimp only [partV]
  go_upto_region 2 with (fail)
  change Code.wp _ _ _ _ (w1.alloc (.cells (partV none).toArray 75))
  rw [hW2]
  clear hW2
  obtain ⟨p0, p1⟩ := bP.cells2
  obtain ⟨kG, bG⟩ := boxr W2 (partV none) 75
  have k3 := step2 k2 kG
  have bX3 := bX2.below kG
  have bC3 := bC2.below kG
  have hG : w.heap.size + 2 ≤ W2.heap.size := by have := bX2.lt; have := bP.lt; have := k1.size; have := bX0.lt; omega
  obtain ⟨W3, hW3⟩ : ∃ W3, W2.alloc (.cells (partV none).toArray 75) = W3 := ⟨_, rfl⟩
  rw [hW3] at kG bG k3 bX3 bC3
  go_upto_region 4 with (fail)
  go_upto_region 5 with (fail)
  change Code.wp _ _ _ _ (W2.alloc (.cells (partV none).toArray 75))
  rw [hW3]
  clear hW3 p0 p1 bP bX2 bC2 bX1 bC1 bX0 bC0 kb0 hb1 kP kG k1 k2
  generalize W2.heap.size = G at *
  go_wp2_with fail
  go_loopw [11, 12] (fun x _ wr => ∃ (k : Nat) (c : Option (List UInt8)), k ≤ 15 ∧ x = .int .i64 k ∧ Below w.heap.size w wr ∧ Box wr w.heap.size [.int .u32 ar, v] 25 ∧ Box wr (w.heap.size + 1) (partV none) 75 ∧
    Box wr G (partV c) 75 ∧ Hid (foldS F s i k = some c)) (fun x _ _ => 15 - (intOf x).toNat)
  case atStart => exact ⟨0, none, by omega, rfl, k3, bC3, bX3, bG, rfl⟩
  case round =>
    clear k3 bC3 bX3 bG
    obtain ⟨k, c, hk, rfl, kb, bC, bX, bG, hf⟩ := hrel
    by_cases hlt : k < 15
    · obtain ⟨c0, c1⟩ := bC.cells2
      have HP := Lib.hid (HO.out _ kb k)
      go_wp2_with fail
      refine HP.out.mono ?_
      rintro e w4 ⟨he, hb4⟩
      have k4 := step2 kb hb4
      have bX4 := bX.below hb4
      have bC4 := bC.below hb4
      have bG4 := bG.below hb4
      clear HP c0 c1 kb bX bC bG
      rcases hp : ownR F s k i with _ | t
      · rw [hp] at he
        obtain rfl := he
        have hs := Lib.hid (fold_skip hf.out hp)
        obtain ⟨kP, bP⟩ := boxr w4 (partV none) 75
        have k5 := step2 k4 kP
        have bX5 := bX4.below kP
        have bC5 := bC4.below kP
        have bG5 := bG4.below kP
        obtain ⟨W5, hW5⟩ : ∃ W5, w4.alloc (.cells (partV none).toArray 75) = W5 := ⟨_, rfl⟩
        rw [hW5] at kP bP k5 bX5 bC5 bG5
        clear hp hf
        dsimp only [partV]
        go_upto_region 9 with (fail)
        change Code.wp _ _ _ _ (w4.alloc (.cells (partV none).toArray 75))
        rw [hW5]
        clear hW5 bX4 bC4 bG4 k4 hb4
        obtain ⟨p0, p1⟩ := bP.cells2
        go_wp2_with fail
        go_roundw
        case rel => exact ⟨k + 1, c, by omega, by go_num, k5, bC5, bX5, bG5, hs⟩
        case measure => simp [intOf]; omega
      · rw [hp] at he
        obtain rfl := he
        obtain ⟨kP, bP⟩ := boxr w4 (partV (some t)) 75
        have k5 := step2 k4 kP
        have bX5 := bX4.below kP
        have bC5 := bC4.below kP
        have bG5 := bG4.below kP
        obtain ⟨W5, hW5⟩ : ∃ W5, w4.alloc (.cells (partV (some t)).toArray 75) = W5 := ⟨_, rfl⟩
        rw [hW5] at kP bP k5 bX5 bC5 bG5
        dsimp only [partV]
        go_upto_region 9 with (fail)
        change Code.wp _ _ _ _ (w4.alloc (.cells (partV (some t)).toArray 75))
        rw [hW5]
        clear hW5 bX4 bC4 bG4 k4 hb4
        obtain ⟨p0, p1⟩ := bP.cells2
        obtain ⟨f0, f1⟩ := bG5.froz2
        have kG5 := below_set2 k5 (show w.heap.size ≤ G by omega) (.string (bA' t)) (.int .i64 1)
        have bC6 := bC5.other2 (show G ≠ w.heap.size by omega) (.string (bA' t)) (.int .i64 1)
        have bX6 := bX5.other2 (show G ≠ w.heap.size + 1 by omega) (.string (bA' t)) (.int .i64 1)
        rcases c with _ | c
        · have hs := Lib.hid (fold_new hf.out hp)
          obtain ⟨r0, r1⟩ := bG5.cells2
          have bG6 : Box ((W5.setCell ⟨G, 0, none⟩ (.string (bA' t))).setCell ⟨G, 1, none⟩ (.int .i64 1)) G (partV (some t)) 75 := bG5.set2 (.string (bA' t)) (.int .i64 1)
          clear hf hp
          go_wp2_with fail
          go_roundw
          case rel => exact ⟨k + 1, some t, by omega, by go_num, kG5, bC6, bX6, bG6, hs⟩
          case measure => simp [intOf]; omega
        · obtain ⟨r0, r1⟩ := bG5.cells2
          by_cases hq : t = c
          · subst hq
            have hs := Lib.hid (fold_same hf.out hp)
            have bG6 : Box ((W5.setCell ⟨G, 0, none⟩ (.string (bA' t))).setCell ⟨G, 1, none⟩ (.int .i64 1)) G (partV (some t)) 75 := bG5.set2 (.string (bA' t)) (.int .i64 1)
            clear hf hp
            go_wp2_with fail
            go_roundw
            case rel => exact ⟨k + 1, some t, by omega, by go_num, kG5, bC6, bX6, bG6, hs⟩
            case measure => simp [intOf]; omega
          · have hs := Lib.hid (fold_clash (fold_other hf.out hp hq) (show k + 1 ≤ 15 by omega))
            have y : ((bA' c).toList == (bA' t).toList) = false := by rw [str_eq]; exact decide_eq_false (fun h => hq h.symm)
            have hz : Hid (partR F s fm i = none) := by rw [Hid, Ho.out, hs.out]
            obtain ⟨d0, d1⟩ := bX5.cells2
            obtain ⟨g0, g1⟩ := bX5.froz2
            clear hf hp hq hs
            go_wp2_with fail
            refine bodyPost_ret (results_part rfl _ _ (w.heap.size + 1) rfl (o := none) (bX5.set2 _ _)) rfl ⟨by rw [hz.out], below_set2 k5 (Nat.le_succ _) _ _⟩
    · obtain rfl : k = 15 := by omega
      have hz : Hid (partR F s fm i = c) := by rw [Hid, Ho.out, hf.out]
      obtain ⟨d0, d1⟩ := bX.cells2
      obtain ⟨g0, g1⟩ := bX.froz2
      clear hf
      rcases c with _ | c
      · obtain ⟨r0, r1⟩ := bG.cells2
        go_wp2_with fail
        refine bodyPost_ret (results_part rfl _ _ (w.heap.size + 1) rfl (o := none) (bX.set2 _ _)) rfl ⟨by rw [hz.out], below_set2 kb (Nat.le_succ _) _ _⟩
      · obtain ⟨r0, r1⟩ := bG.cells2
        go_wp2_with fail
        refine bodyPost_ret (results_part rfl _ _ (w.heap.size + 1) rfl (o := some c) (bX.set2 _ _)) rfl ⟨by rw [hz.out], below_set2 kb (Nat.le_succ _) _ _⟩
end Go.Proofs.YtpkapcijgldhhaaGreatDoor
