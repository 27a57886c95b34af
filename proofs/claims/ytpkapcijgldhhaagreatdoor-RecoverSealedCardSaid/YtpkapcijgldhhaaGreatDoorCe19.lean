/-
  Recovery of directories from frames: the plain law.
  Frames in memory; the frame at a position, in the program and in the reference.
-/
import Derived.Test.YtpkapcijgldhhaaGreatDoorCe14
import Derived.Test.YtpkapcijgldhhaaGreatDoorCe07
import Derived.Test.YtpkapcijgldhhaaGreatDoorCe18
import Derived.Test.YtpkapcijgldhhaaGreatDoorCe06
import Derived.Deep.Cut
import Derived.Deep.CutRange
import Derived.Deep.CutBlock
import Derived.Deep.QuietTactic
import Derived.BigQuiet
namespace Go.Proofs.YtpkapcijgldhhaaGreatDoor
/-- a frame -/
structure Fr where
  kind : Int
  reel : Int
  session : Int
  index : Int
  length : Int
  data : Int
  spare : Int
  archive : Int
  payload : ByteArray
def fr0 : Fr := ⟨0, 0, 0, 0, 0, 0, 0, 0, ⟨#[]⟩⟩
def frAt (F : List Fr) (i : Nat) : Fr := F.getD i fr0
theorem frAt_get {F : List Fr} {i : Nat} (h : i < F.length) : frAt F i = F[i] := by
  unfold frAt; rw [List.getD_eq_getElem?_getD, List.getElem?_eq_getElem h]; rfl
def fits (k s r i : Int) (f : Fr) : Prop := f.kind = k ∧ f.session = s ∧ f.reel = r ∧ f.index = i
/-- the frame at a position, or the error -/
noncomputable def payR (k s r i : Int) : Option Fr → List Fr → Except Int Fr
  | none, [] => .error 19
  | some f, [] => .ok f
  | none, f :: L => if isB (fits k s r i f) then payR k s r i (some f) L else payR k s r i none L
  | some g, f :: L => if isB (fits k s r i f) then (if isB (g = f) then payR k s r i (some f) L else .error 20) else payR k s r i (some g) L
theorem drop_at {F : List Fr} {j : Nat} (h : j < F.length) : F.drop j = frAt F j :: F.drop (j + 1) := by
  rw [frAt_get h]; exact List.drop_eq_getElem_cons h
theorem pay_end (k s r i : Int) (st : Option Fr) (F : List Fr) : payR k s r i st (F.drop F.length) = match st with | none => .error 19 | some f => .ok f := by
  rw [List.drop_length]; cases st <;> rfl
theorem pay_skip {k s r i : Int} {F : List Fr} {j : Nat} (h : j < F.length) (hn : ¬ fits k s r i (frAt F j)) (st : Option Fr) : payR k s r i st (F.drop j) = payR k s r i st (F.drop (j + 1)) := by
  rw [drop_at h]
  cases st <;> (rw [payR, isB_no hn]; rfl)
theorem pay_first {k s r i : Int} {F : List Fr} {j : Nat} (h : j < F.length) (hn : fits k s r i (frAt F j)) : payR k s r i none (F.drop j) = payR k s r i (some (frAt F j)) (F.drop (j + 1)) := by
  rw [drop_at h, payR, isB_yes hn]; rfl
theorem pay_again {k s r i : Int} {F : List Fr} {j : Nat} (h : j < F.length) (hn : fits k s r i (frAt F j)) {g : Fr} (hg : g = frAt F j) : payR k s r i (some g) (F.drop j) = payR k s r i (some (frAt F j)) (F.drop (j + 1)) := by
  rw [drop_at h, payR, isB_yes hn, isB_yes hg]; rfl
theorem pay_clash {k s r i : Int} {F : List Fr} {j : Nat} (h : j < F.length) (hn : fits k s r i (frAt F j)) {g : Fr} (hg : g ≠ frAt F j) : payR k s r i (some g) (F.drop j) = .error 20 := by
  rw [drop_at h, payR, isB_yes hn, isB_no hg]; rfl
theorem pay_mem {k s r i : Int} : ∀ (L : List Fr) (st : Option Fr) (f : Fr), payR k s r i st L = .ok f → (f ∈ L ∧ fits k s r i f) ∨ st = some f
  | [], none, f, h => by cases h
  | [], some g, f, h => by injection h with h; rw [h]; exact .inr rfl
  | g :: L, none, f, h => by
    rw [payR] at h
    by_cases hf : fits k s r i g
    · rw [isB_yes hf, if_pos rfl] at h
      rcases pay_mem L _ f h with ⟨h1, h2⟩ | h1
      · exact .inl ⟨List.mem_cons_of_mem _ h1, h2⟩
      · cases h1; exact .inl ⟨List.mem_cons_self, hf⟩
    · rw [isB_no hf, if_neg (by decide)] at h
      rcases pay_mem L _ f h with ⟨h1, h2⟩ | h1
      · exact .inl ⟨List.mem_cons_of_mem _ h1, h2⟩
      · cases h1
  | g :: L, some a, f, h => by
    rw [payR] at h
    by_cases hf : fits k s r i g
    · rw [isB_yes hf, if_pos rfl] at h
      by_cases hg : a = g
      · rw [isB_yes hg, if_pos rfl] at h
        rcases pay_mem L _ f h with ⟨h1, h2⟩ | h1
        · exact .inl ⟨List.mem_cons_of_mem _ h1, h2⟩
        · cases h1; exact .inl ⟨List.mem_cons_self, hf⟩
      · rw [isB_no hg, if_neg (by decide)] at h; cases h
    · rw [isB_no hf, if_neg (by decide)] at h
      rcases pay_mem L _ f h with ⟨h1, h2⟩ | h1
      · exact .inl ⟨List.mem_cons_of_mem _ h1, h2⟩
      · exact .inr h1
theorem pay_none {k s r i : Int} {F : List Fr} {f : Fr} (h : payR k s r i none F = .ok f) : f ∈ F ∧ fits k s r i f := by
  rcases pay_mem F none f h with h | h
  · exact h
  · cases h
/-- the part of a directory at a position -/
noncomputable def ownR (F : List Fr) (s r i : Int) : Option (List UInt8) :=
  match payR 68 s r i none F with
  | .error _ => none
  | .ok f => if 0 ≤ f.length ∧ f.length ≤ f.payload.size then some (f.payload.data.toList.take f.length.toNat) else none
theorem own_err {F : List Fr} {s r i x : Int} (h : payR 68 s r i none F = .error x) : ownR F s r i = none := by unfold ownR; rw [h]
theorem own_out {F : List Fr} {s r i : Int} {f : Fr} (h : payR 68 s r i none F = .ok f) (hn : ¬ (0 ≤ f.length ∧ f.length ≤ f.payload.size)) : ownR F s r i = none := by unfold ownR; rw [h]; exact if_neg hn
theorem own_in {F : List Fr} {s r i : Int} {f : Fr} (h : payR 68 s r i none F = .ok f) (hn : 0 ≤ f.length ∧ f.length ≤ f.payload.size) : ownR F s r i = some (f.payload.data.toList.take f.length.toNat) := by unfold ownR; rw [h]; exact if_pos hn
theorem own_mem {F : List Fr} {s r i : Int} {t : List UInt8} (h : ownR F s r i = some t) : ∃ f ∈ F, f.index = i ∧ t.length ≤ f.payload.size := by
  unfold ownR at h
  rcases hp : payR 68 s r i none F with x | f
  · rw [hp] at h; cases h
  · rw [hp] at h
    obtain ⟨h1, h2⟩ := pay_none hp
    refine ⟨f, h1, h2.2.2.2, ?_⟩
    simp only at h
    split at h
    · cases h
      rw [List.length_take]
      exact Nat.min_le_right _ _
    · cases h
/-- none: two reels contradict each other; some none: nothing found yet -/
noncomputable def stp (st : Option (Option (List UInt8))) : Option (List UInt8) → Option (Option (List UInt8))
  | none => st
  | some t => match st with
    | none => none
    | some none => some (some t)
    | some (some c) => if isB (t = c) then some (some t) else none
noncomputable def foldS (F : List Fr) (s i : Int) : Nat → Option (Option (List UInt8))
  | 0 => some none
  | k + 1 => stp (foldS F s i k) (ownR F s k i)
noncomputable def partR (F : List Fr) (s fm i : Int) : Option (List UInt8) :=
  match ownR F s fm i with
  | some t => some t
  | none => match foldS F s i 15 with
    | none => none
    | some o => o
theorem part_own {F : List Fr} {s fm i : Int} {t : List UInt8} (h : ownR F s fm i = some t) : partR F s fm i = some t := by unfold partR; rw [h]
theorem part_fold {F : List Fr} {s fm i : Int} (h : ownR F s fm i = none) : partR F s fm i = match foldS F s i 15 with | none => none | some o => o := by unfold partR; rw [h]
theorem fold_mem {F : List Fr} {s i : Int} : ∀ (k : Nat) (t : List UInt8), foldS F s i k = some (some t) → ∃ f ∈ F, f.index = i ∧ t.length ≤ f.payload.size
  | 0, t, h => by cases h
  | k + 1, t, h => by
    rw [foldS] at h
    rcases ho : ownR F s k i with _ | u
    · rw [ho] at h; exact fold_mem k t h
    · rw [ho] at h
      rcases hf : foldS F s i k with _ | _ | c
      · rw [hf] at h; cases h
      · rw [hf] at h
        injection h with h; injection h with h; subst h
        exact own_mem ho
      · rw [hf] at h
        have h : (if isB (u = c) then some (some u) else none) = some (some t) := h
        split at h
        · injection h with h; injection h with h; subst h
          exact own_mem ho
        · cases h
theorem part_mem {F : List Fr} {s fm i : Int} {t : List UInt8} (h : partR F s fm i = some t) : ∃ f ∈ F, f.index = i ∧ t.length ≤ f.payload.size := by
  unfold partR at h
  rcases ho : ownR F s fm i with _ | u
  · rw [ho] at h
    rcases hf : foldS F s i 15 with _ | o
    · rw [hf] at h; cases h
    · rw [hf] at h
      have h : o = some t := h
      subst h; exact fold_mem 15 t hf
  · rw [ho] at h
    injection h with h; subst h; exact own_mem ho
noncomputable def partsR (F : List Fr) (s fm : Int) : Nat → Option (List UInt8)
  | 0 => some []
  | k + 1 => match partsR F s fm k, partR F s fm k with
    | some a, some t => some (a ++ t)
    | _, _ => none
theorem parts_next {F : List Fr} {s fm : Int} {k : Nat} {a t : List UInt8} (h : partsR F s fm k = some a) (ht : partR F s fm k = some t) : partsR F s fm (k + 1) = some (a ++ t) := by rw [partsR, h, ht]
theorem parts_stop {F : List Fr} {s fm : Int} {k : Nat} (h : partR F s fm k = none) : ∀ m, k < m → partsR F s fm m = none
  | 0, hm => absurd hm (Nat.not_lt_zero _)
  | m + 1, hm => by
    rw [partsR]
    by_cases e : k = m
    · subst e
      rw [h]
      cases partsR F s fm k <;> rfl
    · rw [parts_stop h m (by omega)]
theorem cover_le : ∀ (k : Nat) (L : List Fr), (∀ i, i < k → ∃ f ∈ L, f.index = (i : Int)) → k ≤ L.length
  | 0, _, _ => Nat.zero_le _
  | k + 1, L, h => by
    have ih := cover_le k (L.filter fun f => f.index != (k : Int)) fun i hi => by
      obtain ⟨f, hf, he⟩ := h i (by omega)
      refine ⟨f, List.mem_filter.2 ⟨hf, ?_⟩, he⟩
      rw [bne_iff_ne, he]; omega
    obtain ⟨g, hg, he⟩ := h k (by omega)
    have : (L.filter fun f => f.index != (k : Int)).length < L.length := by
      rw [List.length_filter_lt_length_iff_exists]
      refine ⟨g, hg, ?_⟩
      rw [he]; simp
    omega
theorem parts_cover {F : List Fr} {s fm : Int} : ∀ (k : Nat) (a : List UInt8), partsR F s fm k = some a → ∀ i, i < k → ∃ f ∈ F, f.index = (i : Int)
  | 0, _, _, i, hi => absurd hi (Nat.not_lt_zero _)
  | k + 1, a, h, i, hi => by
    rw [partsR] at h
    rcases hp : partsR F s fm k with _ | b
    · rw [hp] at h; cases h
    · rcases ht : partR F s fm k with _ | t
      · rw [hp, ht] at h; cases h
      · by_cases e : i = k
        · subst e
          obtain ⟨f, h1, h2, _⟩ := part_mem ht
          exact ⟨f, h1, h2⟩
        · exact parts_cover k b hp i (by omega)
theorem parts_le {F : List Fr} {s fm : Int} {M : Nat} (hF : ∀ f ∈ F, f.payload.size ≤ M) : ∀ (k : Nat) (a : List UInt8), partsR F s fm k = some a → a.length ≤ k * M
  | 0, a, h => by cases h; exact Nat.zero_le _
  | k + 1, a, h => by
    rw [partsR] at h
    rcases hp : partsR F s fm k with _ | b
    · rw [hp] at h; cases h
    · rcases ht : partR F s fm k with _ | t
      · rw [hp, ht] at h; cases h
      · rw [hp, ht] at h
        injection h with h; subst h
        have h1 := parts_le hF k b hp
        obtain ⟨f, h2, _, h3⟩ := part_mem ht
        have h4 := hF f h2
        rw [List.length_append, Nat.succ_mul]; omega
/-- at most 1000 frames with payloads of at most 100 bytes -/
def SmallF (F : List Fr) : Prop := F.length ≤ 1000 ∧ ∀ f ∈ F, f.payload.size ≤ 100
theorem parts_bd {F : List Fr} {s fm : Int} (hF : SmallF F) {k : Nat} {a : List UInt8} (h : partsR F s fm k = some a) : k ≤ 1000 ∧ a.length ≤ 100000 := by
  have h1 := cover_le k F (parts_cover k a h)
  have h2 := parts_le hF.2 k a h
  have := hF.1
  omega
noncomputable def textR (F : List Fr) (s fm : Int) : Option (List UInt8) :=
  match partR F s fm 0 with
  | none => none
  | some f => match lenR f with
    | .error _ => none
    | .ok n => match partsR F s fm ((n.toNat + 27) / 28) with
      | none => none
      | some a => if (a.length : Int) = n then some a else none
theorem text_none {F : List Fr} {s fm : Int} (h : partR F s fm 0 = none) : textR F s fm = none := by unfold textR; rw [h]
theorem text_len {F : List Fr} {s fm x : Int} {f : List UInt8} (h : partR F s fm 0 = some f) (hl : lenR f = .error x) : textR F s fm = none := by unfold textR; rw [h]; simp only; rw [hl]
theorem text_miss {F : List Fr} {s fm n : Int} {f : List UInt8} {k : Nat} (h : partR F s fm 0 = some f) (hl : lenR f = .ok n) (hk : 28 * (k : Int) < n) (hp : partR F s fm k = none) : textR F s fm = none := by
  unfold textR; rw [h]; simp only; rw [hl]; simp only
  rw [parts_stop hp ((n.toNat + 27) / 28) (by omega)]
theorem text_end {F : List Fr} {s fm n : Int} {f a : List UInt8} {k : Nat} (h : partR F s fm 0 = some f) (hl : lenR f = .ok n) (hk : ¬ 28 * (k : Int) < n) (hk2 : 28 * (k : Int) < n + 28) (h0 : 0 ≤ n) (hp : partsR F s fm k = some a) :
    textR F s fm = if (a.length : Int) = n then some a else none := by
  unfold textR; rw [h]; simp only; rw [hl]; simp only
  rw [show (n.toNat + 27) / 28 = k from by omega, hp]
theorem text_bd {F : List Fr} {s fm : Int} (hF : SmallF F) {t : List UInt8} (h : textR F s fm = some t) : t.length ≤ 100000 := by
  unfold textR at h
  rcases h1 : partR F s fm 0 with _ | f
  · rw [h1] at h; cases h
  · rw [h1] at h; simp only at h
    rcases h2 : lenR f with x | n
    · rw [h2] at h; cases h
    · rw [h2] at h; simp only at h
      rcases h3 : partsR F s fm ((n.toNat + 27) / 28) with _ | a
      · rw [h3] at h; cases h
      · rw [h3] at h; simp only at h
        split at h
        · cases h; exact (parts_bd hF h3).2
        · cases h
/-- what a seal signs -/
def sealed (l : List UInt8) (x : De) : List UInt8 := (l.take (l.length - (strL x.sl).length)).drop 8
/-- a directory text is accepted -/
def AccR (l : List UInt8) (s : Int) (root : List UInt8) : Prop := ∃ x, dirR l = .ok x ∧ x.number = s ∧ (root = [] ∨ (verifyL root (sumB (sealed l x)) x.sl).2 = 0)
theorem acc_err {l root : List UInt8} {s e : Int} (h : dirR l = .error e) : isB (AccR l s root) = false := isB_no fun ⟨x, h1, _⟩ => by rw [h] at h1; cases h1
theorem acc_num {l root : List UInt8} {s : Int} {x : De} (h : dirR l = .ok x) (hn : x.number ≠ s) : isB (AccR l s root) = false := isB_no fun ⟨y, h1, h2, _⟩ => by rw [h] at h1; cases h1; exact hn h2
theorem acc_plain {l : List UInt8} {s : Int} {x : De} (h : dirR l = .ok x) (hn : x.number = s) : isB (AccR l s []) = true := isB_yes ⟨x, h, hn, .inl rfl⟩
theorem acc_root {l root : List UInt8} {s : Int} {x : De} (h : dirR l = .ok x) (hn : x.number = s) (hr : root ≠ []) : isB (AccR l s root) = isB ((verifyL root (sumB (sealed l x)) x.sl).2 = 0) :=
  isB_iff ⟨fun ⟨y, h1, _, h3⟩ => by rw [h] at h1; cases h1; exact h3.resolve_left hr, fun h1 => ⟨x, h, hn, .inr h1⟩⟩
theorem sealed_bd {l : List UInt8} {x : De} (h : dirR l = .ok x) : 8 + (strL x.sl).length ≤ l.length := by
  obtain ⟨h1, h2, _⟩ := dirR_ok.1 h
  rw [h2, withLen, List.length_append, dg_length, bodyD, List.length_append]; omega
/-- the first accepted text of the reels r, r + 1 .. -/
noncomputable def goD (F : List Fr) (s : Int) (root : List UInt8) : Nat → Option (List UInt8)
  | 0 => none
  | k + 1 => match textR F s ((15 - (k + 1) : Nat) : Int) with
    | none => goD F s root k
    | some t => if isB (AccR t s root) then some t else goD F s root k
theorem goD_no {F : List Fr} {s : Int} {root : List UInt8} {r : Nat} (hr : r < 15) (h : textR F s (r : Int) = none) : goD F s root (15 - r) = goD F s root (15 - (r + 1)) := by
  rw [show 15 - r = (15 - (r + 1)) + 1 from by omega, goD, show 15 - (15 - (r + 1) + 1) = r from by omega, h]
theorem goD_not {F : List Fr} {s : Int} {root t : List UInt8} {r : Nat} (hr : r < 15) (h : textR F s (r : Int) = some t) (ha : isB (AccR t s root) = false) : goD F s root (15 - r) = goD F s root (15 - (r + 1)) := by
  rw [show 15 - r = (15 - (r + 1)) + 1 from by omega, goD, show 15 - (15 - (r + 1) + 1) = r from by omega, h]
  simp only [ha]; rfl
theorem goD_yes {F : List Fr} {s : Int} {root t : List UInt8} {r : Nat} (hr : r < 15) (h : textR F s (r : Int) = some t) (ha : isB (AccR t s root) = true) : goD F s root (15 - r) = some t := by
  rw [show 15 - r = (15 - (r + 1)) + 1 from by omega, goD, show 15 - (15 - (r + 1) + 1) = r from by omega, h]
  simp only [ha]; rfl
end Go.Proofs.YtpkapcijgldhhaaGreatDoor

namespace Go.Proofs.YtpkapcijgldhhaaGreatDoor
open Go.RowKit Go.Shelf
def Fr.vals (f : Fr) : List Value := [.int .i64 f.kind, .int .i64 f.reel, .int .i64 f.session, .int .i64 f.index, .int .i64 f.length, .int .i64 f.data, .int .i64 f.spare, .int .u32 f.archive, .string f.payload]
def FrAt (w : World) (b o : Nat) (F : List Fr) : Prop := GAt 9 Fr.vals fr0 w b o F
def FrRow (w : World) (v : Value) (F : List Fr) : Prop := GRow 9 Fr.vals fr0 w v F
theorem frCells {w : World} {b o : Nat} {F : List Fr} (h : FrAt w b o F) {i : Nat} (hi : i < F.length) :
    w.cell? ⟨b, o + i * 9, none⟩ = some (.int .i64 (frAt F i).kind) ∧ w.cell? ⟨b, o + i * 9 + 1, none⟩ = some (.int .i64 (frAt F i).reel) ∧ w.cell? ⟨b, o + i * 9 + 2, none⟩ = some (.int .i64 (frAt F i).session) ∧
    w.cell? ⟨b, o + i * 9 + 3, none⟩ = some (.int .i64 (frAt F i).index) ∧ w.cell? ⟨b, o + i * 9 + 4, none⟩ = some (.int .i64 (frAt F i).length) ∧ w.cell? ⟨b, o + i * 9 + 5, none⟩ = some (.int .i64 (frAt F i).data) ∧
    w.cell? ⟨b, o + i * 9 + 6, none⟩ = some (.int .i64 (frAt F i).spare) ∧ w.cell? ⟨b, o + i * 9 + 7, none⟩ = some (.int .u32 (frAt F i).archive) ∧ w.cell? ⟨b, o + i * 9 + 8, none⟩ = some (.string (frAt F i).payload) :=
  ⟨h i hi 0 _ rfl, h i hi 1 _ rfl, h i hi 2 _ rfl, h i hi 3 _ rfl, h i hi 4 _ rfl, h i hi 5 _ rfl, h i hi 6 _ rfl, h i hi 7 _ rfl, h i hi 8 _ rfl⟩
/-- what is returned of a position -/
def PayQ (r : Except Int Fr) (w : World) (e : Ending) (w' : World) : Prop :=
  (match r with
    | .ok f => e = .returned (.tuple #[.string f.payload, .int .i64 f.length, .int .i64 0])
    | .error x => e = .returned (.tuple #[.string ⟨#[]⟩, .int .i64 0, .int .i64 x])) ∧ Below w.heap.size w w'
theorem boxr (w : World) (c1 : List Value) (T1 : TypeId) : Below w.heap.size w (w.alloc (.cells c1.toArray T1)) ∧ Box (w.alloc (.cells c1.toArray T1)) w.heap.size c1 T1 :=
  ⟨(below_refl w).alloc (Nat.le_refl _) _, Box.new w c1 T1⟩
theorem fr_ext {x y : Fr} (h0 : x.kind = y.kind) (h1 : x.reel = y.reel) (h2 : x.session = y.session) (h3 : x.index = y.index) (h4 : x.length = y.length) (h5 : x.data = y.data) (h6 : x.spare = y.spare) (h7 : x.archive = y.archive) (h8 : x.payload = y.payload) : x = y := by
  cases x; cases y; simp_all
theorem str_inj {s t : ByteArray} (h : s.data.toList = t.data.toList) : s = t := by
  cases s with | mk a => cases t with | mk b => cases a; cases b; simp at h; subst h; rfl
theorem fr_ne {x y : Fr} (h : ¬ x = y) : x.kind ≠ y.kind ∨ x.reel ≠ y.reel ∨ x.session ≠ y.session ∨ x.index ≠ y.index ∨ x.length ≠ y.length ∨ x.data ≠ y.data ∨ x.spare ≠ y.spare ∨ x.archive ≠ y.archive ∨ x.payload ≠ y.payload := by
  by_cases h0 : x.kind = y.kind
  case neg => exact .inl h0
  by_cases h1 : x.reel = y.reel
  case neg => exact .inr (.inl h1)
  by_cases h2 : x.session = y.session
  case neg => exact .inr (.inr (.inl h2))
  by_cases h3 : x.index = y.index
  case neg => exact .inr (.inr (.inr (.inl h3)))
  by_cases h4 : x.length = y.length
  case neg => exact .inr (.inr (.inr (.inr (.inl h4))))
  by_cases h5 : x.data = y.data
  case neg => exact .inr (.inr (.inr (.inr (.inr (.inl h5)))))
  by_cases h6 : x.spare = y.spare
  case neg => exact .inr (.inr (.inr (.inr (.inr (.inr (.inl h6))))))
  by_cases h7 : x.archive = y.archive
  case neg => exact .inr (.inr (.inr (.inr (.inr (.inr (.inr (.inl h7)))))))
  by_cases h8 : x.payload = y.payload
  case neg => exact .inr (.inr (.inr (.inr (.inr (.inr (.inr (.inr h8)))))))
  exact absurd (fr_ext h0 h1 h2 h3 h4 h5 h6 h7 h8) h
theorem pay_on {kd se re ix : Int} {F : List Fr} {k b o : Nat} {p : Value} {R : Except Int Fr} (hlt : k < F.length) (hn : ¬ fits kd se re ix (frAt F k))
    (hp : (p = .pointer none ∧ Hid (payR kd se re ix none (F.drop k) = R)) ∨ ∃ j, j < F.length ∧ p = .pointer (some ⟨b, o + j * 9, none⟩) ∧ Hid (payR kd se re ix (some (frAt F j)) (F.drop k) = R)) :
    (p = .pointer none ∧ Hid (payR kd se re ix none (F.drop (k + 1)) = R)) ∨ ∃ j, j < F.length ∧ p = .pointer (some ⟨b, o + j * 9, none⟩) ∧ Hid (payR kd se re ix (some (frAt F j)) (F.drop (k + 1)) = R) := by
  rcases hp with ⟨h1, h2⟩ | ⟨j, h1, h2, h3⟩
  · exact .inl ⟨h1, by rw [Hid, ← pay_skip hlt hn]; exact h2.out⟩
  · exact .inr ⟨j, h1, h2, by rw [Hid, ← pay_skip hlt hn]; exact h3.out⟩
set_option maxRecDepth 100000 in
set_option maxHeartbeats 4000000 in
theorem payload1 (ar : Int) (b o cap : Nat) (F : List Fr) (kd se re ix : Int) (w : World) (h0 : 0 < F.length) (hmax : F.length ≤ maxLen) (hb : b < w.heap.size) (hF : FrAt w b o F) :
    Calls Tryz.prog 70 #[.agg #[.int .u32 ar, .slice (some ⟨b, o, none⟩) F.length cap], .int .i64 kd, .int .i64 se, .int .i64 re, .int .i64 ix] w (PayQ (payR kd se re ix none F) w) := by
  unfold maxLen at hmax
  have HC := Lib.hid (show ∀ W : World, Below w.heap.size w W → ∀ k, k < F.length → _ from fun W hW k hk => frCells (hF.below hW hb) (i := k) hk)
  obtain ⟨kb0, bC0⟩ := boxr w [.int .u32 ar, .slice (some ⟨b, o, none⟩) F.length cap] 25
  change Below _ _ (w.alloc (.cells #[.int .u32 ar, .slice (some ⟨b, o, none⟩) F.length cap] 25)) at kb0
  change Box (w.alloc (.cells #[.int .u32 ar, .slice (some ⟨b, o, none⟩) F.length cap] 25)) _ _ _ at bC0
  obtain ⟨R, hR⟩ : ∃ R, payR kd se re ix none F = R := ⟨_, rfl⟩
  rw [hR]
  have HR0 := Lib.hid (show payR kd se re ix none (F.drop 0) = R from hR)
  clear hR hF
  go_enter Tryz.func70, Tryz.ntmps70
  go_upto_region 1 with (fail)
  obtain ⟨W0, hW0⟩ : ∃ W0, w.alloc (.cells #[.int .u32 ar, .slice (some ⟨b, o, none⟩) F.length cap] 25) = W0 := ⟨_, rfl⟩
  change Code.wp _ _ _ _ (w.alloc (.cells #[.int .u32 ar, .slice (some ⟨b, o, none⟩) F.length cap] 25))
  rw [hW0] at kb0 bC0 ⊢
  clear hW0
  have HB := Lib.hid (show ∀ W : World, Below W0.heap.size W0 W → Box W w.heap.size [.int .u32 ar, .slice (some ⟨b, o, none⟩) F.length cap] 25 from fun W hW => bC0.below hW)
  have KB := Lib.hid (show ∀ W : World, Below W0.heap.size W0 W → Below w.heap.size w W from fun W hW => step2 kb0 hW)
  have c1 := bC0.cell 1
  have c0 := bC0.cell 0
  clear kb0 bC0
  go_wp2_with fail
  go_loopw [13, 14, 15, 19] (fun p _ _ i wr => ∃ k : Nat, k ≤ F.length ∧ i = .int .i64 k ∧ Below W0.heap.size W0 wr ∧ ((p = .pointer none ∧ Hid (payR kd se re ix none (F.drop k) = R)) ∨ ∃ j, j < F.length ∧ p = .pointer (some ⟨b, o + j * 9, none⟩) ∧ Hid (payR kd se re ix (some (frAt F j)) (F.drop k) = R))) (fun _ _ _ i _ => F.length - (intOf i).toNat)
  case atStart => exact ⟨0, by omega, rfl, below_refl _, .inl ⟨rfl, HR0⟩⟩
  case round =>
    clear c0 c1 HR0
    obtain ⟨k, hk, rfl, kb, hp⟩ := hrel
    have c1 : wr.cell? ⟨w.heap.size, 1, none⟩ = some (.slice (some ⟨b, o, none⟩) F.length cap) := (HB.out _ kb).cell 1
    by_cases hlt : k < F.length
    · obtain ⟨q0, q1, q2, q3, q4, q5, q6, q7, q8⟩ := HC.out _ (KB.out _ kb) k hlt
      have hix : (0 : Int) ≤ (k : Int) ∧ (k : Int) < (F.length : Int) := by omega
      have hskip := fun hn => pay_on hlt hn hp
      by_cases e0 : (frAt F k).kind = kd
      case neg =>
        have x0 : ((frAt F k).kind != kd) = true := bne_iff_ne.2 e0
        have hs := Lib.hid (hskip (fun h => e0 h.1))
        clear hp hskip e0
        go_wp2_with fail
        go_roundw
        case rel => exact ⟨k + 1, by omega, by go_num, kb, hs.out⟩
        case measure => simp [intOf]; omega
      have x0 : ((frAt F k).kind != kd) = false := by rw [e0]; simp
      by_cases e1 : (frAt F k).session = se
      case neg =>
        have x1 : ((frAt F k).session != se) = true := bne_iff_ne.2 e1
        have hs := Lib.hid (hskip (fun h => e1 h.2.1))
        clear hp hskip e1 e0
        go_wp2_with fail
        go_roundw
        case rel => exact ⟨k + 1, by omega, by go_num, kb, hs.out⟩
        case measure => simp [intOf]; omega
      have x1 : ((frAt F k).session != se) = false := by rw [e1]; simp
      by_cases e2 : (frAt F k).reel = re
      case neg =>
        have x2 : ((frAt F k).reel != re) = true := bne_iff_ne.2 e2
        have hs := Lib.hid (hskip (fun h => e2 h.2.2.1))
        clear hp hskip e1 e0 e2
        go_wp2_with fail
        go_roundw
        case rel => exact ⟨k + 1, by omega, by go_num, kb, hs.out⟩
        case measure => simp [intOf]; omega
      have x2 : ((frAt F k).reel != re) = false := by rw [e2]; simp
      by_cases e3 : (frAt F k).index = ix
      case neg =>
        have x3 : ((frAt F k).index != ix) = true := bne_iff_ne.2 e3
        have hs := Lib.hid (hskip (fun h => e3 h.2.2.2))
        clear hp hskip e1 e0 e2 e3
        go_wp2_with fail
        go_roundw
        case rel => exact ⟨k + 1, by omega, by go_num, kb, hs.out⟩
        case measure => simp [intOf]; omega
      have x3 : ((frAt F k).index != ix) = false := by rw [e3]; simp
      have hfit : Hid (fits kd se re ix (frAt F k)) := ⟨e0, e1, e2, e3⟩
      clear hskip e0 e1 e2 e3
      rcases hp with ⟨rfl, h2⟩ | ⟨j, hj, rfl, h3⟩
      · have hs : Hid (payR kd se re ix (some (frAt F k)) (F.drop (k + 1)) = R) := by rw [Hid, ← pay_first hlt hfit.out]; exact h2.out
        clear h2 hfit
        go_upto_region 7 with (fail)
        go_quiet (fail)
        go_wp2_with fail
        go_roundw
        case rel => exact ⟨k + 1, by omega, by go_num, below_drewN kb _, .inr ⟨k, hlt, rfl, hs⟩⟩
        case measure => simp [intOf]; omega
      · obtain ⟨r0, r1, r2, r3, r4, r5, r6, r7, r8⟩ := HC.out _ (KB.out _ kb) j hj
        by_cases hg : frAt F j = frAt F k
        · have hs : Hid (payR kd se re ix (some (frAt F k)) (F.drop (k + 1)) = R) := by rw [Hid, ← pay_again hlt hfit.out hg]; exact h3.out
          clear h3 hfit
          rw [hg] at r0 r1 r2 r3 r4 r5 r6 r7 r8
          clear hg
          go_upto_region 7 with (fail)
          go_quiet (fail)
          go_wp2_with fail
          go_roundw
          case rel => exact ⟨k + 1, by omega, by go_num, below_drewN kb _, .inr ⟨k, hlt, rfl, hs⟩⟩
          case measure => simp [intOf]; omega
        · have hs : Hid (R = .error 20) := by rw [Hid, ← h3.out]; exact pay_clash hlt hfit.out hg
          clear h3 hfit
          rcases fr_ne hg with hne | hne | hne | hne | hne | hne | hne | hne | hne
          · have y0 : ((frAt F j).kind == (frAt F k).kind) = false := by rw [beq_eq_false_iff_ne]; exact hne
            clear hne
            go_upto_region 7 with (fail)
            go_quiet (fail)
            go_wp2_with fail
            go_ret3
            rw [hs.out]
            exact ⟨rfl, KB.out _ (below_drewN kb _)⟩
          · have y1 : ((frAt F j).reel == (frAt F k).reel) = false := by rw [beq_eq_false_iff_ne]; exact hne
            clear hne
            go_upto_region 7 with (fail)
            go_quiet (fail)
            go_wp2_with fail
            go_ret3
            rw [hs.out]
            exact ⟨rfl, KB.out _ (below_drewN kb _)⟩
          · have y2 : ((frAt F j).session == (frAt F k).session) = false := by rw [beq_eq_false_iff_ne]; exact hne
            clear hne
            go_upto_region 7 with (fail)
            go_quiet (fail)
            go_wp2_with fail
            go_ret3
            rw [hs.out]
            exact ⟨rfl, KB.out _ (below_drewN kb _)⟩
          · have y3 : ((frAt F j).index == (frAt F k).index) = false := by rw [beq_eq_false_iff_ne]; exact hne
            clear hne
            go_upto_region 7 with (fail)
            go_quiet (fail)
            go_wp2_with fail
            go_ret3
            rw [hs.out]
            exact ⟨rfl, KB.out _ (below_drewN kb _)⟩
          · have y4 : ((frAt F j).length == (frAt F k).length) = false := by rw [beq_eq_false_iff_ne]; exact hne
            clear hne
            go_upto_region 7 with (fail)
            go_quiet (fail)
            go_wp2_with fail
            go_ret3
            rw [hs.out]
            exact ⟨rfl, KB.out _ (below_drewN kb _)⟩
          · have y5 : ((frAt F j).data == (frAt F k).data) = false := by rw [beq_eq_false_iff_ne]; exact hne
            clear hne
            go_upto_region 7 with (fail)
            go_quiet (fail)
            go_wp2_with fail
            go_ret3
            rw [hs.out]
            exact ⟨rfl, KB.out _ (below_drewN kb _)⟩
          · have y6 : ((frAt F j).spare == (frAt F k).spare) = false := by rw [beq_eq_false_iff_ne]; exact hne
            clear hne
            go_upto_region 7 with (fail)
            go_quiet (fail)
            go_wp2_with fail
            go_ret3
            rw [hs.out]
            exact ⟨rfl, KB.out _ (below_drewN kb _)⟩
          · have y7 : ((frAt F j).archive == (frAt F k).archive) = false := by rw [beq_eq_false_iff_ne]; exact hne
            clear hne
            go_upto_region 7 with (fail)
            go_quiet (fail)
            go_wp2_with fail
            go_ret3
            rw [hs.out]
            exact ⟨rfl, KB.out _ (below_drewN kb _)⟩
          · have y8 : ((frAt F j).payload.toList == (frAt F k).payload.toList) = false := by rw [str_eq]; exact decide_eq_false (fun h => hne (str_inj h))
            clear hne
            go_upto_region 7 with (fail)
            go_quiet (fail)
            go_wp2_with fail
            go_ret3
            rw [hs.out]
            exact ⟨rfl, KB.out _ (below_drewN kb _)⟩
    · obtain rfl : k = F.length := by omega
      rcases hp with ⟨rfl, h2⟩ | ⟨j, hj, rfl, h3⟩
      · have hs : Hid (R = .error 19) := by rw [Hid, ← h2.out, pay_end]
        clear h2
        go_wp2_with fail
        go_ret3
        rw [hs.out]
        exact ⟨rfl, KB.out _ kb⟩
      · have hs : Hid (R = .ok (frAt F j)) := by rw [Hid, ← h3.out, pay_end]
        obtain ⟨r0, r1, r2, r3, r4, r5, r6, r7, r8⟩ := HC.out _ (KB.out _ kb) j hj
        clear h3
        go_upto_region 13 with (fail)
        go_quiet (fail)
        go_wp2_with fail
        go_ret3
        rw [hs.out]
        exact ⟨rfl, KB.out _ (below_drewN kb _)⟩
theorem payload0 (ar : Int) (a : Option Addr) (cap : Nat) (kd se re ix : Int) (w : World) :
    Calls Tryz.prog 70 #[.agg #[.int .u32 ar, .slice a 0 cap], .int .i64 kd, .int .i64 se, .int .i64 re, .int .i64 ix] w (PayQ (.error 19) w) := by
  obtain ⟨kb0, bC0⟩ := boxr w [.int .u32 ar, .slice a 0 cap] 25
  go_enter Tryz.func70, Tryz.ntmps70
  go_upto_region 1 with (fail)
  obtain ⟨W0, hW0⟩ : ∃ W0, w.alloc (.cells #[.int .u32 ar, .slice a 0 cap] 25) = W0 := ⟨_, rfl⟩
  change Code.wp _ _ _ _ (w.alloc (.cells #[.int .u32 ar, .slice a 0 cap] 25))
  change Below _ _ (w.alloc (.cells #[.int .u32 ar, .slice a 0 cap] 25)) at kb0
  change Box (w.alloc (.cells #[.int .u32 ar, .slice a 0 cap] 25)) _ _ _ at bC0
  rw [hW0] at kb0 bC0 ⊢
  clear hW0
  have c1 : W0.cell? ⟨w.heap.size, 1, none⟩ = some (.slice a 0 cap) := bC0.cell 1
  go_wp2_with fail
  go_loopw [13, 14, 15, 19] (fun p _ _ i wr => p = .pointer none ∧ i = .int .i64 0 ∧ wr = W0) (fun _ _ _ i _ => (intOf i).toNat)
  case atStart => exact ⟨rfl, rfl, rfl⟩
  case round =>
    obtain ⟨rfl, rfl, rfl⟩ := hrel
    go_wp2_with fail
    go_ret3
    exact ⟨rfl, kb0⟩
theorem payload_any (ar : Int) (v : Value) (F : List Fr) (kd se re ix : Int) (w : World) (hr : FrRow w v F) :
    Calls Tryz.prog 70 #[.agg #[.int .u32 ar, v], .int .i64 kd, .int .i64 se, .int .i64 re, .int .i64 ix] w (PayQ (payR kd se re ix none F) w) := by
  rcases hr.2 with ⟨rfl, a, cap, rfl, _⟩ | ⟨h0, b, o, cap, rfl, _, _, hb, hF⟩
  · exact payload0 ar a cap kd se re ix w
  · exact payload1 ar b o cap F kd se re ix w h0 hr.1 hb hF
end Go.Proofs.YtpkapcijgldhhaaGreatDoor
