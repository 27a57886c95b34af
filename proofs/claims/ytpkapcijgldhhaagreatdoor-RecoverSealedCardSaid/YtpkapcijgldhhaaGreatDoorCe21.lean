/-
  The blocks of a stream: what is restored out of frames. Plain.
  The layout that the frames of a session state: the set of the layouts, plain.
-/
import Derived.Test.YtpkapcijgldhhaaGreatDoorCe19
import Derived.Test.YtpkapcijgldhhaaGreatDoorCe20
import Derived.Maps.Own
import Derived.Maps.Views
import Derived.DeepKeys5
namespace Go.Proofs.YtpkapcijgldhhaaGreatDoor
/-- the block at x of the stripe through the blocks bs at the points xs, n bytes each -/
def lagL (xs : List UInt8) (bs : List (List UInt8)) (n : Nat) (x : UInt8) : List UInt8 := (List.range n).map fun i => lagG xs (fun k => (bs.getD k []).getD i 0) x
theorem lagL_length (xs : List UInt8) (bs : List (List UInt8)) (n : Nat) (x : UInt8) : (lagL xs bs n x).length = n := by unfold lagL; simp
theorem lagL_get {xs : List UInt8} {bs : List (List UInt8)} {n : Nat} {x : UInt8} {i : Nat} (h : i < n) : (lagL xs bs n x).getD i 0 = lagG xs (fun k => (bs.getD k []).getD i 0) x := by
  unfold lagL; rw [List.getD_eq_getElem?_getD, List.getElem?_map, List.getElem?_range h]; rfl
theorem bytes_ext {a b : List UInt8} (hl : a.length = b.length) (h : ∀ i, i < a.length → a.getD i 0 = b.getD i 0) : a = b := by
  apply List.ext_getElem hl
  intro i h1 h2
  rw [← gf_get h1, ← gf_get h2, h i h1]
theorem at_point {xs : List UInt8} (hd : xs.Nodup) (bs : List (List UInt8)) {n j : Nat} (hj : j < xs.length) (hn : (bs.getD j []).length = n) : lagL xs bs n (xs.getD j 0) = bs.getD j [] := by
  apply bytes_ext (by rw [lagL_length, hn])
  intro i hi
  rw [lagL_length] at hi
  rw [lagL_get hi, lag_point hd _ hj]
/-- blocks of one stripe are known by as many of them -/
theorem at_uniq {ys : List UInt8} {ds : List (List UInt8)} {n : Nat} {xs : List UInt8} (bs : List (List UInt8)) (hl : xs.length = ys.length) (hd : xs.Nodup) (hb : ∀ k, k < xs.length → bs.getD k [] = lagL ys ds n (xs.getD k 0)) (x : UInt8) :
    lagL xs bs n x = lagL ys ds n x := by
  apply bytes_ext (by rw [lagL_length, lagL_length])
  intro i hi
  rw [lagL_length] at hi
  rw [lagL_get hi, lagL_get hi]
  refine lag_uniq (f := lagG ys fun k => (ds.getD k []).getD i 0) (by rw [hl]; exact poly_lag ys _) hd _ (fun k hk => ?_) x
  show (bs.getD k []).getD i 0 = _
  rw [hb k hk, lagL_get hi]
/-- the layout that the frames of a session state -/
def layR (s : Int) : Option (Int × Int) → List Fr → Except Int (Int × Int)
  | none, [] => .error 19
  | some x, [] => .ok x
  | none, f :: L => if f.session = s then layR s (some (f.data, f.spare)) L else layR s none L
  | some x, f :: L => if f.session = s then (if x = (f.data, f.spare) then layR s (some x) L else .error 20) else layR s (some x) L
theorem lay_err {s x : Int} : ∀ (L : List Fr) (st : Option (Int × Int)), layR s st L = .error x → x = 19 ∨ x = 20
  | [], none, h => by injection h with h; exact .inl h.symm
  | [], some g, h => by cases h
  | f :: L, none, h => by
    rw [layR] at h
    split at h
    · exact lay_err L _ h
    · exact lay_err L _ h
  | f :: L, some g, h => by
    rw [layR] at h
    split at h
    · split at h
      · exact lay_err L _ h
      · injection h with h; exact .inr h.symm
    · exact lay_err L _ h
theorem lay_some {s : Int} {x : Int × Int} : ∀ {L : List Fr}, (∀ f ∈ L, f.session = s → (f.data, f.spare) = x) → layR s (some x) L = .ok x
  | [], _ => rfl
  | f :: L, h => by
    rw [layR]
    split
    · rename_i hs
      rw [if_pos (h f List.mem_cons_self hs).symm]
      exact lay_some fun g hg => h g (List.mem_cons_of_mem _ hg)
    · exact lay_some fun g hg => h g (List.mem_cons_of_mem _ hg)
theorem lay_all {s : Int} {x : Int × Int} : ∀ {L : List Fr}, (∀ f ∈ L, f.session = s ∧ (f.data, f.spare) = x) → L ≠ [] → layR s none L = .ok x
  | [], _, h => absurd rfl h
  | f :: L, h, _ => by
    obtain ⟨h1, h2⟩ := h f List.mem_cons_self
    rw [layR, if_pos h1, h2]
    exact lay_some fun g hg _ => (h g (List.mem_cons_of_mem _ hg)).2
/-- the payload at a position of a stripe -/
noncomputable def payB (F : List Fr) (s r i : Int) : Option (List UInt8) := match payR 66 s r i none F with | .error _ => none | .ok f => some f.payload.data.toList
theorem payB_err {F : List Fr} {s r i x : Int} (h : payR 66 s r i none F = .error x) : payB F s r i = none := by unfold payB; rw [h]
theorem payB_ok {F : List Fr} {s r i : Int} {f : Fr} (h : payR 66 s r i none F = .ok f) : payB F s r i = some f.payload.data.toList := by unfold payB; rw [h]
/-- the readable reels below k -/
noncomputable def rdS (F : List Fr) (s i : Int) (k : Nat) : List Nat := (List.range k).filter fun r => (payB F s r i).isSome
theorem rdS_skip {F : List Fr} {s i : Int} {k : Nat} (h : payB F s k i = none) : rdS F s i (k + 1) = rdS F s i k := by
  unfold rdS; rw [List.range_succ, List.filter_append]; simp [h]
theorem rdS_take {F : List Fr} {s i : Int} {k : Nat} {t : List UInt8} (h : payB F s k i = some t) : rdS F s i (k + 1) = rdS F s i k ++ [k] := by
  unfold rdS; rw [List.range_succ, List.filter_append]; simp [h]
theorem rdS_len {F : List Fr} {s i : Int} (k : Nat) : (rdS F s i k).length ≤ k := by
  have := List.length_filter_le (fun r : Nat => (payB F s r i).isSome) (List.range k)
  rwa [List.length_range] at this
theorem rdS_mem {F : List Fr} {s i : Int} {k r : Nat} : r ∈ rdS F s i k ↔ r < k ∧ (payB F s r i).isSome = true := by
  unfold rdS; rw [List.mem_filter, List.mem_range]
theorem rdS_nodup (F : List Fr) (s i : Int) (k : Nat) : (rdS F s i k).Nodup := List.Nodup.sublist List.filter_sublist List.nodup_range
noncomputable def pOf (F : List Fr) (s i : Int) (r : Nat) : List UInt8 := (payB F s r i).getD []
/-- what is restored of shares -/
def eraR (S : List (Nat × List UInt8)) (x : UInt8) : Except Int (List UInt8) :=
  if ∀ p ∈ S, p.2.length = (S.headD (0, [])).2.length then .ok (lagL (S.map fun p => UInt8.ofNat p.1) (S.map (·.2)) (S.headD (0, [])).2.length x) else .error 1
noncomputable def shR (F : List Fr) (s i : Int) (k d : Nat) : List (Nat × List UInt8) := ((rdS F s i k).take d).map fun r => (r, pOf F s i r)
theorem shR_skip {F : List Fr} {s i : Int} {k d : Nat} (h : payB F s k i = none) : shR F s i (k + 1) d = shR F s i k d := by unfold shR; rw [rdS_skip h]
theorem shR_take {F : List Fr} {s i : Int} {k d : Nat} {t : List UInt8} (h : payB F s k i = some t) (hl : (shR F s i k d).length < d) : shR F s i (k + 1) d = shR F s i k d ++ [(k, t)] := by
  unfold shR at hl ⊢
  rw [List.length_map, List.length_take] at hl
  rw [rdS_take h, List.take_append, List.map_append, List.take_of_length_le (l := [k]) (by simp; omega)]
  simp only [List.map_cons, List.map_nil]
  rw [pOf, h]; rfl
theorem shR_full {F : List Fr} {s i : Int} {k d : Nat} {t : List UInt8} (h : payB F s k i = some t) (hl : ¬ (shR F s i k d).length < d) : shR F s i (k + 1) d = shR F s i k d := by
  unfold shR at hl ⊢
  rw [List.length_map, List.length_take] at hl
  rw [rdS_take h, List.take_append_of_le_length (by omega)]
theorem shR_le (F : List Fr) (s i : Int) (k d : Nat) : (shR F s i k d).length ≤ d := by unfold shR; rw [List.length_map, List.length_take]; omega
/-- a data block of a stream -/
noncomputable def blkR (F : List Fr) (s b : Int) : Except Int (List UInt8) :=
  if b < 0 then .error 2 else
  match layR s none F with
  | .error e => .error e
  | .ok (d, sp) =>
    if ¬ (1 ≤ d ∧ d ≤ 8 ∧ 0 ≤ sp ∧ sp ≤ 7) ∨ 65535 < b / d then .error 2 else
    match payB F s (b % d) (b / d) with
    | some p => .ok p
    | none => if (shR F s (b / d) (d + sp).toNat d.toNat).length < d.toNat then .error 19 else eraR (shR F s (b / d) (d + sp).toNat d.toNat) (UInt8.ofNat (b % d).toNat)
theorem blk_neg {F : List Fr} {s b : Int} (h : b < 0) : blkR F s b = .error 2 := by unfold blkR; exact if_pos h
theorem blk_lay {F : List Fr} {s b e : Int} (h : ¬ b < 0) (hl : layR s none F = .error e) : blkR F s b = .error e := by unfold blkR; rw [if_neg h, hl]
theorem blk_out {F : List Fr} {s b d sp : Int} (h : ¬ b < 0) (hl : layR s none F = .ok (d, sp)) (ho : ¬ (1 ≤ d ∧ d ≤ 8 ∧ 0 ≤ sp ∧ sp ≤ 7) ∨ 65535 < b / d) : blkR F s b = .error 2 := by unfold blkR; rw [if_neg h, hl]; exact if_pos ho
theorem blk_own {F : List Fr} {s b d sp : Int} {p : List UInt8} (h : ¬ b < 0) (hl : layR s none F = .ok (d, sp)) (ho : ¬ (¬ (1 ≤ d ∧ d ≤ 8 ∧ 0 ≤ sp ∧ sp ≤ 7) ∨ 65535 < b / d)) (hp : payB F s (b % d) (b / d) = some p) : blkR F s b = .ok p := by
  unfold blkR; rw [if_neg h, hl]; simp only; rw [if_neg ho, hp]
theorem blk_few {F : List Fr} {s b d sp : Int} (h : ¬ b < 0) (hl : layR s none F = .ok (d, sp)) (ho : ¬ (¬ (1 ≤ d ∧ d ≤ 8 ∧ 0 ≤ sp ∧ sp ≤ 7) ∨ 65535 < b / d)) (hp : payB F s (b % d) (b / d) = none) (hs : (shR F s (b / d) (d + sp).toNat d.toNat).length < d.toNat) : blkR F s b = .error 19 := by
  unfold blkR; rw [if_neg h, hl]; simp only; rw [if_neg ho, hp]; exact if_pos hs
theorem blk_era {F : List Fr} {s b d sp : Int} (h : ¬ b < 0) (hl : layR s none F = .ok (d, sp)) (ho : ¬ (¬ (1 ≤ d ∧ d ≤ 8 ∧ 0 ≤ sp ∧ sp ≤ 7) ∨ 65535 < b / d)) (hp : payB F s (b % d) (b / d) = none) (hs : ¬ (shR F s (b / d) (d + sp).toNat d.toNat).length < d.toNat) :
    blkR F s b = eraR (shR F s (b / d) (d + sp).toNat d.toNat) (UInt8.ofNat (b % d).toNat) := by
  unfold blkR; rw [if_neg h, hl]; simp only; rw [if_neg ho, hp]; exact if_neg hs
theorem ofNat_inj {a b : Nat} (ha : a < 256) (hb : b < 256) (h : UInt8.ofNat a = UInt8.ofNat b) : a = b := by
  have := congrArg UInt8.toNat h
  rwa [UInt8.toNat_ofNat_of_lt' ha, UInt8.toNat_ofNat_of_lt' hb] at this
theorem nodup_of {L : List Nat} (h : L.Nodup) (hb : ∀ r ∈ L, r < 256) : (L.map UInt8.ofNat).Nodup := by
  refine List.Pairwise.map _ (R := fun a b => a ≠ b ∧ a < 256 ∧ b < 256) (fun a b ⟨h1, h2, h3⟩ e => h1 (ofNat_inj h2 h3 e)) ?_
  exact (List.Pairwise.and_mem.1 h).imp fun ⟨h1, h2, h3⟩ => ⟨h3, hb _ h1, hb _ h2⟩
/-! ### streams -/
/-- the elements 0 .. d - 1 -/
def idsL (d : Nat) : List UInt8 := (List.range d).map UInt8.ofNat
theorem idsL_length (d : Nat) : (idsL d).length = d := by unfold idsL; simp
theorem idsL_nodup {d : Nat} (h : d ≤ 256) : (idsL d).Nodup := nodup_of List.nodup_range fun r hr => by have := List.mem_range.1 hr; omega
theorem idsL_get {d k : Nat} (h : k < d) : (idsL d).getD k 0 = UInt8.ofNat k := by
  unfold idsL; rw [List.getD_eq_getElem?_getD, List.getElem?_map, List.getElem?_range h]; rfl
/-- the data block b of a stream, filled up with zeros -/
def dblk (t : List UInt8) (b : Nat) : List UInt8 := (List.range 28).map fun i => t.getD (28 * b + i) 0
theorem dblk_length (t : List UInt8) (b : Nat) : (dblk t b).length = 28 := by unfold dblk; simp
/-- the data blocks of a stripe -/
def stD (d : Nat) (t : List UInt8) (i : Nat) : List (List UInt8) := (List.range d).map fun r => dblk t (i * d + r)
theorem stD_get {d : Nat} {t : List UInt8} {i r : Nat} (h : r < d) : (stD d t i).getD r [] = dblk t (i * d + r) := by
  unfold stD; rw [List.getD_eq_getElem?_getD, List.getElem?_map, List.getElem?_range h]; rfl
/-- the block of a stripe on a reel -/
def stB (d : Nat) (t : List UInt8) (i r : Nat) : List UInt8 := lagL (idsL d) (stD d t i) 28 (UInt8.ofNat r)
theorem stB_length (d : Nat) (t : List UInt8) (i r : Nat) : (stB d t i r).length = 28 := lagL_length _ _ _ _
theorem stB_data {d : Nat} (hd : d ≤ 256) (t : List UInt8) (i : Nat) {r : Nat} (h : r < d) : stB d t i r = dblk t (i * d + r) := by
  unfold stB
  rw [← idsL_get h, at_point (idsL_nodup hd) _ (by rw [idsL_length]; exact h) (by rw [stD_get h, dblk_length]), stD_get h]
/-- the frames say nothing else than the stream -/
structure OfStr (F : List Fr) (d sp : Nat) (t : List UInt8) (s : Int) : Prop where
  lay : ∀ f ∈ F, f.session = s ∧ (f.data, f.spare) = ((d : Int), (sp : Int))
  pay : ∀ (r i : Nat) p, payB F s r i = some p → p = stB d t i r
/-- what is restored of a stream: the block, if it or as many others as there are data reels are readable -/
theorem blk_str {F : List Fr} {d sp : Nat} {t : List UInt8} {s : Int} (hF : OfStr F d sp t s) (hd : 1 ≤ d) (hd8 : d ≤ 8) (hs : sp ≤ 7) {b : Nat} (hb : b ≤ 65535) :
    blkR F s b = if (payB F s (b % d : Nat) (b / d : Nat)).isSome = true ∨ d ≤ (rdS F s (b / d : Nat) (d + sp)).length then .ok (stB d t (b / d) (b % d)) else .error 19 := by
  by_cases hne : F = []
  · subst hne
    have hp : ∀ r i : Int, payB [] s r i = none := fun r i => rfl
    have hr : ∀ k, rdS [] s (b / d : Nat) k = [] := fun k => by unfold rdS; simp [hp]
    rw [blk_lay (e := 19) (by omega) rfl, if_neg]
    rw [hp, hr]
    rintro (h | h)
    · cases h
    · simp at h; omega
  have hl := lay_all (s := s) hF.lay hne
  have hdb : b / d ≤ b := Nat.div_le_self _ _
  have hnn : ¬ ((b : Int) < 0) := by omega
  have hq : (b : Int) / (d : Int) = ((b / d : Nat) : Int) := rfl
  have hm : (b : Int) % (d : Int) = ((b % d : Nat) : Int) := rfl
  have hlt : b % d < d := Nat.mod_lt _ (by omega)
  have ho : ¬ (¬ (1 ≤ (d : Int) ∧ (d : Int) ≤ 8 ∧ 0 ≤ (sp : Int) ∧ (sp : Int) ≤ 7) ∨ 65535 < (b : Int) / (d : Int)) := by rw [hq]; omega
  rcases hp : payB F s (b % d : Nat) (b / d : Nat) with _ | p
  · by_cases hc : d ≤ (rdS F s (b / d : Nat) (d + sp)).length
    · rw [if_pos (.inr hc)]
      have hn : ((d : Int) + (sp : Int)).toNat = d + sp := by omega
      have hlen : (shR F s (b / d : Nat) (d + sp) d).length = d := by unfold shR; rw [List.length_map, List.length_take]; omega
      rw [blk_era hnn hl ho hp (by rw [hq, hn, Int.toNat_natCast, hlen]; omega), hq, hm, hn, Int.toNat_natCast, Int.toNat_natCast]
      have hmem : ∀ q ∈ shR F s (b / d : Nat) (d + sp) d, q.1 < d + sp ∧ q.2 = stB d t (b / d) q.1 := fun q hq => by
        unfold shR at hq
        obtain ⟨r, hr, rfl⟩ := List.mem_map.1 hq
        obtain ⟨h1, h2⟩ := rdS_mem.1 (List.mem_of_mem_take hr)
        obtain ⟨p, hp⟩ := Option.isSome_iff_exists.1 h2
        refine ⟨h1, ?_⟩
        show pOf F s _ r = _
        rw [pOf, hp]; exact hF.pay r _ p hp
      have hhead : ((shR F s (b / d : Nat) (d + sp) d).headD (0, [])).2.length = 28 := by
        rcases hS : shR F s (b / d : Nat) (d + sp) d with _ | ⟨q, S⟩
        · rw [hS] at hlen; simp at hlen; omega
        · show q.2.length = 28
          rw [(hmem q (by rw [hS]; exact List.mem_cons_self)).2, stB_length]
      have hall : ∀ q ∈ shR F s (b / d : Nat) (d + sp) d, q.2.length = ((shR F s (b / d : Nat) (d + sp) d).headD (0, [])).2.length := fun q hq => by rw [hhead, (hmem q hq).2, stB_length]
      unfold eraR
      rw [if_pos hall, hhead]
      congr 1
      refine at_uniq _ (by rw [List.length_map, hlen, idsL_length]) ?_ (fun k hk => ?_) _
      · unfold shR
        rw [List.map_map]
        exact nodup_of ((rdS_nodup F s _ _).sublist (List.take_sublist _ _)) fun r hr => by have := (rdS_mem.1 (List.mem_of_mem_take hr)).1; omega
      · rw [List.length_map] at hk
        have h1 := hmem _ (List.getElem_mem hk)
        rw [List.getD_eq_getElem?_getD, List.getElem?_map, List.getElem?_eq_getElem hk, gf_get (by rw [List.length_map]; exact hk), List.getElem_map]
        exact h1.2
    · rw [if_neg (by rintro (h | h); · cases h
                     · exact hc h)]
      have hn : ((d : Int) + (sp : Int)).toNat = d + sp := by omega
      refine blk_few hnn hl ho hp ?_
      rw [hq, hn, Int.toNat_natCast]
      unfold shR
      rw [List.length_map, List.length_take]; omega
  · rw [if_pos (.inl rfl), blk_own hnn hl ho hp, hF.pay _ _ p hp]
end Go.Proofs.YtpkapcijgldhhaaGreatDoor

namespace Go.Proofs.YtpkapcijgldhhaaGreatDoor
open Go.RowKit Go.Shelf
/-- the layouts of the frames of a session among the first k -/
def layK (F : List Fr) (s : Int) : Nat → List (Int × Int)
  | 0 => []
  | k + 1 => if (frAt F k).session = s then layK F s k ++ [((frAt F k).data, (frAt F k).spare)] else layK F s k
def layO (x : Int × Int) (K : List (Int × Int)) : Bool := K.all fun y => decide (x = y)
/-- what is said of the layouts that come -/
def layV : Option (Int × Int) → List (Int × Int) → Except Int (Int × Int)
  | none, [] => .error 19
  | none, x :: K => if layO x K then .ok x else .error 20
  | some x, K => if layO x K then .ok x else .error 20
def layT (F : List Fr) (s : Int) (k : Nat) : List (Int × Int) := ((F.drop k).filter fun f => decide (f.session = s)).map fun f => (f.data, f.spare)
theorem lay_view (s : Int) : ∀ (L : List Fr) (st : Option (Int × Int)), layR s st L = layV st ((L.filter fun f => decide (f.session = s)).map fun f => (f.data, f.spare))
  | [], none => rfl
  | [], some x => rfl
  | f :: L, none => by
    rw [layR]
    by_cases h : f.session = s
    · rw [if_pos h, lay_view s L, List.filter_cons_of_pos (by simpa using h)]; rfl
    · rw [if_neg h, lay_view s L, List.filter_cons_of_neg (by simpa using h)]
  | f :: L, some x => by
    rw [layR]
    by_cases h : f.session = s
    · rw [if_pos h, List.filter_cons_of_pos (by simpa using h)]
      by_cases hx : x = (f.data, f.spare)
      · rw [if_pos hx, lay_view s L]
        show layV (some x) _ = if layO x ((f.data, f.spare) :: _) then _ else _
        unfold layO
        rw [List.all_cons, decide_eq_true hx, Bool.true_and]; rfl
      · rw [if_neg hx]
        show _ = if layO x ((f.data, f.spare) :: _) then _ else _
        unfold layO
        rw [List.all_cons, decide_eq_false hx, Bool.false_and]; rfl
    · rw [if_neg h, lay_view s L, List.filter_cons_of_neg (by simpa using h)]
theorem layK_take (F : List Fr) (s : Int) : ∀ k, k ≤ F.length → layK F s k = ((F.take k).filter fun f => decide (f.session = s)).map fun f => (f.data, f.spare)
  | 0, _ => rfl
  | k + 1, h => by
    have hg : F.take (k + 1) = F.take k ++ [frAt F k] := by rw [frAt_get (by omega)]; exact List.take_succ_eq_append_getElem (by omega)
    rw [layK, hg, List.filter_append, List.map_append, layK_take F s k (by omega)]
    by_cases hs : (frAt F k).session = s
    · rw [if_pos hs, List.filter_cons_of_pos (by simpa using hs)]; rfl
    · rw [if_neg hs, List.filter_cons_of_neg (by simpa using hs)]; simp
theorem lay_full (F : List Fr) (s : Int) : layR s none F = layV none (layK F s F.length) := by rw [lay_view, layK_take F s _ (Nat.le_refl _), List.take_length]
theorem layK_len (F : List Fr) (s : Int) : ∀ k, (layK F s k).length ≤ k
  | 0 => Nat.le_refl _
  | k + 1 => by
    have ih := layK_len F s k
    rw [layK]; split
    · rw [List.length_append]; simp; exact ih
    · omega
/-- the key of a layout -/
def keyP (x : Int × Int) : Lit := .string (keyBytes [.int .i64 x.1, .int .i64 x.2])
def wf64 (n : Int) : Prop := -9223372036854775808 ≤ n ∧ n ≤ 9223372036854775807
theorem lit_wf64 {n : Int} (h : wf64 n) : (Lit.int .i64 n).wf = true := by
  simp only [Lit.wf, Bool.and_eq_true, decide_eq_true_eq]
  exact ⟨Int.le_trans (by decide) h.1, Int.le_trans h.2 (by decide)⟩
theorem layLaid : laidOutB Tryz.prog = true := by kernel_rfl
theorem layKeyT : Tryz.prog.keyType 39 = true := by kernel_rfl
set_option maxRecDepth 100000 in
theorem laySmall0 : Nat.ble Tryz.prog.types.size 9000 = true := by kernel_rfl
theorem laySmall : Tryz.prog.types.size + 2 ≤ 10000 := by have := Nat.le_of_ble_eq_true laySmall0; omega
theorem layRow : (39 : TypeId) < Tryz.prog.types.size := of_decide_eq_true (by kernel_rfl)
theorem layKeyed : Maps.Keyed Tryz.prog 39 := Maps.Keyed.of_law (deep_law_gate layLaid laySmall layRow layKeyT (by simp only [Tryz.underlying39]))
theorem layC : Tryz.prog.cellsOf 39 = 2 := by kernel_rfl
theorem layI : Tryz.prog.cellsOf 3 = 1 := by kernel_rfl
theorem layPos : 0 < Tryz.prog.types.size := of_decide_eq_true (by kernel_rfl)
theorem layN : ∃ m, Tryz.prog.types.size = m + 1 := Nat.exists_eq_succ_of_ne_zero (Nat.pos_iff_ne_zero.1 layPos)
theorem lay_key {x : Int × Int} (h1 : wf64 x.1) (h2 : wf64 x.2) : keyOf Tryz.prog 39 (.agg #[.int .i64 x.1, .int .i64 x.2]) = some (keyP x) := by
  have hkt := layKeyT
  obtain ⟨m, hm⟩ := layN
  unfold keyOf
  simp only [Tryz.underlying39]
  rw [if_pos (by simp [hkt, Value.formed, Tryz.underlying39, layC]), hm]
  unfold Program.keyLits
  simp only [Tryz.underlying39, Value.cells]
  rw [if_pos ⟨by rw [layC]; rfl, by decide +kernel⟩, List.mapM_cons, List.mapM_cons, List.mapM_nil]
  simp [layI, Program.keyLits, Tryz.underlying3, lit_wf64 h1, lit_wf64 h2, keyP]
theorem keyP_lit (K : List (Int × Int)) : ∀ x ∈ K.map keyP, WideAt.IsKeyLit x := fun x hx => by
  obtain ⟨y, _, rfl⟩ := List.mem_map.1 hx
  trivial
theorem keyP_inj {x y : Int × Int} (hx : wf64 x.1 ∧ wf64 x.2) (hy : wf64 y.1 ∧ wf64 y.2) (h : keyP x = keyP y) : x = y := by
  have h1 := lay_key hx.1 hx.2
  have h2 := lay_key hy.1 hy.2
  rw [h] at h1
  have := layKeyed.inj h1 h2
  simp only [Value.agg.injEq, Array.mk.injEq, List.cons.injEq, Value.int.injEq, true_and, and_true] at this
  obtain ⟨a, b⟩ := x
  obtain ⟨c, d⟩ := y
  exact Prod.ext this.1 this.2
theorem keyP_same {x y : Int × Int} (hx : wf64 x.1 ∧ wf64 x.2) (hy : wf64 y.1 ∧ wf64 y.2) : Lit.sameKey (keyP x) (keyP y) = decide (x = y) := by
  rw [Bool.eq_iff_iff, decide_eq_true_eq]
  constructor
  · intro h; exact keyP_inj hx hy (WideAt.sameKey_eq h)
  · rintro rfl; simp [keyP, Lit.sameKey]
/-- the set of the layouts -/
def setP (K : List (Int × Int)) : DataW Unit := Maps.setOf (.lit (.bool true)) (K.map keyP)
theorem setP_snoc (K : List (Int × Int)) (x : Int × Int) : setP (K ++ [x]) = (setP K).put (keyP x) (.lit (.bool true)) := by
  unfold setP; rw [List.map_append]; exact Maps.setOf_snoc _ _ _
theorem setP_has {K : List (Int × Int)} (hK : ∀ y ∈ K, wf64 y.1 ∧ wf64 y.2) {x : Int × Int} (hx : wf64 x.1 ∧ wf64 x.2) : Maps.has (setP K) (keyP x) = K.any fun y => decide (y = x) := by
  unfold setP
  rw [Maps.has_setOf _ _ _ (keyP_lit K), List.any_map]
  induction K with
  | nil => rfl
  | cons y K ih =>
    rw [List.any_cons, List.any_cons, ih fun z hz => hK z (List.mem_cons_of_mem _ hz)]
    congr 1
    exact keyP_same (hK y List.mem_cons_self) hx
/-- how many layouts there are: none, one, more -/
theorem setP_size {K : List (Int × Int)} (hK : ∀ y ∈ K, wf64 y.1 ∧ wf64 y.2) : match layV none K with
    | .ok x => Maps.size (setP K) = 1 ∧ K.getLast? = some x
    | .error e => (e = 19 ∧ Maps.size (setP K) = 0) ∨ (e = 20 ∧ 2 ≤ Maps.size (setP K)) := by
  have key : ∀ R : List (Int × Int), (∀ y ∈ R.reverse, wf64 y.1 ∧ wf64 y.2) → match layV none R.reverse with
    | .ok x => Maps.size (setP R.reverse) = 1 ∧ R.reverse.getLast? = some x
    | .error e => (e = 19 ∧ R = [] ∧ Maps.size (setP R.reverse) = 0) ∨ (e = 20 ∧ 2 ≤ Maps.size (setP R.reverse)) := by
    intro R
    induction R with
    | nil => intro _; exact .inl ⟨rfl, rfl, rfl⟩
    | cons z R ih =>
      intro h
      rw [List.reverse_cons] at h ⊢
      have hR : ∀ y ∈ R.reverse, wf64 y.1 ∧ wf64 y.2 := fun y hy => h y (List.mem_append.2 (.inl hy))
      have hz := h z (List.mem_append.2 (.inr (List.mem_singleton.2 rfl)))
      have ih := ih hR
      have ht : Maps.Tidy (setP R.reverse) := Maps.tidy_setOf _ _ (keyP_lit _)
      have hsz : Maps.size (setP (R.reverse ++ [z])) = if (R.reverse.any fun y => decide (y = z)) then Maps.size (setP R.reverse) else Maps.size (setP R.reverse) + 1 := by
        rw [setP_snoc, Maps.size_put ht, setP_has hR hz]
      rcases hq : R.reverse with _ | ⟨x, K⟩
      · rw [hq] at hsz
        show _ ∧ _
        exact ⟨hsz, rfl⟩
      · rw [hq] at ih hsz
        show match (if layO x (K ++ [z]) then (Except.ok x : Except Int (Int × Int)) else .error 20) with | .ok x => _ | .error e => _
        have ho : layO x (K ++ [z]) = (layO x K && decide (x = z)) := by unfold layO; rw [List.all_append]; simp
        have ih : match (if layO x K then (Except.ok x : Except Int (Int × Int)) else .error 20) with
          | .ok y => Maps.size (setP (x :: K)) = 1 ∧ (x :: K).getLast? = some y
          | .error e => (e = 19 ∧ R = [] ∧ Maps.size (setP (x :: K)) = 0) ∨ (e = 20 ∧ 2 ≤ Maps.size (setP (x :: K))) := ih
        rw [ho]
        by_cases h1 : layO x K = true
        · rw [if_pos h1] at ih
          by_cases h2 : x = z
          · rw [h1, decide_eq_true h2, if_pos (by rfl)]
            subst h2
            refine ⟨?_, by rw [List.getLast?_concat]⟩
            rw [hsz, if_pos (by simp)]; exact ih.1
          · rw [h1, decide_eq_false h2, if_neg (by decide)]
            refine .inr ⟨rfl, ?_⟩
            have hno : ((x :: K).any fun y => decide (y = z)) = false := by
              rw [← Bool.not_eq_true, List.any_eq_true]
              rintro ⟨y, hy, he⟩
              have he := of_decide_eq_true he
              subst he
              rcases List.mem_cons.1 hy with rfl | hy
              · exact h2 rfl
              · exact h2 (of_decide_eq_true (List.all_eq_true.1 h1 y hy))
            rw [hsz, hno, if_neg (by decide), ih.1]
            decide
        · have h1 : layO x K = false := by simpa using h1
          rw [h1] at ih ⊢
          rw [if_neg (by decide)] at ih
          rw [Bool.false_and, if_neg (by decide)]
          refine .inr ⟨rfl, ?_⟩
          rcases ih with ⟨h3, _⟩ | ⟨_, h3⟩
          · exact absurd h3 (by decide)
          · rw [hsz]; split <;> omega
  have := key K.reverse (by rw [List.reverse_reverse]; exact hK)
  rw [List.reverse_reverse] at this
  rcases hv : layV none K with e | x
  · rw [hv] at this
    rcases this with ⟨h1, _, h2⟩ | h
    · exact .inl ⟨h1, h2⟩
    · exact .inr h
  · rw [hv] at this; exact this
end Go.Proofs.YtpkapcijgldhhaaGreatDoor
