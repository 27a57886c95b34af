/-
  Some of the frames of a stream are frames of that stream: plain.
-/
import Derived.Test.YtpkapcijgldhhaaGreatDoorCe46
namespace Go.Proofs.YtpkapcijgldhhaaGreatDoor
open Go.RowKit Go.Shelf
theorem frL_mem {d sp : Nat} {t : List UInt8} {s : Int} {n : Nat} {f : Fr} : f ∈ frL d sp t s n ↔ ∃ k r, k < n ∧ r < d + sp ∧ f = frO d sp t s k r := by
  unfold frL frK
  rw [List.mem_flatMap]
  constructor
  · rintro ⟨k, hk, hf⟩
    obtain ⟨r, hr, rfl⟩ := List.mem_map.1 hf
    exact ⟨k, r, List.mem_range.1 hk, List.mem_range.1 hr, rfl⟩
  · rintro ⟨k, r, hk, hr, rfl⟩
    exact ⟨k, List.mem_range.2 hk, List.mem_map.2 ⟨r, List.mem_range.2 hr, rfl⟩⟩
/-- frames of a stream: what of them is readable is the stream's -/
theorem ofStr_of {d sp : Nat} {t : List UInt8} {s : Int} {n : Nat} {F : List Fr} (h : ∀ f ∈ F, f ∈ frL d sp t s n) : OfStr F d sp t s := by
  refine ⟨fun f hf => ?_, fun r i p hp => ?_⟩
  · obtain ⟨k, r, _, _, rfl⟩ := frL_mem.1 (h f hf)
    exact ⟨rfl, rfl⟩
  · unfold payB at hp
    rcases hq : payR 66 s r i none F with x | f
    · rw [hq] at hp; cases hp
    · rw [hq] at hp
      injection hp with hp
      obtain ⟨hf, h1, h2, h3, h4⟩ := pay_none hq
      obtain ⟨k, r', _, _, rfl⟩ := frL_mem.1 (h f hf)
      have e1 : (r' : Int) = (r : Int) := h3
      have e2 : (k : Int) = (i : Int) := h4
      obtain rfl : r' = r := by omega
      obtain rfl : k = i := by omega
      rw [← hp, frO_pay, bA'_list]
theorem pay_keep {k s r i : Int} {g : Fr} : ∀ {L : List Fr}, (∀ f ∈ L, fits k s r i f → f = g) → payR k s r i (some g) L = .ok g
  | [], _ => rfl
  | f :: L, h => by
    rw [payR]
    by_cases hf : fits k s r i f
    · have e := h f List.mem_cons_self hf
      subst e
      rw [isB_yes hf, if_pos rfl, isB_yes rfl, if_pos rfl]
      exact pay_keep fun x hx => h x (List.mem_cons_of_mem _ hx)
    · rw [isB_no hf, if_neg (by decide)]
      exact pay_keep fun x hx => h x (List.mem_cons_of_mem _ hx)
theorem pay_find {k s r i : Int} {g : Fr} : ∀ {L : List Fr}, (∀ f ∈ L, fits k s r i f → f = g) → (∃ f ∈ L, fits k s r i f) → payR k s r i none L = .ok g
  | [], _, ⟨_, hf, _⟩ => by cases hf
  | f :: L, h, he => by
    rw [payR]
    by_cases hf : fits k s r i f
    · have e := h f List.mem_cons_self hf
      subst e
      rw [isB_yes hf, if_pos rfl]
      exact pay_keep fun x hx => h x (List.mem_cons_of_mem _ hx)
    · rw [isB_no hf, if_neg (by decide)]
      refine pay_find (fun x hx => h x (List.mem_cons_of_mem _ hx)) ?_
      obtain ⟨x, hx, hfx⟩ := he
      rcases List.mem_cons.1 hx with rfl | hx
      · exact absurd hfx hf
      · exact ⟨x, hx, hfx⟩
/-- readable: there is a frame -/
theorem payB_iff {d sp : Nat} {t : List UInt8} {s : Int} {n : Nat} {F : List Fr} (h : ∀ f ∈ F, f ∈ frL d sp t s n) (r i : Nat) : (payB F s r i).isSome = true ↔ frO d sp t s i r ∈ F := by
  constructor
  · intro hs
    obtain ⟨p, hp⟩ := Option.isSome_iff_exists.1 hs
    unfold payB at hp
    rcases hq : payR 66 s r i none F with x | f
    · rw [hq] at hp; cases hp
    · obtain ⟨hf, h1, h2, h3, h4⟩ := pay_none hq
      obtain ⟨k, r', _, _, rfl⟩ := frL_mem.1 (h f hf)
      have e1 : (r' : Int) = (r : Int) := h3
      have e2 : (k : Int) = (i : Int) := h4
      obtain rfl : r' = r := by omega
      obtain rfl : k = i := by omega
      exact hf
  · intro hf
    have : payR 66 s r i none F = .ok (frO d sp t s i r) := by
      refine pay_find (fun x hx hfx => ?_) ⟨_, hf, rfl, rfl, rfl, rfl⟩
      obtain ⟨k, r', _, _, rfl⟩ := frL_mem.1 (h x hx)
      have e1 : (r' : Int) = (r : Int) := hfx.2.2.1
      have e2 : (k : Int) = (i : Int) := hfx.2.2.2
      obtain rfl : r' = r := by omega
      obtain rfl : k = i := by omega
      rfl
    rw [payB_ok this]; rfl
/-- more frames give no less -/
theorem blk_mono {d sp : Nat} {t : List UInt8} {s : Int} {n : Nat} {A B : List Fr} (hA : ∀ f ∈ A, f ∈ B) (hB : ∀ f ∈ B, f ∈ frL d sp t s n) (hd : 1 ≤ d) (hd8 : d ≤ 8) (hs : sp ≤ 7) {b : Nat} (hb : b ≤ 65535) {x : List UInt8} (h : blkR A s b = .ok x) : blkR B s b = .ok x := by
  have hA' : ∀ f ∈ A, f ∈ frL d sp t s n := fun f hf => hB f (hA f hf)
  rw [blk_str (ofStr_of hA') hd hd8 hs hb] at h
  rw [blk_str (ofStr_of hB) hd hd8 hs hb]
  have hm : ∀ r i : Nat, (payB A s r i).isSome = true → (payB B s r i).isSome = true := fun r i hq => (payB_iff hB r i).2 (hA _ ((payB_iff hA' r i).1 hq))
  split at h
  · rename_i hc
    rw [if_pos]
    · exact h
    · rcases hc with hc | hc
      · exact .inl (hm _ _ hc)
      · refine .inr (Nat.le_trans hc ?_)
        have hsub : (rdS A s ((b / d : Nat) : Int) (d + sp)).Sublist (rdS B s ((b / d : Nat) : Int) (d + sp)) := by
          unfold rdS
          have e : ((List.range (d + sp)).filter fun (r : Nat) => (payB A s (r : Int) ((b / d : Nat) : Int)).isSome) = (((List.range (d + sp)).filter fun (r : Nat) => (payB B s (r : Int) ((b / d : Nat) : Int)).isSome)).filter fun (r : Nat) => (payB A s (r : Int) ((b / d : Nat) : Int)).isSome := by
            rw [List.filter_filter]
            apply List.filter_congr
            intro r _
            by_cases hq : (payB A s (r : Int) ((b / d : Nat) : Int)).isSome = true
            · rw [hq, hm r (b / d) hq]; rfl
            · rw [Bool.not_eq_true] at hq; rw [hq]; rfl
          rw [e]
          exact List.filter_sublist
        exact hsub.length_le
  · cases h
end Go.Proofs.YtpkapcijgldhhaaGreatDoor
