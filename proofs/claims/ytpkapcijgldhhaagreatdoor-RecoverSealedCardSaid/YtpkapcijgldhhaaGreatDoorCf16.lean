/-
  Chapter 40: what its laws say, plainly.
  Frames of a directory text, and what is restored of them. Plain.
  What is restored of the copies that are left. Plain.
-/
import Derived.Test.YtpkapcijgldhhaaGreatDoorCf01
import Derived.Test.YtpkapcijgldhhaaGreatDoorCf02
import Derived.Test.YtpkapcijgldhhaaGreatDoorCf03
import Derived.Test.YtpkapcijgldhhaaGreatDoorCf19
import Derived.Test.YtpkapcijgldhhaaGreatDoorCf04
import Derived.Test.YtpkapcijgldhhaaGreatDoorCf05
import Derived.Test.YtpkapcijgldhhaaGreatDoorCf06
import Derived.Test.YtpkapcijgldhhaaGreatDoorCf07
import Derived.Test.YtpkapcijgldhhaaGreatDoorCf08
import Derived.Test.YtpkapcijgldhhaaGreatDoorCe24
import Derived.Test.YtpkapcijgldhhaaGreatDoorCe19
import Derived.Test.YtpkapcijgldhhaaGreatDoorCe27
import Derived.Test.YtpkapcijgldhhaaGreatDoorCe25
namespace Go.Proofs.YtpkapcijgldhhaaGreatDoor
open Go.RowKit Go.Shelf
theorem len_read {l : List UInt8} {x : De} (h : dirR l = .ok x) : lenR l = .ok l.length := by
  unfold dirR at h
  rcases hr : lenR l with e | n
  · rw [hr] at h; cases h
  · rw [hr] at h
    change (if (l.length : Int) < n then _ else if n < l.length then _ else bodyR l) = _ at h
    split at h
    · cases h
    split at h
    · cases h
    congr 1; omega
theorem len_chunk {l : List UInt8} {n : Int} (h : lenR l = .ok n) : lenR (chunkL l 0) = .ok n := by
  obtain ⟨h1, h2, h3⟩ := lenR_ok.1 h
  have e : (chunkL l 0).take 8 = l.take 8 := by unfold chunkL; rw [Nat.mul_zero, List.drop_zero]; exact lenR_prefix (by decide)
  refine lenR_ok.2 ⟨?_, by rw [e]; exact h2, by rw [e]; exact h3⟩
  unfold chunkL
  rw [Nat.mul_zero, List.drop_zero, List.length_take]; omega
end Go.Proofs.YtpkapcijgldhhaaGreatDoor

namespace Go.Proofs.YtpkapcijgldhhaaGreatDoor
theorem frD_len (n d sp : Int) (l : List UInt8) (r i : Nat) : (frD n d sp l r i).payload.size = 28 := by show (padL (chunkL l i)).length = 28; exact padL_length (chunk_le l i)
/-- at most one frame fits -/
theorem pay_some {k s r i : Int} {g : Fr} : ∀ (F : List Fr), (∀ f ∈ F, fits k s r i f → f = g) → payR k s r i (some g) F = .ok g
  | [], _ => rfl
  | f :: F, h => by
    rw [payR]
    by_cases hf : fits k s r i f
    · have he := h f List.mem_cons_self hf
      subst he
      rw [isB_yes hf, if_pos rfl, isB_yes rfl, if_pos rfl]
      exact pay_some F fun x hx => h x (List.mem_cons_of_mem _ hx)
    · rw [isB_no hf, if_neg (by decide)]
      exact pay_some F fun x hx => h x (List.mem_cons_of_mem _ hx)
theorem pay_yes {k s r i : Int} {g : Fr} : ∀ (F : List Fr), (∀ f ∈ F, fits k s r i f → f = g) → (∃ f ∈ F, fits k s r i f) → payR k s r i none F = .ok g
  | [], _, ⟨f, hf, _⟩ => by cases hf
  | f :: F, h, hx => by
    rw [payR]
    by_cases hf : fits k s r i f
    · have he := h f List.mem_cons_self hf
      subst he
      rw [isB_yes hf, if_pos rfl]
      exact pay_some F fun x hx => h x (List.mem_cons_of_mem _ hx)
    · rw [isB_no hf, if_neg (by decide)]
      obtain ⟨x, hx, hxf⟩ := hx
      rcases List.mem_cons.1 hx with rfl | hx
      · exact absurd hxf hf
      · exact pay_yes F (fun x hx => h x (List.mem_cons_of_mem _ hx)) ⟨x, hx, hxf⟩
theorem pay_no {k s r i : Int} : ∀ (F : List Fr), (∀ f ∈ F, ¬ fits k s r i f) → payR k s r i none F = .error 19
  | [], _ => rfl
  | f :: F, h => by
    rw [payR, isB_no (h f List.mem_cons_self), if_neg (by decide)]
    exact pay_no F fun x hx => h x (List.mem_cons_of_mem _ hx)
/-- all frames are frames of the text -/
def OfText (n d sp : Int) (l : List UInt8) (F : List Fr) : Prop := ∀ f ∈ F, ∃ r i : Nat, r < 15 ∧ i < cntP l.length ∧ f = frD n d sp l r i
theorem frD_fits {n d sp : Int} {l : List UInt8} {r i r' i' : Nat} : fits 68 n r' i' (frD n d sp l r i) ↔ r = r' ∧ i = i' := by
  unfold fits frD
  constructor
  · rintro ⟨_, _, h1, h2⟩
    exact ⟨Int.ofNat.inj h1, Int.ofNat.inj h2⟩
  · rintro ⟨rfl, rfl⟩
    exact ⟨rfl, rfl, rfl, rfl⟩
theorem own_yes {n d sp : Int} {l : List UInt8} {F : List Fr} (hF : OfText n d sp l F) {r i : Nat} (h : frD n d sp l r i ∈ F) : ownR F n r i = some (chunkL l i) := by
  have hp := pay_yes (k := 68) (s := n) (r := r) (i := i) (g := frD n d sp l r i) F (fun f hf hfit => by
    obtain ⟨r', i', _, _, rfl⟩ := hF f hf
    obtain ⟨rfl, rfl⟩ := frD_fits.1 hfit
    rfl) ⟨_, h, frD_fits.2 ⟨rfl, rfl⟩⟩
  have hl := chunk_le l i
  have hs := frD_len n d sp l r i
  rw [own_in hp ⟨by show (0 : Int) ≤ ((chunkL l i).length : Int); omega, by rw [hs]; show ((chunkL l i).length : Int) ≤ _; omega⟩]
  show some ((padL (chunkL l i)).take ((chunkL l i).length : Int).toNat) = _
  rw [Int.toNat_natCast, padL, List.take_append_of_le_length (Nat.le_refl _), List.take_length]
theorem own_no {n d sp : Int} {l : List UInt8} {F : List Fr} (hF : OfText n d sp l F) {r : Int} {i : Nat} (h : ∀ r' : Nat, (r' : Int) = r → frD n d sp l r' i ∉ F) : ownR F n r i = none := by
  refine own_err (pay_no (k := 68) F fun f hf hfit => ?_)
  obtain ⟨r', i', _, _, rfl⟩ := hF f hf
  obtain ⟨_, _, h1, h2⟩ := hfit
  have h2 : (i' : Int) = (i : Int) := h2
  obtain rfl : i' = i := by omega
  exact h r' h1 hf
theorem fold_two {n d sp : Int} {l : List UInt8} {F : List Fr} (hF : OfText n d sp l F) (i : Nat) : ∀ k, (foldS F n i k = some none ∧ ∀ r, r < k → frD n d sp l r i ∉ F) ∨ foldS F n i k = some (some (chunkL l i))
  | 0 => .inl ⟨rfl, fun r h => absurd h (Nat.not_lt_zero _)⟩
  | k + 1 => by
    by_cases h : frD n d sp l k i ∈ F
    · right
      have ho := own_yes hF h
      rcases fold_two hF i k with ⟨h1, _⟩ | h1
      · rw [foldS, h1, ho]; rfl
      · rw [foldS, h1, ho]
        show (if isB (chunkL l i = chunkL l i) then _ else _) = _
        rw [isB_yes rfl]; rfl
    · have ho : ownR F n (k : Int) i = none := own_no hF fun r' hr => by
        obtain rfl : r' = k := by omega
        exact h
      rcases fold_two hF i k with ⟨h1, h2⟩ | h1
      · refine .inl ⟨by rw [foldS, h1, ho]; rfl, fun r hr => ?_⟩
        by_cases e : r = k
        · subst e; exact h
        · exact h2 r (by omega)
      · exact .inr (by rw [foldS, h1, ho]; rfl)
theorem part_here {n d sp : Int} {l : List UInt8} {F : List Fr} (hF : OfText n d sp l F) {i : Nat} (h : ∃ r : Nat, frD n d sp l r i ∈ F) (fm : Int) : partR F n fm i = some (chunkL l i) := by
  by_cases hm : ∃ r : Nat, (r : Int) = fm ∧ frD n d sp l r i ∈ F
  · obtain ⟨r, rfl, hr⟩ := hm
    exact part_own (own_yes hF hr)
  · rw [part_fold (own_no hF fun r hr hf => hm ⟨r, hr, hf⟩)]
    rcases fold_two hF i 15 with ⟨_, h2⟩ | h1
    · obtain ⟨r, hr⟩ := h
      obtain ⟨r', i', h3, _, he⟩ := hF _ hr
      have h4 : (r : Int) = (r' : Int) := congrArg Fr.reel he
      exact absurd hr (h2 r (by omega))
    · rw [h1]
theorem chunks_take (l : List UInt8) (k : Nat) : l.take (28 * (k + 1)) = l.take (28 * k) ++ chunkL l k := by
  rw [show 28 * (k + 1) = 28 * k + 28 from by omega, List.take_add]; rfl
theorem parts_all {n d sp : Int} {l : List UInt8} {F : List Fr} (hF : OfText n d sp l F) {fm : Int} : ∀ k, (∀ i, i < k → ∃ r : Nat, frD n d sp l r i ∈ F) → partsR F n fm k = some (l.take (28 * k))
  | 0, _ => rfl
  | k + 1, h => by
    rw [parts_next (parts_all hF k fun i hi => h i (by omega)) (part_here hF (h k (by omega)) fm), chunks_take]
/-- a text whose parts are all there -/
theorem text_all {n d sp : Int} {l : List UInt8} {F : List Fr} (hF : OfText n d sp l F) (hl : lenR l = .ok (l.length : Int)) (h : ∀ i, i < cntP l.length → ∃ r : Nat, frD n d sp l r i ∈ F) (fm : Int) : textR F n fm = some l := by
  have h8 : 8 ≤ l.length := (lenR_ok.1 hl).1
  have hc := cntP_bd l.length
  have h0 := part_here hF (h 0 (by omega)) fm
  rw [text_end (k := cntP l.length) h0 (len_chunk hl) (by omega) (by omega) (by omega) (parts_all hF _ h), List.take_of_length_le (by omega), if_pos rfl]
theorem goD_all {F : List Fr} {s : Int} {root t : List UInt8} (h : ∀ fm : Int, textR F s fm = some t) (ha : isB (AccR t s root) = true) : goD F s root 15 = some t := goD_yes (r := 0) (by decide) (h _) ha
theorem goD_refused {F : List Fr} {s : Int} {root t : List UInt8} (h : ∀ fm : Int, textR F s fm = some t) (ha : isB (AccR t s root) = false) : ∀ k, goD F s root k = none
  | 0 => rfl
  | k + 1 => by rw [goD, h]; simp only [ha]; exact goD_refused h ha k
end Go.Proofs.YtpkapcijgldhhaaGreatDoor

namespace Go.Proofs.YtpkapcijgldhhaaGreatDoor
theorem framesN_mem {n d sp : Int} {l : List UInt8} {R : Nat} {f : Fr} (h : f ∈ framesN n d sp l R) : ∃ r i : Nat, r < R ∧ i < cntP l.length ∧ f = frD n d sp l r i := by
  unfold framesN at h
  obtain ⟨r, hr, hf⟩ := List.mem_flatMap.1 h
  unfold rowD at hf
  obtain ⟨i, hi, rfl⟩ := List.mem_map.1 hf
  exact ⟨r, i, List.mem_range.1 hr, List.mem_range.1 hi, rfl⟩
theorem ofText_of {n d sp : Int} {l : List UInt8} {R : Nat} (hR : R ≤ 15) {F : List Fr} (hF : ∀ f ∈ F, f ∈ framesN n d sp l R) : OfText n d sp l F := fun f hf => by
  obtain ⟨r, i, h1, h2, h3⟩ := framesN_mem (hF f hf)
  exact ⟨r, i, by omega, h2, h3⟩
end Go.Proofs.YtpkapcijgldhhaaGreatDoor
