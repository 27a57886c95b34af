/-
  The walks of Parts, the program's and the reference's.
  Chapter 40: what its laws say, plainly.
  Frames of a directory text, and what is restored of them. Plain.
  The frames that are left, and the set of their indices. Plain.
  The frame at a position, in the reference.
  The part of a directory at a position, in the reference.
  The part of a directory, from a reel or from the others, in the reference.
-/
import Derived.Test.YtpkapcijgldhhaaGreatDoorCa22
import Derived.Test.YtpkapcijgldhhaaGreatDoorCa32
import Derived.Test.YtpkapcijgldhhaaGreatDoorCa30
import Derived.Maps.Views
import Derived.Test.YtpkapcijgldhhaaGreatDoorCa31
import Derived.Test.YtpkapcijgldhhaaGreatDoorCa13
import Derived.Test.YtpkapcijgldhhaaGreatDoorCa20
namespace Go.Proofs.YtpkapcijgldhhaaGreatDoor
open Go.RowKit Go.Shelf

def chunkL (l : List UInt8) (k : Nat) : List UInt8 := (l.drop (28 * k)).take 28
def cntP (n : Nat) : Nat := (n + 27) / 28
def partsK (l : List UInt8) (k : Nat) : List ByteArray := (List.range k).map fun i => bA' (chunkL l i)
def partsB (s : ByteArray) : List ByteArray := partsK s.data.toList (cntP s.size)
theorem partsK_length (l : List UInt8) (k : Nat) : (partsK l k).length = k := by simp [partsK]
theorem partsK_succ (l : List UInt8) (k : Nat) : partsK l (k + 1) = partsK l k ++ [bA' (chunkL l k)] := by
  unfold partsK; rw [List.range_succ, List.map_append]; rfl
theorem partsK_get (l : List UInt8) {k i : Nat} (h : i < k) : (partsK l k)[i]? = some (bA' (chunkL l i)) := by
  unfold partsK; rw [List.getElem?_map, List.getElem?_range h]; rfl
theorem cntP_bd (n : Nat) : n ≤ 28 * cntP n ∧ 28 * cntP n < n + 28 := by unfold cntP; omega
def PartsP (s : ByteArray) (w : World) (e : Ending) (w' : World) : Prop := ∃ v, e = .returned v ∧ OwnStrs w.heap.size w' v (partsB s) ∧ Below w.heap.size w w'
theorem bA'_ext {b : ByteArray} {l : List UInt8} (h : b.data.toList = l) : b = bA' l := by rw [← h, bA'_of]
set_option maxRecDepth 100000 in
set_option maxHeartbeats 2000000 in
theorem rparts_any (s : ByteArray) (w : World) (hs : s.size ≤ 1000000) : Calls Tryz.prog 24 #[.string s] w (PartsP s w) := by
  obtain ⟨i0, hi, hz0, hz1, hz2⟩ := info_parts infoStr
  have HK := Lib.hid (cntP_bd s.size)
  have HP : Hid (partsB s = partsK s.data.toList (cntP s.size)) := rfl
  have hkb := HK.out
  generalize cntP s.size = K at *
  go_enter Tryz.func24, Tryz.ntmps24
  go_wp2_with fail
  go_loopw [3, 4, 5] (fun v i _ wr => ∃ k : Nat, k ≤ K ∧ i = .int .i64 ((28 * k : Nat) : Int) ∧
      OwnStrs w.heap.size wr v (partsK s.data.toList k) ∧ Below w.heap.size w wr) (fun _ i _ _ => s.size + 28 - (intOf i).toNat)
  case atStart => exact ⟨0, by omega, rfl, World.ownsRow_made w #[] 0 (Nat.le_refl _) (by decide) rfl, (below_refl _).alloc (Nat.le_refl _) _⟩
  case round =>
    obtain ⟨k, hk, rfl, hown, hbw⟩ := hrel
    have hown0 : wr.ownsRow w.heap.size 9 1 _ (partsK s.data.toList k).length ((partsK s.data.toList k).map Value.string) := hown
    rw [partsK_length] at hown0
    clear hown
    by_cases hlt : 28 * k < s.size
    · have hkK : k < K := by omega
      have hx : Hid (s.extract (28 * k) (min (28 * k + 28) s.size) = bA' (chunkL s.data.toList k)) := bA'_ext (by
        rw [extract_list]; unfold chunkL
        have hl : s.data.toList.length = s.size := rfl
        rcases Nat.le_total (28 * k + 28) s.size with h | h
        · rw [Nat.min_eq_left h]; congr 1; omega
        · rw [Nat.min_eq_right h, List.take_of_length_le (by rw [List.length_drop]; omega), List.take_of_length_le (by rw [List.length_drop]; omega)])
      have hm1 : 28 * k ≤ min (28 * k + 28) s.size := by omega
      have hm2 : min (28 * k + 28) s.size ≤ s.size := by omega
      have HM1 := Lib.hid (show 28 * k + 28 ≤ s.size → min (28 * k + 28) s.size = 28 * k + 28 from fun h => Nat.min_eq_left h)
      have HM2 := Lib.hid (show s.size < 28 * k + 28 → min (28 * k + 28) s.size = s.size from fun h => Nat.min_eq_right (by omega))
      generalize min (28 * k + 28) s.size = m at *
      go_upto_if 18 with (fail)
      go_cut [5] from 18 to 20 (fun v wc => wr = wc ∧ v = .int .i64 (m : Int))
      case first =>
        by_cases h28 : s.size < 28 * k + 28
        · have hm := Lib.hid (HM2.out h28)
          go_wp2_with fail
          go_meet
          exact ⟨rfl, by rw [hm.out]⟩
        · have hm := Lib.hid (HM1.out (by omega))
          go_wp2_with fail
          go_meet
          exact ⟨rfl, by rw [hm.out]; rfl⟩
      obtain ⟨rfl, rfl⟩ := hcut
      go_wp2_with (at_builtin; refine wpList_append_own _ rfl _ _ 57 rfl w.heap.size 9 i0 (.string ⟨#[]⟩) 1 16 Tryz.underlying57 hi hz0 hz1 hz2 rfl (by decide) _ _ _ rfl (hown0.alloc _) ⟨wr.heap.size, 0, none⟩ 1 1 [.string (s.extract (28 * k) m)] rfl rfl ?c1 ?c2 ?c3 ?c4 ?c5 ?_)
      case c1 => exact cell_one_new _ _ _
      case c2 => simp [Value.oneCell']
      case c3 => unfold maxLen; omega
      case c4 => omega
      case c5 => have := hbw.size; simp; omega
      intro v' w2 hown2 hgrow2 _
      have hbw2 : Below w.heap.size w w2 := below_grownBy (hbw.alloc (by have := hbw.size; omega) _) (hown0.alloc _) hgrow2 (by have := hbw.size; simp; omega)
      have hown3 : OwnStrs w.heap.size w2 v' (partsK s.data.toList (k + 1)) := by
        unfold OwnStrs
        rw [partsK_length, partsK_succ, List.map_append]
        rw [hx.out] at hown2
        simpa using hown2
      clear hown2 hgrow2 hown0 hi hz0 hz1 hz2 hx
      go_wp2_with fail
      go_roundw
      case rel => exact ⟨k + 1, by omega, by go_num, hown3, hbw2⟩
      case measure => simp [intOf]; omega
    · have hkK : k = K := by omega
      have hown3 : OwnStrs w.heap.size wr u3 (partsB s) := by
        unfold OwnStrs
        rw [HP.out, ← hkK, partsK_length]; exact hown0
      clear hown0 hi hz0 hz1 hz2
      go_wp2_with fail
      go_ret
      exact ⟨_, rfl, hown3, hbw⟩
end Go.Proofs.YtpkapcijgldhhaaGreatDoor

namespace Go.Proofs.YtpkapcijgldhhaaGreatDoor
open Go.RowKit Go.Shelf
def De.se (x : De) : Se := ⟨x.number, x.date, bA' x.prev, x.entries, ⟨#[]⟩, bA' x.sl⟩
theorem len_read {l : List UInt8} {x : De} (h : dirR l = .ok x) : lenR l = .ok l.length := by
  unfold dirR at h
  rcases hr : lenR l with e | n
  · rw [hr] at h; cases h
  · rw [hr] at h
    change (if (l.length : Int) < n then _ else if n < l.length then _ else bodyR l) = _ at h
    split at h
    · cases h
    split at h
    · cases h
    congr 1; omega
theorem len_chunk {l : List UInt8} {n : Int} (h : lenR l = .ok n) : lenR (chunkL l 0) = .ok n := by
  obtain ⟨h1, h2, h3⟩ := lenR_ok.1 h
  have e : (chunkL l 0).take 8 = l.take 8 := by unfold chunkL; rw [Nat.mul_zero, List.drop_zero]; exact lenR_prefix (by decide)
  refine lenR_ok.2 ⟨?_, by rw [e]; exact h2, by rw [e]; exact h3⟩
  unfold chunkL
  rw [Nat.mul_zero, List.drop_zero, List.length_take]; omega
end Go.Proofs.YtpkapcijgldhhaaGreatDoor

namespace Go.Proofs.YtpkapcijgldhhaaGreatDoor
/-- the payload of 28 bytes that begins with t -/
def padL (t : List UInt8) : List UInt8 := t ++ List.replicate (28 - t.length) 0
theorem padL_length {t : List UInt8} (h : t.length ≤ 28) : (padL t).length = 28 := by unfold padL; rw [List.length_append, List.length_replicate]; omega
theorem chunk_le (l : List UInt8) (i : Nat) : (chunkL l i).length ≤ 28 := by unfold chunkL; rw [List.length_take]; omega
/-- the frame of a directory text at a position -/
def frD (n d sp : Int) (l : List UInt8) (r i : Nat) : Fr := ⟨68, r, n, i, (chunkL l i).length, d, sp, 1, bA' (padL (chunkL l i))⟩
theorem frD_len (n d sp : Int) (l : List UInt8) (r i : Nat) : (frD n d sp l r i).payload.size = 28 := by show (padL (chunkL l i)).length = 28; exact padL_length (chunk_le l i)
/-- at most one frame fits -/
theorem pay_some {k s r i : Int} {g : Fr} : ∀ (F : List Fr), (∀ f ∈ F, fits k s r i f → f = g) → payR k s r i (some g) F = .ok g
  | [], _ => rfl
  | f :: F, h => by
    rw [payR]
    by_cases hf : fits k s r i f
    · have he := h f List.mem_cons_self hf
      subst he
      rw [isB_yes hf, if_pos rfl, isB_yes rfl, if_pos rfl]
      exact pay_some F fun x hx => h x (List.mem_cons_of_mem _ hx)
    · rw [isB_no hf, if_neg (by decide)]
      exact pay_some F fun x hx => h x (List.mem_cons_of_mem _ hx)
theorem pay_yes {k s r i : Int} {g : Fr} : ∀ (F : List Fr), (∀ f ∈ F, fits k s r i f → f = g) → (∃ f ∈ F, fits k s r i f) → payR k s r i none F = .ok g
  | [], _, ⟨f, hf, _⟩ => by cases hf
  | f :: F, h, hx => by
    rw [payR]
    by_cases hf : fits k s r i f
    · have he := h f List.mem_cons_self hf
      subst he
      rw [isB_yes hf, if_pos rfl]
      exact pay_some F fun x hx => h x (List.mem_cons_of_mem _ hx)
    · rw [isB_no hf, if_neg (by decide)]
      obtain ⟨x, hx, hxf⟩ := hx
      rcases List.mem_cons.1 hx with rfl | hx
      · exact absurd hxf hf
      · exact pay_yes F (fun x hx => h x (List.mem_cons_of_mem _ hx)) ⟨x, hx, hxf⟩
theorem pay_no {k s r i : Int} : ∀ (F : List Fr), (∀ f ∈ F, ¬ fits k s r i f) → payR k s r i none F = .error 19
  | [], _ => rfl
  | f :: F, h => by
    rw [payR, isB_no (h f List.mem_cons_self), if_neg (by decide)]
    exact pay_no F fun x hx => h x (List.mem_cons_of_mem _ hx)
/-- all frames are frames of the text -/
def OfText (n d sp : Int) (l : List UInt8) (F : List Fr) : Prop := ∀ f ∈ F, ∃ r i : Nat, r < 15 ∧ i < cntP l.length ∧ f = frD n d sp l r i
theorem frD_fits {n d sp : Int} {l : List UInt8} {r i r' i' : Nat} : fits 68 n r' i' (frD n d sp l r i) ↔ r = r' ∧ i = i' := by
  unfold fits frD
  constructor
  · rintro ⟨_, _, h1, h2⟩
    exact ⟨Int.ofNat.inj h1, Int.ofNat.inj h2⟩
  · rintro ⟨rfl, rfl⟩
    exact ⟨rfl, rfl, rfl, rfl⟩
theorem own_yes {n d sp : Int} {l : List UInt8} {F : List Fr} (hF : OfText n d sp l F) {r i : Nat} (h : frD n d sp l r i ∈ F) : ownR F n r i = some (chunkL l i) := by
  have hp := pay_yes (k := 68) (s := n) (r := r) (i := i) (g := frD n d sp l r i) F (fun f hf hfit => by
    obtain ⟨r', i', _, _, rfl⟩ := hF f hf
    obtain ⟨rfl, rfl⟩ := frD_fits.1 hfit
    rfl) ⟨_, h, frD_fits.2 ⟨rfl, rfl⟩⟩
  have hl := chunk_le l i
  have hs := frD_len n d sp l r i
  rw [own_in hp ⟨by show (0 : Int) ≤ ((chunkL l i).length : Int); omega, by rw [hs]; show ((chunkL l i).length : Int) ≤ _; omega⟩]
  show some ((padL (chunkL l i)).take ((chunkL l i).length : Int).toNat) = _
  rw [Int.toNat_natCast, padL, List.take_append_of_le_length (Nat.le_refl _), List.take_length]
theorem own_no {n d sp : Int} {l : List UInt8} {F : List Fr} (hF : OfText n d sp l F) {r : Int} {i : Nat} (h : ∀ r' : Nat, (r' : Int) = r → frD n d sp l r' i ∉ F) : ownR F n r i = none := by
  refine own_err (pay_no (k := 68) F fun f hf hfit => ?_)
  obtain ⟨r', i', _, _, rfl⟩ := hF f hf
  obtain ⟨_, _, h1, h2⟩ := hfit
  have h2 : (i' : Int) = (i : Int) := h2
  obtain rfl : i' = i := by omega
  exact h r' h1 hf
theorem fold_two {n d sp : Int} {l : List UInt8} {F : List Fr} (hF : OfText n d sp l F) (i : Nat) : ∀ k, (foldS F n i k = some none ∧ ∀ r, r < k → frD n d sp l r i ∉ F) ∨ foldS F n i k = some (some (chunkL l i))
  | 0 => .inl ⟨rfl, fun r h => absurd h (Nat.not_lt_zero _)⟩
  | k + 1 => by
    by_cases h : frD n d sp l k i ∈ F
    · right
      have ho := own_yes hF h
      rcases fold_two hF i k with ⟨h1, _⟩ | h1
      · rw [foldS, h1, ho]; rfl
      · rw [foldS, h1, ho]
        show (if isB (chunkL l i = chunkL l i) then _ else _) = _
        rw [isB_yes rfl]; rfl
    · have ho : ownR F n (k : Int) i = none := own_no hF fun r' hr => by
        obtain rfl : r' = k := by omega
        exact h
      rcases fold_two hF i k with ⟨h1, h2⟩ | h1
      · refine .inl ⟨by rw [foldS, h1, ho]; rfl, fun r hr => ?_⟩
        by_cases e : r = k
        · subst e; exact h
        · exact h2 r (by omega)
      · exact .inr (by rw [foldS, h1, ho]; rfl)
theorem part_here {n d sp : Int} {l : List UInt8} {F : List Fr} (hF : OfText n d sp l F) {i : Nat} (h : ∃ r : Nat, frD n d sp l r i ∈ F) (fm : Int) : partR F n fm i = some (chunkL l i) := by
  by_cases hm : ∃ r : Nat, (r : Int) = fm ∧ frD n d sp l r i ∈ F
  · obtain ⟨r, rfl, hr⟩ := hm
    exact part_own (own_yes hF hr)
  · rw [part_fold (own_no hF fun r hr hf => hm ⟨r, hr, hf⟩)]
    rcases fold_two hF i 15 with ⟨_, h2⟩ | h1
    · obtain ⟨r, hr⟩ := h
      obtain ⟨r', i', h3, _, he⟩ := hF _ hr
      have h4 : (r : Int) = (r' : Int) := congrArg Fr.reel he
      exact absurd hr (h2 r (by omega))
    · rw [h1]
theorem part_gone {n d sp : Int} {l : List UInt8} {F : List Fr} (hF : OfText n d sp l F) {i : Nat} (h : ∀ r : Nat, frD n d sp l r i ∉ F) (fm : Int) : partR F n fm i = none := by
  rw [part_fold (own_no hF fun r _ => h r)]
  rcases fold_two hF i 15 with ⟨h1, _⟩ | h1
  · rw [h1]
  · exfalso
    have : ∀ k, foldS F n i k = some none := fun k => by
      induction k with
      | zero => rfl
      | succ k ih => rw [foldS, ih, own_no hF fun r _ => h r]; rfl
    rw [this] at h1; cases h1
theorem chunks_take (l : List UInt8) (k : Nat) : l.take (28 * (k + 1)) = l.take (28 * k) ++ chunkL l k := by
  rw [show 28 * (k + 1) = 28 * k + 28 from by omega, List.take_add]; rfl
theorem parts_all {n d sp : Int} {l : List UInt8} {F : List Fr} (hF : OfText n d sp l F) {fm : Int} : ∀ k, (∀ i, i < k → ∃ r : Nat, frD n d sp l r i ∈ F) → partsR F n fm k = some (l.take (28 * k))
  | 0, _ => rfl
  | k + 1, h => by
    rw [parts_next (parts_all hF k fun i hi => h i (by omega)) (part_here hF (h k (by omega)) fm), chunks_take]
/-- a text whose parts are all there -/
theorem text_all {n d sp : Int} {l : List UInt8} {F : List Fr} (hF : OfText n d sp l F) (hl : lenR l = .ok (l.length : Int)) (h : ∀ i, i < cntP l.length → ∃ r : Nat, frD n d sp l r i ∈ F) (fm : Int) : textR F n fm = some l := by
  have h8 : 8 ≤ l.length := (lenR_ok.1 hl).1
  have hc := cntP_bd l.length
  have h0 := part_here hF (h 0 (by omega)) fm
  rw [text_end (k := cntP l.length) h0 (len_chunk hl) (by omega) (by omega) (by omega) (parts_all hF _ h), List.take_of_length_le (by omega), if_pos rfl]
/-- a text of which a part is nowhere -/
theorem text_gone {n d sp : Int} {l : List UInt8} {F : List Fr} (hF : OfText n d sp l F) (hl : lenR l = .ok (l.length : Int)) {i : Nat} (hi : i < cntP l.length) (h : ∀ r : Nat, frD n d sp l r i ∉ F) (fm : Int) : textR F n fm = none := by
  have hc := cntP_bd l.length
  by_cases h0 : ∃ r : Nat, frD n d sp l r 0 ∈ F
  · exact text_miss (part_here hF h0 fm) (len_chunk hl) (k := i) (by omega) (part_gone hF h fm)
  · exact text_none (part_gone hF (i := 0) (fun r hr => h0 ⟨r, hr⟩) fm)
theorem goD_all {F : List Fr} {s : Int} {root t : List UInt8} (h : ∀ fm : Int, textR F s fm = some t) (ha : isB (AccR t s root) = true) : goD F s root 15 = some t := goD_yes (r := 0) (by decide) (h _) ha
theorem goD_lost {F : List Fr} {s : Int} {root : List UInt8} (h : ∀ fm : Int, textR F s fm = none) : ∀ k, goD F s root k = none
  | 0 => rfl
  | k + 1 => by rw [goD, h]; exact goD_lost h k
end Go.Proofs.YtpkapcijgldhhaaGreatDoor

namespace Go.Proofs.YtpkapcijgldhhaaGreatDoor
/-- a frame is left if the list is too short or says so -/
def keepB (L : List Bool) (i : Nat) : Bool := decide (L.length ≤ i) || L.getD i false
def keptF (L : List Bool) (G : List Fr) : Nat → List Fr
  | 0 => []
  | k + 1 => if keepB L k then keptF L G k ++ [frAt G k] else keptF L G k
theorem keptF_yes {L : List Bool} {G : List Fr} {k : Nat} (h : keepB L k = true) : keptF L G (k + 1) = keptF L G k ++ [frAt G k] := by rw [keptF, if_pos h]
theorem keptF_no {L : List Bool} {G : List Fr} {k : Nat} (h : keepB L k = false) : keptF L G (k + 1) = keptF L G k := by rw [keptF, if_neg (by rw [h]; decide)]
theorem keptF_len (L : List Bool) (G : List Fr) : ∀ k, (keptF L G k).length ≤ k
  | 0 => Nat.le_refl _
  | k + 1 => by
    have ih := keptF_len L G k
    rw [keptF]
    split
    · rw [List.length_append]; simp; exact ih
    · omega
theorem keptF_mem {L : List Bool} {G : List Fr} : ∀ {k : Nat}, k ≤ G.length → ∀ f ∈ keptF L G k, f ∈ G
  | 0, _, f, hf => by cases hf
  | k + 1, h, f, hf => by
    rw [keptF] at hf
    split at hf
    · rcases List.mem_append.1 hf with hf | hf
      · exact keptF_mem (by omega) f hf
      · obtain rfl := List.mem_singleton.1 hf
        rw [frAt_get (by omega)]; exact List.getElem_mem _
    · exact keptF_mem (by omega) f hf
/-- the indices below K that are left -/
def leftN (F : List Fr) (K : Nat) : Nat := ((List.range K).filter fun i : Nat => F.any fun f => f.index == (i : Int)).length
theorem filter_new (p : Nat → Bool) (j : Nat) : ∀ K : Nat, (K ≤ j → ((List.range K).filter fun i => p i || i == j).length = ((List.range K).filter p).length) ∧ (j < K → p j = false → ((List.range K).filter fun i => p i || i == j).length = ((List.range K).filter p).length + 1)
  | 0 => ⟨fun _ => rfl, fun h => absurd h (Nat.not_lt_zero _)⟩
  | K + 1 => by
    obtain ⟨h1, h2⟩ := filter_new p j K
    have e : ∀ q : Nat → Bool, ((List.range (K + 1)).filter q).length = ((List.range K).filter q).length + (if q K then 1 else 0) := fun q => by
      rw [List.range_succ, List.filter_append, List.length_append]
      cases h : q K <;> simp [h]
    rw [e, e]
    refine ⟨fun hk => ?_, fun hk hp => ?_⟩
    · rw [h1 (by omega)]
      have : (K == j) = false := by rw [beq_eq_false_iff_ne]; omega
      rw [this, Bool.or_false]
    · by_cases hj : j = K
      · subst hj
        rw [h1 (Nat.le_refl _), hp]; simp
      · rw [h2 (by omega) hp]
        have : (K == j) = false := by rw [beq_eq_false_iff_ne]; omega
        rw [this, Bool.or_false]
        omega
theorem leftN_snoc {F : List Fr} {f : Fr} {K j : Nat} (hf : f.index = (j : Int)) (hj : j < K) : leftN (F ++ [f]) K = if F.any (fun g => g.index == (j : Int)) then leftN F K else leftN F K + 1 := by
  have e : (fun i : Nat => (F ++ [f]).any fun g => g.index == (i : Int)) = fun i : Nat => (F.any fun g => g.index == (i : Int)) || i == j := by
    funext i
    rw [List.any_append]
    congr 1
    simp only [List.any_cons, List.any_nil, Bool.or_false, hf]
    rw [Bool.eq_iff_iff, beq_iff_eq, beq_iff_eq]
    omega
  unfold leftN
  rw [e]
  by_cases h : (F.any fun g => g.index == (j : Int)) = true
  · rw [if_pos h]
    congr 1
    apply List.filter_congr
    intro i _
    by_cases hi : i = j
    · subst hi; rw [h]; rfl
    · have : (i == j) = false := by rw [beq_eq_false_iff_ne]; exact hi
      rw [this, Bool.or_false]
  · rw [if_neg h]
    exact (filter_new (fun i : Nat => F.any fun g => g.index == (i : Int)) j K).2 hj (by simpa using h)
theorem leftN_all {F : List Fr} {K : Nat} : leftN F K = K ↔ ∀ i, i < K → ∃ f ∈ F, f.index = (i : Int) := by
  have h := List.length_filter_eq_length_iff (l := List.range K) (p := fun i : Nat => F.any fun f => f.index == (i : Int))
  rw [List.length_range] at h
  unfold leftN
  rw [h]
  constructor
  · intro h i hi
    have h1 := h i (List.mem_range.2 hi)
    obtain ⟨f, hf, he⟩ := List.any_eq_true.1 h1
    exact ⟨f, hf, by simpa using he⟩
  · intro h i hi
    obtain ⟨f, hf, he⟩ := h i (List.mem_range.1 hi)
    exact List.any_eq_true.2 ⟨f, hf, by simpa using he⟩
/-- the set of the indices -/
def keyI (f : Fr) : Lit := .int .i64 f.index
def setI (F : List Fr) : DataW Unit := Maps.setOf (.lit (.bool true)) (F.map keyI)
theorem setI_snoc (F : List Fr) (f : Fr) : setI (F ++ [f]) = (setI F).put (keyI f) (.lit (.bool true)) := by
  unfold setI; rw [List.map_append]; exact Maps.setOf_snoc _ _ _
theorem keyI_lit (F : List Fr) : ∀ x ∈ F.map keyI, WideAt.IsKeyLit x := fun x hx => by
  obtain ⟨f, _, rfl⟩ := List.mem_map.1 hx
  trivial
theorem setI_size {K : Nat} : ∀ (F : List Fr), (∀ f ∈ F, ∃ j : Nat, j < K ∧ f.index = (j : Int)) → Maps.size (setI F) = leftN F K := by
  have main : ∀ G : List Fr, (∀ f ∈ G.reverse, ∃ j : Nat, j < K ∧ f.index = (j : Int)) → Maps.size (setI G.reverse) = leftN G.reverse K := by
    intro G
    induction G with
    | nil =>
      intro _
      show Maps.size (setI []) = leftN [] K
      have : leftN [] K = 0 := by unfold leftN; simp
      rw [this]; rfl
    | cons f G ih =>
      intro h
      rw [List.reverse_cons] at h ⊢
      have ih := ih fun g hg => h g (List.mem_append.2 (.inl hg))
      obtain ⟨j, hj, hf⟩ := h f (List.mem_append.2 (.inr (List.mem_singleton.2 rfl)))
      have ht : Maps.Tidy (setI G.reverse) := Maps.tidy_setOf _ _ (keyI_lit _)
      rw [setI_snoc, Maps.size_put ht, leftN_snoc hf hj, ih]
      have e : Maps.has (setI G.reverse) (keyI f) = G.reverse.any (fun g => g.index == (j : Int)) := by
        unfold setI
        rw [Maps.has_setOf _ _ _ (keyI_lit _), List.any_map]
        congr 1
        funext g
        show Lit.sameKey (.int .i64 g.index) (.int .i64 f.index) = _
        rw [hf]
        simp only [Lit.sameKey, true_and]
        rw [Bool.eq_iff_iff, beq_iff_eq, decide_eq_true_eq]
      rw [e]
  intro F h
  have := main F.reverse (by rw [List.reverse_reverse]; exact h)
  rwa [List.reverse_reverse] at this
end Go.Proofs.YtpkapcijgldhhaaGreatDoor

namespace Go.Proofs.YtpkapcijgldhhaaGreatDoor
open Go.RowKit Go.Shelf
def put9 (W : World) (B : Nat) (h : Fr) : World := (((((((((W.setCell ⟨B, 0, none⟩ (.int .i64 h.kind)).setCell ⟨B, 1, none⟩ (.int .i64 h.reel)).setCell ⟨B, 2, none⟩ (.int .i64 h.session)).setCell ⟨B, 3, none⟩ (.int .i64 h.index)).setCell ⟨B, 4, none⟩ (.int .i64 h.length)).setCell ⟨B, 5, none⟩ (.int .i64 h.data)).setCell ⟨B, 6, none⟩ (.int .i64 h.spare)).setCell ⟨B, 7, none⟩ (.int .u32 h.archive)).setCell ⟨B, 8, none⟩ (.string h.payload))
theorem Box.put9 {W : World} {B : Nat} {g : Fr} {T : TypeId} (hB : Box W B g.vals T) (h : Fr) : Box (put9 W B h) B h.vals T :=
  (((((((((hB.set (j := 0) (.int .i64 h.kind)).set (j := 1) (.int .i64 h.reel)).set (j := 2) (.int .i64 h.session)).set (j := 3) (.int .i64 h.index)).set (j := 4) (.int .i64 h.length)).set (j := 5) (.int .i64 h.data)).set (j := 6) (.int .i64 h.spare)).set (j := 7) (.int .u32 h.archive)).set (j := 8) (.string h.payload))
theorem below_put9 {n B : Nat} {w W : World} (hb : Below n w W) (hn : n ≤ B) (h : Fr) : Below n w (Go.Proofs.YtpkapcijgldhhaaGreatDoor.put9 W B h) :=
  (((((((((hb.setCell (p := ⟨B, 0, none⟩) hn _).setCell (p := ⟨B, 1, none⟩) hn _).setCell (p := ⟨B, 2, none⟩) hn _).setCell (p := ⟨B, 3, none⟩) hn _).setCell (p := ⟨B, 4, none⟩) hn _).setCell (p := ⟨B, 5, none⟩) hn _).setCell (p := ⟨B, 6, none⟩) hn _).setCell (p := ⟨B, 7, none⟩) hn _).setCell (p := ⟨B, 8, none⟩) hn _)
theorem Box.cells9 {W : World} {D : Nat} {g : Fr} {T : TypeId} (h : Box W D g.vals T) :
    W.cell? ⟨D, 0, none⟩ = some (.int .i64 g.kind) ∧ W.cell? ⟨D, 1, none⟩ = some (.int .i64 g.reel) ∧ W.cell? ⟨D, 2, none⟩ = some (.int .i64 g.session) ∧ W.cell? ⟨D, 3, none⟩ = some (.int .i64 g.index) ∧ W.cell? ⟨D, 4, none⟩ = some (.int .i64 g.length) ∧
    W.cell? ⟨D, 5, none⟩ = some (.int .i64 g.data) ∧ W.cell? ⟨D, 6, none⟩ = some (.int .i64 g.spare) ∧ W.cell? ⟨D, 7, none⟩ = some (.int .u32 g.archive) ∧ W.cell? ⟨D, 8, none⟩ = some (.string g.payload) :=
  ⟨h.cell 0, h.cell 1, h.cell 2, h.cell 3, h.cell 4, h.cell 5, h.cell 6, h.cell 7, h.cell 8⟩
theorem Box.froz9 {W : World} {D : Nat} {cs : List Value} {T : TypeId} (h : Box W D cs T) :
    W.frozen? ⟨D, 0, none⟩ = false ∧ W.frozen? ⟨D, 1, none⟩ = false ∧ W.frozen? ⟨D, 2, none⟩ = false ∧ W.frozen? ⟨D, 3, none⟩ = false ∧ W.frozen? ⟨D, 4, none⟩ = false ∧
    W.frozen? ⟨D, 5, none⟩ = false ∧ W.frozen? ⟨D, 6, none⟩ = false ∧ W.frozen? ⟨D, 7, none⟩ = false ∧ W.frozen? ⟨D, 8, none⟩ = false :=
  ⟨h.frozen 0, h.frozen 1, h.frozen 2, h.frozen 3, h.frozen 4, h.frozen 5, h.frozen 6, h.frozen 7, h.frozen 8⟩
end Go.Proofs.YtpkapcijgldhhaaGreatDoor

namespace Go.Proofs.YtpkapcijgldhhaaGreatDoor
open Go.RowKit Go.Shelf
theorem pay_err {k s r i x : Int} : ∀ (L : List Fr) (st : Option Fr), payR k s r i st L = .error x → x = 19 ∨ x = 20
  | [], none, h => by injection h with h; exact .inl h.symm
  | [], some g, h => by cases h
  | f :: L, none, h => by
    rw [payR] at h
    split at h
    · exact pay_err L _ h
    · exact pay_err L _ h
  | f :: L, some g, h => by
    rw [payR] at h
    split at h
    · split at h
      · exact pay_err L _ h
      · injection h with h; exact .inr h.symm
    · exact pay_err L _ h
theorem take_str (b : ByteArray) (n : Nat) : b.extract 0 n = bA' (b.data.toList.take n) := by
  apply str_inj
  rw [bA'_list]
  simp
end Go.Proofs.YtpkapcijgldhhaaGreatDoor

namespace Go.Proofs.YtpkapcijgldhhaaGreatDoor
open Go.RowKit Go.Shelf
theorem Box.cells2 {W : World} {D : Nat} {v0 v1 : Value} {T : TypeId} (h : Box W D [v0, v1] T) : W.cell? ⟨D, 0, none⟩ = some v0 ∧ W.cell? ⟨D, 1, none⟩ = some v1 := ⟨h.cell 0, h.cell 1⟩
end Go.Proofs.YtpkapcijgldhhaaGreatDoor
