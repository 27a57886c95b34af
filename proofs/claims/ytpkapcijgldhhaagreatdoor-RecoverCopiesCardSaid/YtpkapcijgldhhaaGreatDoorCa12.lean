/-
  The walks of names and of slices.Index at strings; the head's reading, step by step.
-/
import Derived.Test.YtpkapcijgldhhaaGreatDoorCa11
namespace Go.Proofs.YtpkapcijgldhhaaGreatDoor
open Go.RowKit Go.Shelf

def namesB : List ByteArray := [⟨#[102, 105, 108, 101]⟩, ⟨#[100, 105, 114]⟩, ⟨#[108, 105, 110, 107]⟩, ⟨#[114, 101, 109, 111, 118, 101]⟩, ⟨#[104, 111, 108, 100]⟩, ⟨#[114, 101, 108, 101, 97, 115, 101]⟩]
theorem strs_box {W : World} {g : Nat} {L : List ByteArray} {T : TypeId} (h : Box W g (L.map Value.string) T) (hl : L.length ≤ maxLen) : Strs W (.slice (some ⟨g, 0, none⟩) L.length L.length) L := by
  refine ⟨some ⟨g, 0, none⟩, L.length, by rw [List.length_map], by rw [List.length_map]; exact Nat.le_refl _, hl, ?_⟩
  by_cases h0 : L = []
  · subst h0; exact .inl ⟨rfl, fun e => by cases e⟩
  · refine .inr ⟨g, 0, rfl, fun i u hu => ?_⟩
    rw [Nat.zero_add, h.cell i]; exact hu
def NamesQ (w : World) (e : Ending) (w' : World) : Prop := ∃ g, e = .returned (.slice (some ⟨g, 0, none⟩) 6 6) ∧ w.heap.size ≤ g ∧ Box w' g (namesB.map Value.string) 9 ∧ Below w.heap.size w w'
theorem namesQ_any (w : World) : Calls Tryz.prog 181 #[] w (NamesQ w) := by
  have HC := Lib.hid (Box.new w (namesB.map Value.string) 9)
  go_enter Tryz.func181, Tryz.ntmps181
  go_wp2_with fail
  go_ret
  exact ⟨_, rfl, Nat.le_refl _, HC.out, (below_refl _).alloc (Nat.le_refl _) _⟩
/-- where a string stands first -/
def IdxR (l : List ByteArray) (x : ByteArray) (n : Int) : Prop := (∃ j : Nat, n = j ∧ j < l.length ∧ l.getD j ByteArray.empty = x) ∨ (n = -1 ∧ ∀ j, j < l.length → l.getD j ByteArray.empty ≠ x)
def IdxP' (l : List ByteArray) (x : ByteArray) (w : World) (e : Ending) (w' : World) : Prop := ∃ n : Int, e = .returned (.int .i64 n) ∧ Hid (IdxR l x n) ∧ Below w.heap.size w w'
set_option maxRecDepth 100000 in
set_option maxHeartbeats 1000000 in
theorem idx_any (v : Value) (l : List ByteArray) (x : ByteArray) (w : World) (hl : Strs w v l) (hpos : 0 < l.length) :
    Calls Tryz.prog 180 #[v, .string x] w (IdxP' l x w) := by
  obtain ⟨hla, ha'⟩ := row_cases hl
  simp only [List.length_map] at hla ha'
  unfold maxLen at hla
  rcases ha' with ⟨h0', aa, ca, rfl, _⟩ | ⟨h0', ba, oa, ca, rfl, hca, hca2, hcella⟩
  · have hla0 : l = [] := by simpa using h0'
    subst hla0; exact absurd hpos (by decide)
  have Hcella := Lib.hid hcella; clear hcella hl
  go_enter Tryz.func180, Tryz.ntmps180
  go_wp2_with fail
  go_loopw [8] (fun i wr => ∃ k : Nat, k ≤ l.length ∧ i = .int .i64 k ∧ Hid (∀ j, j < k → l.getD j ByteArray.empty ≠ x) ∧ Below w.heap.size w wr) (fun i _ => l.length - (intOf i).toNat)
  case atStart => exact ⟨0, by omega, rfl, fun j hj => absurd hj (Nat.not_lt_zero _), below_refl _⟩
  case round =>
    obtain ⟨k, hk, rfl, hA, hbw⟩ := hrel
    by_cases hlt : k < l.length
    · have c1 : wr.cell? ⟨ba, oa + k, none⟩ = some (.string (l.getD k ByteArray.empty)) := by
        have := Hcella.out k (.string l[k]) (by simp [hlt])
        rw [hbw.cell (World.block_lt_of_cell? w _ this), this, List.getD_eq_getElem?_getD, List.getElem?_eq_getElem hlt]; rfl
      have HY := Lib.hid (show l.getD k ByteArray.empty = x → IdxR l x (k : Int) from fun h => .inl ⟨k, rfl, hlt, h⟩)
      have HN := Lib.hid (show l.getD k ByteArray.empty ≠ x → ∀ j, j < k + 1 → l.getD j ByteArray.empty ≠ x from fun h j hj => by
        by_cases e : j = k
        · rw [e]; exact h
        · exact hA.out j (by omega))
      generalize l.getD k ByteArray.empty = y at *
      by_cases hc : y.data.toList = x.data.toList
      · have q1 : (y.toList == x.toList) = true := by rw [str_eq]; exact decide_eq_true hc
        have q2 : (x.toList == y.toList) = true := by rw [str_eq]; exact decide_eq_true hc.symm
        have HR := Lib.hid (HY.out (list_inj hc))
        clear HY HN hc hA
        go_wp2_with fail
        go_ret
        exact ⟨_, rfl, HR, hbw⟩
      · have q1 : (y.toList == x.toList) = false := by rw [str_eq]; exact decide_eq_false hc
        have q2 : (x.toList == y.toList) = false := by rw [str_eq]; exact decide_eq_false (fun h => hc h.symm)
        have HR := Lib.hid (HN.out fun h => hc (by rw [h]))
        clear HY HN hc hA
        go_wp2_with fail
        go_roundw
        case rel => exact ⟨k + 1, by omega, by go_num, HR, hbw⟩
        case measure => simp [intOf]; omega
    · obtain rfl : k = l.length := by omega
      have HR : Hid (IdxR l x (-1)) := .inr ⟨rfl, hA.out⟩
      go_wp2_with fail
      go_ret
      exact ⟨_, rfl, HR, hbw⟩
theorem idx_kind {x : ByteArray} {n : Int} (h : IdxR namesB x n) : n = kindOf x.data.toList - 1 := by
  rcases h with ⟨j, rfl, hj, rfl⟩ | ⟨rfl, h⟩
  · have : j = 0 ∨ j = 1 ∨ j = 2 ∨ j = 3 ∨ j = 4 ∨ j = 5 := by have : namesB.length = 6 := rfl; omega
    rcases this with rfl | rfl | rfl | rfl | rfl | rfl <;> decide
  · have hk : kindOf x.data.toList = 0 := by
      rcases Classical.em (kindOf x.data.toList = 0) with h0 | h0
      · exact h0
      · exfalso
        obtain ⟨h1, h2⟩ := kindOf_iff.1 ⟨rfl, h0⟩
        have : kindOf x.data.toList = 1 ∨ kindOf x.data.toList = 2 ∨ kindOf x.data.toList = 3 ∨ kindOf x.data.toList = 4 ∨ kindOf x.data.toList = 5 ∨ kindOf x.data.toList = 6 := by omega
        rcases this with e | e | e | e | e | e <;> rw [e] at h2
        · exact h 0 (by decide) (list_inj h2.symm)
        · exact h 1 (by decide) (list_inj h2.symm)
        · exact h 2 (by decide) (list_inj h2.symm)
        · exact h 3 (by decide) (list_inj h2.symm)
        · exact h 4 (by decide) (list_inj h2.symm)
        · exact h 5 (by decide) (list_inj h2.symm)
    rw [hk]; rfl

/-! ### the head's reading, step by step -/
def hd5 (l : List UInt8) (k : Int) (p : List UInt8) (A : List At) : Except Int (List UInt8 × Int) → Except Int Hd
  | .error x => .error x
  | .ok (t, f) => if f = l.length then .ok ⟨k, bA' p, A, bA' t⟩ else .error 3
def hd4 (l : List UInt8) (k : Int) (p : List UInt8) : Except Int (List At × Int) → Except Int Hd
  | .error x => .error x
  | .ok (A, e) => hd5 l k p A (txt l e)
def hd3 (l : List UInt8) (k : Int) (p : List UInt8) : Except Int (Int × Int) → Except Int Hd
  | .error x => .error x
  | .ok (n, d) => hd4 l k p (rowR (atR l) d n.toNat)
def hd2 (l : List UInt8) (k : Int) : Except Int (List UInt8 × Int) → Except Int Hd
  | .error x => .error x
  | .ok (p, c) => hd3 l k p (cnt 400 l c)
def hd1 (l : List UInt8) : Except Int (List UInt8 × Int) → Except Int Hd
  | .error x => .error x
  | .ok (u, b) => if kindOf u = 0 then .error 3 else hd2 l (kindOf u) (txt l b)
theorem headR_steps (l : List UInt8) : headR l = hd1 l (txt l 0) := by
  unfold headR
  cases txt l 0 with
  | error x => rfl
  | ok p =>
    obtain ⟨u, b⟩ := p
    show (if kindOf u = 0 then _ else _) = (if kindOf u = 0 then _ else _)
    split
    · rfl
    · cases txt l b with
      | error x => rfl
      | ok p =>
        obtain ⟨p, c⟩ := p
        show _ = hd3 l _ p (cnt 400 l c)
        simp only [bind, Except.bind]
        cases cnt 400 l c with
        | error x => rfl
        | ok q =>
          obtain ⟨n, d⟩ := q
          show _ = hd4 l _ p (rowR (atR l) d n.toNat)
          simp only
          cases rowR (atR l) d n.toNat with
          | error x => rfl
          | ok q =>
            obtain ⟨A, e⟩ := q
            show _ = hd5 l _ p A (txt l e)
            simp only
            cases txt l e with
            | error x => rfl
            | ok q => obtain ⟨t, f⟩ := q; rfl
theorem rowR_stop {α : Type} {f : Int → Except Int (α × Int)} {a b : Int} {x : Int} {k : Nat} {A : List α} (h : rowR f a k = .ok (A, b)) (hx : f b = .error x) : ∀ n, k < n → rowR f a n = .error x := by
  intro n hn
  induction n with
  | zero => omega
  | succ n ih =>
    rw [rowR]
    by_cases e : k = n
    · subst e; rw [h]; simp only [bind, Except.bind, hx]
    · rw [ih (by omega)]; rfl
theorem rowR_next {α : Type} {f : Int → Except Int (α × Int)} {a b c : Int} {x : α} {k : Nat} {A : List α} (h : rowR f a k = .ok (A, b)) (hx : f b = .ok (x, c)) : rowR f a (k + 1) = .ok (A ++ [x], c) := by
  rw [rowR, h]; simp only [bind, Except.bind, hx]
theorem atR_e1 {l : List UInt8} {a x : Int} (h : txt l a = .error x) : atR l a = .error x := by unfold atR; rw [h]; rfl
theorem atR_e2 {l u : List UInt8} {a b x : Int} (h : txt l a = .ok (u, b)) (h2 : txt l b = .error x) : atR l a = .error x := by unfold atR; rw [h]; simp only [bind, Except.bind, h2]
theorem atR_o {l u v : List UInt8} {a b c : Int} (h : txt l a = .ok (u, b)) (h2 : txt l b = .ok (v, c)) : atR l a = .ok (⟨bA' u, bA' v⟩, c) := by unfold atR; rw [h]; simp only [bind, Except.bind, h2]
end Go.Proofs.YtpkapcijgldhhaaGreatDoor
