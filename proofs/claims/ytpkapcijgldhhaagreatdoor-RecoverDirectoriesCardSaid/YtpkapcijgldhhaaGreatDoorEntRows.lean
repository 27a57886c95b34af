/-
  Rows of structs: slices of attributes and of extents in memory.
-/
import Derived.Test.YtpkapcijgldhhaaGreatDoorPathR
import Derived.Deep.MidRow
namespace Go.Proofs.YtpkapcijgldhhaaGreatDoor
open Go.RowKit Go.Shelf

section
variable {α : Type}
/-- n cells for each element: element i begins at o + i * n -/
def GAt (n : Nat) (f : α → List Value) (d : α) (w : World) (b o : Nat) (L : List α) : Prop := ∀ i, i < L.length → w.rangeAt b (o + i * n) (f (L.getD i d))
theorem GAt.below {n m : Nat} {f : α → List Value} {d : α} {A B : World} {b o : Nat} {L : List α} (h : GAt n f d A b o L) (hb : Below m A B) (hm : b < m) : GAt n f d B b o L :=
  fun i hi j v hv => (hb.cell (p := ⟨b, o + i * n + j, none⟩) hm).trans (h i hi j v hv)
def GRow (n : Nat) (f : α → List Value) (d : α) (w : World) (v : Value) (L : List α) : Prop :=
  L.length ≤ maxLen ∧ ((L = [] ∧ ∃ a cap, v = .slice a 0 cap ∧ (a = none → cap = 0)) ∨ (0 < L.length ∧ ∃ b o cap, v = .slice (some ⟨b, o, none⟩) L.length cap ∧ L.length ≤ cap ∧ cap ≤ maxLen ∧ b < w.heap.size ∧ GAt n f d w b o L))
theorem GRow.below {n : Nat} {f : α → List Value} {d : α} {w w' : World} {v : Value} {L : List α} (h : GRow n f d w v L) (hb : Below w.heap.size w w') : GRow n f d w' v L := by
  obtain ⟨h1, h2⟩ := h
  refine ⟨h1, ?_⟩
  rcases h2 with h2 | ⟨h2, b, o, cap, h3, h4, h5, h6, h7⟩
  · exact .inl h2
  · exact .inr ⟨h2, b, o, cap, h3, h4, h5, Nat.lt_of_lt_of_le h6 hb.size, h7.below hb h6⟩
theorem GRow.nil {n : Nat} {f : α → List Value} {d : α} (w : World) : GRow n f d w (.slice none 0 0) [] := ⟨Nat.zero_le _, .inl ⟨rfl, none, 0, rfl, fun _ => rfl⟩⟩
theorem GRow.form {n : Nat} {f : α → List Value} {d : α} {w : World} {v : Value} {L : List α} (h : GRow n f d w v L) : ∃ a cap, v = .slice a L.length cap := by
  rcases h.2 with ⟨rfl, a, cap, h, _⟩ | ⟨_, b, o, cap, h, _⟩
  · exact ⟨a, cap, h⟩
  · exact ⟨_, cap, h⟩
/-- a slice of the call's own -/
def OwnG (base : Nat) (T : TypeId) (n : Nat) (f : α → List Value) (w : World) (v : Value) (L : List α) : Prop := w.ownsRow base T n v L.length (L.flatMap f)
theorem gflat_get {n : Nat} {f : α → List Value} {d : α} (hf : ∀ x, (f x).length = n) (L : List α) : ∀ i j v, i < L.length → (f (L.getD i d))[j]? = some v → (L.flatMap f)[i * n + j]? = some v := by
  induction L with
  | nil => intro i j v h; exact absurd h (Nat.not_lt_zero _)
  | cons c L ih =>
    intro i j v hi hv
    rw [List.flatMap_cons]
    cases i with
    | zero =>
      have hj : j < n := by have := (List.getElem?_eq_some_iff.1 hv).1; rwa [hf] at this
      rw [List.getElem?_append_left (by rw [hf]; omega), Nat.zero_mul, Nat.zero_add]
      simpa using hv
    | succ i =>
      have e : (i + 1) * n + j = n + (i * n + j) := by rw [Nat.succ_mul]; omega
      rw [List.getElem?_append_right (by rw [hf]; omega), hf, e, Nat.add_sub_cancel_left]
      exact ih i j v (by simpa using hi) (by simpa using hv)
theorem OwnG.row {base : Nat} {T : TypeId} {n : Nat} {f : α → List Value} {d : α} (hf : ∀ x, (f x).length = n) {w : World} {v : Value} {L : List α} (h : OwnG base T n f w v L) : GRow n f d w v L := by
  have h' := h
  rcases h.2 with ⟨rfl, h0⟩ | ⟨g, cap, cur, rfl, _, hg, hl, hm, hcs, htk⟩
  · have : L = [] := List.eq_nil_of_length_eq_zero h0
    subst this; exact GRow.nil w
  · by_cases h0 : 0 < L.length
    · refine ⟨Nat.le_trans hl hm, .inr ⟨h0, g, 0, cap, rfl, hl, hm, (Array.getElem?_eq_some_iff.1 hg).1, fun i hi j u hu => ?_⟩⟩
      have := World.ownsRow.cells h' (g := g) rfl (i * n + j) u (gflat_get hf L i j u hi hu)
      rw [Addr.add_mid, Nat.zero_add] at this
      rw [Nat.zero_add]; exact this
    · have : L = [] := List.eq_nil_of_length_eq_zero (by omega)
      subst this
      exact ⟨Nat.zero_le _, .inl ⟨rfl, _, cap, rfl, fun e => by cases e⟩⟩
end

/-! attributes -/
def At.vals (x : At) : List Value := [.string x.key, .string x.value]
def AtAt (w : World) (b o : Nat) (A : List At) : Prop := GAt 2 At.vals at0 w b o A
def AtRow (w : World) (v : Value) (A : List At) : Prop := GRow 2 At.vals at0 w v A
theorem atCells {w : World} {b o : Nat} {A : List At} (h : AtAt w b o A) {i : Nat} (hi : i < A.length) :
    w.cell? ⟨b, o + i * 2, none⟩ = some (.string (atAt A i).key) ∧ w.cell? ⟨b, o + i * 2 + 1, none⟩ = some (.string (atAt A i).value) := ⟨h i hi 0 _ rfl, h i hi 1 _ rfl⟩
structure AtOk (x : At) : Prop where
  key : x.key.size ≤ 1000000
  value : x.value.size ≤ 1000000
/-! extents -/
def Ex.vals (x : Ex) : List Value := [.int .i64 x.s, .int .i64 x.o, .int .i64 x.l]
def ExAt (w : World) (b o : Nat) (X : List Ex) : Prop := GAt 3 Ex.vals ex0 w b o X
def ExRow (w : World) (v : Value) (X : List Ex) : Prop := GRow 3 Ex.vals ex0 w v X
theorem exCells {w : World} {b o : Nat} {X : List Ex} (h : ExAt w b o X) {i : Nat} (hi : i < X.length) :
    w.cell? ⟨b, o + i * 3, none⟩ = some (.int .i64 (exAt X i).s) ∧ w.cell? ⟨b, o + i * 3 + 1, none⟩ = some (.int .i64 (exAt X i).o) ∧ w.cell? ⟨b, o + i * 3 + 2, none⟩ = some (.int .i64 (exAt X i).l) := ⟨h i hi 0 _ rfl, h i hi 1 _ rfl, h i hi 2 _ rfl⟩
structure ExOk (x : Ex) : Prop where
  s : -9223372036854775808 ≤ x.s ∧ x.s ≤ 9223372036854775807
  o : -9223372036854775808 ≤ x.o ∧ x.o ≤ 9223372036854775807
  l : -9223372036854775808 ≤ x.l ∧ x.l ≤ 9223372036854775807
/-! entries -/
structure EnOk (e : En) : Prop where
  kind : -9223372036854775808 ≤ e.kind ∧ e.kind ≤ 9223372036854775807
  path : e.path.size ≤ 1000000
  attrs : e.attrs.length ≤ 1000000 ∧ ∀ i, AtOk (atAt e.attrs i)
  target : e.target.size ≤ 1000000
  size : -9223372036854775808 ≤ e.size ∧ e.size ≤ 9223372036854775807
  digest : e.digest.size ≤ 1000000
  exts : e.exts.length ≤ 1000000 ∧ ∀ i, ExOk (exAt e.exts i)
def En.vals (e : En) (va vx : Value) : List Value := [.int .i64 e.kind, .string e.path, va, .string e.target, .int .i64 e.size, .string e.digest, vx]
/-- the value of an entry, as a struct -/
def enV (e : En) (va vx : Value) : Value := .agg #[.int .i64 e.kind, .string e.path, va, .string e.target, .int .i64 e.size, .string e.digest, vx]
/-- a block that holds given cells of type T -/
def Box (W : World) (B : Nat) (cs : List Value) (T : TypeId) : Prop := W.heap[B]? = some (.cells cs.toArray T (0, 0))
theorem Box.lt {W : World} {B : Nat} {cs : List Value} {T : TypeId} (h : Box W B cs T) : B < W.heap.size := (Array.getElem?_eq_some_iff.1 h).1
theorem Box.new (W : World) (cs : List Value) (T : TypeId) : Box (W.alloc (.cells cs.toArray T)) W.heap.size cs T := heap_alloc_new W _
theorem Box.below {W W' : World} {B : Nat} {cs : List Value} {T : TypeId} (h : Box W B cs T) (hb : Below W.heap.size W W') : Box W' B cs T := (hb.block B h.lt).trans h
theorem Box.below' {W W' : World} {B n : Nat} {cs : List Value} {T : TypeId} (h : Box W B cs T) (hb : Below n W W') (hn : B < n) : Box W' B cs T := (hb.block B hn).trans h
theorem Box.cell {W : World} {B : Nat} {cs : List Value} {T : TypeId} (h : Box W B cs T) (j : Nat) : W.cell? ⟨B, j, none⟩ = cs[j]? := by
  unfold World.cell?
  rw [show W.heap[B]? = _ from h]; simp
theorem Box.frozen {W : World} {B : Nat} {cs : List Value} {T : TypeId} (h : Box W B cs T) (j : Nat) : W.frozen? ⟨B, j, none⟩ = false := by
  unfold World.frozen?
  rw [show W.heap[B]? = _ from h]; simp
end Go.Proofs.YtpkapcijgldhhaaGreatDoor
