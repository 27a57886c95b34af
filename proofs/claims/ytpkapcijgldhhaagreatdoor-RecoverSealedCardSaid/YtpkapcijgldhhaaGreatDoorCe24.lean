/-
  The walk of the reference's decodeHead.
  The walk of the reference's check of an entry.
  The walk of the reference's Decode.
  Rows of entries in memory; a reader's state, whatever its type.
  Sessions: bounds, errors are not zero, what the laws of chapter 40 need besides. Plain.
  The walks of the length of a directory text and of the checks of a session's fields.
  The walks of Parts, the program's and the reference's.
  Chapter 40: what its laws say, plainly.
  Frames of a directory text, and what is restored of them. Plain.
-/
import Derived.Test.YtpkapcijgldhhaaGreatDoorCe22
import Derived.Test.YtpkapcijgldhhaaGreatDoorCe23
import Derived.Deep.RegionLaw
import Derived.Deep.Cut
import Derived.Deep.CutRange
import Derived.Deep.CutBlock
import Derived.BigRegion
import Derived.Test.YtpkapcijgldhhaaGreatDoorCe12
import Derived.Test.YtpkapcijgldhhaaGreatDoorCe13
import Derived.Test.YtpkapcijgldhhaaGreatDoorCe14
import Derived.Test.YtpkapcijgldhhaaGreatDoorCe19
namespace Go.Proofs.YtpkapcijgldhhaaGreatDoor
open Go.RowKit Go.Shelf
/-- how far a row of M has come -/
def RowSt {α : Type} (f : Int → Except Int (α × Int)) (b0 : Int) (M k : Nat) (A : List α) : Except Int Int → Prop
  | .ok b => rowR f b0 k = .ok (A, b)
  | .error x => rowR f b0 M = .error x
def h3 (w : World) (s : ByteArray) : World := ((w.alloc (.cells #[.int .i64 0, .string ⟨#[]⟩, .slice none 0 0, .string ⟨#[]⟩, .int .i64 0, .string ⟨#[]⟩, .slice none 0 0] 109)).alloc (.cells #[.string s, .int .i64 0, .int .i64 0] 233)).alloc (.cells #[.int .i64 0, .string ⟨#[]⟩, .slice none 0 0, .string ⟨#[]⟩, .int .i64 0, .string ⟨#[]⟩, .slice none 0 0] 109)
theorem RSt.keepE {W W' : World} {R B : Nat} {s : ByteArray} {st : Except Int Int} (h : RSt W R s st) (hb : Below B W W') (hR : R < B) : RSt W' R s st := by
  cases st with
  | ok a => exact Box.below' h hb hR
  | error x => obtain ⟨h1, a, h2⟩ := h; exact ⟨h1, a, Box.below' h2 hb hR⟩
theorem RSt.setOther {W : World} {R E j : Nat} {s : ByteArray} {st : Except Int Int} (h : RSt W R s st) (hne : E ≠ R) (v : Value) : RSt (W.setCell ⟨E, j, none⟩ v) R s st := by
  cases st with
  | ok a => exact Box.setOther h hne v
  | error x => obtain ⟨h1, a, h2⟩ := h; exact ⟨h1, a, Box.setOther h2 hne v⟩
/-- the error's cell -/
def errOf : Except Int Int → Int
  | .ok _ => 0
  | .error x => x
theorem RSt.err {W : World} {R : Nat} {s : ByteArray} {st : Except Int Int} (h : RSt W R s st) : W.cell? ⟨R, 2, none⟩ = some (.int .i64 (errOf st)) ∧ W.frozen? ⟨R, 2, none⟩ = false := by
  cases st with
  | ok a => exact ⟨Box.cell h 2, Box.frozen h 2⟩
  | error x => obtain ⟨h1, a, h2⟩ := h; exact ⟨Box.cell h2 2, Box.frozen h2 2⟩
end Go.Proofs.YtpkapcijgldhhaaGreatDoor

namespace Go.Proofs.YtpkapcijgldhhaaGreatDoor
open Go.RowKit Go.Shelf

theorem Box.cells7 {W : World} {D : Nat} {v0 v1 v2 v3 v4 v5 v6 : Value} {T : TypeId} (h : Box W D [v0, v1, v2, v3, v4, v5, v6] T) :
    W.cell? ⟨D, 0, none⟩ = some v0 ∧ W.cell? ⟨D, 1, none⟩ = some v1 ∧ W.cell? ⟨D, 2, none⟩ = some v2 ∧ W.cell? ⟨D, 3, none⟩ = some v3 ∧ W.cell? ⟨D, 4, none⟩ = some v4 ∧ W.cell? ⟨D, 5, none⟩ = some v5 ∧ W.cell? ⟨D, 6, none⟩ = some v6 :=
  ⟨h.cell 0, h.cell 1, h.cell 2, h.cell 3, h.cell 4, h.cell 5, h.cell 6⟩
end Go.Proofs.YtpkapcijgldhhaaGreatDoor

namespace Go.Proofs.YtpkapcijgldhhaaGreatDoor
open Go.RowKit Go.Shelf

theorem decA_decR (s : ByteArray) (a : Int) : decA s a = dc1 s.data.toList (txt s.data.toList a) := by
  rw [← decR_steps, decA]
  split
  · rename_i h
    have h2 : txt s.data.toList a = .error 1 := by
      unfold txt
      rw [rdStr_arg (by have hl : s.data.toList.length = s.size := rfl; omega)]
      rfl
    rw [decR_steps, h2]; rfl
  · rfl
theorem box1' (w : World) (c1 : List Value) (T1 : TypeId) : Below w.heap.size w (w.alloc (.cells c1.toArray T1)) ∧ Box (w.alloc (.cells c1.toArray T1)) w.heap.size c1 T1 :=
  ⟨(below_refl w).alloc (Nat.le_refl _) _, Box.new w c1 T1⟩
theorem boxes2' (w : World) (c1 c2 : List Value) (T1 T2 : TypeId) :
    Below w.heap.size w ((w.alloc (.cells c1.toArray T1)).alloc (.cells c2.toArray T2)) ∧ Box ((w.alloc (.cells c1.toArray T1)).alloc (.cells c2.toArray T2)) w.heap.size c1 T1 ∧ Box ((w.alloc (.cells c1.toArray T1)).alloc (.cells c2.toArray T2)) (w.heap.size + 1) c2 T2 := by
  have h1 := Box.new w c1 T1
  have s1 := size_one w (.cells c1.toArray T1)
  have k1 : Below w.heap.size w (w.alloc (.cells c1.toArray T1)) := (below_refl w).alloc (Nat.le_refl _) _
  have h2 := Box.new (w.alloc (.cells c1.toArray T1)) c2 T2
  have k2 : Below (w.alloc (.cells c1.toArray T1)).heap.size (w.alloc (.cells c1.toArray T1)) ((w.alloc (.cells c1.toArray T1)).alloc (.cells c2.toArray T2)) := (below_refl _).alloc (Nat.le_refl _) _
  rw [s1] at h2
  exact ⟨step2 k1 k2, h1.below k2, h2⟩
theorem Box.froz7 {W : World} {D : Nat} {cs : List Value} {T : TypeId} (h : Box W D cs T) : W.frozen? ⟨D, 0, none⟩ = false ∧ W.frozen? ⟨D, 1, none⟩ = false ∧ W.frozen? ⟨D, 2, none⟩ = false ∧ W.frozen? ⟨D, 3, none⟩ = false ∧ W.frozen? ⟨D, 4, none⟩ = false ∧ W.frozen? ⟨D, 5, none⟩ = false ∧ W.frozen? ⟨D, 6, none⟩ = false :=
  ⟨h.frozen 0, h.frozen 1, h.frozen 2, h.frozen 3, h.frozen 4, h.frozen 5, h.frozen 6⟩
end Go.Proofs.YtpkapcijgldhhaaGreatDoor

namespace Go.Proofs.YtpkapcijgldhhaaGreatDoor
open Go.RowKit Go.Shelf

/-- an entry with its two slices -/
structure ER where
  e : En
  va : Value
  vx : Value
def ER.vals (x : ER) : List Value := x.e.vals x.va x.vx
def er0 : ER := ⟨en0, .slice none 0 0, .slice none 0 0⟩
theorem er_len (x : ER) : x.vals.length = 7 := rfl
def EnRow (w : World) (v : Value) (X : List En) : Prop := ∃ L : List ER, L.map ER.e = X ∧ GRow 7 ER.vals er0 w v L ∧ ∀ x ∈ L, AtRow w x.va x.e.attrs ∧ ExRow w x.vx x.e.exts
theorem EnRow.below {w w' : World} {v : Value} {X : List En} (h : EnRow w v X) (hb : Below w.heap.size w w') : EnRow w' v X := by
  obtain ⟨L, h1, h2, h3⟩ := h
  exact ⟨L, h1, h2.below hb, fun x hx => ⟨(h3 x hx).1.below hb, (h3 x hx).2.below hb⟩⟩
theorem EnRow.nil (w : World) : EnRow w (.slice none 0 0) [] := ⟨[], rfl, GRow.nil w, fun x hx => by cases hx⟩
theorem EnRow.form {w : World} {v : Value} {X : List En} (h : EnRow w v X) : ∃ a c, v = .slice a X.length c := by
  obtain ⟨L, rfl, h2, _⟩ := h
  obtain ⟨a, c, e⟩ := h2.form
  exact ⟨a, c, by rw [e, List.length_map]⟩
theorem EnRow.len {w : World} {v : Value} {X : List En} (h : EnRow w v X) : X.length ≤ 9223372036854775807 := by
  obtain ⟨L, rfl, h2, _⟩ := h
  have := h2.1
  unfold maxLen at this
  rw [List.length_map]; exact this
theorem EnRow.get {w : World} {a : Option Addr} {c : Nat} {X : List En} (h : EnRow w (.slice a X.length c) X) {i : Nat} (hi : i < X.length) :
    ∃ b o va vx, a = some ⟨b, o, none⟩ ∧ b < w.heap.size ∧ AtRow w va (enAt X i).attrs ∧ ExRow w vx (enAt X i).exts ∧ w.rangeAt b (o + i * 7) ((enAt X i).vals va vx) := by
  obtain ⟨L, rfl, h2, h3⟩ := h
  rw [List.length_map] at hi h2
  have he : enAt (L.map ER.e) i = (L[i]).e := by rw [enAt_get (by rw [List.length_map]; exact hi), List.getElem_map]
  rcases h2.2 with ⟨rfl, _⟩ | ⟨_, b, o, cap, ev, _, _, hb, hG⟩
  · exact absurd hi (Nat.not_lt_zero _)
  · cases ev
    have hg := hG i hi
    rw [List.getD_eq_getElem?_getD, List.getElem?_eq_getElem hi] at hg
    have h4 := h3 L[i] (List.getElem_mem hi)
    rw [he]
    exact ⟨b, o, L[i].va, L[i].vx, rfl, hb, h4.1, h4.2, hg⟩
theorem en_cells {w : World} {b o : Nat} {e : En} {va vx : Value} (h : w.rangeAt b o (e.vals va vx)) :
    w.cell? ⟨b, o, none⟩ = some (.int .i64 e.kind) ∧ w.cell? ⟨b, o + 1, none⟩ = some (.string e.path) ∧ w.cell? ⟨b, o + 2, none⟩ = some va ∧ w.cell? ⟨b, o + 3, none⟩ = some (.string e.target) ∧ w.cell? ⟨b, o + 4, none⟩ = some (.int .i64 e.size) ∧ w.cell? ⟨b, o + 5, none⟩ = some (.string e.digest) ∧ w.cell? ⟨b, o + 6, none⟩ = some vx :=
  ⟨h 0 _ rfl, h 1 _ rfl, h 2 _ rfl, h 3 _ rfl, h 4 _ rfl, h 5 _ rfl, h 6 _ rfl⟩
/-- a row of entries of the call's own -/
def OwnA (base : Nat) (w : World) (x : ER) : Prop := OwnG base 192 2 At.vals w x.va x.e.attrs ∧ OwnG base 34 3 Ex.vals w x.vx x.e.exts
def OwnEn (base : Nat) (w : World) (v : Value) (X : List En) : Prop := ∃ L : List ER, L.map ER.e = X ∧ OwnG base 109 7 ER.vals w v L ∧ ∀ x ∈ L, OwnA base w x
theorem OwnA.row {base : Nat} {w : World} {x : ER} (h : OwnA base w x) : AtRow w x.va x.e.attrs ∧ ExRow w x.vx x.e.exts :=
  ⟨OwnG.row (n := 2) (f := At.vals) (d := at0) (fun _ => rfl) h.1, OwnG.row (n := 3) (f := Ex.vals) (d := ex0) (fun _ => rfl) h.2⟩
theorem OwnEn.row {base : Nat} {w : World} {v : Value} {X : List En} (h : OwnEn base w v X) : EnRow w v X := by
  obtain ⟨L, h1, h2, h3⟩ := h
  exact ⟨L, h1, OwnG.row (n := 7) (f := ER.vals) (d := er0) er_len h2, fun x hx => (h3 x hx).row⟩
theorem OwnEn.nil (base : Nat) (w : World) : OwnEn base w (.slice none 0 0) [] := ⟨[], rfl, World.ownsRow_nil _ _ _ _, fun x hx => by cases hx⟩
theorem OwnA.keep {base R : Nat} {w w' : World} {x : ER} (h : OwnA base w x) (hk : Keep R w w') (hR : R < base) : OwnA base w' x := ⟨owns_keep h.1 hk hR, owns_keep h.2 hk hR⟩
theorem OwnEn.keep {base R : Nat} {w w' : World} {v : Value} {X : List En} (h : OwnEn base w v X) (hk : Keep R w w') (hR : R < base) : OwnEn base w' v X := by
  obtain ⟨L, h1, h2, h3⟩ := h
  exact ⟨L, h1, owns_keep h2 hk hR, fun x hx => (h3 x hx).keep hk hR⟩
theorem OwnA.below {base : Nat} {w w' : World} {x : ER} (h : OwnA base w x) (hb : Below w.heap.size w w') : OwnA base w' x := ⟨owns_below h.1 hb, owns_below h.2 hb⟩
theorem OwnEn.below {base : Nat} {w w' : World} {v : Value} {X : List En} (h : OwnEn base w v X) (hb : Below w.heap.size w w') : OwnEn base w' v X := by
  obtain ⟨L, h1, h2, h3⟩ := h
  exact ⟨L, h1, owns_below h2 hb, fun x hx => (h3 x hx).below hb⟩
theorem OwnA.mono {base base' : Nat} {w : World} {x : ER} (h : OwnA base w x) (hb : base' ≤ base) : OwnA base' w x := ⟨owns_mono h.1 hb, owns_mono h.2 hb⟩
theorem OwnEn.mono {base base' : Nat} {w : World} {v : Value} {X : List En} (h : OwnEn base w v X) (hb : base' ≤ base) : OwnEn base' w v X := by
  obtain ⟨L, h1, h2, h3⟩ := h
  exact ⟨L, h1, owns_mono h2 hb, fun x hx => (h3 x hx).mono hb⟩
/-- stores below the base do no harm -/
theorem owns_setLow {w : World} {base : Nat} {e : TypeId} {size : Nat} {v : Value} {n : Nat} {xs : List Value} (h : w.ownsRow base e size v n xs) {E j : Nat} (hE : E < base) (u : Value) : (w.setCell ⟨E, j, none⟩ u).ownsRow base e size v n xs := by
  refine ⟨h.1, h.2.imp id fun ⟨g, cap, cur, e1, e2, hg, r⟩ => ⟨g, cap, cur, e1, e2, ?_, r⟩⟩
  simp only [World.setCell, Array.getElem?_modify]
  rw [if_neg (by omega)]; exact hg
theorem OwnEn.setLow {base : Nat} {w : World} {v : Value} {X : List En} (h : OwnEn base w v X) {E j : Nat} (hE : E < base) (u : Value) : OwnEn base (w.setCell ⟨E, j, none⟩ u) v X := by
  obtain ⟨L, h1, h2, h3⟩ := h
  exact ⟨L, h1, owns_setLow h2 hE u, fun x hx => ⟨owns_setLow (h3 x hx).1 hE u, owns_setLow (h3 x hx).2 hE u⟩⟩
theorem OwnEn.drew {base : Nat} {w : World} {v : Value} {X : List En} (h : OwnEn base w v X) : OwnEn base w.drew v X := h
theorem OwnEn.form {base : Nat} {w : World} {v : Value} {X : List En} (h : OwnEn base w v X) : ∃ a c, v = .slice a X.length c := h.row.form

/-! ### a reader: its string, the index or the error -/
def RS (T : TypeId) (W : World) (R : Nat) (s : ByteArray) : Except Int Int → Prop
  | .ok a => Box W R [.string s, .int .i64 a, .int .i64 0] T
  | .error x => x ≠ 0 ∧ ∃ a : Int, Box W R [.string s, .int .i64 a, .int .i64 x] T
theorem RS.keepE {T : TypeId} {W W' : World} {R B : Nat} {s : ByteArray} {st : Except Int Int} (h : RS T W R s st) (hb : Below B W W') (hR : R < B) : RS T W' R s st := by
  cases st with
  | ok a => exact Box.below' h hb hR
  | error x => obtain ⟨h1, a, h2⟩ := h; exact ⟨h1, a, Box.below' h2 hb hR⟩
theorem RS.setOther {T : TypeId} {W : World} {R E j : Nat} {s : ByteArray} {st : Except Int Int} (h : RS T W R s st) (hne : E ≠ R) (v : Value) : RS T (W.setCell ⟨E, j, none⟩ v) R s st := by
  cases st with
  | ok a => exact Box.setOther h hne v
  | error x => obtain ⟨h1, a, h2⟩ := h; exact ⟨h1, a, Box.setOther h2 hne v⟩
theorem RS.err {T : TypeId} {W : World} {R : Nat} {s : ByteArray} {st : Except Int Int} (h : RS T W R s st) : W.cell? ⟨R, 2, none⟩ = some (.int .i64 (errOf st)) ∧ W.frozen? ⟨R, 2, none⟩ = false := by
  cases st with
  | ok a => exact ⟨Box.cell h 2, Box.frozen h 2⟩
  | error x => obtain ⟨h1, a, h2⟩ := h; exact ⟨Box.cell h2 2, Box.frozen h2 2⟩
theorem RS.lt {T : TypeId} {W : World} {R : Nat} {s : ByteArray} {st : Except Int Int} (h : RS T W R s st) : R < W.heap.size := by
  cases st with
  | ok a => exact Box.lt h
  | error x => obtain ⟨h1, a, h2⟩ := h; exact h2.lt
def TxtS (T : TypeId) (r : Except Int (List UInt8 × Int)) (s : ByteArray) (R : Nat) (W : World) (e : Ending) (W' : World) : Prop := e = .returned (.string (bA' (stStr r))) ∧ RS T W' R s (stAt r) ∧ Keep R W W'
def NumS (T : TypeId) (r : Except Int (Int × Int)) (s : ByteArray) (R : Nat) (W : World) (e : Ending) (W' : World) : Prop := e = .returned (.int .i64 (stNum r)) ∧ RS T W' R s (stAt r) ∧ Keep R W W'
def stEn : Except Int (En × Int) → En
  | .ok p => p.1
  | .error _ => en0
def EntS (T : TypeId) (r : Except Int (En × Int)) (s : ByteArray) (R : Nat) (W : World) (e : Ending) (W' : World) : Prop := ∃ va vx, e = .returned (enV (stEn r) va vx) ∧ OwnA W.heap.size W' ⟨stEn r, va, vx⟩ ∧ RS T W' R s (stAt r) ∧ Keep R W W'
theorem decA_dec (s : ByteArray) (a : Int) : decA s a = decR s.data.toList a := by rw [decA_decR, decR_steps]
end Go.Proofs.YtpkapcijgldhhaaGreatDoor

namespace Go.Proofs.YtpkapcijgldhhaaGreatDoor
open Go.RowKit Go.Shelf

theorem nz_dirR (l : List UInt8) : NZ (dirR l) := by
  have hL : NZ (lenR l) := nz_ite (NZ.err (by decide)) (nz_ite (NZ.ok _) (NZ.err (by decide)))
  have hC : ∀ a, NZ (cnt4 l a) := fun a => nz_bind (nz_nmb l a) fun _ => nz_ite (NZ.err (by decide)) (nz_ite (NZ.err (by decide)) (NZ.ok _))
  have hF : ∀ x a, NZ (finR l x a) := fun x a => by
    unfold finR
    split
    · split
      · exact NZ.ok _
      · exact NZ.err ‹_›
    · exact NZ.err (by decide)
  refine nz_bind hL fun n => nz_ite (NZ.err (by decide)) (nz_ite (NZ.err (by decide)) ?_)
  exact nz_bind (nz_nmb l _) fun _ => nz_bind (nz_nmb l _) fun _ => nz_bind (nz_txt l _) fun _ => nz_bind (nz_nmb l _) fun _ => nz_bind (nz_txt l _) fun _ => nz_bind (hC _) fun _ => nz_bind (nz_rowR (nz_decR l) _ _) fun _ => nz_bind (nz_txt l _) fun _ => hF _ _
end Go.Proofs.YtpkapcijgldhhaaGreatDoor

namespace Go.Proofs.YtpkapcijgldhhaaGreatDoor
open Go.RowKit Go.Shelf

def stInt : Except Int Int → Int
  | .ok n => n
  | .error _ => 0
def LenP (r : Except Int Int) (w : World) (e : Ending) (w' : World) : Prop := e = .returned (.tuple #[.int .i64 (stInt r), .int .i64 (errOf r)]) ∧ w = w'
theorem take_byte (s : ByteArray) (k : Nat) (h : k < s.size) : s.data.toList.take (k + 1) = s.data.toList.take k ++ [s[k]] := by
  rw [List.take_succ_eq_append_getElem (by simpa using h)]; rfl
theorem val_bd (l : List UInt8) (h : l.all isDig = true) : val l < 10 ^ l.length := (dg_of l.length l rfl h).2
theorem lenR_short {l : List UInt8} (h : l.length < 8) : lenR l = .error 4 := by unfold lenR; rw [if_pos h]
theorem lenR_bad {l : List UInt8} {k : Nat} (h : ¬ l.length < 8) (hk : k < 8) (hd : (l.take (k + 1)).all isDig = false) : lenR l = .error 3 := by
  unfold lenR
  rw [if_neg h, if_neg]
  intro h2
  have h3 : (l.take (k + 1)).all isDig = true := by
    rw [List.all_eq_true] at h2 ⊢
    intro x hx
    refine h2 x ?_
    have : l.take (k + 1) = (l.take 8).take (k + 1) := by rw [List.take_take, Nat.min_eq_left (by omega)]
    rw [this] at hx
    exact List.mem_of_mem_take hx
  rw [h3] at hd; cases hd
theorem lenR_good {l : List UInt8} (h : ¬ l.length < 8) (hd : (l.take 8).all isDig = true) : lenR l = .ok (val (l.take 8) + 8 : Nat) := by unfold lenR; rw [if_neg h, if_pos hd]
theorem byte_step {s : ByteArray} {k : Nat} (h : k < s.size) (hd : (s.data.toList.take k).all isDig = true) :
    (s.data.toList.take (k + 1)).all isDig = decide (48 ≤ s[k].toNat ∧ s[k].toNat ≤ 57) ∧ val (s.data.toList.take (k + 1)) = 10 * val (s.data.toList.take k) + (s[k].toNat - 48) := by
  rw [take_byte s k h]
  refine ⟨?_, by rw [val, valFrom_snoc]; rfl⟩
  rw [List.all_append, hd, Bool.true_and]; simp [isDig]
set_option maxHeartbeats 1000000 in
theorem length_any (s : ByteArray) (w : World) (hs : s.size ≤ 9223372036854775807) : Calls Tryz.prog 59 #[.string s] w (LenP (lenR s.data.toList) w) := by
  have hl : s.data.toList.length = s.size := rfl
  by_cases h8 : s.size < 8
  · have HR := Lib.hid (lenR_short (l := s.data.toList) h8)
    go_enter Tryz.func59, Tryz.ntmps59
    go_wp2_with fail
    go_ret2
    rw [HR.out]
    exact ⟨rfl, rfl⟩
  have HB := Lib.hid (fun (k : Nat) hk hd => lenR_bad (l := s.data.toList) (k := k) h8 hk hd)
  have HG := Lib.hid (lenR_good (l := s.data.toList) h8)
  go_enter Tryz.func59, Tryz.ntmps59
  go_wp2_with fail
  go_loop [4, 5, 9] (fun n _ i => ∃ (k m : Nat), k ≤ 8 ∧ i = .int .i64 k ∧ n = .int .i64 m ∧ m < 100000000 ∧ Hid (m = val (s.data.toList.take k)) ∧ Hid ((s.data.toList.take k).all isDig = true)) (fun _ _ i => 8 - (intOf i).toNat)
  case atStart => exact ⟨0, 0, by omega, rfl, rfl, by omega, rfl, rfl⟩
  case round =>
    obtain ⟨k, m, hk, rfl, rfl, hm8, hm, hd⟩ := hrel
    by_cases hlt : k < 8
    · have hks : k < s.size := by omega
      obtain ⟨b1, b2⟩ := byte_step hks hd.out
      have hcb : s[k].toNat < 256 := s[k].toNat_lt
      have B1 := Lib.hid b1
      have B2 := Lib.hid b2
      clear b1 b2
      by_cases g1 : (s[k].toNat : Int) < 48
      · have HR := Lib.hid (HB.out k hlt (by rw [B1.out]; exact decide_eq_false (by omega)))
        go_wp2_with fail
        go_ret2
        rw [HR.out]
        exact ⟨rfl, rfl⟩
      by_cases g2 : 57 < (s[k].toNat : Int)
      · have HR := Lib.hid (HB.out k hlt (by rw [B1.out]; exact decide_eq_false (by omega)))
        go_wp2_with fail
        go_ret2
        rw [HR.out]
        exact ⟨rfl, rfl⟩
      have hd2 : Hid ((s.data.toList.take (k + 1)).all isDig = true) := by rw [Hid, B1.out]; exact decide_eq_true (by omega)
      have hm2 : Hid (10 * m + (s[k].toNat - 48) = val (s.data.toList.take (k + 1))) := by rw [Hid, B2.out, hm.out]
      have hb2 : 10 * m + (s[k].toNat - 48) < 100000000 := by
        rw [hm2.out]
        have h1 := val_bd _ hd2.out
        rw [List.length_take] at h1
        have h2 : (10 : Nat) ^ min (k + 1) s.data.toList.length ≤ 10 ^ 8 := Nat.pow_le_pow_right (by decide) (by omega)
        omega
      go_wp2_with fail
      go_round
      case rel => exact ⟨k + 1, 10 * m + (s[k].toNat - 48), by omega, by go_num, by congr 1; omega, hb2, hm2, hd2⟩
      case measure => simp [intOf]; omega
    · obtain rfl : k = 8 := by omega
      have HR := Lib.hid (HG.out hd.out)
      rw [← hm.out] at HR
      go_wp2_with fail
      go_ret2
      rw [HR.out]
      exact ⟨by congr 2; simp [stInt, errOf]; omega, rfl⟩
/-- the zero session -/
def zeroS : List Value := [.int .i64 0, .int .i64 0, .string ⟨#[]⟩, .slice none 0 0, .string ⟨#[]⟩, .string ⟨#[]⟩]
theorem Box.cells6 {W : World} {D : Nat} {v0 v1 v2 v3 v4 v5 : Value} {T : TypeId} (h : Box W D [v0, v1, v2, v3, v4, v5] T) :
    W.cell? ⟨D, 0, none⟩ = some v0 ∧ W.cell? ⟨D, 1, none⟩ = some v1 ∧ W.cell? ⟨D, 2, none⟩ = some v2 ∧ W.cell? ⟨D, 3, none⟩ = some v3 ∧ W.cell? ⟨D, 4, none⟩ = some v4 ∧ W.cell? ⟨D, 5, none⟩ = some v5 :=
  ⟨h.cell 0, h.cell 1, h.cell 2, h.cell 3, h.cell 4, h.cell 5⟩
theorem Box.froz6 {W : World} {D : Nat} {cs : List Value} {T : TypeId} (h : Box W D cs T) : W.frozen? ⟨D, 0, none⟩ = false ∧ W.frozen? ⟨D, 1, none⟩ = false ∧ W.frozen? ⟨D, 2, none⟩ = false ∧ W.frozen? ⟨D, 3, none⟩ = false ∧ W.frozen? ⟨D, 4, none⟩ = false ∧ W.frozen? ⟨D, 5, none⟩ = false :=
  ⟨h.frozen 0, h.frozen 1, h.frozen 2, h.frozen 3, h.frozen 4, h.frozen 5⟩
theorem fields_cases (n d : Int) (p : Nat) : (fieldsE n d p = 2 ∧ (n < 1 ∨ (1 ≤ n ∧ 255 < n) ∨ (1 ≤ n ∧ n ≤ 255 ∧ d < 0) ∨ (1 ≤ n ∧ n ≤ 255 ∧ 0 ≤ d ∧ 1000000000 < d))) ∨ (1 ≤ n ∧ n ≤ 255 ∧ 0 ≤ d ∧ d ≤ 1000000000 ∧ ((fieldsE n d p = 1 ∧ p ≠ 0 ∧ p ≠ 32) ∨ (fieldsE n d p = 0 ∧ p = 0) ∨ (fieldsE n d p = 0 ∧ p = 32))) := by
  unfold fieldsE
  by_cases h : n < 1 ∨ 255 < n ∨ d < 0 ∨ 1000000000 < d
  · rw [if_pos h]; refine .inl ⟨rfl, by omega⟩
  · rw [if_neg h]
    refine .inr ⟨by omega, by omega, by omega, by omega, ?_⟩
    by_cases h2 : p ≠ 0 ∧ p ≠ 32
    · rw [if_pos h2]; exact .inl ⟨rfl, h2⟩
    · rw [if_neg h2]
      by_cases h3 : p = 0
      · exact .inr (.inl ⟨rfl, h3⟩)
      · exact .inr (.inr ⟨rfl, by omega⟩)
theorem empty_size (p : ByteArray) : p.toList.isEmpty = decide (p.size = 0) := by
  rw [isEmpty_list, Bool.eq_iff_iff, List.isEmpty_iff, decide_eq_true_iff]
  exact ⟨fun h => by have := congrArg List.length h; exact this, fun h => List.eq_nil_of_length_eq_zero h⟩
set_option maxRecDepth 100000 in
set_option maxHeartbeats 2000000 in
theorem fields_any (n d : Int) (p : ByteArray) (xa : Option Addr) (m c : Nat) (st sl : ByteArray) (w : World) (_hp : p.size ≤ 9223372036854775807) :
    Calls Tryz.prog 99 #[.agg #[.int .i64 n, .int .i64 d, .string p, .slice xa m c, .string st, .string sl]] w (IntP (fieldsE n d p.size) w) := by
  have hb0 : Below w.heap.size w (w.alloc (.cells #[.int .i64 n, .int .i64 d, .string p, .slice xa m c, .string st, .string sl] 53)) := (below_refl _).alloc (Nat.le_refl _) _
  have hC := Lib.hid (fields_cases n d p.size)
  have hE := empty_size p
  obtain ⟨r, hr⟩ : ∃ r, fieldsE n d p.size = r := ⟨_, rfl⟩
  rw [hr] at hC ⊢
  clear hr
  rcases hC.out with ⟨he, hc⟩ | ⟨g1, g2, g3, g4, hc⟩
  · subst he
    have HC := Lib.hid hc
    clear hC hc hE
    rcases HC.out with k1 | ⟨k1, k2⟩ | ⟨k1, k2, k3⟩ | ⟨k1, k2, k3, k4⟩
    all_goals
      clear HC
      go_enter Tryz.func99, Tryz.ntmps99
      go_wp2_with fail
      go_ret
      exact ⟨rfl, hb0⟩
  · have HC := Lib.hid hc
    clear hC hc
    rcases HC.out with ⟨he, h1, h2⟩ | ⟨he, h1⟩ | ⟨he, h1⟩
    · subst he
      rw [decide_eq_false h1] at hE
      have q1 : ((p.size : Int) == 32) = false := by rw [beq_eq_false_iff_ne]; omega
      have q2 : ((p.size : Int) != 32) = true := by rw [bne_iff_ne]; omega
      clear HC h1 h2
      go_enter Tryz.func99, Tryz.ntmps99
      go_wp2_with fail
      go_ret
      exact ⟨rfl, hb0⟩
    · subst he
      rw [decide_eq_true h1] at hE
      clear HC h1
      go_enter Tryz.func99, Tryz.ntmps99
      go_wp2_with fail
      go_ret
      exact ⟨rfl, hb0⟩
    · subst he
      rw [decide_eq_false (by omega)] at hE
      have q1 : ((p.size : Int) == 32) = true := by rw [beq_iff_eq]; omega
      have q2 : ((p.size : Int) != 32) = false := by rw [bne_eq_false_iff_eq]; omega
      clear HC h1
      go_enter Tryz.func99, Tryz.ntmps99
      go_wp2_with fail
      go_ret
      exact ⟨rfl, hb0⟩
theorem aft_cases (n d : Int) (p : List UInt8) (z : Int) (g : List UInt8) (X : List En) (s : List UInt8) : (fieldsE n d p.length ≠ 0 ∧ aftE ⟨n, d, p, z, g, X, s⟩ = fieldsE n d p.length) ∨ (fieldsE n d p.length = 0 ∧
    ((aftE ⟨n, d, p, z, g, X, s⟩ = 2 ∧ z < 0) ∨ (aftE ⟨n, d, p, z, g, X, s⟩ = 2 ∧ 0 ≤ z ∧ 14680064 < z) ∨ (0 ≤ z ∧ z ≤ 14680064 ∧ ((aftE ⟨n, d, p, z, g, X, s⟩ = 1 ∧ g.length ≠ 32) ∨ (g.length = 32 ∧ ((aftE ⟨n, d, p, z, g, X, s⟩ = 6 ∧ 2000 < s.length) ∨ (aftE ⟨n, d, p, z, g, X, s⟩ = 0 ∧ s.length ≤ 2000))))))) := by
  unfold aftE
  dsimp only
  by_cases h : fieldsE n d p.length = 0
  · rw [if_pos h]
    refine .inr ⟨h, ?_⟩
    by_cases h1 : z < 0
    · rw [if_pos (.inl h1)]; exact .inl ⟨rfl, h1⟩
    by_cases h2 : 14680064 < z
    · rw [if_pos (.inr h2)]; exact .inr (.inl ⟨rfl, by omega, h2⟩)
    rw [if_neg (by omega)]
    refine .inr (.inr ⟨by omega, by omega, ?_⟩)
    by_cases h3 : g.length ≠ 32
    · rw [if_pos h3]; exact .inl ⟨rfl, h3⟩
    rw [if_neg h3]
    refine .inr ⟨by omega, ?_⟩
    by_cases h4 : 2000 < s.length
    · rw [if_pos h4]; exact .inl ⟨rfl, h4⟩
    · rw [if_neg h4]; exact .inr ⟨rfl, by omega⟩
  · rw [if_neg h]; exact .inl ⟨h, rfl⟩
end Go.Proofs.YtpkapcijgldhhaaGreatDoor

namespace Go.Proofs.YtpkapcijgldhhaaGreatDoor
open Go.RowKit Go.Shelf

def chunkL (l : List UInt8) (k : Nat) : List UInt8 := (l.drop (28 * k)).take 28
def cntP (n : Nat) : Nat := (n + 27) / 28
def partsK (l : List UInt8) (k : Nat) : List ByteArray := (List.range k).map fun i => bA' (chunkL l i)
def partsB (s : ByteArray) : List ByteArray := partsK s.data.toList (cntP s.size)
theorem partsK_length (l : List UInt8) (k : Nat) : (partsK l k).length = k := by simp [partsK]
theorem partsK_succ (l : List UInt8) (k : Nat) : partsK l (k + 1) = partsK l k ++ [bA' (chunkL l k)] := by
  unfold partsK; rw [List.range_succ, List.map_append]; rfl
theorem partsK_get (l : List UInt8) {k i : Nat} (h : i < k) : (partsK l k)[i]? = some (bA' (chunkL l i)) := by
  unfold partsK; rw [List.getElem?_map, List.getElem?_range h]; rfl
theorem cntP_bd (n : Nat) : n ≤ 28 * cntP n ∧ 28 * cntP n < n + 28 := by unfold cntP; omega
def PartsP (s : ByteArray) (w : World) (e : Ending) (w' : World) : Prop := ∃ v, e = .returned v ∧ OwnStrs w.heap.size w' v (partsB s) ∧ Below w.heap.size w w'
theorem bA'_ext {b : ByteArray} {l : List UInt8} (h : b.data.toList = l) : b = bA' l := by rw [← h, bA'_of]
set_option maxRecDepth 100000 in
set_option maxHeartbeats 2000000 in
theorem rparts_any (s : ByteArray) (w : World) (hs : s.size ≤ 1000000) : Calls Tryz.prog 24 #[.string s] w (PartsP s w) := by
  obtain ⟨i0, hi, hz0, hz1, hz2⟩ := info_parts infoStr
  have HK := Lib.hid (cntP_bd s.size)
  have HP : Hid (partsB s = partsK s.data.toList (cntP s.size)) := rfl
  have hkb := HK.out
  generalize cntP s.size = K at *
  go_enter Tryz.func24, Tryz.ntmps24
  go_wp2_with fail
  go_loopw [3, 4, 5] (fun v i _ wr => ∃ k : Nat, k ≤ K ∧ i = .int .i64 ((28 * k : Nat) : Int) ∧
      OwnStrs w.heap.size wr v (partsK s.data.toList k) ∧ Below w.heap.size w wr) (fun _ i _ _ => s.size + 28 - (intOf i).toNat)
  case atStart => exact ⟨0, by omega, rfl, World.ownsRow_made w #[] 0 (Nat.le_refl _) (by decide) rfl, (below_refl _).alloc (Nat.le_refl _) _⟩
  case round =>
    obtain ⟨k, hk, rfl, hown, hbw⟩ := hrel
    have hown0 : wr.ownsRow w.heap.size 9 1 _ (partsK s.data.toList k).length ((partsK s.data.toList k).map Value.string) := hown
    rw [partsK_length] at hown0
    clear hown
    by_cases hlt : 28 * k < s.size
    · have hkK : k < K := by omega
      have hx : Hid (s.extract (28 * k) (min (28 * k + 28) s.size) = bA' (chunkL s.data.toList k)) := bA'_ext (by
        rw [extract_list]; unfold chunkL
        have hl : s.data.toList.length = s.size := rfl
        rcases Nat.le_total (28 * k + 28) s.size with h | h
        · rw [Nat.min_eq_left h]; congr 1; omega
        · rw [Nat.min_eq_right h, List.take_of_length_le (by rw [List.length_drop]; omega), List.take_of_length_le (by rw [List.length_drop]; omega)])
      have hm1 : 28 * k ≤ min (28 * k + 28) s.size := by omega
      have hm2 : min (28 * k + 28) s.size ≤ s.size := by omega
      have HM1 := Lib.hid (show 28 * k + 28 ≤ s.size → min (28 * k + 28) s.size = 28 * k + 28 from fun h => Nat.min_eq_left h)
      have HM2 := Lib.hid (show s.size < 28 * k + 28 → min (28 * k + 28) s.size = s.size from fun h => Nat.min_eq_right (by omega))
      generalize min (28 * k + 28) s.size = m at *
      go_upto_if 18 with (fail)
      go_cut [5] from 18 to 20 (fun v wc => wr = wc ∧ v = .int .i64 (m : Int))
      case first =>
        by_cases h28 : s.size < 28 * k + 28
        · have hm := Lib.hid (HM2.out h28)
          go_wp2_with fail
          go_meet
          exact ⟨rfl, by rw [hm.out]⟩
        · have hm := Lib.hid (HM1.out (by omega))
          go_wp2_with fail
          go_meet
          exact ⟨rfl, by rw [hm.out]; rfl⟩
      obtain ⟨rfl, rfl⟩ := hcut
      go_wp2_with (at_builtin; refine wpList_append_own _ rfl _ _ 57 rfl w.heap.size 9 i0 (.string ⟨#[]⟩) 1 16 Tryz.underlying57 hi hz0 hz1 hz2 rfl (by decide) _ _ _ rfl (hown0.alloc _) ⟨wr.heap.size, 0, none⟩ 1 1 [.string (s.extract (28 * k) m)] rfl rfl ?c1 ?c2 ?c3 ?c4 ?c5 ?_)
      case c1 => exact cell_one_new _ _ _
      case c2 => simp [Value.oneCell']
      case c3 => unfold maxLen; omega
      case c4 => omega
      case c5 => have := hbw.size; simp; omega
      intro v' w2 hown2 hgrow2 _
      have hbw2 : Below w.heap.size w w2 := below_grownBy (hbw.alloc (by have := hbw.size; omega) _) (hown0.alloc _) hgrow2 (by have := hbw.size; simp; omega)
      have hown3 : OwnStrs w.heap.size w2 v' (partsK s.data.toList (k + 1)) := by
        unfold OwnStrs
        rw [partsK_length, partsK_succ, List.map_append]
        rw [hx.out] at hown2
        simpa using hown2
      clear hown2 hgrow2 hown0 hi hz0 hz1 hz2 hx
      go_wp2_with fail
      go_roundw
      case rel => exact ⟨k + 1, by omega, by go_num, hown3, hbw2⟩
      case measure => simp [intOf]; omega
    · have hkK : k = K := by omega
      have hown3 : OwnStrs w.heap.size wr u3 (partsB s) := by
        unfold OwnStrs
        rw [HP.out, ← hkK, partsK_length]; exact hown0
      clear hown0 hi hz0 hz1 hz2
      go_wp2_with fail
      go_ret
      exact ⟨_, rfl, hown3, hbw⟩
end Go.Proofs.YtpkapcijgldhhaaGreatDoor

namespace Go.Proofs.YtpkapcijgldhhaaGreatDoor
open Go.RowKit Go.Shelf
def De.se (x : De) : Se := ⟨x.number, x.date, bA' x.prev, x.entries, ⟨#[]⟩, bA' x.sl⟩
end Go.Proofs.YtpkapcijgldhhaaGreatDoor

namespace Go.Proofs.YtpkapcijgldhhaaGreatDoor
/-- the payload of 28 bytes that begins with t -/
def padL (t : List UInt8) : List UInt8 := t ++ List.replicate (28 - t.length) 0
theorem padL_length {t : List UInt8} (h : t.length ≤ 28) : (padL t).length = 28 := by unfold padL; rw [List.length_append, List.length_replicate]; omega
theorem chunk_le (l : List UInt8) (i : Nat) : (chunkL l i).length ≤ 28 := by unfold chunkL; rw [List.length_take]; omega
/-- the frame of a directory text at a position -/
def frD (n d sp : Int) (l : List UInt8) (r i : Nat) : Fr := ⟨68, r, n, i, (chunkL l i).length, d, sp, 1, bA' (padL (chunkL l i))⟩
end Go.Proofs.YtpkapcijgldhhaaGreatDoor
