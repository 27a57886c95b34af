/-
  The decoding of an entry, step by step: plain.
  The walks of the reference's reader: numbers, texts and counts, up to the first error.
  What is decoded is within bounds: plain.
-/
import Derived.Test.YtpkapcijgldhhaaGreatDoorCa16
import Derived.Deep.QuietTactic
import Derived.BigQuiet
namespace Go.Proofs.YtpkapcijgldhhaaGreatDoor
open Go.RowKit Go.Shelf

def enOf (x : Hd) (z : Int) (g : List UInt8) (X : List Ex) : En := ⟨x.kind, x.path, x.attrs, x.target, z, bA' g, X⟩
def dc7 (y : En) (f : Int) : Except Int (En × Int) := if chkE y = 0 then .ok (y, f) else .error (chkE y)
def dc6 (x : Hd) (z : Int) (g : List UInt8) : Except Int (List Ex × Int) → Except Int (En × Int)
  | .error y => .error y
  | .ok (X, f) => dc7 (enOf x z g X) f
def dc5 (l : List UInt8) (x : Hd) (z : Int) (g : List UInt8) : Except Int (Int × Int) → Except Int (En × Int)
  | .error y => .error y
  | .ok (n, e) => dc6 x z g (rowR (exR l) e n.toNat)
def dc4 (l : List UInt8) (x : Hd) (z : Int) : Except Int (List UInt8 × Int) → Except Int (En × Int)
  | .error y => .error y
  | .ok (g, d) => dc5 l x z g (cnt 65536 l d)
def dc3 (l : List UInt8) (x : Hd) : Except Int (Int × Int) → Except Int (En × Int)
  | .error y => .error y
  | .ok (z, c) => dc4 l x z (txt l c)
def dc2 (l : List UInt8) (b : Int) : Except Int Hd → Except Int (En × Int)
  | .error y => .error y
  | .ok x => dc3 l x (nmb l b)
def dc1 (l : List UInt8) : Except Int (List UInt8 × Int) → Except Int (En × Int)
  | .error y => .error y
  | .ok (h, b) => dc2 l b (headR h)
theorem decR_steps (l : List UInt8) (a : Int) : decR l a = dc1 l (txt l a) := by
  unfold decR
  cases txt l a with
  | error x => rfl
  | ok p =>
    obtain ⟨h, b⟩ := p
    show _ = dc2 l b (headR h)
    simp only [bind, Except.bind]
    cases headR h with
    | error x => rfl
    | ok x =>
      show _ = dc3 l x (nmb l b)
      simp only
      cases nmb l b with
      | error y => rfl
      | ok q =>
        obtain ⟨z, c⟩ := q
        show _ = dc4 l x z (txt l c)
        simp only
        cases txt l c with
        | error y => rfl
        | ok q =>
          obtain ⟨g, d⟩ := q
          show _ = dc5 l x z g (cnt 65536 l d)
          simp only
          cases cnt 65536 l d with
          | error y => rfl
          | ok q =>
            obtain ⟨n, e⟩ := q
            show _ = dc6 x z g (rowR (exR l) e n.toNat)
            simp only
            cases rowR (exR l) e n.toNat with
            | error y => rfl
            | ok q => obtain ⟨X, f⟩ := q; rfl
theorem exR_e1 {l : List UInt8} {a x : Int} (h : nmb l a = .error x) : exR l a = .error x := by unfold exR; rw [h]; rfl
theorem exR_e2 {l : List UInt8} {a b x u : Int} (h : nmb l a = .ok (u, b)) (h2 : nmb l b = .error x) : exR l a = .error x := by unfold exR; rw [h]; simp only [bind, Except.bind, h2]
theorem exR_e3 {l : List UInt8} {a b c x u v : Int} (h : nmb l a = .ok (u, b)) (h2 : nmb l b = .ok (v, c)) (h3 : nmb l c = .error x) : exR l a = .error x := by unfold exR; rw [h]; simp only [bind, Except.bind, h2, h3]
theorem exR_o {l : List UInt8} {a b c d u v t : Int} (h : nmb l a = .ok (u, b)) (h2 : nmb l b = .ok (v, c)) (h3 : nmb l c = .ok (t, d)) : exR l a = .ok (⟨u, v, t⟩, d) := by unfold exR; rw [h]; simp only [bind, Except.bind, h2, h3]
/-- what Decode answers -/
def decA (s : ByteArray) (a : Int) : Except Int (En × Int) := if a < 0 ∨ (s.size : Int) < a then .error 1 else decR s.data.toList a
def DecQ (r : Except Int (En × Int)) (w : World) (e : Ending) (w' : World) : Prop := match r with
  | .ok p => ∃ va vx, e = .returned (.tuple #[enV p.1 va vx, .int .i64 p.2, .int .i64 0]) ∧ OwnG w.heap.size 192 2 At.vals w' va p.1.attrs ∧ OwnG w.heap.size 34 3 Ex.vals w' vx p.1.exts ∧ Below w.heap.size w w'
  | .error x => e = .returned (.tuple #[.agg zeroE.toArray, .int .i64 0, .int .i64 x]) ∧ Below w.heap.size w w'
def catchD (D : Nat) : List Deferred := [{ target := .fn (.func 141) #[.pointer (some ⟨D, 0, none⟩), .pointer (some ⟨D + 1, 0, none⟩), .pointer (some ⟨D + 2, 0, none⟩)], args := #[] }]
theorem res_any {W : World} (tmps : Array Value) {D : Nat} {v0 v1 v2 v3 v4 v5 v6 : Value} {o2 o3 : Int} (q1 : Box W D [v0, v1, v2, v3, v4, v5, v6] 109) (q2 : Box W (D + 1) [.int .i64 o2] 3) (q3 : Box W (D + 2) [.int .i64 o3] 28)
    (h4 : tmps[4]?.getD undef = .pointer (some ⟨D, 0, none⟩)) (h5 : tmps[5]?.getD undef = .pointer (some ⟨D + 1, 0, none⟩)) (h6 : tmps[6]?.getD undef = .pointer (some ⟨D + 2, 0, none⟩)) :
    (results Tryz.f98 tmps).run Tryz.prog W = .ok (.tuple #[.agg #[v0, v1, v2, v3, v4, v5, v6], .int .i64 o2, .int .i64 o3]) W := by
  have c0 : W.cell? ⟨D, 0, none⟩ = some v0 := q1.cell 0
  have c1 : W.cell? ⟨D, 1, none⟩ = some v1 := q1.cell 1
  have c2 : W.cell? ⟨D, 2, none⟩ = some v2 := q1.cell 2
  have c3 : W.cell? ⟨D, 3, none⟩ = some v3 := q1.cell 3
  have c4 : W.cell? ⟨D, 4, none⟩ = some v4 := q1.cell 4
  have c5 : W.cell? ⟨D, 5, none⟩ = some v5 := q1.cell 5
  have c6 : W.cell? ⟨D, 6, none⟩ = some v6 := q1.cell 6
  have d0 : W.cell? ⟨D + 1, 0, none⟩ = some (.int .i64 o2) := q2.cell 0
  have d1 : W.cell? ⟨D + 2, 0, none⟩ = some (.int .i64 o3) := q3.cell 0
  simp [results, Tryz.results98, go_sem, h4, h5, h6, c0, c1, c2, c3, c4, c5, c6, d0, d1]
theorem leave_no {s : ByteArray} {a x : Int} {w W : World} {tmps : Array Value} {D : Nat} {cs : List Value} {o2 o3 : Int} (hr : decA s a = .error x) (hb : Below w.heap.size w W) (hD : w.heap.size ≤ D)
    (b1 : Box W D cs 109) (hl : cs.length = 7) (b2 : Box W (D + 1) [.int .i64 o2] 3) (b3 : Box W (D + 2) [.int .i64 o3] 28)
    (h4 : tmps[4]?.getD undef = .pointer (some ⟨D, 0, none⟩)) (h5 : tmps[5]?.getD undef = .pointer (some ⟨D + 1, 0, none⟩)) (h6 : tmps[6]?.getD undef = .pointer (some ⟨D + 2, 0, none⟩)) :
    Leaves Tryz.prog Tryz.f98 tmps (DecQ (decA s a) w) (catchD D) (.panicking (failP x)) W := by
  unfold catchD
  refine leaves_cons (f := 141) (args := #[.pointer (some ⟨D, 0, none⟩), .pointer (some ⟨D + 1, 0, none⟩), .pointer (some ⟨D + 2, 0, none⟩)]) (by simp) (by simp [go_sem]) ?_
  refine (catch_pan x D (D + 1) (D + 2) cs o2 o3 W b1 hl b2 b3 (by omega) (by omega)).mono ?_
  rintro e u' w' ⟨rfl, rfl, q1, q2, q3, q4⟩
  have hres := res_any tmps q1 q2 q3 h4 h5 h6
  refine ⟨_, hres, ?_⟩
  rw [hr]
  exact ⟨rfl, hb.trans (q4.mono hD)⟩
theorem leave_ok {s : ByteArray} {a f : Int} {y : En} {w W : World} {tmps : Array Value} {D : Nat} {va vx : Value} (hr : decA s a = .ok (y, f)) (hb : Below w.heap.size w W)
    (b1 : Box W D (y.vals va vx) 109) (b2 : Box W (D + 1) [.int .i64 f] 3) (b3 : Box W (D + 2) [.int .i64 0] 28) (ha : OwnG w.heap.size 192 2 At.vals W va y.attrs) (hx : OwnG w.heap.size 34 3 Ex.vals W vx y.exts)
    (h4 : tmps[4]?.getD undef = .pointer (some ⟨D, 0, none⟩)) (h5 : tmps[5]?.getD undef = .pointer (some ⟨D + 1, 0, none⟩)) (h6 : tmps[6]?.getD undef = .pointer (some ⟨D + 2, 0, none⟩)) :
    Leaves Tryz.prog Tryz.f98 tmps (DecQ (decA s a) w) (catchD D) .returning W := by
  unfold catchD
  refine leaves_cons (f := 141) (args := #[.pointer (some ⟨D, 0, none⟩), .pointer (some ⟨D + 1, 0, none⟩), .pointer (some ⟨D + 2, 0, none⟩)]) (by simp) (by simp [go_sem]) ?_
  refine (catch_idle D (D + 1) (D + 2) W).mono ?_
  rintro e u' w' ⟨rfl, rfl, rfl⟩
  have hres := res_any tmps b1 b2 b3 h4 h5 h6
  refine ⟨_, hres, ?_⟩
  rw [hr]
  exact ⟨va, vx, rfl, ha, hx, hb⟩
theorem leave_zero {s : ByteArray} {a x : Int} {w W : World} {tmps : Array Value} {D : Nat} (hr : decA s a = .error x) (hb : Below w.heap.size w W)
    (b1 : Box W D zeroE 109) (b2 : Box W (D + 1) [.int .i64 0] 3) (b3 : Box W (D + 2) [.int .i64 x] 28)
    (h4 : tmps[4]?.getD undef = .pointer (some ⟨D, 0, none⟩)) (h5 : tmps[5]?.getD undef = .pointer (some ⟨D + 1, 0, none⟩)) (h6 : tmps[6]?.getD undef = .pointer (some ⟨D + 2, 0, none⟩)) :
    Leaves Tryz.prog Tryz.f98 tmps (DecQ (decA s a) w) (catchD D) .returning W := by
  unfold catchD
  refine leaves_cons (f := 141) (args := #[.pointer (some ⟨D, 0, none⟩), .pointer (some ⟨D + 1, 0, none⟩), .pointer (some ⟨D + 2, 0, none⟩)]) (by simp) (by simp [go_sem]) ?_
  refine (catch_idle D (D + 1) (D + 2) W).mono ?_
  rintro e u' w' ⟨rfl, rfl, rfl⟩
  have hres := res_any tmps b1 b2 b3 h4 h5 h6
  refine ⟨_, hres, ?_⟩
  rw [hr]
  exact ⟨rfl, hb⟩
end Go.Proofs.YtpkapcijgldhhaaGreatDoor

namespace Go.Proofs.YtpkapcijgldhhaaGreatDoor
open Go.RowKit Go.Shelf

/-- a reader's state: the index, or the error -/
def RSt (W : World) (R : Nat) (s : ByteArray) : Except Int Int → Prop
  | .ok a => Box W R [.string s, .int .i64 a, .int .i64 0] 233
  | .error x => x ≠ 0 ∧ ∃ a : Int, Box W R [.string s, .int .i64 a, .int .i64 x] 233
def stAt {α : Type} : Except Int (α × Int) → Except Int Int
  | .ok p => .ok p.2
  | .error x => .error x
def stStr : Except Int (List UInt8 × Int) → List UInt8
  | .ok p => p.1
  | .error _ => []
def stNum : Except Int (Int × Int) → Int
  | .ok p => p.1
  | .error _ => 0
theorem rdStr_err (l : List UInt8) (a : Int) (h : (rdStr l a).2.2 ≠ 0) : (rdStr l a).1 = [] ∧ (rdStr l a).2.1 = 0 := by
  unfold rdStr rdStr.rdTail at *
  repeat' split at *
  all_goals first | exact ⟨rfl, rfl⟩ | exact absurd rfl h
theorem rdNum_err (l : List UInt8) (a : Int) (h : (rdNum l a).2.2 ≠ 0) : (rdNum l a).1 = 0 ∧ (rdNum l a).2.1 = 0 := by
  unfold rdNum at *
  repeat' split at *
  all_goals first | exact ⟨rfl, rfl⟩ | exact absurd rfl h
theorem txt_err {l : List UInt8} {a x : Int} (h : txt l a = .error x) : rdStr l a = ([], 0, x) ∧ x ≠ 0 := by
  unfold txt at h
  split at h
  · cases h
  · rename_i h0
    simp only [Except.error.injEq] at h
    have := rdStr_err l a h0
    subst h
    exact ⟨Prod.ext this.1 (Prod.ext this.2 rfl), h0⟩
theorem nmb_err {l : List UInt8} {a x : Int} (h : nmb l a = .error x) : rdNum l a = (0, 0, x) ∧ x ≠ 0 := by
  unfold nmb at h
  split at h
  · cases h
  · rename_i h0
    simp only [Except.error.injEq] at h
    have := rdNum_err l a h0
    subst h
    exact ⟨Prod.ext this.1 (Prod.ext this.2 rfl), h0⟩
theorem txt_rd {l u : List UInt8} {a b : Int} (h : txt l a = .ok (u, b)) : rdStr l a = (u, b, 0) := by
  unfold txt at h
  split at h
  · rename_i h0
    simp only [Except.ok.injEq, Prod.mk.injEq] at h
    rw [← h.1, ← h.2, ← h0]
  · cases h
theorem nmb_rd {l : List UInt8} {a n b : Int} (h : nmb l a = .ok (n, b)) : rdNum l a = (n, b, 0) := by
  unfold nmb at h
  split at h
  · rename_i h0
    simp only [Except.ok.injEq, Prod.mk.injEq] at h
    rw [← h.1, ← h.2, ← h0]
  · cases h
theorem Box.drewN {W : World} {E : Nat} {cs : List Value} {T : TypeId} (h : Box W E cs T) (n : Nat) : Box (W.drewN n) E cs T := h
theorem keep_set {R j : Nat} {W W' : World} (h : Keep R W W') (v : Value) : Keep R W (W'.setCell ⟨R, j, none⟩ v) :=
  ⟨h.1.setCell (p := ⟨R, j, none⟩) (Nat.le_refl _) v, fun i h1 h2 => by
    rw [← h.2 i h1 h2]
    simp only [World.setCell, Array.getElem?_modify]
    rw [if_neg (by omega)]⟩
end Go.Proofs.YtpkapcijgldhhaaGreatDoor

namespace Go.Proofs.YtpkapcijgldhhaaGreatDoor
open Go.RowKit Go.Shelf

theorem flat_le {α : Type} {f : α → List UInt8} {x : α} : ∀ {A : List α}, x ∈ A → (f x).length ≤ (A.flatMap f).length
  | y :: A, h => by
    rw [List.flatMap_cons, List.length_append]
    rcases List.mem_cons.1 h with rfl | h
    · omega
    · have := flat_le (f := f) h; omega
theorem strL_ge (u : List UInt8) : u.length ≤ (strL u).length := by rw [strL_length]; omega
theorem strL_ge' (b : ByteArray) : b.size ≤ (strL b.data.toList).length := strL_ge b.data.toList
theorem getD_ok {α : Type} {P : α → Prop} {A : List α} {d : α} (h : ∀ x ∈ A, P x) (hd : P d) (i : Nat) : P (A.getD i d) := by
  rw [List.getD_eq_getElem?_getD]
  by_cases hi : i < A.length
  · rw [List.getElem?_eq_getElem hi]; exact h _ (List.getElem_mem hi)
  · rw [List.getElem?_eq_none (by omega)]; exact hd
theorem hd_small {l : List UInt8} {y : Hd} (h : headR l = .ok y) (hl : l.length ≤ 1000000) : (1 ≤ y.kind ∧ y.kind ≤ 6) ∧ y.path.size ≤ 1000000 ∧ (y.attrs.length ≤ 400 ∧ ∀ x ∈ y.attrs, AtOk x) ∧ y.target.size ≤ 1000000 := by
  obtain ⟨h1, h2, h3⟩ := headR_ok.1 h
  have hs := congrArg List.length h3
  unfold hdL at hs
  simp only [List.length_append] at hs
  have p1 := strL_ge' y.path
  have p2 := strL_ge' y.target
  refine ⟨h1, by omega, ⟨h2, fun x hx => ?_⟩, by omega⟩
  have f := flat_le (f := atL) hx
  have f2 : (atL x).length = (strL x.key.data.toList).length + (strL x.value.data.toList).length := by unfold atL; rw [List.length_append]
  have p3 := strL_ge' x.key
  have p4 := strL_ge' x.value
  exact ⟨by omega, by omega⟩
theorem at0_ok : AtOk at0 := ⟨Nat.zero_le _, Nat.zero_le _⟩
theorem ex0_ok : ExOk ex0 := by unfold ex0; constructor <;> decide
theorem exIn_ok {x : Ex} (h : ExIn x) : ExOk x := by
  obtain ⟨h1, h2, h3⟩ := h
  exact ⟨by omega, by omega, by omega⟩
theorem dec_small {l h g : List UInt8} {y : Hd} {b1 b2 b3 b4 z f e0 : Int} {M : Nat} {X : List Ex} (hh : headR h = .ok y) (hl : h.length ≤ 1000000) (hz : nmb l b1 = .ok (z, b2)) (hg : g.length ≤ 1000000)
    (hc : cnt 65536 l b3 = .ok (e0, b4)) (hM : M ≤ 65536) (hX : rowR (exR l) b4 M = .ok (X, f)) : EnOk (enOf y z g X) := by
  obtain ⟨k1, k2, ⟨k3, k4⟩, k5⟩ := hd_small hh hl
  have hb := ((cnt_ok (by decide)).1 hc).2.nonneg
  obtain ⟨r1, r2, _⟩ := (rowR_ok (l := l) (fun a b x => exR_ok) (a := b4) (by omega) M X f).1 hX
  have hz' := (nmb_ok.1 hz).1
  exact ⟨by show -9223372036854775808 ≤ y.kind ∧ y.kind ≤ 9223372036854775807; omega, k2, ⟨by show y.attrs.length ≤ 1000000; omega, fun i => getD_ok k4 at0_ok i⟩, k5, by show -9223372036854775808 ≤ z ∧ z ≤ 9223372036854775807; omega,
    by show (bA' g).size ≤ 1000000; exact hg, ⟨by show X.length ≤ 1000000; omega, fun i => getD_ok (fun x hx => exIn_ok (r2 x hx)) ex0_ok i⟩⟩
end Go.Proofs.YtpkapcijgldhhaaGreatDoor
