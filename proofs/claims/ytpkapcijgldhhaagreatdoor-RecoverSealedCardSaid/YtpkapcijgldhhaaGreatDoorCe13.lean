/-
  The decoding of an entry, step by step: plain.
  What is decoded is within bounds: plain.
  Entries: what the laws need besides: errors are not zero, bounds of encodings and of what is decoded. Plain.
  Words of 32 and 64 bits: how the walk spells their operations.
  blake2s: the rotation and the mixing.
  
  
-/
import Derived.Test.YtpkapcijgldhhaaGreatDoorCe12
import Derived.Test.YtpkapcijgldhhaaGreatDoorCe07
import Derived.WalkKit
import Derived.Test.YtpkapcijgldhhaaGreatDoorCe02
import Derived.Deep.QuietTactic
import Derived.BigQuiet
import Derived.StillTailTactics
import Derived.Deep.RegionHeld3
import Derived.Deep.MidRow
namespace Go.Proofs.YtpkapcijgldhhaaGreatDoor
open Go.RowKit Go.Shelf

def enOf (x : Hd) (z : Int) (g : List UInt8) (X : List Ex) : En := ⟨x.kind, x.path, x.attrs, x.target, z, bA' g, X⟩
def dc7 (y : En) (f : Int) : Except Int (En × Int) := if chkE y = 0 then .ok (y, f) else .error (chkE y)
def dc6 (x : Hd) (z : Int) (g : List UInt8) : Except Int (List Ex × Int) → Except Int (En × Int)
  | .error y => .error y
  | .ok (X, f) => dc7 (enOf x z g X) f
def dc5 (l : List UInt8) (x : Hd) (z : Int) (g : List UInt8) : Except Int (Int × Int) → Except Int (En × Int)
  | .error y => .error y
  | .ok (n, e) => dc6 x z g (rowR (exR l) e n.toNat)
def dc4 (l : List UInt8) (x : Hd) (z : Int) : Except Int (List UInt8 × Int) → Except Int (En × Int)
  | .error y => .error y
  | .ok (g, d) => dc5 l x z g (cnt 65536 l d)
def dc3 (l : List UInt8) (x : Hd) : Except Int (Int × Int) → Except Int (En × Int)
  | .error y => .error y
  | .ok (z, c) => dc4 l x z (txt l c)
def dc2 (l : List UInt8) (b : Int) : Except Int Hd → Except Int (En × Int)
  | .error y => .error y
  | .ok x => dc3 l x (nmb l b)
def dc1 (l : List UInt8) : Except Int (List UInt8 × Int) → Except Int (En × Int)
  | .error y => .error y
  | .ok (h, b) => dc2 l b (headR h)
theorem decR_steps (l : List UInt8) (a : Int) : decR l a = dc1 l (txt l a) := by
  unfold decR
  cases txt l a with
  | error x => rfl
  | ok p =>
    obtain ⟨h, b⟩ := p
    show _ = dc2 l b (headR h)
    simp only [bind, Except.bind]
    cases headR h with
    | error x => rfl
    | ok x =>
      show _ = dc3 l x (nmb l b)
      simp only
      cases nmb l b with
      | error y => rfl
      | ok q =>
        obtain ⟨z, c⟩ := q
        show _ = dc4 l x z (txt l c)
        simp only
        cases txt l c with
        | error y => rfl
        | ok q =>
          obtain ⟨g, d⟩ := q
          show _ = dc5 l x z g (cnt 65536 l d)
          simp only
          cases cnt 65536 l d with
          | error y => rfl
          | ok q =>
            obtain ⟨n, e⟩ := q
            show _ = dc6 x z g (rowR (exR l) e n.toNat)
            simp only
            cases rowR (exR l) e n.toNat with
            | error y => rfl
            | ok q => obtain ⟨X, f⟩ := q; rfl
theorem exR_e1 {l : List UInt8} {a x : Int} (h : nmb l a = .error x) : exR l a = .error x := by unfold exR; rw [h]; rfl
theorem exR_e2 {l : List UInt8} {a b x u : Int} (h : nmb l a = .ok (u, b)) (h2 : nmb l b = .error x) : exR l a = .error x := by unfold exR; rw [h]; simp only [bind, Except.bind, h2]
theorem exR_e3 {l : List UInt8} {a b c x u v : Int} (h : nmb l a = .ok (u, b)) (h2 : nmb l b = .ok (v, c)) (h3 : nmb l c = .error x) : exR l a = .error x := by unfold exR; rw [h]; simp only [bind, Except.bind, h2, h3]
theorem exR_o {l : List UInt8} {a b c d u v t : Int} (h : nmb l a = .ok (u, b)) (h2 : nmb l b = .ok (v, c)) (h3 : nmb l c = .ok (t, d)) : exR l a = .ok (⟨u, v, t⟩, d) := by unfold exR; rw [h]; simp only [bind, Except.bind, h2, h3]
/-- what Decode answers -/
def decA (s : ByteArray) (a : Int) : Except Int (En × Int) := if a < 0 ∨ (s.size : Int) < a then .error 1 else decR s.data.toList a
def DecQ (r : Except Int (En × Int)) (w : World) (e : Ending) (w' : World) : Prop := match r with
  | .ok p => ∃ va vx, e = .returned (.tuple #[enV p.1 va vx, .int .i64 p.2, .int .i64 0]) ∧ OwnG w.heap.size 192 2 At.vals w' va p.1.attrs ∧ OwnG w.heap.size 34 3 Ex.vals w' vx p.1.exts ∧ Below w.heap.size w w'
  | .error x => e = .returned (.tuple #[.agg zeroE.toArray, .int .i64 0, .int .i64 x]) ∧ Below w.heap.size w w'
def catchD (D : Nat) : List Deferred := [{ target := .fn (.func 141) #[.pointer (some ⟨D, 0, none⟩), .pointer (some ⟨D + 1, 0, none⟩), .pointer (some ⟨D + 2, 0, none⟩)], args := #[] }]
theorem res_any {W : World} (tmps : Array Value) {D : Nat} {v0 v1 v2 v3 v4 v5 v6 : Value} {o2 o3 : Int} (q1 : Box W D [v0, v1, v2, v3, v4, v5, v6] 109) (q2 : Box W (D + 1) [.int .i64 o2] 3) (q3 : Box W (D + 2) [.int .i64 o3] 28)
    (h4 : tmps[4]?.getD undef = .pointer (some ⟨D, 0, none⟩)) (h5 : tmps[5]?.getD undef = .pointer (some ⟨D + 1, 0, none⟩)) (h6 : tmps[6]?.getD undef = .pointer (some ⟨D + 2, 0, none⟩)) :
    (results Tryz.f98 tmps).run Tryz.prog W = .ok (.tuple #[.agg #[v0, v1, v2, v3, v4, v5, v6], .int .i64 o2, .int .i64 o3]) W := by
  have c0 : W.cell? ⟨D, 0, none⟩ = some v0 := q1.cell 0
  have c1 : W.cell? ⟨D, 1, none⟩ = some v1 := q1.cell 1
  have c2 : W.cell? ⟨D, 2, none⟩ = some v2 := q1.cell 2
  have c3 : W.cell? ⟨D, 3, none⟩ = some v3 := q1.cell 3
  have c4 : W.cell? ⟨D, 4, none⟩ = some v4 := q1.cell 4
  have c5 : W.cell? ⟨D, 5, none⟩ = some v5 := q1.cell 5
  have c6 : W.cell? ⟨D, 6, none⟩ = some v6 := q1.cell 6
  have d0 : W.cell? ⟨D + 1, 0, none⟩ = some (.int .i64 o2) := q2.cell 0
  have d1 : W.cell? ⟨D + 2, 0, none⟩ = some (.int .i64 o3) := q3.cell 0
  simp [results, Tryz.results98, go_sem, h4, h5, h6, c0, c1, c2, c3, c4, c5, c6, d0, d1]
theorem leave_no {s : ByteArray} {a x : Int} {w W : World} {tmps : Array Value} {D : Nat} {cs : List Value} {o2 o3 : Int} (hr : decA s a = .error x) (hb : Below w.heap.size w W) (hD : w.heap.size ≤ D)
    (b1 : Box W D cs 109) (hl : cs.length = 7) (b2 : Box W (D + 1) [.int .i64 o2] 3) (b3 : Box W (D + 2) [.int .i64 o3] 28)
    (h4 : tmps[4]?.getD undef = .pointer (some ⟨D, 0, none⟩)) (h5 : tmps[5]?.getD undef = .pointer (some ⟨D + 1, 0, none⟩)) (h6 : tmps[6]?.getD undef = .pointer (some ⟨D + 2, 0, none⟩)) :
    Leaves Tryz.prog Tryz.f98 tmps (DecQ (decA s a) w) (catchD D) (.panicking (failP x)) W := by
  unfold catchD
  refine leaves_cons (f := 141) (args := #[.pointer (some ⟨D, 0, none⟩), .pointer (some ⟨D + 1, 0, none⟩), .pointer (some ⟨D + 2, 0, none⟩)]) (by simp) (by simp [go_sem]) ?_
  refine (catch_pan x D (D + 1) (D + 2) cs o2 o3 W b1 hl b2 b3 (by omega) (by omega)).mono ?_
  rintro e u' w' ⟨rfl, rfl, q1, q2, q3, q4⟩
  have hres := res_any tmps q1 q2 q3 h4 h5 h6
  refine ⟨_, hres, ?_⟩
  rw [hr]
  exact ⟨rfl, hb.trans (q4.mono hD)⟩
theorem leave_ok {s : ByteArray} {a f : Int} {y : En} {w W : World} {tmps : Array Value} {D : Nat} {va vx : Value} (hr : decA s a = .ok (y, f)) (hb : Below w.heap.size w W)
    (b1 : Box W D (y.vals va vx) 109) (b2 : Box W (D + 1) [.int .i64 f] 3) (b3 : Box W (D + 2) [.int .i64 0] 28) (ha : OwnG w.heap.size 192 2 At.vals W va y.attrs) (hx : OwnG w.heap.size 34 3 Ex.vals W vx y.exts)
    (h4 : tmps[4]?.getD undef = .pointer (some ⟨D, 0, none⟩)) (h5 : tmps[5]?.getD undef = .pointer (some ⟨D + 1, 0, none⟩)) (h6 : tmps[6]?.getD undef = .pointer (some ⟨D + 2, 0, none⟩)) :
    Leaves Tryz.prog Tryz.f98 tmps (DecQ (decA s a) w) (catchD D) .returning W := by
  unfold catchD
  refine leaves_cons (f := 141) (args := #[.pointer (some ⟨D, 0, none⟩), .pointer (some ⟨D + 1, 0, none⟩), .pointer (some ⟨D + 2, 0, none⟩)]) (by simp) (by simp [go_sem]) ?_
  refine (catch_idle D (D + 1) (D + 2) W).mono ?_
  rintro e u' w' ⟨rfl, rfl, rfl⟩
  have hres := res_any tmps b1 b2 b3 h4 h5 h6
  refine ⟨_, hres, ?_⟩
  rw [hr]
  exact ⟨va, vx, rfl, ha, hx, hb⟩
theorem leave_zero {s : ByteArray} {a x : Int} {w W : World} {tmps : Array Value} {D : Nat} (hr : decA s a = .error x) (hb : Below w.heap.size w W)
    (b1 : Box W D zeroE 109) (b2 : Box W (D + 1) [.int .i64 0] 3) (b3 : Box W (D + 2) [.int .i64 x] 28)
    (h4 : tmps[4]?.getD undef = .pointer (some ⟨D, 0, none⟩)) (h5 : tmps[5]?.getD undef = .pointer (some ⟨D + 1, 0, none⟩)) (h6 : tmps[6]?.getD undef = .pointer (some ⟨D + 2, 0, none⟩)) :
    Leaves Tryz.prog Tryz.f98 tmps (DecQ (decA s a) w) (catchD D) .returning W := by
  unfold catchD
  refine leaves_cons (f := 141) (args := #[.pointer (some ⟨D, 0, none⟩), .pointer (some ⟨D + 1, 0, none⟩), .pointer (some ⟨D + 2, 0, none⟩)]) (by simp) (by simp [go_sem]) ?_
  refine (catch_idle D (D + 1) (D + 2) W).mono ?_
  rintro e u' w' ⟨rfl, rfl, rfl⟩
  have hres := res_any tmps b1 b2 b3 h4 h5 h6
  refine ⟨_, hres, ?_⟩
  rw [hr]
  exact ⟨rfl, hb⟩
end Go.Proofs.YtpkapcijgldhhaaGreatDoor

namespace Go.Proofs.YtpkapcijgldhhaaGreatDoor
open Go.RowKit Go.Shelf

theorem flat_le {α : Type} {f : α → List UInt8} {x : α} : ∀ {A : List α}, x ∈ A → (f x).length ≤ (A.flatMap f).length
  | y :: A, h => by
    rw [List.flatMap_cons, List.length_append]
    rcases List.mem_cons.1 h with rfl | h
    · omega
    · have := flat_le (f := f) h; omega
theorem strL_ge (u : List UInt8) : u.length ≤ (strL u).length := by rw [strL_length]; omega
theorem strL_ge' (b : ByteArray) : b.size ≤ (strL b.data.toList).length := strL_ge b.data.toList
theorem getD_ok {α : Type} {P : α → Prop} {A : List α} {d : α} (h : ∀ x ∈ A, P x) (hd : P d) (i : Nat) : P (A.getD i d) := by
  rw [List.getD_eq_getElem?_getD]
  by_cases hi : i < A.length
  · rw [List.getElem?_eq_getElem hi]; exact h _ (List.getElem_mem hi)
  · rw [List.getElem?_eq_none (by omega)]; exact hd
theorem hd_small {l : List UInt8} {y : Hd} (h : headR l = .ok y) (hl : l.length ≤ 1000000) : (1 ≤ y.kind ∧ y.kind ≤ 6) ∧ y.path.size ≤ 1000000 ∧ (y.attrs.length ≤ 400 ∧ ∀ x ∈ y.attrs, AtOk x) ∧ y.target.size ≤ 1000000 := by
  obtain ⟨h1, h2, h3⟩ := headR_ok.1 h
  have hs := congrArg List.length h3
  unfold hdL at hs
  simp only [List.length_append] at hs
  have p1 := strL_ge' y.path
  have p2 := strL_ge' y.target
  refine ⟨h1, by omega, ⟨h2, fun x hx => ?_⟩, by omega⟩
  have f := flat_le (f := atL) hx
  have f2 : (atL x).length = (strL x.key.data.toList).length + (strL x.value.data.toList).length := by unfold atL; rw [List.length_append]
  have p3 := strL_ge' x.key
  have p4 := strL_ge' x.value
  exact ⟨by omega, by omega⟩
theorem at0_ok : AtOk at0 := ⟨Nat.zero_le _, Nat.zero_le _⟩
theorem ex0_ok : ExOk ex0 := by unfold ex0; constructor <;> decide
theorem exIn_ok {x : Ex} (h : ExIn x) : ExOk x := by
  obtain ⟨h1, h2, h3⟩ := h
  exact ⟨by omega, by omega, by omega⟩
theorem dec_small {l h g : List UInt8} {y : Hd} {b1 b2 b3 b4 z f e0 : Int} {M : Nat} {X : List Ex} (hh : headR h = .ok y) (hl : h.length ≤ 1000000) (hz : nmb l b1 = .ok (z, b2)) (hg : g.length ≤ 1000000)
    (hc : cnt 65536 l b3 = .ok (e0, b4)) (hM : M ≤ 65536) (hX : rowR (exR l) b4 M = .ok (X, f)) : EnOk (enOf y z g X) := by
  obtain ⟨k1, k2, ⟨k3, k4⟩, k5⟩ := hd_small hh hl
  have hb := ((cnt_ok (by decide)).1 hc).2.nonneg
  obtain ⟨r1, r2, _⟩ := (rowR_ok (l := l) (fun a b x => exR_ok) (a := b4) (by omega) M X f).1 hX
  have hz' := (nmb_ok.1 hz).1
  exact ⟨by show -9223372036854775808 ≤ y.kind ∧ y.kind ≤ 9223372036854775807; omega, k2, ⟨by show y.attrs.length ≤ 1000000; omega, fun i => getD_ok k4 at0_ok i⟩, k5, by show -9223372036854775808 ≤ z ∧ z ≤ 9223372036854775807; omega,
    by show (bA' g).size ≤ 1000000; exact hg, ⟨by show X.length ≤ 1000000; omega, fun i => getD_ok (fun x hx => exIn_ok (r2 x hx)) ex0_ok i⟩⟩
end Go.Proofs.YtpkapcijgldhhaaGreatDoor

namespace Go.Proofs.YtpkapcijgldhhaaGreatDoor
open Go.RowKit Go.Shelf

def NZ {α : Type} (r : Except Int α) : Prop := ∀ x, r = .error x → x ≠ 0
theorem NZ.ok {α : Type} (a : α) : NZ (.ok a : Except Int α) := fun x h => by cases h
theorem NZ.err {α : Type} {x : Int} (h : x ≠ 0) : NZ (.error x : Except Int α) := fun y e => by cases e; exact h
theorem nz_txt (l : List UInt8) (a : Int) : NZ (txt l a) := by
  unfold txt
  split
  · exact NZ.ok _
  · exact NZ.err ‹_›
theorem nz_nmb (l : List UInt8) (a : Int) : NZ (nmb l a) := by
  unfold nmb
  split
  · exact NZ.ok _
  · exact NZ.err ‹_›
theorem nz_bind {α β : Type} {r : Except Int α} {f : α → Except Int β} (h : NZ r) (k : ∀ a, NZ (f a)) : NZ (r >>= f) := by
  cases r with
  | error x => exact NZ.err (h x rfl)
  | ok a => exact k a
theorem nz_ite {α : Type} {p : Prop} [Decidable p] {a b : Except Int α} (h : NZ a) (k : NZ b) : NZ (if p then a else b) := by split <;> assumption
theorem nz_cnt (m : Int) (l : List UInt8) (a : Int) : NZ (cnt m l a) := nz_bind (nz_nmb l a) fun _ => nz_ite (NZ.err (by decide)) (NZ.ok _)
theorem nz_atR (l : List UInt8) (a : Int) : NZ (atR l a) := nz_bind (nz_txt l a) fun _ => nz_bind (nz_txt l _) fun _ => NZ.ok _
theorem nz_exR (l : List UInt8) (a : Int) : NZ (exR l a) := nz_bind (nz_nmb l a) fun _ => nz_bind (nz_nmb l _) fun _ => nz_bind (nz_nmb l _) fun _ => NZ.ok _
theorem nz_rowR {α : Type} {f : Int → Except Int (α × Int)} (h : ∀ a, NZ (f a)) (a : Int) : ∀ k, NZ (rowR f a k)
  | 0 => NZ.ok _
  | k + 1 => nz_bind (nz_rowR h a k) fun _ => nz_bind (h _) fun _ => NZ.ok _
theorem nz_headR (l : List UInt8) : NZ (headR l) :=
  nz_bind (nz_txt l 0) fun _ => nz_ite (NZ.err (by decide)) (nz_bind (nz_txt l _) fun _ => nz_bind (nz_cnt 400 l _) fun _ => nz_bind (nz_rowR (nz_atR l) _ _) fun _ => nz_bind (nz_txt l _) fun _ => nz_ite (NZ.ok _) (NZ.err (by decide)))
theorem nz_decR (l : List UInt8) (a : Int) : NZ (decR l a) :=
  nz_bind (nz_txt l a) fun _ => nz_bind (nz_headR _) fun _ => nz_bind (nz_nmb l _) fun _ => nz_bind (nz_txt l _) fun _ => nz_bind (nz_cnt 65536 l _) fun _ => nz_bind (nz_rowR (nz_exR l) _ _) fun _ => by
    dsimp only
    split
    · exact NZ.ok _
    · exact NZ.err ‹_›
end Go.Proofs.YtpkapcijgldhhaaGreatDoor

namespace Go.Proofs.YtpkapcijgldhhaaGreatDoor

theorem wrap_u32 (n : Nat) (h : n < 4294967296) : IntKind.u32.wrap (n : Int) = n := by
  simp [IntKind.wrap, IntKind.signed, IntKind.bits]; omega
theorem u32_lt (a : UInt32) : a.toNat < 4294967296 := a.toNat_lt
theorem u32_mod (a : UInt32) : a.toNat % 2 ^ IntKind.u32.bits = a.toNat := Nat.mod_eq_of_lt (u32_lt a)
/-- a word of 32 bits as the walk holds it (a plain definition: the walk's simp does not look into it) -/
def wd (a : UInt32) : Int := a.toNat
theorem wd_lt (a : UInt32) : 0 ≤ wd a ∧ wd a < 4294967296 := by have := u32_lt a; unfold wd; omega
theorem u32_add (a b : UInt32) : (wd a + wd b) % (4294967296 : Int) = wd (a + b) := by
  unfold wd; rw [UInt32.toNat_add]; omega
theorem u32_xor (a b : UInt32) : bits BinOp.xor IntKind.u32 (wd a) (wd b) = wd (a ^^^ b) := by
  have h := u32_lt (a ^^^ b)
  unfold wd
  rw [UInt32.toNat_xor] at h ⊢
  simp [bits, u32_mod, wrap_u32 _ h]
theorem u32_or (a b : UInt32) : bits BinOp.or IntKind.u32 (wd a) (wd b) = wd (a ||| b) := by
  have h := u32_lt (a ||| b)
  unfold wd
  rw [UInt32.toNat_or] at h ⊢
  simp [bits, u32_mod, wrap_u32 _ h]
theorem u32_shl16 (z : UInt32) : wd z * (65536 : Int) % (4294967296 : Int) = wd (z <<< 16) := by
  unfold wd; rw [UInt32.toNat_shiftLeft, show ((16 : UInt32).toNat % 32) = 16 from rfl, Nat.shiftLeft_eq]; omega
theorem u32_shr16 (z : UInt32) : wd z / (65536 : Int) = wd (z >>> 16) := by
  unfold wd; rw [UInt32.toNat_shiftRight, show ((16 : UInt32).toNat % 32) = 16 from rfl, Nat.shiftRight_eq_div_pow]; omega
theorem u32_shr12 (z : UInt32) : wd z / (4096 : Int) = wd (z >>> 12) := by
  unfold wd; rw [UInt32.toNat_shiftRight, show ((12 : UInt32).toNat % 32) = 12 from rfl, Nat.shiftRight_eq_div_pow]; omega
theorem u32_shl8 (z : UInt32) : wd z * (256 : Int) % (4294967296 : Int) = wd (z <<< 8) := by
  unfold wd; rw [UInt32.toNat_shiftLeft, show ((8 : UInt32).toNat % 32) = 8 from rfl, Nat.shiftLeft_eq]; omega
theorem u32_shr8 (z : UInt32) : wd z / (256 : Int) = wd (z >>> 8) := by
  unfold wd; rw [UInt32.toNat_shiftRight, show ((8 : UInt32).toNat % 32) = 8 from rfl, Nat.shiftRight_eq_div_pow]; omega
theorem u32_shr7 (z : UInt32) : wd z / (128 : Int) = wd (z >>> 7) := by
  unfold wd; rw [UInt32.toNat_shiftRight, show ((7 : UInt32).toNat % 32) = 7 from rfl, Nat.shiftRight_eq_div_pow]; omega
theorem u32_shl24 (z : UInt32) : wd z * (16777216 : Int) % (4294967296 : Int) = wd (z <<< 24) := by
  unfold wd; rw [UInt32.toNat_shiftLeft, show ((24 : UInt32).toNat % 32) = 24 from rfl, Nat.shiftLeft_eq]; omega
theorem u32_shr24 (z : UInt32) : wd z / (16777216 : Int) = wd (z >>> 24) := by
  unfold wd; rw [UInt32.toNat_shiftRight, show ((24 : UInt32).toNat % 32) = 24 from rfl, Nat.shiftRight_eq_div_pow]; omega
theorem u32_shl20 (z : UInt32) : wd z * (1048576 : Int) % (4294967296 : Int) = wd (z <<< 20) := by
  unfold wd; rw [UInt32.toNat_shiftLeft, show ((20 : UInt32).toNat % 32) = 20 from rfl, Nat.shiftLeft_eq]; omega
theorem u32_shl25 (z : UInt32) : wd z * (33554432 : Int) % (4294967296 : Int) = wd (z <<< 25) := by
  unfold wd; rw [UInt32.toNat_shiftLeft, show ((25 : UInt32).toNat % 32) = 25 from rfl, Nat.shiftLeft_eq]; omega
/-- rotations to the right -/
def rr16 (z : UInt32) : UInt32 := z >>> 16 ||| z <<< 16
def rr12 (z : UInt32) : UInt32 := z >>> 12 ||| z <<< 20
def rr8 (z : UInt32) : UInt32 := z >>> 8 ||| z <<< 24
def rr7 (z : UInt32) : UInt32 := z >>> 7 ||| z <<< 25
/-- BLAKE2s's mixing of four words -/
def mixA1 (a b x : UInt32) : UInt32 := a + b + x
def mixD1 (a b d x : UInt32) : UInt32 := rr16 (d ^^^ mixA1 a b x)
def mixC1 (a b c d x : UInt32) : UInt32 := c + mixD1 a b d x
def mixB1 (a b c d x : UInt32) : UInt32 := rr12 (b ^^^ mixC1 a b c d x)
def mixA (a b c d x y : UInt32) : UInt32 := mixA1 a b x + mixB1 a b c d x + y
def mixD (a b c d x y : UInt32) : UInt32 := rr8 (mixD1 a b d x ^^^ mixA a b c d x y)
def mixC (a b c d x y : UInt32) : UInt32 := mixC1 a b c d x + mixD a b c d x y
def mixB (a b c d x y : UInt32) : UInt32 := rr7 (mixB1 a b c d x ^^^ mixC a b c d x y)
end Go.Proofs.YtpkapcijgldhhaaGreatDoor

namespace Go.Proofs.YtpkapcijgldhhaaGreatDoor
open Go.RowKit
theorem rot16_any (z : UInt32) (w : World) :
    Calls Tryz.prog 189 #[.int .u32 (wd z), .int .i64 (-16)] w fun e w' => e = .returned (.int .u32 (wd (rr16 z))) ∧ w = w' := by
  obtain ⟨hz0, hz1⟩ := wd_lt z
  have hs : bits BinOp.and IntKind.u64 (IntKind.u64.wrap (-16)) 31 = 16 := by decide +kernel
  have h1 := u32_shl16 z
  have h2 := u32_shr16 z
  have h3 := u32_or (z <<< 16) (z >>> 16)
  go_enter Tryz.func189, Tryz.ntmps189
  go_wp2_with fail
  go_ret
  exact ⟨ret_int (by rw [rr16, UInt32.or_comm]), rfl⟩
theorem rot12_any (z : UInt32) (w : World) :
    Calls Tryz.prog 189 #[.int .u32 (wd z), .int .i64 (-12)] w fun e w' => e = .returned (.int .u32 (wd (rr12 z))) ∧ w = w' := by
  obtain ⟨hz0, hz1⟩ := wd_lt z
  have hs : bits BinOp.and IntKind.u64 (IntKind.u64.wrap (-12)) 31 = 20 := by decide +kernel
  have h1 := u32_shl20 z
  have h2 := u32_shr12 z
  have h3 := u32_or (z <<< 20) (z >>> 12)
  go_enter Tryz.func189, Tryz.ntmps189
  go_wp2_with fail
  go_ret
  exact ⟨ret_int (by rw [rr12, UInt32.or_comm]), rfl⟩
theorem rot8_any (z : UInt32) (w : World) :
    Calls Tryz.prog 189 #[.int .u32 (wd z), .int .i64 (-8)] w fun e w' => e = .returned (.int .u32 (wd (rr8 z))) ∧ w = w' := by
  obtain ⟨hz0, hz1⟩ := wd_lt z
  have hs : bits BinOp.and IntKind.u64 (IntKind.u64.wrap (-8)) 31 = 24 := by decide +kernel
  have h1 := u32_shl24 z
  have h2 := u32_shr8 z
  have h3 := u32_or (z <<< 24) (z >>> 8)
  go_enter Tryz.func189, Tryz.ntmps189
  go_wp2_with fail
  go_ret
  exact ⟨ret_int (by rw [rr8, UInt32.or_comm]), rfl⟩
theorem rot7_any (z : UInt32) (w : World) :
    Calls Tryz.prog 189 #[.int .u32 (wd z), .int .i64 (-7)] w fun e w' => e = .returned (.int .u32 (wd (rr7 z))) ∧ w = w' := by
  obtain ⟨hz0, hz1⟩ := wd_lt z
  have hs : bits BinOp.and IntKind.u64 (IntKind.u64.wrap (-7)) 31 = 25 := by decide +kernel
  have h1 := u32_shl25 z
  have h2 := u32_shr7 z
  have h3 := u32_or (z <<< 25) (z >>> 7)
  go_enter Tryz.func189, Tryz.ntmps189
  go_wp2_with fail
  go_ret
  exact ⟨ret_int (by rw [rr7, UInt32.or_comm]), rfl⟩
end Go.Proofs.YtpkapcijgldhhaaGreatDoor

namespace Go.Proofs.YtpkapcijgldhhaaGreatDoor
open Go.RowKit
/-- Everything but block b is as it was. -/
structure Save (b : Nat) (w w' : World) : Prop where
  os : w'.os = w.os
  tape : w'.tape = w.tape
  output : w'.output = w.output
  size : w.heap.size ≤ w'.heap.size
  block : ∀ k, k < w.heap.size → k ≠ b → w'.heap[k]? = w.heap[k]?
theorem Save.refl (b : Nat) (w : World) : Save b w w := ⟨rfl, rfl, rfl, Nat.le_refl _, fun _ _ _ => rfl⟩
theorem Save.trans {b : Nat} {u v w : World} (h : Save b u v) (k : Save b v w) : Save b u w :=
  ⟨k.os.trans h.os, k.tape.trans h.tape, k.output.trans h.output, Nat.le_trans h.size k.size, fun i hi hn => (k.block i (Nat.lt_of_lt_of_le hi h.size) hn).trans (h.block i hi hn)⟩
theorem Save.alloc (b : Nat) (w : World) (o : Obj) : Save b w (w.alloc o) :=
  ⟨rfl, rfl, rfl, by show w.heap.size ≤ (w.heap.push o).size; simp, fun k hk _ => Below.heap_alloc w o k hk⟩
theorem Save.drew (b : Nat) (w : World) : Save b w w.drew := ⟨rfl, rfl, rfl, Nat.le_refl _, fun _ _ _ => rfl⟩
theorem Save.setCell (w : World) (a : Addr) (u : Value) : Save a.block w (w.setCell a u) :=
  ⟨rfl, rfl, rfl, by simp [World.setCell], fun k _ hn => Below.heap_setCell w a u k hn⟩
theorem Save.cell {b : Nat} {w w' : World} (h : Save b w w') {a : Addr} (hlt : a.block < w.heap.size) (hn : a.block ≠ b) : w'.cell? a = w.cell? a := by
  unfold World.cell?; rw [h.block _ hlt hn]
theorem Save.frozen {b : Nat} {w w' : World} (h : Save b w w') {a : Addr} (hlt : a.block < w.heap.size) (hn : a.block ≠ b) : w'.frozen? a = w.frozen? a := by
  unfold World.frozen?; rw [h.block _ hlt hn]
theorem Save.drewN (b : Nat) (w : World) (n : Nat) : Save b w (w.drewN n) := ⟨rfl, rfl, rfl, Nat.le_refl _, fun _ _ _ => rfl⟩
theorem ne_off {b i j : Nat} (h : i ≠ j) : (⟨b, i, none⟩ : Addr) ≠ ⟨b, j, none⟩ := fun e => h (by injection e)
theorem cso {w : World} {a c : Addr} {v : Value} (h : a ≠ c) : (w.setCell a v).cell? c = w.cell? c := World.cell?_setCell_other _ _ _ _ h
theorem css {w : World} {a : Addr} {v u : Value} (h : w.cell? a = some u) : (w.setCell a v).cell? a = some v := World.cell?_setCell_same _ _ _ h
theorem four_stores {W : World} {b qa qb qc qd : Nat} {x1 x2 x3 x4 : Value} (n : Nat) (u1 u2 u3 u4 : Value) (n1 : qa ≠ qb) (n2 : qa ≠ qc) (n3 : qa ≠ qd) (n4 : qb ≠ qc) (n5 : qb ≠ qd) (n6 : qc ≠ qd)
    (h1 : W.cell? ⟨b, qa, none⟩ = some x1) (h2 : W.cell? ⟨b, qb, none⟩ = some x2) (h3 : W.cell? ⟨b, qc, none⟩ = some x3) (h4 : W.cell? ⟨b, qd, none⟩ = some x4) (w' : World)
    (hw : ((((W.drewN n).setCell ⟨b, qa, none⟩ u1).setCell ⟨b, qb, none⟩ u2).setCell ⟨b, qc, none⟩ u3).setCell ⟨b, qd, none⟩ u4 = w') :
    Save b W w' ∧ (∀ i, w'.frozen? ⟨b, i, none⟩ = W.frozen? ⟨b, i, none⟩) ∧ (∀ i v, i ≠ qa → i ≠ qb → i ≠ qc → i ≠ qd → W.cell? ⟨b, i, none⟩ = some v → w'.cell? ⟨b, i, none⟩ = some v) ∧
      w'.cell? ⟨b, qa, none⟩ = some u1 ∧ w'.cell? ⟨b, qb, none⟩ = some u2 ∧ w'.cell? ⟨b, qc, none⟩ = some u3 ∧ w'.cell? ⟨b, qd, none⟩ = some u4 := by
  subst hw
  refine ⟨((((Save.drewN b W n).trans (Save.setCell _ ⟨b, qa, none⟩ u1)).trans (Save.setCell _ ⟨b, qb, none⟩ u2)).trans (Save.setCell _ ⟨b, qc, none⟩ u3)).trans (Save.setCell _ ⟨b, qd, none⟩ u4), fun i => by simp, fun i v a1 a2 a3 a4 h => ?_, ?_, ?_, ?_, ?_⟩
  · rw [cso (ne_off (Ne.symm a4)), cso (ne_off (Ne.symm a3)), cso (ne_off (Ne.symm a2)), cso (ne_off (Ne.symm a1))]
    exact h
  · rw [cso (ne_off (Ne.symm n3)), cso (ne_off (Ne.symm n2)), cso (ne_off (Ne.symm n1))]
    exact css (u := x1) h1
  · rw [cso (ne_off (Ne.symm n5)), cso (ne_off (Ne.symm n4))]
    exact css (u := x2) (by rw [cso (ne_off n1)]; exact h2)
  · rw [cso (ne_off (Ne.symm n6))]
    exact css (u := x3) (by rw [cso (ne_off n4), cso (ne_off n2)]; exact h3)
  · exact css (u := x4) (by rw [cso (ne_off n6), cso (ne_off n5), cso (ne_off n3)]; exact h4)
set_option maxHeartbeats 1000000 in
set_option maxRecDepth 100000 in
theorem mix_any (b : Nat) (qa qb qc qd : Nat) (va vb vc vd x y : UInt32) (w : World) (hq1 : qa < 4) (hq2 : 4 ≤ qb) (hq3 : qb < 8) (hq4 : 8 ≤ qc) (hq5 : qc < 12) (hq6 : 12 ≤ qd) (hq7 : qd < 16)
    (ha : w.cell? ⟨b, qa, none⟩ = some (.int .u32 (wd va))) (hb : w.cell? ⟨b, qb, none⟩ = some (.int .u32 (wd vb))) (hc : w.cell? ⟨b, qc, none⟩ = some (.int .u32 (wd vc))) (hd : w.cell? ⟨b, qd, none⟩ = some (.int .u32 (wd vd))) (hf : ∀ i, w.frozen? ⟨b, i, none⟩ = false) :
    Calls Tryz.prog 153 #[.pointer (some ⟨b, 0, none⟩), .agg #[.int .i64 qa, .int .i64 qb, .int .i64 qc, .int .i64 qd], .int .u32 (wd x), .int .u32 (wd y)] w fun e w' => e = .returned (.tuple #[]) ∧ Save b w w' ∧ (∀ i, w'.frozen? ⟨b, i, none⟩ = false) ∧ (∀ i v, i ≠ qa → i ≠ qb → i ≠ qc → i ≠ qd → w.cell? ⟨b, i, none⟩ = some v → w'.cell? ⟨b, i, none⟩ = some v) ∧
      w'.cell? ⟨b, qa, none⟩ = some (.int .u32 (wd (mixA va vb vc vd x y))) ∧ w'.cell? ⟨b, qb, none⟩ = some (.int .u32 (wd (mixB va vb vc vd x y))) ∧ w'.cell? ⟨b, qc, none⟩ = some (.int .u32 (wd (mixC va vb vc vd x y))) ∧ w'.cell? ⟨b, qd, none⟩ = some (.int .u32 (wd (mixD va vb vc vd x y))) := by
  obtain ⟨W, hW⟩ : ∃ W, w.alloc (Obj.cells #[Value.int IntKind.i64 ↑qa, Value.int IntKind.i64 ↑qb, Value.int IntKind.i64 ↑qc, Value.int IntKind.i64 ↑qd] 194) = W := ⟨_, rfl⟩
  obtain ⟨B, hB⟩ : ∃ B, w.heap.size = B := ⟨_, rfl⟩
  have hlt : b < B := by rw [← hB]; exact World.block_lt_of_cell? w _ ha
  have q0 : W.cell? ⟨B, 0, none⟩ = some (.int .i64 qa) := by rw [← hW, ← hB, alloc_new_cell]; rfl
  have q1 : W.cell? ⟨B, 1, none⟩ = some (.int .i64 qb) := by rw [← hW, ← hB, alloc_new_cell]; rfl
  have q2 : W.cell? ⟨B, 2, none⟩ = some (.int .i64 qc) := by rw [← hW, ← hB, alloc_new_cell]; rfl
  have q3 : W.cell? ⟨B, 3, none⟩ = some (.int .i64 qd) := by rw [← hW, ← hB, alloc_new_cell]; rfl
  have ha' : W.cell? ⟨b, qa, none⟩ = some (.int .u32 (wd va)) := by rw [← hW]; exact alloc_old_cell _ ha
  have hb' : W.cell? ⟨b, qb, none⟩ = some (.int .u32 (wd vb)) := by rw [← hW]; exact alloc_old_cell _ hb
  have hc' : W.cell? ⟨b, qc, none⟩ = some (.int .u32 (wd vc)) := by rw [← hW]; exact alloc_old_cell _ hc
  have hd' : W.cell? ⟨b, qd, none⟩ = some (.int .u32 (wd vd)) := by rw [← hW]; exact alloc_old_cell _ hd
  have hf' : ∀ i, W.frozen? ⟨b, i, none⟩ = false := fun i => by rw [← hW]; exact (alloc_old_frozen (a := ⟨b, i, none⟩) _ (World.block_lt_of_cell? w ⟨b, qa, none⟩ ha)).trans (hf i)
  have hW0 : Save b w W := hW ▸ Save.alloc b w _
  have hC0 : ∀ i v, w.cell? ⟨b, i, none⟩ = some v → W.cell? ⟨b, i, none⟩ = some v := fun i v h => by rw [← hW]; exact alloc_old_cell _ h
  clear ha hb hc hd
  have HW := Lib.hid hW
  have HB := Lib.hid hB
  clear hW hB
  have hA : ∀ a b : UInt32, (wd a + wd b) % (4294967296 : Int) = wd (a + b) := u32_add
  have hX : ∀ a b : UInt32, bits BinOp.xor IntKind.u32 (wd a) (wd b) = wd (a ^^^ b) := u32_xor
  go_enter Tryz.func153, Tryz.ntmps153
  go_wp2_with fail
  rw [HW.out, HB.out]
  go_quiet (fail)
  go_wp2_with fail
  refine (rot16_any _ _).mono ?_
  rintro e w1 ⟨rfl, rfl⟩
  go_wp2_with fail
  refine (rot12_any _ _).mono ?_
  rintro e w1 ⟨rfl, rfl⟩
  go_wp2_with fail
  refine (rot8_any _ _).mono ?_
  rintro e w1 ⟨rfl, rfl⟩
  go_wp2_with fail
  refine (rot7_any _ _).mono ?_
  rintro e w1 ⟨rfl, rfl⟩
  go_wp2_with fail
  have n1 : qa ≠ qb := by omega
  have n2 : qa ≠ qc := by omega
  have n3 : qa ≠ qd := by omega
  have n4 : qb ≠ qc := by omega
  have n5 : qb ≠ qd := by omega
  have n6 : qc ≠ qd := by omega
  have nb : b ≠ B := by omega
  have z1 : (0 : Int) ≤ ↑qa := by omega
  have z2 : (0 : Int) ≤ ↑qb := by omega
  have z3 : (0 : Int) ≤ ↑qc := by omega
  have z4 : (0 : Int) ≤ ↑qd := by omega
  have y1 : (↑qa : Int) < 16 := by omega
  have y2 : (↑qb : Int) < 16 := by omega
  have y3 : (↑qc : Int) < 16 := by omega
  have y4 : (↑qd : Int) < 16 := by omega
  have nb' : B ≠ b := by omega
  go_region_held3 (fun w => w.cell? ⟨B, 0, none⟩ = some (.int .i64 qa) ∧ w.cell? ⟨B, 1, none⟩ = some (.int .i64 qb) ∧ w.cell? ⟨B, 2, none⟩ = some (.int .i64 qc) ∧ w.cell? ⟨B, 3, none⟩ = some (.int .i64 qd)) ((simp [World.cell?_setCell_far, *])) (fail)
  go_wp2_with fail
  go_end0
  obtain ⟨r1, r2, r3, r4, r5, r6, r7⟩ := four_stores _ _ _ _ _ n1 n2 n3 n4 n5 n6 ha' hb' hc' hd' _ rfl
  have e1 : va + (vb + x) = va + vb + x := (UInt32.add_assoc va vb x).symm
  have e2 : ∀ k : UInt32, va + vb + x + (k + y) = va + vb + x + k + y := fun k => (UInt32.add_assoc (va + vb + x) k y).symm
  refine ⟨rfl, (hW0.trans r1), fun i => (r2 i).trans (hf' i), fun i v a1 a2 a3 a4 h => r3 i v a1 a2 a3 a4 (hC0 i v h), r4.trans ?_, r5.trans ?_, r6.trans ?_, r7.trans ?_⟩
  all_goals simp only [e1, e2, mixA, mixB, mixC, mixD, mixA1, mixB1, mixC1, mixD1]
end Go.Proofs.YtpkapcijgldhhaaGreatDoor

namespace Go.Proofs.YtpkapcijgldhhaaGreatDoor
open Go.RowKit
theorem Save.setCells (b : Nat) : ∀ (vs : List Value) (o : Nat) (w : World), Save b w (w.setCells b o vs)
  | [], _, w => Save.refl b w
  | v :: r, o, w => by rw [World.setCells]; exact (Save.setCell w ⟨b, o, none⟩ v).trans (Save.setCells b r (o + 1) _)
theorem Save.below {b n : Nat} {w w' : World} (h : Save b w w') (hb : n ≤ b) (hn : n ≤ w.heap.size) : Below n w w' :=
  ⟨h.os, h.tape, h.output, h.size, fun k hk => h.block k (Nat.lt_of_lt_of_le hk hn) (by omega)⟩
theorem Save.there {b c o n : Nat} {w w' : World} (h : Save b w w') (hn : c ≠ b) (ht : w.there c o n) : w'.there c o n := fun j hj => by
  obtain ⟨h1, h2⟩ := ht j hj
  obtain ⟨v, hv⟩ := Option.isSome_iff_exists.1 h1
  have hlt := World.block_lt_of_cell? w _ hv
  rw [h.cell (a := ⟨c, o + j, none⟩) hlt hn, h.frozen (a := ⟨c, o + j, none⟩) hlt hn]
  exact ⟨h1, h2⟩
theorem results_cell_mid {P : Program} {fn : Func} {p : Tmp} {ty : TypeId} (h : fn.results = #[.cell p ty]) (tmps : Array Value) (w : World) (b o : Nat) (hp : tmps.getD p undef = .pointer (some ⟨b, o, none⟩))
    (cs : List Value) (d : TypeDesc) (hc : w.rangeAt b o cs) (hu : P.underlying ty = some d) (hd : d.isRow = true) (hi : (P.info? ty).map (·.size) = some cs.length) :
    (results fn tmps).run P w = .ok (.agg cs.toArray) w := by
  have hp' : tmps[p]?.getD undef = .pointer (some ⟨b, o, none⟩) := by simpa using hp
  simp [results, h, hp', asAddr, run_loadVar_mid w b o ty cs d hc hu hd hi]
/-- the sixteen words behind a mixing -/
def mixed (f : Nat → UInt32) (qa qb qc qd : Nat) (x y : UInt32) (i : Nat) : UInt32 :=
  if i = qa then mixA (f qa) (f qb) (f qc) (f qd) x y else if i = qb then mixB (f qa) (f qb) (f qc) (f qd) x y else if i = qc then mixC (f qa) (f qb) (f qc) (f qd) x y else if i = qd then mixD (f qa) (f qb) (f qc) (f qd) x y else f i
end Go.Proofs.YtpkapcijgldhhaaGreatDoor
