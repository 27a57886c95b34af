/-
  The walk of the reference's decodeHead.
  The walk of the reference's check of an entry.
  Entries: what the laws need besides: errors are not zero, bounds of encodings and of what is decoded. Plain.
  The walk of the reference's Decode.
  Words of 32 and 64 bits: how the walk spells their operations.
  blake2s: the rotation and the mixing.
  
-/
import Derived.Test.YtpkapcijgldhhaaGreatDoorCa17
import Derived.Test.YtpkapcijgldhhaaGreatDoorCa18
import Derived.Deep.RegionLaw
import Derived.Deep.Cut
import Derived.Deep.CutRange
import Derived.Deep.CutBlock
import Derived.BigRegion
import Derived.Test.YtpkapcijgldhhaaGreatDoorCa16
import Derived.Test.YtpkapcijgldhhaaGreatDoorCa09
import Derived.WalkKit
import Derived.Test.YtpkapcijgldhhaaGreatDoorCa02
import Derived.Deep.QuietTactic
import Derived.BigQuiet
import Derived.StillTailTactics
import Derived.Deep.RegionHeld3
namespace Go.Proofs.YtpkapcijgldhhaaGreatDoor
open Go.RowKit Go.Shelf
/-- how far a row of M has come -/
def RowSt {α : Type} (f : Int → Except Int (α × Int)) (b0 : Int) (M k : Nat) (A : List α) : Except Int Int → Prop
  | .ok b => rowR f b0 k = .ok (A, b)
  | .error x => rowR f b0 M = .error x
def h3 (w : World) (s : ByteArray) : World := ((w.alloc (.cells #[.int .i64 0, .string ⟨#[]⟩, .slice none 0 0, .string ⟨#[]⟩, .int .i64 0, .string ⟨#[]⟩, .slice none 0 0] 109)).alloc (.cells #[.string s, .int .i64 0, .int .i64 0] 233)).alloc (.cells #[.int .i64 0, .string ⟨#[]⟩, .slice none 0 0, .string ⟨#[]⟩, .int .i64 0, .string ⟨#[]⟩, .slice none 0 0] 109)
theorem RSt.keepE {W W' : World} {R B : Nat} {s : ByteArray} {st : Except Int Int} (h : RSt W R s st) (hb : Below B W W') (hR : R < B) : RSt W' R s st := by
  cases st with
  | ok a => exact Box.below' h hb hR
  | error x => obtain ⟨h1, a, h2⟩ := h; exact ⟨h1, a, Box.below' h2 hb hR⟩
theorem RSt.setOther {W : World} {R E j : Nat} {s : ByteArray} {st : Except Int Int} (h : RSt W R s st) (hne : E ≠ R) (v : Value) : RSt (W.setCell ⟨E, j, none⟩ v) R s st := by
  cases st with
  | ok a => exact Box.setOther h hne v
  | error x => obtain ⟨h1, a, h2⟩ := h; exact ⟨h1, a, Box.setOther h2 hne v⟩
/-- the error's cell -/
def errOf : Except Int Int → Int
  | .ok _ => 0
  | .error x => x
theorem RSt.err {W : World} {R : Nat} {s : ByteArray} {st : Except Int Int} (h : RSt W R s st) : W.cell? ⟨R, 2, none⟩ = some (.int .i64 (errOf st)) ∧ W.frozen? ⟨R, 2, none⟩ = false := by
  cases st with
  | ok a => exact ⟨Box.cell h 2, Box.frozen h 2⟩
  | error x => obtain ⟨h1, a, h2⟩ := h; exact ⟨Box.cell h2 2, Box.frozen h2 2⟩
end Go.Proofs.YtpkapcijgldhhaaGreatDoor

namespace Go.Proofs.YtpkapcijgldhhaaGreatDoor
open Go.RowKit Go.Shelf

theorem Box.cells7 {W : World} {D : Nat} {v0 v1 v2 v3 v4 v5 v6 : Value} {T : TypeId} (h : Box W D [v0, v1, v2, v3, v4, v5, v6] T) :
    W.cell? ⟨D, 0, none⟩ = some v0 ∧ W.cell? ⟨D, 1, none⟩ = some v1 ∧ W.cell? ⟨D, 2, none⟩ = some v2 ∧ W.cell? ⟨D, 3, none⟩ = some v3 ∧ W.cell? ⟨D, 4, none⟩ = some v4 ∧ W.cell? ⟨D, 5, none⟩ = some v5 ∧ W.cell? ⟨D, 6, none⟩ = some v6 :=
  ⟨h.cell 0, h.cell 1, h.cell 2, h.cell 3, h.cell 4, h.cell 5, h.cell 6⟩
theorem nameL_nil {k : Int} : nameL k = [] ↔ (k < 1 ∨ 6 < k) := by
  constructor
  · intro h
    by_cases h1 : 1 ≤ k ∧ k ≤ 6
    · have : k = 1 ∨ k = 2 ∨ k = 3 ∨ k = 4 ∨ k = 5 ∨ k = 6 := by omega
      rcases this with rfl | rfl | rfl | rfl | rfl | rfl <;> cases h
    · omega
  · intro h
    unfold nameL
    rw [if_neg (by omega), if_neg (by omega), if_neg (by omega), if_neg (by omega), if_neg (by omega), if_neg (by omega)]
theorem exSum_bd {X : List Ex} : ∀ {k : Nat}, k ≤ X.length → firstE (exE 1 X) k = 0 → 0 ≤ exSum (X.take k) ∧ exSum (X.take k) ≤ 65536 * k
  | 0, _, _ => by simp [exSum]
  | k + 1, hk, h => by
    have h0 : firstE (exE 1 X) k = 0 := by
      rw [firstE] at h
      split at h
      · assumption
      · rename_i h1; exact absurd h h1
    have h1 : exOk (exAt X k) = true := by
      have := firstE_all h k (Nat.lt_succ_self k)
      cases e : exOk (exAt X k)
      · rw [exE_bad e] at this; cases this
      · rfl
    have h2 := exOk_iff.1 h1
    have h3 := exSum_bd (Nat.le_of_succ_le hk) h0
    have h4 := exSum_take X k hk
    omega
end Go.Proofs.YtpkapcijgldhhaaGreatDoor

namespace Go.Proofs.YtpkapcijgldhhaaGreatDoor
open Go.RowKit Go.Shelf

def NZ {α : Type} (r : Except Int α) : Prop := ∀ x, r = .error x → x ≠ 0
theorem NZ.ok {α : Type} (a : α) : NZ (.ok a : Except Int α) := fun x h => by cases h
theorem NZ.err {α : Type} {x : Int} (h : x ≠ 0) : NZ (.error x : Except Int α) := fun y e => by cases e; exact h
theorem nz_txt (l : List UInt8) (a : Int) : NZ (txt l a) := by
  unfold txt
  split
  · exact NZ.ok _
  · exact NZ.err ‹_›
theorem nz_nmb (l : List UInt8) (a : Int) : NZ (nmb l a) := by
  unfold nmb
  split
  · exact NZ.ok _
  · exact NZ.err ‹_›
theorem nz_bind {α β : Type} {r : Except Int α} {f : α → Except Int β} (h : NZ r) (k : ∀ a, NZ (f a)) : NZ (r >>= f) := by
  cases r with
  | error x => exact NZ.err (h x rfl)
  | ok a => exact k a
theorem nz_ite {α : Type} {p : Prop} [Decidable p] {a b : Except Int α} (h : NZ a) (k : NZ b) : NZ (if p then a else b) := by split <;> assumption
theorem nz_cnt (m : Int) (l : List UInt8) (a : Int) : NZ (cnt m l a) := nz_bind (nz_nmb l a) fun _ => nz_ite (NZ.err (by decide)) (NZ.ok _)
theorem nz_atR (l : List UInt8) (a : Int) : NZ (atR l a) := nz_bind (nz_txt l a) fun _ => nz_bind (nz_txt l _) fun _ => NZ.ok _
theorem nz_exR (l : List UInt8) (a : Int) : NZ (exR l a) := nz_bind (nz_nmb l a) fun _ => nz_bind (nz_nmb l _) fun _ => nz_bind (nz_nmb l _) fun _ => NZ.ok _
theorem nz_rowR {α : Type} {f : Int → Except Int (α × Int)} (h : ∀ a, NZ (f a)) (a : Int) : ∀ k, NZ (rowR f a k)
  | 0 => NZ.ok _
  | k + 1 => nz_bind (nz_rowR h a k) fun _ => nz_bind (h _) fun _ => NZ.ok _
theorem nz_headR (l : List UInt8) : NZ (headR l) :=
  nz_bind (nz_txt l 0) fun _ => nz_ite (NZ.err (by decide)) (nz_bind (nz_txt l _) fun _ => nz_bind (nz_cnt 400 l _) fun _ => nz_bind (nz_rowR (nz_atR l) _ _) fun _ => nz_bind (nz_txt l _) fun _ => nz_ite (NZ.ok _) (NZ.err (by decide)))
theorem nz_decR (l : List UInt8) (a : Int) : NZ (decR l a) :=
  nz_bind (nz_txt l a) fun _ => nz_bind (nz_headR _) fun _ => nz_bind (nz_nmb l _) fun _ => nz_bind (nz_txt l _) fun _ => nz_bind (nz_cnt 65536 l _) fun _ => nz_bind (nz_rowR (nz_exR l) _ _) fun _ => by
    dsimp only
    split
    · exact NZ.ok _
    · exact NZ.err ‹_›
/-- small entries have small encodings -/
theorem strL_bd {u : List UInt8} {n : Nat} (h : u.length ≤ n) (hn : n ≤ 1000000) : (strL u).length ≤ n + 22 := by
  rw [strL_length]
  have := itoa_len (n := (u.length : Int)) (by omega) (by omega)
  omega
theorem numL_le {n : Int} (h0 : -9223372036854775808 ≤ n) (h1 : n ≤ 9223372036854775807) : (numL n).length ≤ 21 := by
  rw [numL_length]; have := itoa_len h0 h1; omega
theorem flat_bd {α : Type} {f : α → List UInt8} {n : Nat} : ∀ {A : List α}, (∀ x ∈ A, (f x).length ≤ n) → (A.flatMap f).length ≤ n * A.length
  | [], _ => by simp
  | x :: A, h => by
    rw [List.flatMap_cons, List.length_append, List.length_cons, Nat.mul_succ]
    have h1 := h x (by simp)
    have h2 := flat_bd (f := f) (n := n) (A := A) fun y hy => h y (by simp [hy])
    omega
theorem small_head {e : En} (hs : SmallE e) : (headL e).length ≤ 12000 := by
  obtain ⟨h1, h2, h3, h4, h5, h6⟩ := hs
  unfold headL
  simp only [List.length_append]
  have a1 : (strL (nameL e.kind)).length ≤ 29 := strL_bd (n := 7) (by unfold nameL; (repeat' split) <;> decide) (by decide)
  have a2 : (strL e.path.data.toList).length ≤ 322 := strL_bd (n := 300) h1 (by decide)
  have a3 := numL_le (n := (e.attrs.length : Int)) (by omega) (by omega)
  have a4 : (e.attrs.flatMap atL).length ≤ 244 * e.attrs.length := flat_bd fun x hx => by
    obtain ⟨i, hi, rfl⟩ := List.getElem_of_mem hx
    have h7 := h6 i hi
    rw [atAt_get hi] at h7
    unfold atL
    rw [List.length_append]
    have b1 : (strL e.attrs[i].key.data.toList).length ≤ 122 := strL_bd (n := 100) h7.1 (by decide)
    have b2 : (strL e.attrs[i].value.data.toList).length ≤ 122 := strL_bd (n := 100) h7.2 (by decide)
    omega
  have a5 : (strL e.target.data.toList).length ≤ 322 := strL_bd (n := 300) h2 (by decide)
  have a6 : 244 * e.attrs.length ≤ 244 * 30 := Nat.mul_le_mul_left _ h5
  omega
end Go.Proofs.YtpkapcijgldhhaaGreatDoor

namespace Go.Proofs.YtpkapcijgldhhaaGreatDoor
open Go.RowKit Go.Shelf

theorem decA_decR (s : ByteArray) (a : Int) : decA s a = dc1 s.data.toList (txt s.data.toList a) := by
  rw [← decR_steps, decA]
  split
  · rename_i h
    have h2 : txt s.data.toList a = .error 1 := by
      unfold txt
      rw [rdStr_arg (by have hl : s.data.toList.length = s.size := rfl; omega)]
      rfl
    rw [decR_steps, h2]; rfl
  · rfl
theorem box1' (w : World) (c1 : List Value) (T1 : TypeId) : Below w.heap.size w (w.alloc (.cells c1.toArray T1)) ∧ Box (w.alloc (.cells c1.toArray T1)) w.heap.size c1 T1 :=
  ⟨(below_refl w).alloc (Nat.le_refl _) _, Box.new w c1 T1⟩
theorem boxes2' (w : World) (c1 c2 : List Value) (T1 T2 : TypeId) :
    Below w.heap.size w ((w.alloc (.cells c1.toArray T1)).alloc (.cells c2.toArray T2)) ∧ Box ((w.alloc (.cells c1.toArray T1)).alloc (.cells c2.toArray T2)) w.heap.size c1 T1 ∧ Box ((w.alloc (.cells c1.toArray T1)).alloc (.cells c2.toArray T2)) (w.heap.size + 1) c2 T2 := by
  have h1 := Box.new w c1 T1
  have s1 := size_one w (.cells c1.toArray T1)
  have k1 : Below w.heap.size w (w.alloc (.cells c1.toArray T1)) := (below_refl w).alloc (Nat.le_refl _) _
  have h2 := Box.new (w.alloc (.cells c1.toArray T1)) c2 T2
  have k2 : Below (w.alloc (.cells c1.toArray T1)).heap.size (w.alloc (.cells c1.toArray T1)) ((w.alloc (.cells c1.toArray T1)).alloc (.cells c2.toArray T2)) := (below_refl _).alloc (Nat.le_refl _) _
  rw [s1] at h2
  exact ⟨step2 k1 k2, h1.below k2, h2⟩
theorem Box.froz7 {W : World} {D : Nat} {cs : List Value} {T : TypeId} (h : Box W D cs T) : W.frozen? ⟨D, 0, none⟩ = false ∧ W.frozen? ⟨D, 1, none⟩ = false ∧ W.frozen? ⟨D, 2, none⟩ = false ∧ W.frozen? ⟨D, 3, none⟩ = false ∧ W.frozen? ⟨D, 4, none⟩ = false ∧ W.frozen? ⟨D, 5, none⟩ = false ∧ W.frozen? ⟨D, 6, none⟩ = false :=
  ⟨h.frozen 0, h.frozen 1, h.frozen 2, h.frozen 3, h.frozen 4, h.frozen 5, h.frozen 6⟩
end Go.Proofs.YtpkapcijgldhhaaGreatDoor

namespace Go.Proofs.YtpkapcijgldhhaaGreatDoor

theorem wrap_u32 (n : Nat) (h : n < 4294967296) : IntKind.u32.wrap (n : Int) = n := by
  simp [IntKind.wrap, IntKind.signed, IntKind.bits]; omega
theorem u32_lt (a : UInt32) : a.toNat < 4294967296 := a.toNat_lt
theorem u32_mod (a : UInt32) : a.toNat % 2 ^ IntKind.u32.bits = a.toNat := Nat.mod_eq_of_lt (u32_lt a)
/-- a word of 32 bits as the walk holds it (a plain definition: the walk's simp does not look into it) -/
def wd (a : UInt32) : Int := a.toNat
theorem wd_lt (a : UInt32) : 0 ≤ wd a ∧ wd a < 4294967296 := by have := u32_lt a; unfold wd; omega
theorem u32_add (a b : UInt32) : (wd a + wd b) % (4294967296 : Int) = wd (a + b) := by
  unfold wd; rw [UInt32.toNat_add]; omega
theorem u32_xor (a b : UInt32) : bits BinOp.xor IntKind.u32 (wd a) (wd b) = wd (a ^^^ b) := by
  have h := u32_lt (a ^^^ b)
  unfold wd
  rw [UInt32.toNat_xor] at h ⊢
  simp [bits, u32_mod, wrap_u32 _ h]
theorem u32_or (a b : UInt32) : bits BinOp.or IntKind.u32 (wd a) (wd b) = wd (a ||| b) := by
  have h := u32_lt (a ||| b)
  unfold wd
  rw [UInt32.toNat_or] at h ⊢
  simp [bits, u32_mod, wrap_u32 _ h]
theorem u32_shl16 (z : UInt32) : wd z * (65536 : Int) % (4294967296 : Int) = wd (z <<< 16) := by
  unfold wd; rw [UInt32.toNat_shiftLeft, show ((16 : UInt32).toNat % 32) = 16 from rfl, Nat.shiftLeft_eq]; omega
theorem u32_shr16 (z : UInt32) : wd z / (65536 : Int) = wd (z >>> 16) := by
  unfold wd; rw [UInt32.toNat_shiftRight, show ((16 : UInt32).toNat % 32) = 16 from rfl, Nat.shiftRight_eq_div_pow]; omega
theorem u32_shr12 (z : UInt32) : wd z / (4096 : Int) = wd (z >>> 12) := by
  unfold wd; rw [UInt32.toNat_shiftRight, show ((12 : UInt32).toNat % 32) = 12 from rfl, Nat.shiftRight_eq_div_pow]; omega
theorem u32_shl8 (z : UInt32) : wd z * (256 : Int) % (4294967296 : Int) = wd (z <<< 8) := by
  unfold wd; rw [UInt32.toNat_shiftLeft, show ((8 : UInt32).toNat % 32) = 8 from rfl, Nat.shiftLeft_eq]; omega
theorem u32_shr8 (z : UInt32) : wd z / (256 : Int) = wd (z >>> 8) := by
  unfold wd; rw [UInt32.toNat_shiftRight, show ((8 : UInt32).toNat % 32) = 8 from rfl, Nat.shiftRight_eq_div_pow]; omega
theorem u32_shr7 (z : UInt32) : wd z / (128 : Int) = wd (z >>> 7) := by
  unfold wd; rw [UInt32.toNat_shiftRight, show ((7 : UInt32).toNat % 32) = 7 from rfl, Nat.shiftRight_eq_div_pow]; omega
theorem u32_shl24 (z : UInt32) : wd z * (16777216 : Int) % (4294967296 : Int) = wd (z <<< 24) := by
  unfold wd; rw [UInt32.toNat_shiftLeft, show ((24 : UInt32).toNat % 32) = 24 from rfl, Nat.shiftLeft_eq]; omega
theorem u32_shr24 (z : UInt32) : wd z / (16777216 : Int) = wd (z >>> 24) := by
  unfold wd; rw [UInt32.toNat_shiftRight, show ((24 : UInt32).toNat % 32) = 24 from rfl, Nat.shiftRight_eq_div_pow]; omega
theorem u32_shl20 (z : UInt32) : wd z * (1048576 : Int) % (4294967296 : Int) = wd (z <<< 20) := by
  unfold wd; rw [UInt32.toNat_shiftLeft, show ((20 : UInt32).toNat % 32) = 20 from rfl, Nat.shiftLeft_eq]; omega
theorem u32_shl25 (z : UInt32) : wd z * (33554432 : Int) % (4294967296 : Int) = wd (z <<< 25) := by
  unfold wd; rw [UInt32.toNat_shiftLeft, show ((25 : UInt32).toNat % 32) = 25 from rfl, Nat.shiftLeft_eq]; omega
/-- rotations to the right -/
def rr16 (z : UInt32) : UInt32 := z >>> 16 ||| z <<< 16
def rr12 (z : UInt32) : UInt32 := z >>> 12 ||| z <<< 20
def rr8 (z : UInt32) : UInt32 := z >>> 8 ||| z <<< 24
def rr7 (z : UInt32) : UInt32 := z >>> 7 ||| z <<< 25
/-- BLAKE2s's mixing of four words -/
def mixA1 (a b x : UInt32) : UInt32 := a + b + x
def mixD1 (a b d x : UInt32) : UInt32 := rr16 (d ^^^ mixA1 a b x)
def mixC1 (a b c d x : UInt32) : UInt32 := c + mixD1 a b d x
def mixB1 (a b c d x : UInt32) : UInt32 := rr12 (b ^^^ mixC1 a b c d x)
def mixA (a b c d x y : UInt32) : UInt32 := mixA1 a b x + mixB1 a b c d x + y
def mixD (a b c d x y : UInt32) : UInt32 := rr8 (mixD1 a b d x ^^^ mixA a b c d x y)
def mixC (a b c d x y : UInt32) : UInt32 := mixC1 a b c d x + mixD a b c d x y
def mixB (a b c d x y : UInt32) : UInt32 := rr7 (mixB1 a b c d x ^^^ mixC a b c d x y)
end Go.Proofs.YtpkapcijgldhhaaGreatDoor

namespace Go.Proofs.YtpkapcijgldhhaaGreatDoor
open Go.RowKit
theorem rot16_any (z : UInt32) (w : World) :
    Calls Tryz.prog 189 #[.int .u32 (wd z), .int .i64 (-16)] w fun e w' => e = .returned (.int .u32 (wd (rr16 z))) ∧ w = w' := by
  obtain ⟨hz0, hz1⟩ := wd_lt z
  have hs : bits BinOp.and IntKind.u64 (IntKind.u64.wrap (-16)) 31 = 16 := by decide +kernel
  have h1 := u32_shl16 z
  have h2 := u32_shr16 z
  have h3 := u32_or (z <<< 16) (z >>> 16)
  go_enter Tryz.func189, Tryz.ntmps189
  go_wp2_with fail
  go_ret
  exact ⟨ret_int (by rw [rr16, UInt32.or_comm]), rfl⟩
theorem rot12_any (z : UInt32) (w : World) :
    Calls Tryz.prog 189 #[.int .u32 (wd z), .int .i64 (-12)] w fun e w' => e = .returned (.int .u32 (wd (rr12 z))) ∧ w = w' := by
  obtain ⟨hz0, hz1⟩ := wd_lt z
  have hs : bits BinOp.and IntKind.u64 (IntKind.u64.wrap (-12)) 31 = 20 := by decide +kernel
  have h1 := u32_shl20 z
  have h2 := u32_shr12 z
  have h3 := u32_or (z <<< 20) (z >>> 12)
  go_enter Tryz.func189, Tryz.ntmps189
  go_wp2_with fail
  go_ret
  exact ⟨ret_int (by rw [rr12, UInt32.or_comm]), rfl⟩
theorem rot8_any (z : UInt32) (w : World) :
    Calls Tryz.prog 189 #[.int .u32 (wd z), .int .i64 (-8)] w fun e w' => e = .returned (.int .u32 (wd (rr8 z))) ∧ w = w' := by
  obtain ⟨hz0, hz1⟩ := wd_lt z
  have hs : bits BinOp.and IntKind.u64 (IntKind.u64.wrap (-8)) 31 = 24 := by decide +kernel
  have h1 := u32_shl24 z
  have h2 := u32_shr8 z
  have h3 := u32_or (z <<< 24) (z >>> 8)
  go_enter Tryz.func189, Tryz.ntmps189
  go_wp2_with fail
  go_ret
  exact ⟨ret_int (by rw [rr8, UInt32.or_comm]), rfl⟩
theorem rot7_any (z : UInt32) (w : World) :
    Calls Tryz.prog 189 #[.int .u32 (wd z), .int .i64 (-7)] w fun e w' => e = .returned (.int .u32 (wd (rr7 z))) ∧ w = w' := by
  obtain ⟨hz0, hz1⟩ := wd_lt z
  have hs : bits BinOp.and IntKind.u64 (IntKind.u64.wrap (-7)) 31 = 25 := by decide +kernel
  have h1 := u32_shl25 z
  have h2 := u32_shr7 z
  have h3 := u32_or (z <<< 25) (z >>> 7)
  go_enter Tryz.func189, Tryz.ntmps189
  go_wp2_with fail
  go_ret
  exact ⟨ret_int (by rw [rr7, UInt32.or_comm]), rfl⟩
end Go.Proofs.YtpkapcijgldhhaaGreatDoor

namespace Go.Proofs.YtpkapcijgldhhaaGreatDoor
open Go.RowKit
/-- Everything but block b is as it was. -/
structure Save (b : Nat) (w w' : World) : Prop where
  os : w'.os = w.os
  tape : w'.tape = w.tape
  output : w'.output = w.output
  size : w.heap.size ≤ w'.heap.size
  block : ∀ k, k < w.heap.size → k ≠ b → w'.heap[k]? = w.heap[k]?
theorem Save.refl (b : Nat) (w : World) : Save b w w := ⟨rfl, rfl, rfl, Nat.le_refl _, fun _ _ _ => rfl⟩
theorem Save.trans {b : Nat} {u v w : World} (h : Save b u v) (k : Save b v w) : Save b u w :=
  ⟨k.os.trans h.os, k.tape.trans h.tape, k.output.trans h.output, Nat.le_trans h.size k.size, fun i hi hn => (k.block i (Nat.lt_of_lt_of_le hi h.size) hn).trans (h.block i hi hn)⟩
theorem Save.alloc (b : Nat) (w : World) (o : Obj) : Save b w (w.alloc o) :=
  ⟨rfl, rfl, rfl, by show w.heap.size ≤ (w.heap.push o).size; simp, fun k hk _ => Below.heap_alloc w o k hk⟩
theorem Save.drew (b : Nat) (w : World) : Save b w w.drew := ⟨rfl, rfl, rfl, Nat.le_refl _, fun _ _ _ => rfl⟩
theorem Save.setCell (w : World) (a : Addr) (u : Value) : Save a.block w (w.setCell a u) :=
  ⟨rfl, rfl, rfl, by simp [World.setCell], fun k _ hn => Below.heap_setCell w a u k hn⟩
theorem Save.cell {b : Nat} {w w' : World} (h : Save b w w') {a : Addr} (hlt : a.block < w.heap.size) (hn : a.block ≠ b) : w'.cell? a = w.cell? a := by
  unfold World.cell?; rw [h.block _ hlt hn]
theorem Save.frozen {b : Nat} {w w' : World} (h : Save b w w') {a : Addr} (hlt : a.block < w.heap.size) (hn : a.block ≠ b) : w'.frozen? a = w.frozen? a := by
  unfold World.frozen?; rw [h.block _ hlt hn]
theorem Save.drewN (b : Nat) (w : World) (n : Nat) : Save b w (w.drewN n) := ⟨rfl, rfl, rfl, Nat.le_refl _, fun _ _ _ => rfl⟩
theorem ne_off {b i j : Nat} (h : i ≠ j) : (⟨b, i, none⟩ : Addr) ≠ ⟨b, j, none⟩ := fun e => h (by injection e)
theorem cso {w : World} {a c : Addr} {v : Value} (h : a ≠ c) : (w.setCell a v).cell? c = w.cell? c := World.cell?_setCell_other _ _ _ _ h
theorem css {w : World} {a : Addr} {v u : Value} (h : w.cell? a = some u) : (w.setCell a v).cell? a = some v := World.cell?_setCell_same _ _ _ h
theorem four_stores {W : World} {b qa qb qc qd : Nat} {x1 x2 x3 x4 : Value} (n : Nat) (u1 u2 u3 u4 : Value) (n1 : qa ≠ qb) (n2 : qa ≠ qc) (n3 : qa ≠ qd) (n4 : qb ≠ qc) (n5 : qb ≠ qd) (n6 : qc ≠ qd)
    (h1 : W.cell? ⟨b, qa, none⟩ = some x1) (h2 : W.cell? ⟨b, qb, none⟩ = some x2) (h3 : W.cell? ⟨b, qc, none⟩ = some x3) (h4 : W.cell? ⟨b, qd, none⟩ = some x4) (w' : World)
    (hw : ((((W.drewN n).setCell ⟨b, qa, none⟩ u1).setCell ⟨b, qb, none⟩ u2).setCell ⟨b, qc, none⟩ u3).setCell ⟨b, qd, none⟩ u4 = w') :
    Save b W w' ∧ (∀ i, w'.frozen? ⟨b, i, none⟩ = W.frozen? ⟨b, i, none⟩) ∧ (∀ i v, i ≠ qa → i ≠ qb → i ≠ qc → i ≠ qd → W.cell? ⟨b, i, none⟩ = some v → w'.cell? ⟨b, i, none⟩ = some v) ∧
      w'.cell? ⟨b, qa, none⟩ = some u1 ∧ w'.cell? ⟨b, qb, none⟩ = some u2 ∧ w'.cell? ⟨b, qc, none⟩ = some u3 ∧ w'.cell? ⟨b, qd, none⟩ = some u4 := by
  subst hw
  refine ⟨((((Save.drewN b W n).trans (Save.setCell _ ⟨b, qa, none⟩ u1)).trans (Save.setCell _ ⟨b, qb, none⟩ u2)).trans (Save.setCell _ ⟨b, qc, none⟩ u3)).trans (Save.setCell _ ⟨b, qd, none⟩ u4), fun i => by simp, fun i v a1 a2 a3 a4 h => ?_, ?_, ?_, ?_, ?_⟩
  · rw [cso (ne_off (Ne.symm a4)), cso (ne_off (Ne.symm a3)), cso (ne_off (Ne.symm a2)), cso (ne_off (Ne.symm a1))]
    exact h
  · rw [cso (ne_off (Ne.symm n3)), cso (ne_off (Ne.symm n2)), cso (ne_off (Ne.symm n1))]
    exact css (u := x1) h1
  · rw [cso (ne_off (Ne.symm n5)), cso (ne_off (Ne.symm n4))]
    exact css (u := x2) (by rw [cso (ne_off n1)]; exact h2)
  · rw [cso (ne_off (Ne.symm n6))]
    exact css (u := x3) (by rw [cso (ne_off n4), cso (ne_off n2)]; exact h3)
  · exact css (u := x4) (by rw [cso (ne_off n6), cso (ne_off n5), cso (ne_off n3)]; exact h4)
set_option maxHeartbeats 1000000 in
set_option maxRecDepth 100000 in
theorem mix_any (b : Nat) (qa qb qc qd : Nat) (va vb vc vd x y : UInt32) (w : World) (hq1 : qa < 4) (hq2 : 4 ≤ qb) (hq3 : qb < 8) (hq4 : 8 ≤ qc) (hq5 : qc < 12) (hq6 : 12 ≤ qd) (hq7 : qd < 16)
    (ha : w.cell? ⟨b, qa, none⟩ = some (.int .u32 (wd va))) (hb : w.cell? ⟨b, qb, none⟩ = some (.int .u32 (wd vb))) (hc : w.cell? ⟨b, qc, none⟩ = some (.int .u32 (wd vc))) (hd : w.cell? ⟨b, qd, none⟩ = some (.int .u32 (wd vd))) (hf : ∀ i, w.frozen? ⟨b, i, none⟩ = false) :
    Calls Tryz.prog 153 #[.pointer (some ⟨b, 0, none⟩), .agg #[.int .i64 qa, .int .i64 qb, .int .i64 qc, .int .i64 qd], .int .u32 (wd x), .int .u32 (wd y)] w fun e w' => e = .returned (.tuple #[]) ∧ Save b w w' ∧ (∀ i, w'.frozen? ⟨b, i, none⟩ = false) ∧ (∀ i v, i ≠ qa → i ≠ qb → i ≠ qc → i ≠ qd → w.cell? ⟨b, i, none⟩ = some v → w'.cell? ⟨b, i, none⟩ = some v) ∧
      w'.cell? ⟨b, qa, none⟩ = some (.int .u32 (wd (mixA va vb vc vd x y))) ∧ w'.cell? ⟨b, qb, none⟩ = some (.int .u32 (wd (mixB va vb vc vd x y))) ∧ w'.cell? ⟨b, qc, none⟩ = some (.int .u32 (wd (mixC va vb vc vd x y))) ∧ w'.cell? ⟨b, qd, none⟩ = some (.int .u32 (wd (mixD va vb vc vd x y))) := by
  obtain ⟨W, hW⟩ : ∃ W, w.alloc (Obj.cells #[Value.int IntKind.i64 ↑qa, Value.int IntKind.i64 ↑qb, Value.int IntKind.i64 ↑qc, Value.int IntKind.i64 ↑qd] 194) = W := ⟨_, rfl⟩
  obtain ⟨B, hB⟩ : ∃ B, w.heap.size = B := ⟨_, rfl⟩
  have hlt : b < B := by rw [← hB]; exact World.block_lt_of_cell? w _ ha
  have q0 : W.cell? ⟨B, 0, none⟩ = some (.int .i64 qa) := by rw [← hW, ← hB, alloc_new_cell]; rfl
  have q1 : W.cell? ⟨B, 1, none⟩ = some (.int .i64 qb) := by rw [← hW, ← hB, alloc_new_cell]; rfl
  have q2 : W.cell? ⟨B, 2, none⟩ = some (.int .i64 qc) := by rw [← hW, ← hB, alloc_new_cell]; rfl
  have q3 : W.cell? ⟨B, 3, none⟩ = some (.int .i64 qd) := by rw [← hW, ← hB, alloc_new_cell]; rfl
  have ha' : W.cell? ⟨b, qa, none⟩ = some (.int .u32 (wd va)) := by rw [← hW]; exact alloc_old_cell _ ha
  have hb' : W.cell? ⟨b, qb, none⟩ = some (.int .u32 (wd vb)) := by rw [← hW]; exact alloc_old_cell _ hb
  have hc' : W.cell? ⟨b, qc, none⟩ = some (.int .u32 (wd vc)) := by rw [← hW]; exact alloc_old_cell _ hc
  have hd' : W.cell? ⟨b, qd, none⟩ = some (.int .u32 (wd vd)) := by rw [← hW]; exact alloc_old_cell _ hd
  have hf' : ∀ i, W.frozen? ⟨b, i, none⟩ = false := fun i => by rw [← hW]; exact (alloc_old_frozen (a := ⟨b, i, none⟩) _ (World.block_lt_of_cell? w ⟨b, qa, none⟩ ha)).trans (hf i)
  have hW0 : Save b w W := hW ▸ Save.alloc b w _
  have hC0 : ∀ i v, w.cell? ⟨b, i, none⟩ = some v → W.cell? ⟨b, i, none⟩ = some v := fun i v h => by rw [← hW]; exact alloc_old_cell _ h
  clear ha hb hc hd
  have HW := Lib.hid hW
  have HB := Lib.hid hB
  clear hW hB
  have hA : ∀ a b : UInt32, (wd a + wd b) % (4294967296 : Int) = wd (a + b) := u32_add
  have hX : ∀ a b : UInt32, bits BinOp.xor IntKind.u32 (wd a) (wd b) = wd (a ^^^ b) := u32_xor
  go_enter Tryz.func153, Tryz.ntmps153
  go_wp2_with fail
  rw [HW.out, HB.out]
  go_quiet (fail)
  go_wp2_with fail
  refine (rot16_any _ _).mono ?_
  rintro e w1 ⟨rfl, rfl⟩
  go_wp2_with fail
  refine (rot12_any _ _).mono ?_
  rintro e w1 ⟨rfl, rfl⟩
  go_wp2_with fail
  refine (rot8_any _ _).mono ?_
  rintro e w1 ⟨rfl, rfl⟩
  go_wp2_with fail
  refine (rot7_any _ _).mono ?_
  rintro e w1 ⟨rfl, rfl⟩
  go_wp2_with fail
  have n1 : qa ≠ qb := by omega
  have n2 : qa ≠ qc := by omega
  have n3 : qa ≠ qd := by omega
  have n4 : qb ≠ qc := by omega
  have n5 : qb ≠ qd := by omega
  have n6 : qc ≠ qd := by omega
  have nb : b ≠ B := by omega
  have z1 : (0 : Int) ≤ ↑qa := by omega
  have z2 : (0 : Int) ≤ ↑qb := by omega
  have z3 : (0 : Int) ≤ ↑qc := by omega
  have z4 : (0 : Int) ≤ ↑qd := by omega
  have y1 : (↑qa : Int) < 16 := by omega
  have y2 : (↑qb : Int) < 16 := by omega
  have y3 : (↑qc : Int) < 16 := by omega
  have y4 : (↑qd : Int) < 16 := by omega
  have nb' : B ≠ b := by omega
  go_region_held3 (fun w => w.cell? ⟨B, 0, none⟩ = some (.int .i64 qa) ∧ w.cell? ⟨B, 1, none⟩ = some (.int .i64 qb) ∧ w.cell? ⟨B, 2, none⟩ = some (.int .i64 qc) ∧ w.cell? ⟨B, 3, none⟩ = some (.int .i64 qd)) ((simp [World.cell?_setCell_far, *])) (fail)
  go_wp2_with fail
  go_end0
  obtain ⟨r1, r2, r3, r4, r5, r6, r7⟩ := four_stores _ _ _ _ _ n1 n2 n3 n4 n5 n6 ha' hb' hc' hd' _ rfl
  have e1 : va + (vb + x) = va + vb + x := (UInt32.add_assoc va vb x).symm
  have e2 : ∀ k : UInt32, va + vb + x + (k + y) = va + vb + x + k + y := fun k => (UInt32.add_assoc (va + vb + x) k y).symm
  refine ⟨rfl, (hW0.trans r1), fun i => (r2 i).trans (hf' i), fun i v a1 a2 a3 a4 h => r3 i v a1 a2 a3 a4 (hC0 i v h), r4.trans ?_, r5.trans ?_, r6.trans ?_, r7.trans ?_⟩
  all_goals simp only [e1, e2, mixA, mixB, mixC, mixD, mixA1, mixB1, mixC1, mixD1]
end Go.Proofs.YtpkapcijgldhhaaGreatDoor
