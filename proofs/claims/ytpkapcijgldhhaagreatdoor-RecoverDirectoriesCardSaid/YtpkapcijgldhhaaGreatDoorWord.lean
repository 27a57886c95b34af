/-
  Words of 32 and 64 bits: how the walk spells their operations.
-/
import Derived.WalkKit
namespace Go.Proofs.YtpkapcijgldhhaaGreatDoor

theorem wrap_u32 (n : Nat) (h : n < 4294967296) : IntKind.u32.wrap (n : Int) = n := by
  simp [IntKind.wrap, IntKind.signed, IntKind.bits]; omega
theorem u32_lt (a : UInt32) : a.toNat < 4294967296 := a.toNat_lt
theorem u32_mod (a : UInt32) : a.toNat % 2 ^ IntKind.u32.bits = a.toNat := Nat.mod_eq_of_lt (u32_lt a)
/-- a word of 32 bits as the walk holds it (a plain definition: the walk's simp does not look into it) -/
def wd (a : UInt32) : Int := a.toNat
theorem wd_def (a : UInt32) : wd a = (a.toNat : Int) := rfl
theorem wd_lt (a : UInt32) : 0 ≤ wd a ∧ wd a < 4294967296 := by have := u32_lt a; unfold wd; omega
theorem u32_add (a b : UInt32) : (wd a + wd b) % (4294967296 : Int) = wd (a + b) := by
  unfold wd; rw [UInt32.toNat_add]; omega
theorem u32_xor (a b : UInt32) : bits BinOp.xor IntKind.u32 (wd a) (wd b) = wd (a ^^^ b) := by
  have h := u32_lt (a ^^^ b)
  unfold wd
  rw [UInt32.toNat_xor] at h ⊢
  simp [bits, u32_mod, wrap_u32 _ h]
theorem u32_or (a b : UInt32) : bits BinOp.or IntKind.u32 (wd a) (wd b) = wd (a ||| b) := by
  have h := u32_lt (a ||| b)
  unfold wd
  rw [UInt32.toNat_or] at h ⊢
  simp [bits, u32_mod, wrap_u32 _ h]
theorem u32_shl16 (z : UInt32) : wd z * (65536 : Int) % (4294967296 : Int) = wd (z <<< 16) := by
  unfold wd; rw [UInt32.toNat_shiftLeft, show ((16 : UInt32).toNat % 32) = 16 from rfl, Nat.shiftLeft_eq]; omega
theorem u32_shr16 (z : UInt32) : wd z / (65536 : Int) = wd (z >>> 16) := by
  unfold wd; rw [UInt32.toNat_shiftRight, show ((16 : UInt32).toNat % 32) = 16 from rfl, Nat.shiftRight_eq_div_pow]; omega
theorem u32_shl12 (z : UInt32) : wd z * (4096 : Int) % (4294967296 : Int) = wd (z <<< 12) := by
  unfold wd; rw [UInt32.toNat_shiftLeft, show ((12 : UInt32).toNat % 32) = 12 from rfl, Nat.shiftLeft_eq]; omega
theorem u32_shr12 (z : UInt32) : wd z / (4096 : Int) = wd (z >>> 12) := by
  unfold wd; rw [UInt32.toNat_shiftRight, show ((12 : UInt32).toNat % 32) = 12 from rfl, Nat.shiftRight_eq_div_pow]; omega
theorem u32_shl8 (z : UInt32) : wd z * (256 : Int) % (4294967296 : Int) = wd (z <<< 8) := by
  unfold wd; rw [UInt32.toNat_shiftLeft, show ((8 : UInt32).toNat % 32) = 8 from rfl, Nat.shiftLeft_eq]; omega
theorem u32_shr8 (z : UInt32) : wd z / (256 : Int) = wd (z >>> 8) := by
  unfold wd; rw [UInt32.toNat_shiftRight, show ((8 : UInt32).toNat % 32) = 8 from rfl, Nat.shiftRight_eq_div_pow]; omega
theorem u32_shl7 (z : UInt32) : wd z * (128 : Int) % (4294967296 : Int) = wd (z <<< 7) := by
  unfold wd; rw [UInt32.toNat_shiftLeft, show ((7 : UInt32).toNat % 32) = 7 from rfl, Nat.shiftLeft_eq]; omega
theorem u32_shr7 (z : UInt32) : wd z / (128 : Int) = wd (z >>> 7) := by
  unfold wd; rw [UInt32.toNat_shiftRight, show ((7 : UInt32).toNat % 32) = 7 from rfl, Nat.shiftRight_eq_div_pow]; omega
theorem u32_shl24 (z : UInt32) : wd z * (16777216 : Int) % (4294967296 : Int) = wd (z <<< 24) := by
  unfold wd; rw [UInt32.toNat_shiftLeft, show ((24 : UInt32).toNat % 32) = 24 from rfl, Nat.shiftLeft_eq]; omega
theorem u32_shr24 (z : UInt32) : wd z / (16777216 : Int) = wd (z >>> 24) := by
  unfold wd; rw [UInt32.toNat_shiftRight, show ((24 : UInt32).toNat % 32) = 24 from rfl, Nat.shiftRight_eq_div_pow]; omega
theorem u32_shl20 (z : UInt32) : wd z * (1048576 : Int) % (4294967296 : Int) = wd (z <<< 20) := by
  unfold wd; rw [UInt32.toNat_shiftLeft, show ((20 : UInt32).toNat % 32) = 20 from rfl, Nat.shiftLeft_eq]; omega
theorem u32_shr20 (z : UInt32) : wd z / (1048576 : Int) = wd (z >>> 20) := by
  unfold wd; rw [UInt32.toNat_shiftRight, show ((20 : UInt32).toNat % 32) = 20 from rfl, Nat.shiftRight_eq_div_pow]; omega
theorem u32_shl25 (z : UInt32) : wd z * (33554432 : Int) % (4294967296 : Int) = wd (z <<< 25) := by
  unfold wd; rw [UInt32.toNat_shiftLeft, show ((25 : UInt32).toNat % 32) = 25 from rfl, Nat.shiftLeft_eq]; omega
theorem u32_shr25 (z : UInt32) : wd z / (33554432 : Int) = wd (z >>> 25) := by
  unfold wd; rw [UInt32.toNat_shiftRight, show ((25 : UInt32).toNat % 32) = 25 from rfl, Nat.shiftRight_eq_div_pow]; omega
/-- rotations to the right -/
def rr16 (z : UInt32) : UInt32 := z >>> 16 ||| z <<< 16
def rr12 (z : UInt32) : UInt32 := z >>> 12 ||| z <<< 20
def rr8 (z : UInt32) : UInt32 := z >>> 8 ||| z <<< 24
def rr7 (z : UInt32) : UInt32 := z >>> 7 ||| z <<< 25
/-- BLAKE2s's mixing of four words -/
def mixA1 (a b x : UInt32) : UInt32 := a + b + x
def mixD1 (a b d x : UInt32) : UInt32 := rr16 (d ^^^ mixA1 a b x)
def mixC1 (a b c d x : UInt32) : UInt32 := c + mixD1 a b d x
def mixB1 (a b c d x : UInt32) : UInt32 := rr12 (b ^^^ mixC1 a b c d x)
def mixA (a b c d x y : UInt32) : UInt32 := mixA1 a b x + mixB1 a b c d x + y
def mixD (a b c d x y : UInt32) : UInt32 := rr8 (mixD1 a b d x ^^^ mixA a b c d x y)
def mixC (a b c d x y : UInt32) : UInt32 := mixC1 a b c d x + mixD a b c d x y
def mixB (a b c d x y : UInt32) : UInt32 := rr7 (mixB1 a b c d x ^^^ mixC a b c d x y)
end Go.Proofs.YtpkapcijgldhhaaGreatDoor
