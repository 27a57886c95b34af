/-
  blake2s: the rotation and the mixing.
-/
import Derived.Test.YtpkapcijgldhhaaGreatDoorBase
import Derived.Test.YtpkapcijgldhhaaGreatDoorWord
import Derived.Deep.QuietTactic
import Derived.BigQuiet
import Derived.StillTailTactics
namespace Go.Proofs.YtpkapcijgldhhaaGreatDoor
open Go.RowKit
theorem rot16_any (z : UInt32) (w : World) :
    Calls Tryz.prog 189 #[.int .u32 (wd z), .int .i64 (-16)] w fun e w' => e = .returned (.int .u32 (wd (rr16 z))) ∧ w = w' := by
  obtain ⟨hz0, hz1⟩ := wd_lt z
  have hs : bits BinOp.and IntKind.u64 (IntKind.u64.wrap (-16)) 31 = 16 := by decide +kernel
  have h1 := u32_shl16 z
  have h2 := u32_shr16 z
  have h3 := u32_or (z <<< 16) (z >>> 16)
  go_enter Tryz.func189, Tryz.ntmps189
  go_wp2_with fail
  go_ret
  exact ⟨ret_int (by rw [rr16, UInt32.or_comm]), rfl⟩
theorem rot12_any (z : UInt32) (w : World) :
    Calls Tryz.prog 189 #[.int .u32 (wd z), .int .i64 (-12)] w fun e w' => e = .returned (.int .u32 (wd (rr12 z))) ∧ w = w' := by
  obtain ⟨hz0, hz1⟩ := wd_lt z
  have hs : bits BinOp.and IntKind.u64 (IntKind.u64.wrap (-12)) 31 = 20 := by decide +kernel
  have h1 := u32_shl20 z
  have h2 := u32_shr12 z
  have h3 := u32_or (z <<< 20) (z >>> 12)
  go_enter Tryz.func189, Tryz.ntmps189
  go_wp2_with fail
  go_ret
  exact ⟨ret_int (by rw [rr12, UInt32.or_comm]), rfl⟩
theorem rot8_any (z : UInt32) (w : World) :
    Calls Tryz.prog 189 #[.int .u32 (wd z), .int .i64 (-8)] w fun e w' => e = .returned (.int .u32 (wd (rr8 z))) ∧ w = w' := by
  obtain ⟨hz0, hz1⟩ := wd_lt z
  have hs : bits BinOp.and IntKind.u64 (IntKind.u64.wrap (-8)) 31 = 24 := by decide +kernel
  have h1 := u32_shl24 z
  have h2 := u32_shr8 z
  have h3 := u32_or (z <<< 24) (z >>> 8)
  go_enter Tryz.func189, Tryz.ntmps189
  go_wp2_with fail
  go_ret
  exact ⟨ret_int (by rw [rr8, UInt32.or_comm]), rfl⟩
theorem rot7_any (z : UInt32) (w : World) :
    Calls Tryz.prog 189 #[.int .u32 (wd z), .int .i64 (-7)] w fun e w' => e = .returned (.int .u32 (wd (rr7 z))) ∧ w = w' := by
  obtain ⟨hz0, hz1⟩ := wd_lt z
  have hs : bits BinOp.and IntKind.u64 (IntKind.u64.wrap (-7)) 31 = 25 := by decide +kernel
  have h1 := u32_shl25 z
  have h2 := u32_shr7 z
  have h3 := u32_or (z <<< 25) (z >>> 7)
  go_enter Tryz.func189, Tryz.ntmps189
  go_wp2_with fail
  go_ret
  exact ⟨ret_int (by rw [rr7, UInt32.or_comm]), rfl⟩
end Go.Proofs.YtpkapcijgldhhaaGreatDoor
