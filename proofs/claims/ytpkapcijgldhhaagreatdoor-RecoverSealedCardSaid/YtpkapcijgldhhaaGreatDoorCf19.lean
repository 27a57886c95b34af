/-
  
-/
import Derived.Test.YtpkapcijgldhhaaGreatDoorCf03
import Derived.Test.YtpkapcijgldhhaaGreatDoorCe14
import Derived.Test.YtpkapcijgldhhaaGreatDoorCe13
import Derived.Deep.QuietTactic
import Derived.BigQuiet
import Derived.StillTailTactics
import Derived.Handy
import Derived.Deep.MidRow
import Derived.KernelRfl
namespace Go.Proofs.YtpkapcijgldhhaaGreatDoor
open Go.RowKit
theorem initialR_any (w : World) : Calls Tryz.prog 83 #[] w fun e w' => e = .returned (.agg #[.int .u32 (wd (iv 0)), .int .u32 (wd (iv 1)), .int .u32 (wd (iv 2)), .int .u32 (wd (iv 3)), .int .u32 (wd (iv 4)), .int .u32 (wd (iv 5)), .int .u32 (wd (iv 6)), .int .u32 (wd (iv 7))]) ∧ Below w.heap.size w w' := by
  go_enter Tryz.func83, Tryz.ntmps83
  go_wp2_with fail
  go_returns
  exact ⟨rfl, (Below.refl _ w).alloc (Nat.le_refl _) _⟩
/-- the code of a hexadecimal digit -/
def hexc : Nat → Int
  | 0 => 48 | 1 => 49 | 2 => 50 | 3 => 51 | 4 => 52 | 5 => 53 | 6 => 54 | 7 => 55 | 8 => 56 | 9 => 57 | 10 => 97 | 11 => 98 | 12 => 99 | 13 => 100 | 14 => 101 | _ => 102
set_option maxRecDepth 10000 in
theorem digit_any (d : Nat) (hd : d < 16) (w : World) : Calls Tryz.prog 136 #[.int .u8 (hexc d)] w fun e w' => e = .returned (.int .i64 d) ∧ w = w' := by
  rcases d with _|_|_|_|_|_|_|_|_|_|_|_|_|_|_|_|d
  all_goals first | (exfalso; omega; done) | skip
  all_goals (simp only [hexc]; go_enter Tryz.func136, Tryz.ntmps136; go_wp2_with fail; go_returns; exact ⟨rfl, rfl⟩)
set_option maxRecDepth 10000 in
theorem columns_any (k : Nat) (hk : k < 8) (w : World) : Calls Tryz.prog 134 #[.int .i64 k] w fun e w' => e = .returned (.agg #[.int .i64 (quad k).1, .int .i64 (quad k).2.1, .int .i64 (quad k).2.2.1, .int .i64 (quad k).2.2.2]) ∧ Below w.heap.size w w' := by
  rcases k with _|_|_|_|_|_|_|_|k
  all_goals first | (exfalso; omega; done) | skip
  all_goals (go_enter Tryz.func134, Tryz.ntmps134; go_wp2_with fail; go_returns; exact ⟨rfl, (Below.refl _ w).alloc (Nat.le_refl _) _⟩)
/-- the order of the message words, as hexadecimal digits -/
def permStr : Nat → ByteArray
  | 0 => ⟨#[48, 49, 50, 51, 52, 53, 54, 55, 56, 57, 97, 98, 99, 100, 101, 102]⟩
  | 1 => ⟨#[101, 97, 52, 56, 57, 102, 100, 54, 49, 99, 48, 50, 98, 55, 53, 51]⟩
  | 2 => ⟨#[98, 56, 99, 48, 53, 50, 102, 100, 97, 101, 51, 54, 55, 49, 57, 52]⟩
  | 3 => ⟨#[55, 57, 51, 49, 100, 99, 98, 101, 50, 54, 53, 97, 52, 48, 102, 56]⟩
  | 4 => ⟨#[57, 48, 53, 55, 50, 52, 97, 102, 101, 49, 98, 99, 54, 56, 51, 100]⟩
  | 5 => ⟨#[50, 99, 54, 97, 48, 98, 56, 51, 52, 100, 55, 53, 102, 101, 49, 57]⟩
  | 6 => ⟨#[99, 53, 49, 102, 101, 100, 52, 97, 48, 55, 54, 51, 57, 50, 56, 98]⟩
  | 7 => ⟨#[100, 98, 55, 101, 99, 49, 51, 57, 53, 48, 102, 52, 56, 54, 50, 97]⟩
  | 8 => ⟨#[54, 102, 101, 57, 98, 51, 48, 56, 99, 50, 100, 55, 49, 52, 97, 53]⟩
  | _ => ⟨#[97, 50, 56, 52, 55, 54, 49, 53, 102, 98, 57, 101, 51, 99, 100, 48]⟩
set_option maxRecDepth 10000 in
theorem permutation_any (r : Nat) (hr : r < 10) (w : World) : Calls Tryz.prog 133 #[.int .i64 r] w fun e w' => e = .returned (.string (permStr r)) ∧ w = w' := by
  rcases r with _|_|_|_|_|_|_|_|_|_|r
  all_goals first | (exfalso; omega; done) | skip
  all_goals (go_enter Tryz.func133, Tryz.ntmps133; go_wp2_with fail; go_returns; exact ⟨rfl, rfl⟩)
end Go.Proofs.YtpkapcijgldhhaaGreatDoor
