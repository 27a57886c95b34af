/-
  Rows of words in memory: what BLAKE2s's walks say of a block.
  What the walk of the reference's Compress says of its rows of words.
-/
import Derived.Test.YtpkapcijgldhhaaGreatDoorCf03
import Derived.Test.YtpkapcijgldhhaaGreatDoorCf19
import Derived.Test.YtpkapcijgldhhaaGreatDoorCe15
import Derived.Test.YtpkapcijgldhhaaGreatDoorCe14
import Derived.Laws.IdiomCopy
import Derived.Laws.CopyOwn
import Derived.Still
namespace Go.Proofs.YtpkapcijgldhhaaGreatDoor
open Go.RowKit
def l16 (f : Nat → UInt32) : List Value := [.int .u32 (wd (f 0)), .int .u32 (wd (f 1)), .int .u32 (wd (f 2)), .int .u32 (wd (f 3)), .int .u32 (wd (f 4)), .int .u32 (wd (f 5)), .int .u32 (wd (f 6)), .int .u32 (wd (f 7)), .int .u32 (wd (f 8)), .int .u32 (wd (f 9)), .int .u32 (wd (f 10)), .int .u32 (wd (f 11)), .int .u32 (wd (f 12)), .int .u32 (wd (f 13)), .int .u32 (wd (f 14)), .int .u32 (wd (f 15))]
theorem initialR8 (w : World) : Calls Tryz.prog 83 #[] w fun e w' => e = .returned (.agg (l8 iv).toArray) ∧ Below w.heap.size w w' := initialR_any w
theorem oneCell16 (f : Nat → UInt32) : ∀ v ∈ l16 f, v.oneCell' = true := by simp [l16, Value.oneCell']
end Go.Proofs.YtpkapcijgldhhaaGreatDoor

namespace Go.Proofs.YtpkapcijgldhhaaGreatDoor
open Go.RowKit
/-- the message word j when n bytes have been laid in -/
def mpart (s : List UInt8) (n j : Nat) : UInt32 :=
  (if 4 * j < n then (s.getD (4 * j) 0).toUInt32 else 0) ||| (if 4 * j + 1 < n then (s.getD (4 * j + 1) 0).toUInt32 <<< 8 else 0) ||| (if 4 * j + 2 < n then (s.getD (4 * j + 2) 0).toUInt32 <<< 16 else 0) ||| (if 4 * j + 3 < n then (s.getD (4 * j + 3) 0).toUInt32 <<< 24 else 0)
theorem mpart_zero (s : List UInt8) (j : Nat) : mpart s 0 j = 0 := by
  unfold mpart
  rw [if_neg (by omega), if_neg (by omega), if_neg (by omega), if_neg (by omega)]; rfl
theorem mpart_full (s : List UInt8) (j : Nat) (h : j < 16) : mpart s 64 j = mword s j := by
  unfold mpart mword
  rw [if_pos (by omega), if_pos (by omega), if_pos (by omega), if_pos (by omega)]
theorem mpart_other (s : List UInt8) (n j : Nat) (h : j ≠ n / 4) : mpart s (n + 1) j = mpart s n j := by
  have e : ∀ t, t < 4 → (4 * j + t < n + 1 ↔ 4 * j + t < n) := fun t ht => by omega
  unfold mpart
  have e0 := e 0 (by omega)
  rw [Nat.add_zero] at e0
  simp only [e0, e 1 (by omega), e 2 (by omega), e 3 (by omega)]
theorem mpart_s0 (s : List UInt8) (q : Nat) : mpart s (4 * q + 1) q = mpart s (4 * q) q ||| (s.getD (4 * q) 0).toUInt32 := by
  unfold mpart
  rw [if_pos (by omega), if_neg (by omega), if_neg (by omega), if_neg (by omega), if_neg (by omega), if_neg (by omega), if_neg (by omega), if_neg (by omega)]
  simp
theorem mpart_s1 (s : List UInt8) (q : Nat) : mpart s (4 * q + 1 + 1) q = mpart s (4 * q + 1) q ||| (s.getD (4 * q + 1) 0).toUInt32 <<< 8 := by
  unfold mpart
  rw [if_pos (by omega), if_pos (by omega), if_neg (by omega), if_neg (by omega), if_pos (by omega), if_neg (by omega), if_neg (by omega), if_neg (by omega)]
  simp
theorem mpart_s2 (s : List UInt8) (q : Nat) : mpart s (4 * q + 2 + 1) q = mpart s (4 * q + 2) q ||| (s.getD (4 * q + 2) 0).toUInt32 <<< 16 := by
  unfold mpart
  rw [if_pos (by omega), if_pos (by omega), if_pos (by omega), if_neg (by omega), if_pos (by omega), if_pos (by omega), if_neg (by omega), if_neg (by omega)]
  simp
theorem mpart_s3 (s : List UInt8) (q : Nat) : mpart s (4 * q + 3 + 1) q = mpart s (4 * q + 3) q ||| (s.getD (4 * q + 3) 0).toUInt32 <<< 24 := by
  unfold mpart
  rw [if_pos (by omega), if_pos (by omega), if_pos (by omega), if_pos (by omega), if_pos (by omega), if_pos (by omega), if_pos (by omega), if_neg (by omega)]
  simp
theorem mpart_t0 {s : List UInt8} {k q : Nat} (h : k = 4 * q + 0) : mpart s (k + 1) q = mpart s k q ||| (s.getD k 0).toUInt32 := by subst h; exact mpart_s0 s q
theorem mpart_t1 {s : List UInt8} {k q : Nat} (h : k = 4 * q + (0 + 1)) : mpart s (k + 1) q = mpart s k q ||| (s.getD k 0).toUInt32 <<< 8 := by subst h; exact mpart_s1 s q
theorem mpart_t2 {s : List UInt8} {k q : Nat} (h : k = 4 * q + (0 + 1 + 1)) : mpart s (k + 1) q = mpart s k q ||| (s.getD k 0).toUInt32 <<< 16 := by subst h; exact mpart_s2 s q
theorem mpart_t3 {s : List UInt8} {k q : Nat} (h : k = 4 * q + (0 + 1 + 1 + 1)) : mpart s (k + 1) q = mpart s k q ||| (s.getD k 0).toUInt32 <<< 24 := by subst h; exact mpart_s3 s q
theorem wd_mod (z : UInt32) : wd z % (4294967296 : Int) = wd z := by have := wd_lt z; omega
theorem Cells.new0 {w : World} {T : TypeId} : Cells (w.alloc (.cells #[.int .u32 0, .int .u32 0, .int .u32 0, .int .u32 0, .int .u32 0, .int .u32 0, .int .u32 0, .int .u32 0, .int .u32 0, .int .u32 0, .int .u32 0, .int .u32 0, .int .u32 0, .int .u32 0, .int .u32 0, .int .u32 0] T)) w.heap.size 16 (fun _ => 0) := fun j hj => by
  rw [alloc_new_cell]
  rcases j with _|_|_|_|_|_|_|_|_|_|_|_|_|_|_|_|j <;> first | rfl | omega
theorem Cells.range16 {b : Nat} {w : World} {g : Nat → UInt32} (h : Cells w b 16 g) : w.rangeAt b 0 (l16 g) := fun j v hv => by
  have hj : j < 16 := (List.getElem?_eq_some_iff.1 hv).1
  rw [Nat.zero_add, h j hj]
  rcases j with _|_|_|_|_|_|_|_|_|_|_|_|_|_|_|_|j <;> first | exact hv | omega
theorem Cells.of_range16 {b : Nat} {w : World} {g : Nat → UInt32} (h : w.rangeAt b 0 (l16 g)) : Cells w b 16 g := fun j hj => by
  have := h j (.int .u32 (wd (g j))) (by rcases j with _|_|_|_|_|_|_|_|_|_|_|_|_|_|_|_|j <;> first | rfl | omega)
  rwa [Nat.zero_add] at this
theorem mixr16 (g : Nat → UInt32) (k : Nat) (x y : UInt32) (w : World) :
    Calls Tryz.prog 135 #[.agg (l16 g).toArray, .int .i64 (quad k).1, .int .i64 (quad k).2.1, .int .i64 (quad k).2.2.1, .int .i64 (quad k).2.2.2, .int .u32 (wd x), .int .u32 (wd y)] w fun e w' =>
      e = .returned (.agg (l16 (mixed g (quad k).1 (quad k).2.1 (quad k).2.2.1 (quad k).2.2.2 x y)).toArray) ∧ Below w.heap.size w w' := by
  obtain ⟨h1, h2, h3, h4, h5, h6, h7⟩ := quad_lt k
  exact mixr_any g _ _ _ _ x y w h1 h2 h3 h4 h5 h6 h7
theorem columns4 (k : Nat) (hk : k < 8) (w : World) : Calls Tryz.prog 134 #[.int .i64 k] w fun e w' => e = .returned (.agg (lq k).toArray) ∧ Below w.heap.size w w' := columns_any k hk w
theorem permStr_size (r : Nat) : (permStr r).size = 16 := by unfold permStr; split <;> rfl
theorem permStr_get (r : Nat) (hr : r < 10) (j : Nat) (hj : j < 16) : (((permStr r).data.toList.getD j 0).toNat : Int) = hexc ((order r).getD j 0) := by
  rcases r with _|_|_|_|_|_|_|_|_|_|r
  all_goals first | (exfalso; omega; done) | skip
  all_goals (rcases j with _|_|_|_|_|_|_|_|_|_|_|_|_|_|_|_|j)
  all_goals first | (exfalso; omega; done) | rfl
theorem permStr_hex (r : Nat) (hr : r < 10) (j : Nat) (hj : j < 16) (h : j < (permStr r).size) : (((permStr r)[j]'h).toNat : Int) = hexc ((order r).getD j 0) := by
  rw [← getD_list (permStr r) j h]
  exact permStr_get r hr j hj
theorem info16 : (Tryz.prog.info? 193).map (·.size) = some 16 := by kernel_rfl
theorem size16 (M : Nat → UInt32) : (Tryz.prog.info? 193).map (·.size) = some (l16 M).toArray.size := info16
theorem all16 (M : Nat → UInt32) : (l16 M).toArray.all (·.oneCell') = true := all_oneCell_toArray (oneCell16 M)
end Go.Proofs.YtpkapcijgldhhaaGreatDoor
