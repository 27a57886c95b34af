/-
  What the walk of the reference's Compress says of its rows of words.
-/
import Derived.Test.YtpkapcijgldhhaaGreatDoorBlakeLib
namespace Go.Proofs.YtpkapcijgldhhaaGreatDoor
open Go.RowKit
theorem u32_w0 (z : UInt32) : IntKind.u32.wrap (wd z) = wd z := by
  rw [wrap_wd]; have := wd_lt z; omega
theorem u32_w1 (z : UInt32) : IntKind.u32.wrap (wd z * 1) = wd z := by
  rw [Int.mul_one]; exact u32_w0 z
/-- the message word j when n bytes have been laid in -/
def mpart (s : List UInt8) (n j : Nat) : UInt32 :=
  (if 4 * j < n then (s.getD (4 * j) 0).toUInt32 else 0) ||| (if 4 * j + 1 < n then (s.getD (4 * j + 1) 0).toUInt32 <<< 8 else 0) ||| (if 4 * j + 2 < n then (s.getD (4 * j + 2) 0).toUInt32 <<< 16 else 0) ||| (if 4 * j + 3 < n then (s.getD (4 * j + 3) 0).toUInt32 <<< 24 else 0)
theorem mpart_zero (s : List UInt8) (j : Nat) : mpart s 0 j = 0 := by
  unfold mpart
  rw [if_neg (by omega), if_neg (by omega), if_neg (by omega), if_neg (by omega)]; rfl
theorem mpart_full (s : List UInt8) (j : Nat) (h : j < 16) : mpart s 64 j = mword s j := by
  unfold mpart mword
  rw [if_pos (by omega), if_pos (by omega), if_pos (by omega), if_pos (by omega)]
theorem mpart_other (s : List UInt8) (n j : Nat) (h : j ≠ n / 4) : mpart s (n + 1) j = mpart s n j := by
  have e : ∀ t, t < 4 → (4 * j + t < n + 1 ↔ 4 * j + t < n) := fun t ht => by omega
  unfold mpart
  have e0 := e 0 (by omega)
  rw [Nat.add_zero] at e0
  simp only [e0, e 1 (by omega), e 2 (by omega), e 3 (by omega)]
theorem mpart_s0 (s : List UInt8) (q : Nat) : mpart s (4 * q + 1) q = mpart s (4 * q) q ||| (s.getD (4 * q) 0).toUInt32 := by
  unfold mpart
  rw [if_pos (by omega), if_neg (by omega), if_neg (by omega), if_neg (by omega), if_neg (by omega), if_neg (by omega), if_neg (by omega), if_neg (by omega)]
  simp
theorem mpart_s1 (s : List UInt8) (q : Nat) : mpart s (4 * q + 1 + 1) q = mpart s (4 * q + 1) q ||| (s.getD (4 * q + 1) 0).toUInt32 <<< 8 := by
  unfold mpart
  rw [if_pos (by omega), if_pos (by omega), if_neg (by omega), if_neg (by omega), if_pos (by omega), if_neg (by omega), if_neg (by omega), if_neg (by omega)]
  simp
theorem mpart_s2 (s : List UInt8) (q : Nat) : mpart s (4 * q + 2 + 1) q = mpart s (4 * q + 2) q ||| (s.getD (4 * q + 2) 0).toUInt32 <<< 16 := by
  unfold mpart
  rw [if_pos (by omega), if_pos (by omega), if_pos (by omega), if_neg (by omega), if_pos (by omega), if_pos (by omega), if_neg (by omega), if_neg (by omega)]
  simp
theorem mpart_s3 (s : List UInt8) (q : Nat) : mpart s (4 * q + 3 + 1) q = mpart s (4 * q + 3) q ||| (s.getD (4 * q + 3) 0).toUInt32 <<< 24 := by
  unfold mpart
  rw [if_pos (by omega), if_pos (by omega), if_pos (by omega), if_pos (by omega), if_pos (by omega), if_pos (by omega), if_pos (by omega), if_neg (by omega)]
  simp
theorem mpart_t0 {s : List UInt8} {k q : Nat} (h : k = 4 * q + 0) : mpart s (k + 1) q = mpart s k q ||| (s.getD k 0).toUInt32 := by subst h; exact mpart_s0 s q
theorem mpart_t1 {s : List UInt8} {k q : Nat} (h : k = 4 * q + (0 + 1)) : mpart s (k + 1) q = mpart s k q ||| (s.getD k 0).toUInt32 <<< 8 := by subst h; exact mpart_s1 s q
theorem mpart_t2 {s : List UInt8} {k q : Nat} (h : k = 4 * q + (0 + 1 + 1)) : mpart s (k + 1) q = mpart s k q ||| (s.getD k 0).toUInt32 <<< 16 := by subst h; exact mpart_s2 s q
theorem mpart_t3 {s : List UInt8} {k q : Nat} (h : k = 4 * q + (0 + 1 + 1 + 1)) : mpart s (k + 1) q = mpart s k q ||| (s.getD k 0).toUInt32 <<< 24 := by subst h; exact mpart_s3 s q
theorem wd_mod (z : UInt32) : wd z % (4294967296 : Int) = wd z := by have := wd_lt z; omega
theorem Cells.new0 {w : World} {T : TypeId} : Cells (w.alloc (.cells #[.int .u32 0, .int .u32 0, .int .u32 0, .int .u32 0, .int .u32 0, .int .u32 0, .int .u32 0, .int .u32 0, .int .u32 0, .int .u32 0, .int .u32 0, .int .u32 0, .int .u32 0, .int .u32 0, .int .u32 0, .int .u32 0] T)) w.heap.size 16 (fun _ => 0) := fun j hj => by
  rw [alloc_new_cell]
  rcases j with _|_|_|_|_|_|_|_|_|_|_|_|_|_|_|_|j <;> first | rfl | omega
/-- the first k words of each half -/
def Two (w : World) (b k : Nat) (f g : Nat → UInt32) : Prop := ∀ j, j < k → w.cell? ⟨b, j, none⟩ = some (.int .u32 (wd (f j))) ∧ w.cell? ⟨b, j + 8, none⟩ = some (.int .u32 (wd (g j)))
theorem Two.next {w : World} {b k n : Nat} {f g : Nat → UInt32} (h : Two w b k f g) (hf : Free w b n) (hk : k < 8) (hn : k + 8 < n) :
    Two ((w.setCell ⟨b, k, none⟩ (.int .u32 (wd (f k)))).setCell ⟨b, k + 8, none⟩ (.int .u32 (wd (g k)))) b (k + 1) f g := fun j hj => by
  obtain ⟨⟨y, hy⟩, _⟩ := hf k (by omega)
  obtain ⟨⟨z, hz⟩, _⟩ := hf (k + 8) hn
  by_cases e : j = k
  · subst e
    exact ⟨(cso (ne_off (by omega))).trans (css hy), css (u := z) ((cso (ne_off (by omega))).trans hz)⟩
  · obtain ⟨h1, h2⟩ := h j (by omega)
    exact ⟨(cso (ne_off (by omega))).trans ((cso (ne_off (Ne.symm e))).trans h1), (cso (ne_off (by omega))).trans ((cso (ne_off (by omega))).trans h2)⟩
theorem Two.cells {w : World} {b : Nat} {f g : Nat → UInt32} (h : Two w b 8 f g) : Cells w b 16 (fun i => if i < 8 then f i else g (i - 8)) := fun j hj => by
  by_cases h8 : j < 8
  · simp only [if_pos h8]; exact (h j h8).1
  · simp only [if_neg h8]
    have := (h (j - 8) (by omega)).2
    rwa [show j - 8 + 8 = j from by omega] at this
theorem Cells.range16 {b : Nat} {w : World} {g : Nat → UInt32} (h : Cells w b 16 g) : w.rangeAt b 0 (l16 g) := fun j v hv => by
  have hj : j < 16 := (List.getElem?_eq_some_iff.1 hv).1
  rw [Nat.zero_add, h j hj]
  rcases j with _|_|_|_|_|_|_|_|_|_|_|_|_|_|_|_|j <;> first | exact hv | omega
theorem Cells.of_range16 {b : Nat} {w : World} {g : Nat → UInt32} (h : w.rangeAt b 0 (l16 g)) : Cells w b 16 g := fun j hj => by
  have := h j (.int .u32 (wd (g j))) (by rcases j with _|_|_|_|_|_|_|_|_|_|_|_|_|_|_|_|j <;> first | rfl | omega)
  rwa [Nat.zero_add] at this
theorem mixr16 (g : Nat → UInt32) (k : Nat) (x y : UInt32) (w : World) :
    Calls Tryz.prog 135 #[.agg (l16 g).toArray, .int .i64 (quad k).1, .int .i64 (quad k).2.1, .int .i64 (quad k).2.2.1, .int .i64 (quad k).2.2.2, .int .u32 (wd x), .int .u32 (wd y)] w fun e w' =>
      e = .returned (.agg (l16 (mixed g (quad k).1 (quad k).2.1 (quad k).2.2.1 (quad k).2.2.2 x y)).toArray) ∧ Below w.heap.size w w' := by
  obtain ⟨h1, h2, h3, h4, h5, h6, h7⟩ := quad_lt k
  exact mixr_any g _ _ _ _ x y w h1 h2 h3 h4 h5 h6 h7
theorem columns4 (k : Nat) (hk : k < 8) (w : World) : Calls Tryz.prog 134 #[.int .i64 k] w fun e w' => e = .returned (.agg (lq k).toArray) ∧ Below w.heap.size w w' := columns_any k hk w
theorem permStr_size (r : Nat) : (permStr r).size = 16 := by unfold permStr; split <;> rfl
theorem permStr_get (r : Nat) (hr : r < 10) (j : Nat) (hj : j < 16) : (((permStr r).data.toList.getD j 0).toNat : Int) = hexc ((order r).getD j 0) := by
  rcases r with _|_|_|_|_|_|_|_|_|_|r
  all_goals first | (exfalso; omega; done) | skip
  all_goals (rcases j with _|_|_|_|_|_|_|_|_|_|_|_|_|_|_|_|j)
  all_goals first | (exfalso; omega; done) | rfl
theorem permStr_hex (r : Nat) (hr : r < 10) (j : Nat) (hj : j < 16) (h : j < (permStr r).size) : (((permStr r)[j]'h).toNat : Int) = hexc ((order r).getD j 0) := by
  rw [← getD_list (permStr r) j h]
  exact permStr_get r hr j hj
theorem info16 : (Tryz.prog.info? 193).map (·.size) = some 16 := by kernel_rfl
theorem size16 (M : Nat → UInt32) : (Tryz.prog.info? 193).map (·.size) = some (l16 M).toArray.size := info16
theorem all16 (M : Nat → UInt32) : (l16 M).toArray.all (·.oneCell') = true := all_oneCell_toArray (oneCell16 M)
end Go.Proofs.YtpkapcijgldhhaaGreatDoor
