/-
  Rows of words in memory: what BLAKE2s's walks say of a block.
-/
import Derived.Test.YtpkapcijgldhhaaGreatDoorBlakePlain
import Derived.Laws.IdiomCopy
import Derived.Laws.CopyOwn
import Derived.Still
namespace Go.Proofs.YtpkapcijgldhhaaGreatDoor
open Go.RowKit
def l8 (f : Nat → UInt32) : List Value := [.int .u32 (wd (f 0)), .int .u32 (wd (f 1)), .int .u32 (wd (f 2)), .int .u32 (wd (f 3)), .int .u32 (wd (f 4)), .int .u32 (wd (f 5)), .int .u32 (wd (f 6)), .int .u32 (wd (f 7))]
def l16 (f : Nat → UInt32) : List Value := [.int .u32 (wd (f 0)), .int .u32 (wd (f 1)), .int .u32 (wd (f 2)), .int .u32 (wd (f 3)), .int .u32 (wd (f 4)), .int .u32 (wd (f 5)), .int .u32 (wd (f 6)), .int .u32 (wd (f 7)), .int .u32 (wd (f 8)), .int .u32 (wd (f 9)), .int .u32 (wd (f 10)), .int .u32 (wd (f 11)), .int .u32 (wd (f 12)), .int .u32 (wd (f 13)), .int .u32 (wd (f 14)), .int .u32 (wd (f 15))]
def perm : Nat → Nat
  | 0 => 81985529216486895 | 1 => 16881918945140062035 | 2 => 13312731748010193300 | 3 => 8733003861693448440 | 4 => 10400822202260547645 | 5 => 3200383143768358425 | 6 => 14204332651957162635 | 7 => 15816291393287259690 | 8 => 8064173457993569445 | _ => 11710614767857974480
def l10 : List Value := [.int .u64 81985529216486895, .int .u64 16881918945140062035, .int .u64 13312731748010193300, .int .u64 8733003861693448440, .int .u64 10400822202260547645, .int .u64 3200383143768358425, .int .u64 14204332651957162635, .int .u64 15816291393287259690, .int .u64 8064173457993569445, .int .u64 11710614767857974480]
def l32 : List Value := [.int .i64 0, .int .i64 4, .int .i64 8, .int .i64 12, .int .i64 1, .int .i64 5, .int .i64 9, .int .i64 13, .int .i64 2, .int .i64 6, .int .i64 10, .int .i64 14, .int .i64 3, .int .i64 7, .int .i64 11, .int .i64 15, .int .i64 0, .int .i64 5, .int .i64 10, .int .i64 15, .int .i64 1, .int .i64 6, .int .i64 11, .int .i64 12, .int .i64 2, .int .i64 7, .int .i64 8, .int .i64 13, .int .i64 3, .int .i64 4, .int .i64 9, .int .i64 14]
def lq (k : Nat) : List Value := [.int .i64 (quad k).1, .int .i64 (quad k).2.1, .int .i64 (quad k).2.2.1, .int .i64 (quad k).2.2.2]
theorem perm_index (r : Nat) (hr : r < 10) (w : World) : (Instr.index 209 (.agg l10.toArray) (.int .i64 r)).run Tryz.prog w = .ok (.int .u64 (perm r)) w := by
  rcases r with _|_|_|_|_|_|_|_|_|_|r
  all_goals first | (exfalso; omega; done) | kernel_rfl
theorem quad_index (k : Nat) (hk : k < 8) (w : World) : (Instr.index 211 (.agg l32.toArray) (.int .i64 k)).run Tryz.prog w = .ok (.agg (lq k).toArray) w := by
  rcases k with _|_|_|_|_|_|_|_|k
  all_goals first | (exfalso; omega; done) | kernel_rfl
theorem initial8 (w : World) : Calls Tryz.prog 105 #[] w fun e w' => e = .returned (.agg (l8 iv).toArray) ∧ Below w.heap.size w w' := initial_any w
theorem initialR8 (w : World) : Calls Tryz.prog 83 #[] w fun e w' => e = .returned (.agg (l8 iv).toArray) ∧ Below w.heap.size w w' := initialR_any w
theorem permutations10 (w : World) : Calls Tryz.prog 151 #[] w fun e w' => e = .returned (.agg l10.toArray) ∧ Below w.heap.size w w' := permutations_any w
theorem quads32 (w : World) : Calls Tryz.prog 152 #[] w fun e w' => e = .returned (.agg l32.toArray) ∧ Below w.heap.size w w' := quads_any w
/-- block b holds the words g in its first n cells -/
def Cells (w : World) (b n : Nat) (g : Nat → UInt32) : Prop := ∀ j, j < n → w.cell? ⟨b, j, none⟩ = some (.int .u32 (wd (g j)))
/-- block b has n cells that may be written -/
def Free (w : World) (b n : Nat) : Prop := ∀ j, j < n → (∃ x, w.cell? ⟨b, j, none⟩ = some x) ∧ w.frozen? ⟨b, j, none⟩ = false
/-- no cell of block b is frozen -/
def Soft (w : World) (b : Nat) : Prop := ∀ j, w.frozen? ⟨b, j, none⟩ = false
theorem Cells.save {c b n : Nat} {w w' : World} {g : Nat → UInt32} (h : Cells w b n g) (hs : Save c w w') (hn : b ≠ c) : Cells w' b n g := fun j hj =>
  (hs.cell (a := ⟨b, j, none⟩) (World.block_lt_of_cell? w _ (h j hj)) hn).trans (h j hj)
theorem Free.save {c b n : Nat} {w w' : World} (h : Free w b n) (hs : Save c w w') (hn : b ≠ c) : Free w' b n := fun j hj => by
  obtain ⟨⟨x, hx⟩, hf⟩ := h j hj
  have hlt := World.block_lt_of_cell? w _ hx
  exact ⟨⟨x, (hs.cell (a := ⟨b, j, none⟩) hlt hn).trans hx⟩, (hs.frozen (a := ⟨b, j, none⟩) hlt hn).trans hf⟩
theorem Cells.below {b n B : Nat} {w w' : World} {g : Nat → UInt32} (h : Cells w b n g) (hs : Below B w w') (hn : b < B) : Cells w' b n g := fun j hj =>
  (hs.cell (p := ⟨b, j, none⟩) hn).trans (h j hj)
theorem Free.below {b n B : Nat} {w w' : World} (h : Free w b n) (hs : Below B w w') (hn : b < B) : Free w' b n := fun j hj =>
  ⟨(h j hj).1.imp fun _ hx => (hs.cell (p := ⟨b, j, none⟩) hn).trans hx, (hs.frozen (p := ⟨b, j, none⟩) hn).trans (h j hj).2⟩
theorem Soft.below {b B : Nat} {w w' : World} (h : Soft w b) (hs : Below B w w') (hn : b < B) : Soft w' b := fun j => (hs.frozen (p := ⟨b, j, none⟩) hn).trans (h j)
theorem Soft.save {c b : Nat} {w w' : World} (h : Soft w b) (hs : Save c w w') (hn : b ≠ c) (hlt : b < w.heap.size) : Soft w' b := fun j => (hs.frozen (a := ⟨b, j, none⟩) hlt hn).trans (h j)
theorem below_save {B : Nat} {w w' : World} (h : Below B w w') (b : Nat) (hB : w.heap.size ≤ B) : Save b w w' :=
  ⟨h.os, h.tape, h.output, h.size, fun k hk _ => h.block k (by omega)⟩
theorem Free.there {b n : Nat} {w : World} (h : Free w b n) {o m : Nat} (hm : o + m ≤ n) : w.there b o m := fun j hj => by
  obtain ⟨⟨x, hx⟩, hf⟩ := h (o + j) (by omega)
  exact ⟨by rw [hx]; rfl, hf⟩
theorem Cells.free {b n : Nat} {w : World} {g : Nat → UInt32} (h : Cells w b n g) (hs : Soft w b) : Free w b n := fun j hj => ⟨⟨_, h j hj⟩, hs j⟩
theorem Cells.range8 {b : Nat} {w : World} {g : Nat → UInt32} (h : Cells w b 8 g) : w.rangeAt b 0 (l8 g) := fun j v hv => by
  have hj : j < 8 := (List.getElem?_eq_some_iff.1 hv).1
  rw [Nat.zero_add, h j hj]
  rcases j with _|_|_|_|_|_|_|_|j <;> first | exact hv | omega
theorem Cells.of_range8 {b : Nat} {w : World} {g : Nat → UInt32} (h : w.rangeAt b 0 (l8 g)) : Cells w b 8 g := fun j hj => by
  have := h j (.int .u32 (wd (g j))) (by rcases j with _|_|_|_|_|_|_|_|j <;> first | rfl | omega)
  rwa [Nat.zero_add] at this
theorem Cells.of_two {b : Nat} {w : World} {f g : Nat → UInt32} (h : w.rangeAt b 0 (l8 f)) (k : w.rangeAt b 8 (l8 g)) : Cells w b 16 (fun i => if i < 8 then f i else g (i - 8)) := fun j hj => by
  by_cases h8 : j < 8
  · simp only [if_pos h8]
    exact Cells.of_range8 h j h8
  · simp only [if_neg h8]
    have := k (j - 8) (.int .u32 (wd (g (j - 8)))) (by
      have : j - 8 < 8 := by omega
      generalize j - 8 = i at this
      rcases i with _|_|_|_|_|_|_|_|j <;> first | rfl | omega)
    rwa [show 8 + (j - 8) = j from by omega] at this
theorem Cells.congr {b n : Nat} {w : World} {f g : Nat → UInt32} (h : Cells w b n f) (he : ∀ i, i < n → f i = g i) : Cells w b n g := fun j hj => by rw [← he j hj]; exact h j hj
theorem Cells.set {b n i : Nat} {w : World} {g : Nat → UInt32} (h : Cells w b n g) (hi : i < n) (x : UInt32) : Cells (w.setCell ⟨b, i, none⟩ (.int .u32 (wd x))) b n (fun j => if j = i then x else g j) := fun j hj => by
  by_cases e : j = i
  · subst e; simp only [if_true]; exact css (h j hj)
  · simp only [e, if_false]; exact (cso (ne_off (Ne.symm e))).trans (h j hj)
theorem Cells.drew {b n : Nat} {w : World} {g : Nat → UInt32} (h : Cells w b n g) : Cells w.drew b n g := h
theorem Free.drew {b n : Nat} {w : World} (h : Free w b n) : Free w.drew b n := h
theorem Soft.set {b : Nat} {w : World} (h : Soft w b) (a : Addr) (u : Value) : Soft (w.setCell a u) b := fun j => by simpa using h j
theorem Free.set {b n : Nat} {w : World} (h : Free w b n) (i : Nat) (u : Value) : Free (w.setCell ⟨b, i, none⟩ u) b n := fun j hj => by
  obtain ⟨⟨x, hx⟩, hf⟩ := h j hj
  refine ⟨?_, by simpa using hf⟩
  by_cases e : j = i
  · subst e; exact ⟨_, css hx⟩
  · exact ⟨x, (cso (ne_off (Ne.symm e))).trans hx⟩
/-- the next word of a row that is being filled -/
theorem Cells.next {b n k : Nat} {w : World} {g : Nat → UInt32} (h : Cells w b k g) (hf : Free w b n) (hk : k < n) {x : UInt32} (hx : g k = x) : Cells ((w.setCell ⟨b, k, none⟩ (.int .u32 (wd x))).drew) b (k + 1) g := fun j hj => by
  show (w.setCell ⟨b, k, none⟩ (.int .u32 (wd x))).cell? ⟨b, j, none⟩ = _
  by_cases e : j = k
  · subst e hx
    obtain ⟨⟨y, hy⟩, _⟩ := hf j hk
    exact css hy
  · exact (cso (ne_off (Ne.symm e))).trans (h j (by omega))
theorem Save.store (w : World) (b i : Nat) (u : Value) : Save b w ((w.setCell ⟨b, i, none⟩ u).drew) := (Save.setCell w ⟨b, i, none⟩ u).trans (Save.drew b _)
theorem Free.new {w : World} {cs : Array Value} {T : TypeId} {n : Nat} (h : cs.size = n) : Free (w.alloc (.cells cs T)) w.heap.size n := fun j hj => by
  refine ⟨⟨cs[j]'(by omega), ?_⟩, alloc_new_frozen _ _ _ _⟩
  rw [alloc_new_cell]; simp [h, hj]
theorem Soft.new {w : World} {cs : Array Value} {T : TypeId} : Soft (w.alloc (.cells cs T)) w.heap.size := fun _ => alloc_new_frozen _ _ _ _
theorem Cells.new8 {w : World} {f : Nat → UInt32} {T : TypeId} : Cells (w.alloc (.cells (l8 f).toArray T)) w.heap.size 8 f := fun j hj => by
  rw [alloc_new_cell]
  rcases j with _|_|_|_|_|_|_|_|j <;> first | rfl | omega
theorem oneCell8 (f : Nat → UInt32) : ∀ v ∈ l8 f, v.oneCell' = true := by simp [l8, Value.oneCell']
theorem oneCell16 (f : Nat → UInt32) : ∀ v ∈ l16 f, v.oneCell' = true := by simp [l16, Value.oneCell']
theorem wpList_copy_mid {P : Program} {w : World} {ops : Array Oper} {rest : List Oper} {o : Oper} {a : Act} {Q : Exit → Act → World → Prop} (hgd : o.guard = none) (d s : Operand) (dT sT : TypeId)
    (ho : o.op = .call { callee := .builtin .copy, args := #[d, s], argTypes := #[dT, sT] }) (elem : TypeId) (hu : P.underlying dT = some (.slice elem)) (hsz : (P.info? elem).map (·.size) = some 1)
    (b p dLen dCap c q sLen sCap : Nat) (hd : a.eval d = .slice (some ⟨b, p, none⟩) dLen dCap) (hs : a.eval s = .slice (some ⟨c, q, none⟩) sLen sCap) (cs : List Value) (hn : cs.length = Nat.min sLen dLen)
    (hsrc : w.rangeAt c q cs) (ht : w.there b p cs.length) (h1 : ∀ v ∈ cs, v.oneCell' = true)
    (h : ∀ (r : Value) (w' : World), Hid (w.setCells b p cs = w') → wpList P ops Q rest (a.put o.dst r) w') : wpList P ops Q (o :: rest) a w := by
  refine wpList_plain hgd fun K hK => ?_
  have hrun := run_copy_cells (P := P) w dT sT o.type elem b p dLen dCap ⟨c, q, none⟩ sLen sCap cs hu hsz hn (fun j v hv => by rw [Addr.add_mid]; exact hsrc j v hv) (fun j hj => (ht j hj).1) (fun j hj => (ht j hj).2) h1
  unfold Oper.wp
  simp [execOp, ho, resolve, invoke, builtin, hd, hs, hrun, Result.andThen]
  exact hK _ _ (h _ _ rfl)
theorem u32_byte (c : UInt8) : IntKind.u32.wrap (c.toNat : Int) = wd c.toUInt32 := by
  rw [wrap_u32 _ (by have := c.toNat_lt; omega)]; rfl
theorem wrap_wd (a : Int) : IntKind.u32.wrap a = a % 4294967296 := by
  simp [IntKind.wrap, IntKind.signed, IntKind.bits]
theorem u32_w8 (z : UInt32) : IntKind.u32.wrap (wd z * 256) = wd (z <<< 8) := by
  rw [wrap_wd]; exact u32_shl8 z
theorem u32_w16 (z : UInt32) : IntKind.u32.wrap (wd z * 65536) = wd (z <<< 16) := by
  rw [wrap_wd]; exact u32_shl16 z
theorem u32_w24 (z : UInt32) : IntKind.u32.wrap (wd z * 16777216) = wd (z <<< 24) := by
  rw [wrap_wd]; exact u32_shl24 z
theorem u32_of (n : Nat) : IntKind.u32.wrap (n : Int) = wd (UInt32.ofNat n) := by
  rw [wrap_wd]; unfold wd; rw [UInt32.toNat_ofNat']; omega
theorem mword_eq (s : ByteArray) (k : Nat) (e0 : 4 * k < s.size) (e1 : 4 * k + 1 < s.size) (e2 : 4 * k + 2 < s.size) (e3 : 4 * k + 3 < s.size) :
    mword s.data.toList k = (s[4 * k].toUInt32 ||| s[4 * k + 1].toUInt32 <<< 8 ||| s[4 * k + 2].toUInt32 <<< 16 ||| s[4 * k + 3].toUInt32 <<< 24) := by
  unfold mword
  rw [getD_list s _ e0, getD_list s _ e1, getD_list s _ e2, getD_list s _ e3]
/-- the digits of a round's order -/
theorem perm_hi (r : Nat) (hr : r < 10) (k : Nat) (hk : k < 8) : bits BinOp.and IntKind.u64 ((perm r : Int) / 2 ^ (60 - 8 * (k : Int)).toNat) 15 = ((order r).getD (2 * k) 0 : Nat) := by
  rcases r with _|_|_|_|_|_|_|_|_|_|r
  all_goals first | (exfalso; omega; done) | skip
  all_goals (rcases k with _|_|_|_|_|_|_|_|k)
  all_goals first | (exfalso; omega; done) | kernel_rfl
theorem perm_lo (r : Nat) (hr : r < 10) (k : Nat) (hk : k < 8) : bits BinOp.and IntKind.u64 ((perm r : Int) / 2 ^ (56 - 8 * (k : Int)).toNat) 15 = ((order r).getD (2 * k + 1) 0 : Nat) := by
  rcases r with _|_|_|_|_|_|_|_|_|_|r
  all_goals first | (exfalso; omega; done) | skip
  all_goals (rcases k with _|_|_|_|_|_|_|_|k)
  all_goals first | (exfalso; omega; done) | kernel_rfl
/-- a new block filled by one store -/
theorem stored_new {w w' : World} {cs : Array Value} {T : TypeId} {vs : List Value} (h : cs.size = vs.length) (hw : (w.alloc (.cells cs T)).setCells w.heap.size 0 vs = w') :
    Below w.heap.size w w' ∧ w'.rangeAt w.heap.size 0 vs ∧ w'.heap.size = w.heap.size + 1 ∧ Free w' w.heap.size vs.length := by
  subst hw
  refine ⟨((Below.refl _ w).alloc (Nat.le_refl _) _).trans ((Save.setCells w.heap.size _ 0 _).below (Nat.le_refl _) (by simp)), World.rangeAt_setCells_same _ _ _ _ ((Free.new h).there (by simp)), ?_, fun j hj => ?_⟩
  · have := (Save.setCells w.heap.size vs 0 (w.alloc (.cells cs T))).size
    have h2 : ∀ (vs : List Value) (o : Nat) (w' : World), (w'.setCells w.heap.size o vs).heap.size = w'.heap.size := by
      intro vs
      induction vs with
      | nil => intros; rfl
      | cons v r ih => intro o w'; rw [World.setCells, ih]; simp [World.setCell]
    rw [h2]; simp
  · have ht := (World.there_setCells (((Free.new (w := w) (T := T) h).there (o := 0) (m := vs.length) (by simp))) w.heap.size 0 vs) j hj
    rw [Nat.zero_add] at ht
    exact ⟨Option.isSome_iff_exists.1 ht.1, ht.2⟩
theorem Free.setCells {b n : Nat} {w : World} (h : Free w b n) (c o : Nat) (vs : List Value) : Free (w.setCells c o vs) b n := fun j hj => by
  have ht := World.there_setCells (h.there (o := 0) (m := n) (by simp)) c o vs j hj
  rw [Nat.zero_add] at ht
  exact ⟨Option.isSome_iff_exists.1 ht.1, ht.2⟩
theorem Soft.setCells {b : Nat} {w : World} (h : Soft w b) (c o : Nat) (vs : List Value) : Soft (w.setCells c o vs) b := fun j => by rw [World.frozen?_setCells]; exact h j
theorem Soft.drew {b : Nat} {w : World} (h : Soft w b) : Soft w.drew b := h
theorem setCells_size0 (b : Nat) : ∀ (vs : List Value) (o : Nat) (w : World), (w.setCells b o vs).heap.size = w.heap.size
  | [], _, _ => rfl
  | v :: r, o, w => by rw [World.setCells, setCells_size0 b r]; simp [World.setCell]
/-- what lies behind a copy into block b -/
theorem copied_mid {w w' : World} {b p n : Nat} {vs : List Value} (hf : Free w b n) (hn : p + vs.length ≤ n) (hw : Hid ((w.drew).setCells b p vs = w')) :
    Save b w w' ∧ w'.rangeAt b p vs ∧ Free w' b n ∧ (Soft w b → Soft w' b) ∧ w'.heap.size = w.heap.size ∧ (∀ o cs, o + cs.length ≤ p ∨ p + vs.length ≤ o → w.rangeAt b o cs → w'.rangeAt b o cs) := by
  have hw := hw.out
  subst hw
  exact ⟨(Save.drew _ w).trans (Save.setCells _ _ _ _), World.rangeAt_setCells_same _ _ _ _ (Free.there (w := w.drew) hf hn), hf.drew.setCells _ _ _, fun h => h.drew.setCells _ _ _, setCells_size0 _ _ _ _, fun o cs ho h => World.rangeAt_setCells_apart (w := w.drew) h _ _ _ (.inr ho)⟩
theorem mix_cells (b : Nat) (g : Nat → UInt32) (k : Nat) (x y : UInt32) (w : World) (hc : Cells w b 16 g) (hq : Soft w b) :
    Calls Tryz.prog 153 #[.pointer (some ⟨b, 0, none⟩), .agg (lq k).toArray, .int .u32 (wd x), .int .u32 (wd y)] w fun e w' => e = .returned (.tuple #[]) ∧ Save b w w' ∧ Soft w' b ∧ Cells w' b 16 (mixed g (quad k).1 (quad k).2.1 (quad k).2.2.1 (quad k).2.2.2 x y) := by
  obtain ⟨h1, h2, h3, h4, h5, h6, h7⟩ := quad_lt k
  refine (mix_any b _ _ _ _ _ _ _ _ x y w h1 h2 h3 h4 h5 h6 h7 (hc _ (by omega)) (hc _ (by omega)) (hc _ (by omega)) (hc _ (by omega)) hq).mono ?_
  rintro e w' ⟨he, hs, hf, ho, ha, hb, hcc, hd⟩
  refine ⟨he, hs, hf, fun j hj => ?_⟩
  unfold mixed
  by_cases e1 : j = (quad k).1
  · rw [if_pos e1, e1]; exact ha
  rw [if_neg e1]
  by_cases e2 : j = (quad k).2.1
  · rw [if_pos e2, e2]; exact hb
  rw [if_neg e2]
  by_cases e3 : j = (quad k).2.2.1
  · rw [if_pos e3, e3]; exact hcc
  rw [if_neg e3]
  by_cases e4 : j = (quad k).2.2.2
  · rw [if_pos e4, e4]; exact hd
  rw [if_neg e4]
  exact ho j _ e1 e2 e3 e4 (hc j hj)
theorem u32_not (a : UInt32) : bits BinOp.xor IntKind.u32 IntKind.u32.max (wd a) = wd (~~~ a) := by
  rw [show IntKind.u32.max = wd 4294967295 from rfl, u32_xor]
  congr 1
theorem oneCellq (k : Nat) : ∀ v ∈ lq k, v.oneCell' = true := by simp [lq, Value.oneCell']
theorem wpStill_load_mid {P : Program} {ops : Array Oper} {w : World} {Q : Act → Prop} {o : Oper} {rest : List Oper} {a : Act} (hw : Region.wanted o (yielded ops a.tmps) = true) (ty : TypeId) (x : Operand) (ho : o.op = .load ty x)
    (b p : Nat) (hx : a.eval x = .pointer (some ⟨b, p, none⟩)) (cs : List Value) (d : TypeDesc) (hc : w.rangeAt b p cs)
    (hu : P.underlying ty = some d) (hd : d.isRow = true) (hi : (P.info? ty).map (·.size) = some cs.length)
    (h : wpStill P ops w Q rest (a.put o.dst (.agg cs.toArray))) : wpStill P ops w Q (o :: rest) a := by
  unfold wpStill
  rw [if_pos hw]
  unfold Oper.still execOp
  simp only [ho, hx, Instr.loadAt, Instr.sureAddr, Sem.run_bind, Sem.run_pure, Result.andThen_ok, run_loadVar_mid w b p ty cs d hc hu hd hi]
  rw [Oper.stillUpon_value]
  exact h
theorem results_cell_tmp_mid {P : Program} {fn : Func} {p q : Tmp} {ty : TypeId} (h : fn.results = #[.cell p ty, .tmp q]) (tmps : Array Value) (w : World) (b o : Nat) (hp : tmps.getD p undef = .pointer (some ⟨b, o, none⟩))
    (cs : List Value) (d : TypeDesc) (hc : w.rangeAt b o cs) (hu : P.underlying ty = some d) (hd : d.isRow = true) (hi : (P.info? ty).map (·.size) = some cs.length) :
    (results fn tmps).run P w = .ok (.tuple #[.agg cs.toArray, tmps.getD q undef]) w := by
  have hp' : tmps[p]?.getD undef = .pointer (some ⟨b, o, none⟩) := by simpa using hp
  simp [results, h, hp', asAddr, run_loadVar_mid w b o ty cs d hc hu hd hi]
end Go.Proofs.YtpkapcijgldhhaaGreatDoor
