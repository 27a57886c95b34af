/-
  Shares in memory; slices.ContainsFunc and slices.Contains over them, in the program.
  Erasure in the program: what holds while choose collects its two rows.
  Erasure in the program: the shares that are chosen.
  A region that draws its order, whose loads come ahead of its stores: a load may be taken first if its cell stands until the first store that waits for it.
-/
import Derived.Test.YtpkapcijgldhhaaGreatDoorCe35
import Derived.Test.YtpkapcijgldhhaaGreatDoorCe19
import Derived.Test.YtpkapcijgldhhaaGreatDoorCe27
import Derived.Test.YtpkapcijgldhhaaGreatDoorCe22
import Derived.Test.YtpkapcijgldhhaaGreatDoorCe36
import Derived.Deep.RegionHeld3
import Derived.WalkKit
import Derived.OrdersHeld
namespace Go.Proofs.YtpkapcijgldhhaaGreatDoor
open Go.RowKit Go.Shelf
/-- a share -/
structure Sh where
  i : Int
  d : ByteArray
def Sh.vals (s : Sh) : List Value := [.int .i64 s.i, .string s.d]
def sh0 : Sh := ⟨0, ⟨#[]⟩⟩
def shAt (S : List Sh) (k : Nat) : Sh := S.getD k sh0
def ShAt (w : World) (b o : Nat) (S : List Sh) : Prop := GAt 2 Sh.vals sh0 w b o S
theorem shCells {w : World} {b o : Nat} {S : List Sh} (h : ShAt w b o S) {i : Nat} (hi : i < S.length) :
    w.cell? ⟨b, o + i * 2, none⟩ = some (.int .i64 (shAt S i).i) ∧ w.cell? ⟨b, o + i * 2 + 1, none⟩ = some (.string (shAt S i).d) := ⟨h i hi 0 _ rfl, h i hi 1 _ rfl⟩
theorem ShAt.below {w w' : World} {b o : Nat} {S : List Sh} (h : ShAt w b o S) (hb : Below w.heap.size w w') : ShAt w' b o S := fun i hi j v hv => by
  rw [hb.cell (World.block_lt_of_cell? w _ (h i hi j v hv))]; exact h i hi j v hv
/-- an index, or -1 -/
def IxP (n : Nat) (p : Nat → Bool) (x : Int) : Prop := ((∃ k, k < n ∧ p k = true) ∧ 0 ≤ x) ∨ ((∀ k, k < n → p k = false) ∧ x = -1)
set_option maxRecDepth 100000 in
set_option maxHeartbeats 4000000 in
theorem indexF_any (b o cap : Nat) (S : List Sh) (p : Nat → Bool) (gf : Nat) (lb : Array Value) (eg : ∀ args w, (callFunc gf args).run Tryz.prog w = .ok (.enter gf args) w) (w : World) (hm : S.length ≤ 1000000) (hS : ShAt w b o S)
    (hp : ∀ k, k < S.length → ∀ W, Below w.heap.size w W → Calls Tryz.prog gf (#[.agg #[.int .i64 (shAt S k).i, .string (shAt S k).d]] ++ lb) W (fun e W' => e = .returned (.bool (p k)) ∧ Below W.heap.size W W')) :
    Calls Tryz.prog 157 #[.slice (some ⟨b, o, none⟩) S.length cap, .func (.func gf) #[] lb] w (fun e w' => ∃ x : Int, e = .returned (.int .i64 x) ∧ Hid (IxP S.length p x) ∧ Below w.heap.size w w') := by
  have HS := Lib.hid (fun W (hW : Below w.heap.size w W) => hS.below hW)
  have HP := Lib.hid hp
  clear hp hS
  go_enter Tryz.func157, Tryz.ntmps157
  go_wp2_with fail
  go_loopw [8] (fun v wr => ∃ k : Nat, k ≤ S.length ∧ v = .int .i64 k ∧ Below w.heap.size w wr ∧ Hid (∀ j, j < k → p j = false)) (fun v _ => S.length - (intOf v).toNat)
  case atStart => exact ⟨0, by omega, rfl, below_refl w, fun j hj => absurd hj (Nat.not_lt_zero _)⟩
  case round =>
    obtain ⟨k, hk, rfl, kb, hf⟩ := hrel
    by_cases hlt : k < S.length
    · obtain ⟨c0, c1⟩ := shCells (HS.out _ kb) hlt
      have hix : (0 : Int) ≤ (k : Int) ∧ (k : Int) < (S.length : Int) := by omega
      have HC := Lib.hid (HP.out k hlt wr kb)
      cases hpk : p k with
      | false =>
        rw [hpk] at HC
        have hf2 : Hid (∀ j, j < k + 1 → p j = false) := fun j hj => by
          by_cases e : j = k
          · subst e; exact hpk
          · exact hf.out j (by omega)
        clear hf hpk
        go_wp2_with fail
        refine HC.out.mono ?_
        rintro e w2 ⟨rfl, hb2⟩
        have kb2 := step2 kb hb2
        clear HC
        go_wp2_with fail
        go_roundw
        case rel => exact ⟨k + 1, by omega, by go_num, kb2, hf2⟩
        case measure => simp [intOf]; omega
      | true =>
        rw [hpk] at HC
        have hr : Hid (IxP S.length p (k : Int)) := .inl ⟨⟨k, hlt, hpk⟩, by omega⟩
        clear hf hpk
        go_wp2_with fail
        refine HC.out.mono ?_
        rintro e w2 ⟨rfl, hb2⟩
        have kb2 := step2 kb hb2
        clear HC
        go_wp2_with fail
        go_ret
        exact ⟨k, rfl, hr, kb2⟩
    · obtain rfl : k = S.length := by omega
      have hr : Hid (IxP S.length p (-1)) := .inr ⟨hf.out, rfl⟩
      clear hf
      go_wp2_with fail
      go_ret
      exact ⟨-1, rfl, hr, kb⟩
theorem any_range {n : Nat} {p : Nat → Bool} : (List.range n).any p = true ↔ ∃ k, k < n ∧ p k = true := by
  rw [List.any_eq_true]
  exact ⟨fun ⟨k, h1, h2⟩ => ⟨k, List.mem_range.1 h1, h2⟩, fun ⟨k, h1, h2⟩ => ⟨k, List.mem_range.2 h1, h2⟩⟩
theorem IxP.bool {n : Nat} {p : Nat → Bool} {x : Int} (h : IxP n p x) : (List.range n).any p = decide (0 ≤ x) := by
  rcases h with ⟨h1, h2⟩ | ⟨h1, rfl⟩
  · rw [any_range.2 h1, decide_eq_true h2]
  · rw [decide_eq_false (by decide), ← Bool.not_eq_true, any_range]
    rintro ⟨k, h2, h3⟩
    rw [h1 k h2] at h3; cases h3
set_option maxRecDepth 100000 in
set_option maxHeartbeats 4000000 in
theorem containsF_any (b o cap : Nat) (S : List Sh) (p : Nat → Bool) (gf : Nat) (lb : Array Value) (eg : ∀ args w, (callFunc gf args).run Tryz.prog w = .ok (.enter gf args) w) (w : World) (hm : S.length ≤ 1000000) (hS : ShAt w b o S)
    (hp : ∀ k, k < S.length → ∀ W, Below w.heap.size w W → Calls Tryz.prog gf (#[.agg #[.int .i64 (shAt S k).i, .string (shAt S k).d]] ++ lb) W (fun e W' => e = .returned (.bool (p k)) ∧ Below W.heap.size W W')) :
    Calls Tryz.prog 116 #[.slice (some ⟨b, o, none⟩) S.length cap, .func (.func gf) #[] lb] w (fun e w' => e = .returned (.bool ((List.range S.length).any p)) ∧ Below w.heap.size w w') := by
  have HI := Lib.hid (indexF_any b o cap S p gf lb eg w hm hS hp)
  clear hp hS eg
  go_enter Tryz.func116, Tryz.ntmps116
  go_wp2_with fail
  refine HI.out.mono ?_
  rintro e w2 ⟨x, rfl, hx, hb2⟩
  have hb := Lib.hid hx.out.bool
  clear hx
  go_wp2_with fail
  go_ret
  exact ⟨by rw [hb.out]; rfl, hb2⟩
set_option maxRecDepth 100000 in
set_option maxHeartbeats 4000000 in
theorem indexB_any (b o cap : Nat) (L : List UInt8) (x : UInt8) (w : World) (hm : L.length ≤ 1000000) (hL : ByAt w b o L) :
    Calls Tryz.prog 158 #[.slice (some ⟨b, o, none⟩) L.length cap, .int .u8 (by8 x)] w (fun e w' => ∃ y : Int, e = .returned (.int .i64 y) ∧ Hid (IxP L.length (fun k => x == L.getD k 0) y) ∧ w' = w) := by
  have HL := Lib.hid hL
  clear hL
  go_enter Tryz.func158, Tryz.ntmps158
  go_wp2_with fail
  go_loopw [8] (fun v wr => ∃ k : Nat, k ≤ L.length ∧ v = .int .i64 k ∧ wr = w ∧ Hid (∀ j, j < k → (x == L.getD j 0) = false)) (fun v _ => L.length - (intOf v).toNat)
  case atStart => exact ⟨0, by omega, rfl, rfl, fun j hj => absurd hj (Nat.not_lt_zero _)⟩
  case round =>
    obtain ⟨k, hk, rfl, rfl, hf⟩ := hrel
    by_cases hlt : k < L.length
    · have c0 : wr.cell? ⟨b, o + k, none⟩ = some (.int .u8 (by8 (L.getD k 0))) := HL.out k hlt
      have hix : (0 : Int) ≤ (k : Int) ∧ (k : Int) < (L.length : Int) := by omega
      by_cases hq : x = L.getD k 0
      · have y : (by8 x == by8 (L.getD k 0)) = true := by rw [← hq]; simp
        have hr : Hid (IxP L.length (fun k => x == L.getD k 0) (k : Int)) := .inl ⟨⟨k, hlt, by rw [beq_iff_eq]; exact hq⟩, by omega⟩
        clear hf hq
        generalize L.getD k 0 = l at *
        go_wp2_with fail
        go_ret
        exact ⟨k, rfl, hr, rfl⟩
      · have y : (by8 x == by8 (L.getD k 0)) = false := by rw [beq_eq_false_iff_ne]; exact fun h => hq (by8_inj h)
        have hf2 : Hid (∀ j, j < k + 1 → (x == L.getD j 0) = false) := fun j hj => by
          by_cases e : j = k
          · subst e; rw [beq_eq_false_iff_ne]; exact hq
          · exact hf.out j (by omega)
        clear hf hq
        generalize L.getD k 0 = l at *
        go_wp2_with fail
        go_roundw
        case rel => exact ⟨k + 1, by omega, by go_num, trivial, hf2⟩
        case measure => simp [intOf]; omega
    · obtain rfl : k = L.length := by omega
      have hr : Hid (IxP L.length (fun k => x == L.getD k 0) (-1)) := .inr ⟨hf.out, rfl⟩
      clear hf
      go_wp2_with fail
      go_ret
      exact ⟨-1, rfl, hr, rfl⟩
set_option maxRecDepth 100000 in
set_option maxHeartbeats 4000000 in
theorem containsB_any (b o cap : Nat) (L : List UInt8) (x : UInt8) (w : World) (hm : L.length ≤ 1000000) (hL : ByAt w b o L) :
    Calls Tryz.prog 119 #[.slice (some ⟨b, o, none⟩) L.length cap, .int .u8 (by8 x)] w (fun e w' => e = .returned (.bool (decide (x ∈ L))) ∧ w' = w) := by
  have HI := Lib.hid (indexB_any b o cap L x w hm hL)
  clear hL
  go_enter Tryz.func119, Tryz.ntmps119
  go_wp2_with fail
  refine HI.out.mono ?_
  rintro e w2 ⟨y, rfl, hx, rfl⟩
  have hb : Hid (decide (x ∈ L) = decide (0 ≤ y)) := by
    rw [Hid, ← hx.out.bool, Bool.eq_iff_iff, decide_eq_true_eq, any_range]
    constructor
    · intro h
      obtain ⟨k, h1, h2⟩ := List.getElem_of_mem h
      exact ⟨k, h1, by rw [gf_get h1, h2]; simp⟩
    · rintro ⟨k, h1, h2⟩
      rw [gf_get h1, beq_iff_eq] at h2
      rw [h2]; exact List.getElem_mem _
  clear hx
  go_wp2_with fail
  go_ret
  exact ⟨by rw [hb.out]; rfl, rfl⟩
end Go.Proofs.YtpkapcijgldhhaaGreatDoor

namespace Go.Proofs.YtpkapcijgldhhaaGreatDoor
open Go.RowKit Go.Shelf
theorem infoU8c : (Tryz.prog.info? 5).map (fun i => (i.zero, i.size, i.bytes)) = some (some (.int .u8 0), 1, 1) := by kernel_rfl
theorem infoStc : (Tryz.prog.info? 9).map (fun i => (i.zero, i.size, i.bytes)) = some (some (.string ⟨#[]⟩), 1, 16) := by kernel_rfl
theorem own_grew {W W' : World} {base : Nat} {e e' : TypeId} {size n : Nat} {v : Value} {xs : List Value} (h : W.ownsRow base e size v n xs) (hg : Grew W W' e') (hne : e ≠ e') : W'.ownsRow base e size v n xs := by
  refine ⟨h.1, h.2.imp id ?_⟩
  rintro ⟨g, cap, cur, h1, h2, hh, r⟩
  exact ⟨g, cap, cur, h1, h2, (hg g _ _ _ hh hne).trans hh, r⟩
theorem own_setCell {W : World} {base : Nat} {e : TypeId} {size n : Nat} {v : Value} {xs : List Value} (h : W.ownsRow base e size v n xs) {B j : Nat} (hB : B < base) (u : Value) : (W.setCell ⟨B, j, none⟩ u).ownsRow base e size v n xs := by
  refine ⟨h.1, h.2.imp id ?_⟩
  rintro ⟨g, cap, cur, h1, h2, hh, r⟩
  exact ⟨g, cap, cur, h1, h2, (Below.heap_setCell _ _ _ g (fun e => by have e : g = B := e; omega)).trans hh, r⟩
theorem news1 (W : World) (u : Value) (T : TypeId) (j : Nat) (x : Value) (h : [u][j]? = some x) : (W.alloc (.cells #[u] T)).cell? ((⟨W.heap.size, 0, none⟩ : Addr).add j) = some x := by
  rw [Addr.add_mid, Nat.zero_add, alloc_new_cell]
  simpa using h
theorem news_box {W : World} {B : Nat} {u : Value} {T : TypeId} (hb : Box W B [u] T) (j : Nat) (x : Value) (h : [u][j]? = some x) : W.cell? ((⟨B, 0, none⟩ : Addr).add j) = some x := by
  rw [Addr.add_mid, Nat.zero_add, hb.cell]; exact h
theorem Box.alloc {W : World} {B : Nat} {cs : List Value} {T : TypeId} (h : Box W B cs T) (o : Obj) : Box (W.alloc o) B cs T := h.below ((below_refl W).alloc (Nat.le_refl _) o)
/-- the boxes and the rows -/
structure Cho (w : World) (base SB X : Nat) (hv s0 s1 : Value) (i : Int) (d : ByteArray) (va : Value) (A : List UInt8) (vb : Value) (B : List ByteArray) (W : World) : Prop where
  bel : Below w.heap.size w W
  hb : Box W w.heap.size [hv] 80
  rb : Box W (w.heap.size + 1) [.slice none 0 0, .slice none 0 0] 126
  sb : Box W SB [s0, s1] 126
  xb : Box W X [.int .i64 i, .string d] 85
  a : W.ownsRow base 5 1 va A.length (A.map b8)
  b : W.ownsRow base 9 1 vb B.length (B.map Value.string)
  le : base ≤ W.heap.size
  lw : w.heap.size ≤ base
section
variable {w : World} {base SB X : Nat} {hv s0 s1 : Value} {i : Int} {d : ByteArray} {va va' : Value} {A : List UInt8} {vb vb' : Value} {B : List ByteArray} {W W' : World}
theorem Cho.alloc (h : Cho w base SB X hv s0 s1 i d va A vb B W) (o : Obj) : Cho w base SB X hv s0 s1 i d va A vb B (W.alloc o) :=
  ⟨h.bel.alloc h.bel.size o, h.hb.alloc o, h.rb.alloc o, h.sb.alloc o, h.xb.alloc o, World.ownsRow.alloc h.a o, World.ownsRow.alloc h.b o, by rw [World.size_alloc]; exact Nat.le_succ_of_le h.le, h.lw⟩
theorem Cho.drew (h : Cho w base SB X hv s0 s1 i d va A vb B W) : Cho w base SB X hv s0 s1 i d va A vb B W.drew := ⟨below_drew0 h.bel, h.hb, h.rb, h.sb, h.xb, h.a, h.b, h.le, h.lw⟩
theorem Cho.stepA {x : UInt8} (h : Cho w base SB X hv s0 s1 i d va A vb B W) (hb : Below base W W') (hg : Grew W W' 5) (ho : W'.ownsRow base 5 1 va' (A.length + 1) (A.map b8 ++ [b8 x])) : Cho w base SB X hv s0 s1 i d va' (A ++ [x]) vb B W' :=
  ⟨h.bel.trans (hb.mono h.lw), h.hb.grew hg (by decide), h.rb.grew hg (by decide), h.sb.grew hg (by decide), h.xb.grew hg (by decide), by rw [List.length_append, List.map_append]; exact ho, own_grew h.b hg (by decide), Nat.le_trans h.le hb.size, h.lw⟩
theorem Cho.stepB {x : ByteArray} (h : Cho w base SB X hv s0 s1 i d va A vb B W) (hb : Below base W W') (hg : Grew W W' 9) (ho : W'.ownsRow base 9 1 vb' (B.length + 1) (B.map Value.string ++ [.string x])) : Cho w base SB X hv s0 s1 i d va A vb' (B ++ [x]) W' :=
  ⟨h.bel.trans (hb.mono h.lw), h.hb.grew hg (by decide), h.rb.grew hg (by decide), h.sb.grew hg (by decide), h.xb.grew hg (by decide), own_grew h.a hg (by decide), by rw [List.length_append, List.map_append]; exact ho, Nat.le_trans h.le hb.size, h.lw⟩
/-- the two stores at the end -/
theorem Cho.store (h : Cho w base SB X hv s0 s1 i d va A vb B W) (hS : w.heap.size + 2 ≤ SB) (hSb : SB < base) (hX : X ≠ SB) (u v : Value) : Cho w base SB X hv u v i d va A vb B ((W.setCell ⟨SB, 0, none⟩ u).setCell ⟨SB, 1, none⟩ v) :=
  ⟨(h.bel.setCell (p := ⟨SB, 0, none⟩) (show w.heap.size ≤ SB by omega) u).setCell (p := ⟨SB, 1, none⟩) (show w.heap.size ≤ SB by omega) v, (h.hb.setOther (by omega) u).setOther (by omega) v, (h.rb.setOther (by omega) u).setOther (by omega) v, (h.sb.set (j := 0) u).set (j := 1) v, (h.xb.setOther (fun e => hX e.symm) u).setOther (fun e => hX e.symm) v, own_setCell (own_setCell h.a hSb u) hSb v, own_setCell (own_setCell h.b hSb u) hSb v, by simpa using h.le, h.lw⟩
end
end Go.Proofs.YtpkapcijgldhhaaGreatDoor

namespace Go.Proofs.YtpkapcijgldhhaaGreatDoor
open Go.RowKit Go.Shelf
/-- shares as they are chosen: all at different indices below 15 -/
structure ShOk (S : List Sh) : Prop where
  ix : ∀ k, k < S.length → 0 ≤ (shAt S k).i ∧ (shAt S k).i < 15
  nd : (S.map fun s => UInt8.ofNat s.i.toNat).Nodup
def shX (S : List Sh) (k : Nat) : List UInt8 := (List.range k).map fun j => UInt8.ofNat (shAt S j).i.toNat
def shB (S : List Sh) (k : Nat) : List ByteArray := (List.range k).map fun j => (shAt S j).d
theorem shX_len (S : List Sh) (k : Nat) : (shX S k).length = k := by unfold shX; simp
theorem shB_len (S : List Sh) (k : Nat) : (shB S k).length = k := by unfold shB; simp
theorem shX_succ (S : List Sh) (k : Nat) : shX S (k + 1) = shX S k ++ [UInt8.ofNat (shAt S k).i.toNat] := by unfold shX; rw [List.range_succ, List.map_append]; rfl
theorem shB_succ (S : List Sh) (k : Nat) : shB S (k + 1) = shB S k ++ [(shAt S k).d] := by unfold shB; rw [List.range_succ, List.map_append]; rfl
theorem shAt_get {S : List Sh} {i : Nat} (h : i < S.length) : shAt S i = S[i] := by
  unfold shAt; rw [List.getD_eq_getElem?_getD, List.getElem?_eq_getElem h]; rfl
theorem shX_full (S : List Sh) : shX S S.length = S.map fun s => UInt8.ofNat s.i.toNat := by
  apply List.ext_getElem
  · simp [shX]
  · intro i h1 h2
    simp only [shX, List.getElem_map, List.getElem_range]
    rw [shAt_get (by simpa using h2)]
theorem ShOk.notin {S : List Sh} (h : ShOk S) {k : Nat} (hk : k < S.length) : UInt8.ofNat (shAt S k).i.toNat ∉ shX S k := by
  intro hm
  unfold shX at hm
  obtain ⟨j, hj, he⟩ := List.mem_map.1 hm
  have hj := List.mem_range.1 hj
  have := List.pairwise_iff_getElem.1 h.nd j k (by simp; omega) (by simpa using hk) hj
  rw [List.getElem_map, List.getElem_map, ← shAt_get (by omega), ← shAt_get hk] at this
  exact this he
set_option maxRecDepth 100000 in
set_option maxHeartbeats 4000000 in
theorem pred1_any (i : Int) (d : ByteArray) (w : World) (h : 0 ≤ i ∧ i < 15) : Calls Tryz.prog 117 #[.agg #[.int .i64 i, .string d]] w (fun e w' => e = .returned (.bool false) ∧ Below w.heap.size w w') := by
  obtain ⟨kb0, bC0⟩ := boxr' w [.int .i64 i, .string d] 85
  go_enter Tryz.func117, Tryz.ntmps117
  go_upto_region 1 with (fail)
  change Code.wp _ _ _ _ (w.alloc (.cells [.int .i64 i, .string d].toArray 85))
  generalize w.alloc (.cells [.int .i64 i, .string d].toArray 85) = W0 at *
  obtain ⟨c0, c1⟩ := bC0.cells2
  have h1 : ¬ i < 0 := by omega
  have h2 : ¬ 15 ≤ i := by omega
  go_wp2_with fail
  go_ret
  exact ⟨rfl, kb0⟩
set_option maxRecDepth 100000 in
set_option maxHeartbeats 4000000 in
theorem pred2_any (i : Int) (d d0 : ByteArray) (w : World) (H b o n cap : Nat) (hn : 0 < n) (hH : Box w H [.slice (some ⟨b, o, none⟩) n cap] 80) (hd : w.cell? ⟨b, o + 1, none⟩ = some (.string d0)) : Calls Tryz.prog 118 #[.agg #[.int .i64 i, .string d], .pointer (some ⟨H, 0, none⟩)] w (fun e w' => e = .returned (.bool (decide (d.size ≠ d0.size))) ∧ Below w.heap.size w w') := by
  obtain ⟨kb0, bC0⟩ := boxr' w [.int .i64 i, .string d] 85
  have cH : (w.alloc (.cells [.int .i64 i, .string d].toArray 85)).cell? ⟨H, 0, none⟩ = some (.slice (some ⟨b, o, none⟩) n cap) := (hH.below kb0).cell 0
  have cd : (w.alloc (.cells [.int .i64 i, .string d].toArray 85)).cell? ⟨b, o + 1, none⟩ = some (.string d0) := by rw [kb0.cell (World.block_lt_of_cell? w _ hd)]; exact hd
  have hn2 : (0 : Int) < (n : Int) := by omega
  go_enter Tryz.func118, Tryz.ntmps118
  go_upto_region 1 with (fail)
  change Code.wp _ _ _ _ (w.alloc (.cells [.int .i64 i, .string d].toArray 85))
  generalize w.alloc (.cells [.int .i64 i, .string d].toArray 85) = W0 at *
  obtain ⟨c0, c1⟩ := bC0.cells2
  have hdec : Hid (((d.size : Int) != (d0.size : Int)) = decide (d.size ≠ d0.size)) := by
    rw [Hid, Bool.eq_iff_iff, bne_iff_ne, decide_eq_true_eq]; omega
  go_quiet (fail)
  go_wp2_with fail
  go_ret
  exact ⟨by rw [← hdec.out]; rfl, below_drewN kb0 _⟩
theorem shB_map (S : List Sh) (k : Nat) : (shB S k).map (fun t => t.data.toList) = (List.range k).map fun j => (shAt S j).d.data.toList := by unfold shB; rw [List.map_map]; rfl
theorem shB_at {S : List Sh} {n k : Nat} (h : k < n) : sAt (shB S n) k = (shAt S k).d := by
  unfold sAt shB; rw [List.getD_eq_getElem?_getD, List.getElem?_map, List.getElem?_range h]; rfl
theorem shX_at {S : List Sh} {n k : Nat} (h : k < n) : (shX S n).getD k 0 = UInt8.ofNat (shAt S k).i.toNat := by
  unfold shX; rw [List.getD_eq_getElem?_getD, List.getElem?_map, List.getElem?_range h]; rfl
/-- the block at the point of a share is the share's -/
theorem ShOk.point {S : List Sh} (h : ShOk S) {n : Nat} (hn : ∀ k, k < S.length → (shAt S k).d.size = n) {k : Nat} (hk : k < S.length) :
    lagL (shX S S.length) ((shB S S.length).map fun t => t.data.toList) n (UInt8.ofNat (shAt S k).i.toNat) = (shAt S k).d.data.toList := by
  have hg : ((shB S S.length).map fun t => t.data.toList).getD k [] = (shAt S k).d.data.toList := by
    rw [shB_map, List.getD_eq_getElem?_getD, List.getElem?_map, List.getElem?_range hk]; rfl
  rw [← shX_at hk, at_point (by rw [shX_full]; exact h.nd) _ (by rw [shX_len]; exact hk) (by rw [hg]; exact hn k hk), hg]
theorem wrap8 {i : Int} (h : 0 ≤ i ∧ i < 15) : IntKind.u8.wrap i = by8 (UInt8.ofNat i.toNat) := by
  obtain ⟨m, rfl⟩ := Int.eq_ofNat_of_zero_le h.1
  rw [wrap_u8 m (by omega)]
  unfold by8
  rw [Int.toNat_natCast, UInt8.toNat_ofNat_of_lt' (show m < 256 by omega)]
set_option maxRecDepth 100000 in
set_option maxHeartbeats 4000000 in
theorem pred3_any (S : List Sh) (n : Nat) (k SB gx cx gb cb : Nat) (w : World) (h : ShOk S) (hn : ∀ k, k < S.length → (shAt S k).d.size = n) (hn1 : n ≤ 1000) (hk : k < S.length) (hl : S.length ≤ 15)
    (hB : Box w SB [.slice (some ⟨gx, 0, none⟩) S.length cx, .slice (some ⟨gb, 0, none⟩) S.length cb] 126) (hx : ByAt w gx 0 (shX S S.length)) (hb : StAt w gb 0 (shB S S.length)) :
    Calls Tryz.prog 120 #[.agg #[.int .i64 (shAt S k).i, .string (shAt S k).d], .pointer (some ⟨SB, 0, none⟩)] w (fun e w' => e = .returned (.bool false) ∧ Below w.heap.size w w') := by
  have hp := h.point hn hk
  have hi := h.ix k hk
  have HC := Lib.hid (show ∀ W, Below w.heap.size w W → _ from fun W hW => block72_any gx 0 cx gb 0 cb (shX S S.length) (shB S S.length) n (shAt S k).i (UInt8.ofNat (shAt S k).i.toNat) W (by rw [shX_full]; exact h.nd) (by rw [shX_len, shB_len]) (by rw [shX_len]; omega) (by rw [shX_len]; omega) hn1
    (fun j hj => by rw [shB_len] at hj; rw [shB_at hj]; exact hn j hj) (hx.below hW) (hb.below hW) (wrap8 hi))
  rw [hp, shX_len, shB_len, bA'_of] at HC
  have HSB := Lib.hid (fun W (hW : Below w.heap.size w W) => hB.below hW)
  clear hx hb hp h hn
  generalize shAt S k = s at *
  obtain ⟨i, d⟩ := s
  dsimp only at *
  obtain ⟨kb0, bC0⟩ := boxr' w [.int .i64 i, .string d] 85
  have bS0 := hB.below kb0
  clear hB
  go_enter Tryz.func120, Tryz.ntmps120
  go_upto_region 1 with (fail)
  change Code.wp _ _ _ _ (w.alloc (.cells [.int .i64 i, .string d].toArray 85))
  generalize w.alloc (.cells [.int .i64 i, .string d].toArray 85) = W0 at *
  have bCd : Box W0.drew w.heap.size [.int .i64 i, .string d] 85 := bC0
  have bSd : Box W0.drew SB [.slice (some ⟨gx, 0, none⟩) S.length cx, .slice (some ⟨gb, 0, none⟩) S.length cb] 126 := bS0
  have kd := below_drew0 kb0
  have cS0 : (W0.drew.cell? ⟨SB, 0, none⟩ = some (.slice (some ⟨gx, 0, none⟩) S.length cx) ∧ W0.drew.cell? ⟨SB, 1, none⟩ = some (.slice (some ⟨gb, 0, none⟩) S.length cb)) ∧ W0.drew.cell? ⟨w.heap.size, 0, none⟩ = some (.int .i64 i) ∧ W0.drew.cell? ⟨w.heap.size, 1, none⟩ = some (.string d) := ⟨bSd.cells2, bCd.cells2⟩
  go_region_held3 (fun W => (W.cell? ⟨SB, 0, none⟩ = some (.slice (some ⟨gx, 0, none⟩) S.length cx) ∧ W.cell? ⟨SB, 1, none⟩ = some (.slice (some ⟨gb, 0, none⟩) S.length cb)) ∧ W.cell? ⟨w.heap.size, 0, none⟩ = some (.int .i64 i) ∧ W.cell? ⟨w.heap.size, 1, none⟩ = some (.string d))
    (with_reducible assumption)
    ((go_at_call 72; refine (HC.out _ kd).mono ?_; rintro e w2 ⟨rfl, hb2⟩; have cS2 := And.intro (bSd.below hb2).cells2 (bCd.below hb2).cells2))
  all_goals
    have hF := step2 kd hb2
    clear HC HSB bSd bCd cS0 cS2
    go_wp2_with fail
    go_ret
    exact ⟨by simp, hF⟩
end Go.Proofs.YtpkapcijgldhhaaGreatDoor

namespace Go.Proofs.YtpkapcijgldhhaaGreatDoor
section
variable {P : Program} {l : List Oper} {Q : Exit → Act → World → Prop} {md : Region.Mode} {S0 S1 : World → Prop} {m : Nat}
/-- whatever comes next; S0 is owed throughout, S1 until number m has come -/
def wpAnyT (P : Program) (md : Region.Mode) (l : List Oper) (Q : Exit → Act → World → Prop) (S0 S1 : World → Prop) (m : Nat) : Nat → Array Bool → Act → World → Prop
  | 0, listed, a, w => Region.ready md l.toArray listed = [] ∧ Q .normal a w
  | n + 1, listed, a, w => (Region.ready md l.toArray listed = [] → Q .normal a w) ∧
    ∀ i ∈ Region.ready md l.toArray listed, wpOp P l.toArray Q i (fun a' w' => (S0 w' ∧ ((listed.setIfInBounds i true).getD m true = false → S1 w')) ∧ wpAnyT P md l Q S0 S1 m n (listed.setIfInBounds i true) a' w') a w
theorem any_of_T : ∀ (n : Nat) (listed : Array Bool) (a : Act) (w : World), wpAnyT P md l Q S0 S1 m n listed a w → wpAny P md l.toArray Q n listed a w
  | 0, _, _, _, h => h
  | n + 1, _, _, _, h => ⟨h.1, fun i hi => wpOp_mono (fun a' w' hw => any_of_T n _ a' w' hw.2) (h.2 i hi)⟩
theorem firstT {i : Nat} {o : Oper} {v : Value} {S : World → Prop} (hi : l.toArray[i]? = some o) (him : i ≠ m) (hsel : ∀ (j : Nat) (o : Oper) cs b, l.toArray[j]? = some o → o.op ≠ .select cs b) (hQ : ∀ c a w, Q (.panic c) (a.put o.dst v) w → Q (.panic c) a w)
    (hK : (∀ w, S0 w → S w) ∨ ((∀ om, l.toArray[m]? = some om → ∃ e ∈ om.after, Region.binds md e = true ∧ e.on = i) ∧ ∀ w, S0 w → S1 w → S w)) :
    ∀ (n : Nat) (listed : Array Bool) (a : Act) (w : World), ((∀ w, S0 w → S w) ∨ listed.getD m true = false) → (∀ j oj, l.toArray[j]? = some oj → j ≠ i → listed.getD j true = false → (∀ e ∈ oj.after, Region.binds md e = true → e.on ≠ i) → o.apart l.toArray oj = true) →
      i ∈ Region.ready md l.toArray listed → YieldsIf P l.toArray S o v a → S0 w → (listed.getD m true = false → S1 w) → wpAnyT P md l Q S0 S1 m n (listed.setIfInBounds i true) (a.put o.dst v) w → wpAnyT P md l Q S0 S1 m (n + 1) listed a w := by
  have now : ∀ (listed : Array Bool) (w : World), ((∀ w, S0 w → S w) ∨ listed.getD m true = false) → S0 w → (listed.getD m true = false → S1 w) → S w := fun listed w hm h0 h1 => by
    rcases hm with hm | hm
    · exact hm w h0
    · rcases hK with hK | ⟨_, hK⟩
      · exact hK w h0
      · exact hK w h0 (h1 hm)
  intro n
  induction n with
  | zero =>
    intro listed a w hm _ hr hy h0 h1 hW
    refine ⟨fun hn => (by rw [hn] at hr; cases hr), fun j hj => ?_⟩
    rcases Nat.decEq j i with hne | rfl
    · have := ready_mono hj hne
      rw [hW.1] at this
      cases this
    · exact hy.wpOp hi (now _ _ hm h0 h1) ⟨⟨h0, fun h => h1 (by rwa [getD_set_ne true him] at h)⟩, hW⟩
  | succ n ih =>
    intro listed a w hm hap hr hy h0 h1 hW
    refine ⟨fun hn => (by rw [hn] at hr; cases hr), fun j hj => ?_⟩
    rcases Nat.decEq j i with hne | rfl
    · obtain ⟨hjn, oj, hoj, hdep⟩ := mem_ready.1 hj
      have hin := (mem_ready.1 hr).1
      have hwait : ∀ e ∈ oj.after, Region.binds md e = true → e.on ≠ i := fun e he hb h => by
        have h2 := hdep e he hb
        rw [h] at h2
        rcases Nat.lt_or_ge i listed.size with hs | hs
        · simp [hs] at hin h2; rw [hin] at h2; cases h2
        · simp [Array.getElem?_eq_none hs] at h2
      refine wpOp_mono (fun a' w' hw => ?_) (wpOp_putIf hoj (hap j oj hoj hne hjn hwait) (fun cs b => hsel i o cs b hi) (fun cs b => hsel j oj cs b hoj) hQ hy (hW.2 j (ready_mono hj hne)))
      obtain ⟨hy', ⟨h0', h1'⟩, hW'⟩ := hw
      have hcomm : ∀ (x : Array Bool), ((x.setIfInBounds i true).setIfInBounds j true) = ((x.setIfInBounds j true).setIfInBounds i true) := fun x => Array.setIfInBounds_comm _ _ (Ne.symm hne)
      rw [hcomm] at h1' hW'
      have h1'' : (listed.setIfInBounds j true).getD m true = false → S1 w' := fun h => h1' (by rw [getD_set_ne true him]; exact h)
      refine ⟨⟨h0', h1''⟩, ih _ a' w' ?_ (fun k ok hk hki hun hno => ?_) (ready_mono hr (Ne.symm hne)) hy' h0' h1'' hW'⟩
      · rcases hm with hm | hm
        · exact .inl hm
        · rcases hK with hK | ⟨hK, _⟩
          · exact .inl hK
          · refine .inr ?_
            rw [getD_set_ne true (fun e => ?_)]
            · exact hm
            · subst e
              obtain ⟨e, he, hb, hon⟩ := hK oj hoj
              exact hwait e he hb hon
      · refine hap k ok hk hki ?_ hno
        rcases Nat.decEq j k with hjk | rfl
        · rwa [getD_set_ne true hjk] at hun
        · exact hjn
    · exact hy.wpOp hi (now _ _ hm h0 h1) ⟨⟨h0, fun h => h1 (by rwa [getD_set_ne true him] at h)⟩, hW⟩
/-- the beginning -/
theorem region_T {id : Nat} {a : Act} {w : World} (hm : P.follows .mixedOrders = true) (h : wpAnyT P .any l Q S0 S1 m l.toArray.size (Array.replicate l.toArray.size false) a w.drew) : (Code.region id l.toArray true).wp P Q a w :=
  wp_region_any hm (any_of_T _ _ _ _ h)
/-- take number i first: its cell stands throughout -/
theorem takeA {i : Nat} {o : Oper} {v : Value} {n : Nat} {listed : Array Bool} {a : Act} {w : World} (hi : l[i]? = some o) (him : i ≠ m) (hs : Region.noSelect l.toArray = true) (hf : Region.free md l.toArray listed i = true) (hr : (Region.ready md l.toArray listed).contains i = true)
    (hQ : ∀ c a w, Q (.panic c) (a.put o.dst v) w → Q (.panic c) a w) (hy : YieldsIf P l.toArray S0 o v a) (h0 : S0 w) (h1 : listed.getD m true = false → S1 w)
    (h : wpAnyT P md l Q S0 S1 m n (listed.setIfInBounds i true) (a.put o.dst v) w) : wpAnyT P md l Q S0 S1 m (n + 1) listed a w :=
  firstT (S := S0) (by simpa using hi) him (Region.noSelect_spec hs) hQ (.inl fun _ h => h) n listed a w (.inl fun _ h => h) (Region.free_spec (by simpa using hi) hf) (by simpa using hr) hy h0 h1 h
/-- take number i first: its cell stands until number m, which waits for it -/
theorem takeB {i : Nat} {o om : Oper} {v : Value} {n : Nat} {listed : Array Bool} {a : Act} {w : World} (hi : l[i]? = some o) (him : i ≠ m) (hom : l[m]? = some om) (hmw : (om.after.any fun e => Region.binds md e && e.on == i) = true) (hmn : listed.getD m true = false)
    (hs : Region.noSelect l.toArray = true) (hf : Region.free md l.toArray listed i = true) (hr : (Region.ready md l.toArray listed).contains i = true)
    (hQ : ∀ c a w, Q (.panic c) (a.put o.dst v) w → Q (.panic c) a w) (hy : YieldsIf P l.toArray (fun w => S0 w ∧ S1 w) o v a) (h0 : S0 w) (h1 : S1 w)
    (h : wpAnyT P md l Q S0 S1 m n (listed.setIfInBounds i true) (a.put o.dst v) w) : wpAnyT P md l Q S0 S1 m (n + 1) listed a w :=
  firstT (S := fun w => S0 w ∧ S1 w) (by simpa using hi) him (Region.noSelect_spec hs) hQ (.inr ⟨fun om' h => by
    have h' : l[m]? = some om' := by simpa using h
    rw [hom] at h'; cases h'
    obtain ⟨e, he, hb⟩ := Array.any_eq_true'.1 hmw
    simp only [Bool.and_eq_true, beq_iff_eq] at hb
    exact ⟨e, he, hb.1, hb.2⟩, fun _ a b => ⟨a, b⟩⟩) n listed a w (.inr hmn) (Region.free_spec (by simpa using hi) hf) (by simpa using hr) hy h0 (fun _ => h1) h
/-- whichever may come -/
theorem readyT {rs : List Nat} {n : Nat} {listed : Array Bool} {a : Act} {w : World} (hr : Region.ready md l.toArray listed = rs) (hne : rs ≠ [])
    (h : ∀ i ∈ rs, wpOp P l.toArray Q i (fun a' w' => (S0 w' ∧ ((listed.setIfInBounds i true).getD m true = false → S1 w')) ∧ wpAnyT P md l Q S0 S1 m n (listed.setIfInBounds i true) a' w') a w) : wpAnyT P md l Q S0 S1 m (n + 1) listed a w :=
  ⟨fun h0 => absurd (hr ▸ h0) hne, hr ▸ h⟩
theorem doneT {listed : Array Bool} {a : Act} {w : World} (hr : Region.ready md l.toArray listed = []) (h : Q .normal a w) : ∀ n, wpAnyT P md l Q S0 S1 m n listed a w
  | 0 => ⟨hr, h⟩
  | _ + 1 => ⟨fun _ => h, by rw [hr]; simp⟩
/-- one that may come -/
theorem stepT {n : Nat} {listed : Array Bool} {a : Act} {w : World} {i : Nat} {o : Oper} (ho : l[i]? = some o) (hw : o.guard = none)
    (h : ∀ K' : Act → World → Prop, Shut (∀ a w, S0 w → ((listed.setIfInBounds i true).getD m true = false → S1 w) → wpAnyT P md l Q S0 S1 m n (listed.setIfInBounds i true) a w → K' a w) → if Region.wanted o (yielded l.toArray a.tmps) = true then Oper.wp P o a w K' Q else False) :
    wpOp P l.toArray Q i (fun a' w' => (S0 w' ∧ ((listed.setIfInBounds i true).getD m true = false → S1 w')) ∧ wpAnyT P md l Q S0 S1 m n (listed.setIfInBounds i true) a' w') a w := by
  have ho' : l.toArray[i]? = some o := by simpa using ho
  have hwd : Region.wanted o (yielded l.toArray a.tmps) = true := by simp [Region.wanted, hw]
  have h' := h (fun a' w' => (S0 w' ∧ ((listed.setIfInBounds i true).getD m true = false → S1 w')) ∧ wpAnyT P md l Q S0 S1 m n (listed.setIfInBounds i true) a' w') fun a w h0 h1 hW => ⟨⟨h0, h1⟩, hW⟩
  rw [if_pos hwd] at h'
  unfold wpOp
  simp only [ho']
  rw [if_pos hwd]
  exact .inl h'
end
end Go.Proofs.YtpkapcijgldhhaaGreatDoor
