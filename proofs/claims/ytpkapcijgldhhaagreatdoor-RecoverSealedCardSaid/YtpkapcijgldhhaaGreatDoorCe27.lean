/-
  Entries appended to a row of the call's own; the reading of a directory text, step by step.
  The frames of a directory text on all reels: the law's own function.
  The walks of the reference's Great and Same of chapter 40.
-/
import Derived.Test.YtpkapcijgldhhaaGreatDoorCe26
import Derived.Deep.RegionLaw
import Derived.Test.YtpkapcijgldhhaaGreatDoorCe25
import Derived.Test.YtpkapcijgldhhaaGreatDoorCe12
import Derived.Deep.RegionHeld3
import Derived.Deep.RegionWith
import Derived.Test.YtpkapcijgldhhaaGreatDoorCe24
import Derived.Test.YtpkapcijgldhhaaGreatDoorCe13
import Derived.Deep.QuietTactic
import Derived.BigQuiet
import Derived.Deep.Cut
import Derived.Deep.CutRange
import Derived.Deep.CutBlock
import Derived.Test.YtpkapcijgldhhaaGreatDoorCe17
import Derived.Test.YtpkapcijgldhhaaGreatDoorCe11
import Derived.Test.YtpkapcijgldhhaaGreatDoorCe07
import Derived.Test.YtpkapcijgldhhaaGreatDoorCe06
namespace Go.Proofs.YtpkapcijgldhhaaGreatDoor
open Go.RowKit Go.Shelf

/-- w' is w with new blocks; blocks of another type than e are as they were -/
def Grew (w w' : World) (e : TypeId) : Prop := ∀ (k : Nat) (cs : Array Value) (T : TypeId) (f : Nat × Nat), w.heap[k]? = some (Obj.cells cs T f) → T ≠ e → w'.heap[k]? = w.heap[k]?
theorem grew_of {w w' : World} {base : Nat} {e : TypeId} {size : Nat} {v : Value} {n : Nat} {xs : List Value} (hown : w.ownsRow base e size v n xs) (hg : w.grownBy w' v.ownBlock) : Grew w w' e := by
  intro k cs T f hk hT
  refine hg.block k (Array.getElem?_eq_some_iff.1 hk).1 ?_
  intro hb
  rcases hown.2 with ⟨rfl, _⟩ | ⟨g, cap, cur, rfl, _, hh, _⟩
  · cases hb
  · cases hb
    rw [hh] at hk
    cases hk
    exact hT rfl
theorem owns_grew {w w' : World} {base : Nat} {e e' : TypeId} {size : Nat} {v : Value} {n : Nat} {xs : List Value} (h : w.ownsRow base e' size v n xs) (hg : Grew w w' e) (hne : e' ≠ e) : w'.ownsRow base e' size v n xs :=
  ⟨h.1, h.2.imp id fun ⟨g, cap, cur, e1, e2, hh, r⟩ => ⟨g, cap, cur, e1, e2, (hg g _ _ _ hh hne).trans hh, r⟩⟩
theorem Box.grew {w w' : World} {E : Nat} {cs : List Value} {T e : TypeId} (h : Box w E cs T) (hg : Grew w w' e) (hne : T ≠ e) : Box w' E cs T := (hg E _ _ _ h hne).trans h
theorem OwnA.grew {base : Nat} {w w' : World} {x : ER} (h : OwnA base w x) (hg : Grew w w' 109) : OwnA base w' x := ⟨owns_grew h.1 hg (by decide), owns_grew h.2 hg (by decide)⟩
theorem step_append_own2 {P : Program} {w : World} {ops : Array Oper} {o : Oper} {a : Act} {K : Act → World → Prop} {Q : Exit → Act → World → Prop} {E : Prop} (hgd : o.guard = none) (s x : Operand) (t : TypeId)
    (ho : o.op = .call { callee := .builtin .append, args := #[s, x], argTypes := #[t, t] })
    (base : Nat) (e : TypeId) (i : TypeInfo) (z : Value) (size bytes : Nat) (ht : P.underlying t = some (.slice e)) (hi : P.info? e = some i) (hz : i.zero = some z)
    (hsize : i.size = size) (hby : i.bytes = bytes) (hzs : z.cells.size = size) (hsz : 0 < size)
    (v : Value) (n : Nat) (xs : List Value) (hs : a.eval s = v) (hown : w.ownsRow base e size v n xs)
    (ad : Addr) (m c : Nat) (news : List Value) (hx : a.eval x = .slice (some ad) m c) (hl : news.length = m * size) (hnews : ∀ j u, news[j]? = some u → w.cell? (ad.add j) = some u) (h1 : ∀ u ∈ news, u.oneCell' = true)
    (h63 : n + m ≤ maxLen) (hbytes : (n + m) * bytes ≤ 140737488355328) (hbase : base ≤ w.heap.size)
    (h : ∀ a' c' w', w'.ownsRow base e size (.slice a' (n + m) c') (n + m) (xs ++ news) → Hid (Below base w w') → Hid (Grew w w' e) → K (a.put o.dst (.slice a' (n + m) c')) w') :
    if Region.wanted o (yielded ops a.tmps) = true then Oper.wp P o a w K Q else E := by
  have hw : Region.wanted o (yielded ops a.tmps) = true := by simp [Region.wanted, hgd]
  rw [if_pos hw]
  refine wp_append_own w s x t ho base e i z size bytes ht hi hz hsize hby hzs hsz v n xs hs hown ad m c news hx hl hnews h1 h63 hbytes hbase fun v' w' h2 h3 _ => ?_
  obtain ⟨a', c', rfl⟩ := own_form h2
  exact h a' c' w' h2 (below_grownBy (Below.refl _ _) hown h3 hbase) (grew_of hown h3)
theorem infoEn : (Tryz.prog.info? 109).map (fun i => (i.zero, i.size, i.bytes)) = some (some (.agg #[.int .i64 0, .string ⟨#[]⟩, .slice none 0 0, .string ⟨#[]⟩, .int .i64 0, .string ⟨#[]⟩, .slice none 0 0]), 7, 112) := by kernel_rfl
theorem cell_new7 (w : World) (v0 v1 v2 v3 v4 v5 v6 : Value) (T : TypeId) (j : Nat) (x : Value) (h : [v0, v1, v2, v3, v4, v5, v6][j]? = some x) : (w.alloc (.cells #[v0, v1, v2, v3, v4, v5, v6] T)).cell? ((⟨w.heap.size, 0, none⟩ : Addr).add j) = some x := by
  rw [Addr.add_mid, Nat.zero_add, alloc_new_cell]; simpa using h
theorem one7 (y : En) (a1 a2 : Option Addr) (n1 m1 n2 m2 : Nat) (u : Value) (hu : u ∈ [Value.int .i64 y.kind, .string y.path, .slice a1 n1 m1, .string y.target, .int .i64 y.size, .string y.digest, .slice a2 n2 m2]) : u.oneCell' = true := by
  simp only [List.mem_cons, List.not_mem_nil, or_false] at hu
  rcases hu with rfl | rfl | rfl | rfl | rfl | rfl | rfl <;> rfl

/-! ### step by step -/
def bs8 (l : List UInt8) (n d : Int) (p : List UInt8) (z : Int) (g : List UInt8) (X : List En) : Except Int (List UInt8 × Int) → Except Int De
  | .error x => .error x
  | .ok (s, a) => finR l ⟨n, d, p, z, g, X, s⟩ a
def bs7 (l : List UInt8) (n d : Int) (p : List UInt8) (z : Int) (g : List UInt8) : Except Int (List En × Int) → Except Int De
  | .error x => .error x
  | .ok (X, a) => bs8 l n d p z g X (txt l a)
def bs6 (l : List UInt8) (n d : Int) (p : List UInt8) (z : Int) (g : List UInt8) : Except Int (Int × Int) → Except Int De
  | .error x => .error x
  | .ok (c, a) => bs7 l n d p z g (rowR (decR l) a c.toNat)
def bs5 (l : List UInt8) (n d : Int) (p : List UInt8) (z : Int) : Except Int (List UInt8 × Int) → Except Int De
  | .error x => .error x
  | .ok (g, a) => bs6 l n d p z g (cnt4 l a)
def bs4 (l : List UInt8) (n d : Int) (p : List UInt8) : Except Int (Int × Int) → Except Int De
  | .error x => .error x
  | .ok (z, a) => bs5 l n d p z (txt l a)
def bs3 (l : List UInt8) (n d : Int) : Except Int (List UInt8 × Int) → Except Int De
  | .error x => .error x
  | .ok (p, a) => bs4 l n d p (nmb l a)
def bs2 (l : List UInt8) (n : Int) : Except Int (Int × Int) → Except Int De
  | .error x => .error x
  | .ok (d, a) => bs3 l n d (txt l a)
def bs1 (l : List UInt8) : Except Int (Int × Int) → Except Int De
  | .error x => .error x
  | .ok (n, a) => bs2 l n (nmb l a)
theorem bodyR_steps (l : List UInt8) : bodyR l = bs1 l ((.ok 8 : Except Int Int) >>= nmb l) := by
  unfold bodyR
  show (nmb l 8 >>= _) = bs1 l (nmb l 8)
  rcases nmb l 8 with x | ⟨n, a⟩
  · rfl
  show (nmb l a >>= _) = bs2 l n (nmb l a)
  rcases nmb l a with x | ⟨d, a⟩
  · rfl
  show (txt l a >>= _) = bs3 l n d (txt l a)
  rcases txt l a with x | ⟨p, a⟩
  · rfl
  show (nmb l a >>= _) = bs4 l n d p (nmb l a)
  rcases nmb l a with x | ⟨z, a⟩
  · rfl
  show (txt l a >>= _) = bs5 l n d p z (txt l a)
  rcases txt l a with x | ⟨g, a⟩
  · rfl
  show (cnt4 l a >>= _) = bs6 l n d p z g (cnt4 l a)
  rcases cnt4 l a with x | ⟨c, a⟩
  · rfl
  show (rowR (decR l) a c.toNat >>= _) = bs7 l n d p z g (rowR (decR l) a c.toNat)
  rcases rowR (decR l) a c.toNat with x | ⟨X, a⟩
  · rfl
  show (txt l a >>= _) = bs8 l n d p z g X (txt l a)
  rcases txt l a with x | ⟨s, a⟩ <;> rfl
theorem bs1_next (l : List UInt8) (r : Except Int (Int × Int)) : bs1 l r = bs2 l (stNum r) (stAt r >>= nmb l) := by cases r <;> rfl
theorem bs2_next (l : List UInt8) (n : Int) (r : Except Int (Int × Int)) : bs2 l n r = bs3 l n (stNum r) (stAt r >>= txt l) := by cases r <;> rfl
theorem bs3_next (l : List UInt8) (n d : Int) (r : Except Int (List UInt8 × Int)) : bs3 l n d r = bs4 l n d (stStr r) (stAt r >>= nmb l) := by cases r <;> rfl
theorem bs4_next (l : List UInt8) (n d : Int) (p : List UInt8) (r : Except Int (Int × Int)) : bs4 l n d p r = bs5 l n d p (stNum r) (stAt r >>= txt l) := by cases r <;> rfl
theorem bs5_next (l : List UInt8) (n d : Int) (p : List UInt8) (z : Int) (r : Except Int (List UInt8 × Int)) : bs5 l n d p z r = bs6 l n d p z (stStr r) (stAt r >>= cnt4 l) := by cases r <;> rfl
theorem cnt4_split (l : List UInt8) (st : Except Int Int) : (st >>= cnt4 l) = (match st >>= nmb l with | .error x => .error x | .ok p => if 400 < p.1 then .error 6 else if p.1 < 0 then .error 2 else .ok p) := by
  cases st with
  | error x => rfl
  | ok a =>
    show cnt4 l a = _
    unfold cnt4
    show (nmb l a >>= _) = (match nmb l a with | .error x => .error x | .ok p => if 400 < p.1 then .error 6 else if p.1 < 0 then .error 2 else .ok p)
    rcases nmb l a with x | ⟨n, b⟩ <;> rfl
theorem cnt4_pos {l : List UInt8} {st : Except Int Int} {c b : Int} (h : (st >>= cnt4 l) = .ok (c, b)) : (0 ≤ c ∧ c ≤ 400) ∧ 0 ≤ b ∧ b ≤ l.length := by
  cases st with
  | error x => cases h
  | ok a =>
    obtain ⟨h1, h2⟩ := cnt4_ok.1 (show cnt4 l a = .ok (c, b) from h)
    have := h2.nonneg
    exact ⟨h1, by omega, by omega⟩
theorem rowEn_next {l : List UInt8} {b0 b : Int} {k M : Nat} {X : List En} {r : Except Int (En × Int)} (h : rowR (decR l) b0 k = .ok (X, b)) (hk : k < M) (hr : decR l b = r) : RowSt (decR l) b0 M (k + 1) (X ++ [stEn r]) (stAt r) := by
  rcases r with x | ⟨y, c⟩
  · exact rowR_stop h hr M hk
  · exact rowR_next h hr
theorem bs7_end {l : List UInt8} {n d : Int} {p : List UInt8} {z : Int} {g : List UInt8} {b0 : Int} {M : Nat} {X : List En} {st : Except Int Int} (h : RowSt (decR l) b0 M M X st) : bs7 l n d p z g (rowR (decR l) b0 M) = bs8 l n d p z g X (st >>= txt l) := by
  cases st with
  | ok b => rw [show rowR (decR l) b0 M = .ok (X, b) from h]; rfl
  | error x => rw [show rowR (decR l) b0 M = .error x from h]; rfl
theorem rowSn_err {l : List UInt8} {b0 : Int} {M k : Nat} {X : List En} {x : Int} (h : RowSt (decR l) b0 M k X (.error x)) : RowSt (decR l) b0 M M X (.error x) := h
theorem rowSn_bd {l : List UInt8} {b0 b : Int} {M k : Nat} {X : List En} (h : RowSt (decR l) b0 M k X (.ok b)) (h0 : 0 ≤ b0 ∧ b0 ≤ l.length) : 0 ≤ b ∧ b ≤ l.length := by
  have h1 := ((rowR_ok (P := fun e => chkE e = 0) (enc := bodyL) (decR_ok' l) (a := b0) h0 k X b).1 h).2.2
  have := h1.nonneg
  omega
theorem stStr_le (l : List UInt8) (st : Except Int Int) : (stStr (st >>= txt l)).length ≤ l.length := by
  rcases h : (st >>= txt l) with x | ⟨u, b⟩
  · exact Nat.zero_le _
  · cases st with
    | error x => cases h
    | ok a => exact txt_len (show txt l a = .ok (u, b) from h)
def DirQ (r : Except Int De) (w : World) (e : Ending) (w' : World) : Prop := match r with
  | .ok x => ∃ v, e = .returned (.tuple #[.agg #[.int .i64 x.number, .int .i64 x.date, .string (bA' x.prev), v, .string ⟨#[]⟩, .string (bA' x.sl)], .int .i64 x.size, .string (bA' x.sum), .int .i64 0]) ∧ OwnEn w.heap.size w' v x.entries ∧ Below w.heap.size w w'
  | .error x => e = .returned (.tuple #[.agg #[.int .i64 0, .int .i64 0, .string ⟨#[]⟩, .slice none 0 0, .string ⟨#[]⟩, .string ⟨#[]⟩], .int .i64 0, .string ⟨#[]⟩, .int .i64 x]) ∧ Below w.heap.size w w'
theorem Box.set6 {W : World} {E : Nat} {v0 v1 v2 v3 v4 v5 : Value} {T : TypeId} (h : Box W E [v0, v1, v2, v3, v4, v5] T) (u0 u1 u2 u3 u4 u5 : Value) :
    Box ((((((W.setCell ⟨E, 0, none⟩ u0).setCell ⟨E, 1, none⟩ u1).setCell ⟨E, 2, none⟩ u2).setCell ⟨E, 3, none⟩ u3).setCell ⟨E, 4, none⟩ u4).setCell ⟨E, 5, none⟩ u5) E [u0, u1, u2, u3, u4, u5] T := (((((h.set (j := 0) u0).set (j := 1) u1).set (j := 2) u2).set (j := 3) u3).set (j := 4) u4).set (j := 5) u5
theorem below_set6 {W w : World} {E n : Nat} (h : Below n w W) (hn : n ≤ E) (u0 u1 u2 u3 u4 u5 : Value) :
    Below n w ((((((W.setCell ⟨E, 0, none⟩ u0).setCell ⟨E, 1, none⟩ u1).setCell ⟨E, 2, none⟩ u2).setCell ⟨E, 3, none⟩ u3).setCell ⟨E, 4, none⟩ u4).setCell ⟨E, 5, none⟩ u5) := (((((h.setCell (p := ⟨E, 0, none⟩) hn u0).setCell (p := ⟨E, 1, none⟩) hn u1).setCell (p := ⟨E, 2, none⟩) hn u2).setCell (p := ⟨E, 3, none⟩) hn u3).setCell (p := ⟨E, 4, none⟩) hn u4).setCell (p := ⟨E, 5, none⟩) hn u5
theorem OwnEn.set6 {base : Nat} {W : World} {v : Value} {X : List En} (h : OwnEn base W v X) {E : Nat} (hE : E < base) (u0 u1 u2 u3 u4 u5 : Value) :
    OwnEn base ((((((W.setCell ⟨E, 0, none⟩ u0).setCell ⟨E, 1, none⟩ u1).setCell ⟨E, 2, none⟩ u2).setCell ⟨E, 3, none⟩ u3).setCell ⟨E, 4, none⟩ u4).setCell ⟨E, 5, none⟩ u5) v X := (((((h.setLow (j := 0) hE u0).setLow (j := 1) hE u1).setLow (j := 2) hE u2).setLow (j := 3) hE u3).setLow (j := 4) hE u4).setLow (j := 5) hE u5
end Go.Proofs.YtpkapcijgldhhaaGreatDoor

namespace Go.Proofs.YtpkapcijgldhhaaGreatDoor
open Go.RowKit Go.Shelf
theorem infoFr : (Tryz.prog.info? 46).map (fun i => (i.zero, i.size, i.bytes)) = some (some (.agg #[.int .i64 0, .int .i64 0, .int .i64 0, .int .i64 0, .int .i64 0, .int .i64 0, .int .i64 0, .int .u32 0, .string ⟨#[]⟩]), 9, 80) := by kernel_rfl
theorem check16_any (d sp : Int) (w : World) : Calls Tryz.prog 19 #[.agg #[.int .i64 d, .int .i64 sp]] w (fun e w' => ∃ x : Int, e = .returned (.int .i64 x) ∧ Hid ((x = 0 ∧ 1 ≤ d ∧ d ≤ 8 ∧ 0 ≤ sp ∧ sp ≤ 7) ∨ x = 2) ∧ Below w.heap.size w w') := by
  obtain ⟨kb0, bC0⟩ := boxr w [.int .i64 d, .int .i64 sp] 39
  go_enter Tryz.func19, Tryz.ntmps19
  go_upto_region 1 with (fail)
  obtain ⟨W0, hW0⟩ : ∃ W0, w.alloc (.cells [.int .i64 d, .int .i64 sp].toArray 39) = W0 := ⟨_, rfl⟩
  change Code.wp _ _ _ _ (w.alloc (.cells [.int .i64 d, .int .i64 sp].toArray 39))
  rw [hW0] at kb0 bC0 ⊢
  clear hW0
  obtain ⟨c0, c1⟩ := bC0.cells2
  by_cases q0 : d < 1
  · go_wp2_with fail
    go_ret
    exact ⟨2, rfl, .inr rfl, kb0⟩
  by_cases q1 : 8 < d
  · go_wp2_with fail
    go_ret
    exact ⟨2, rfl, .inr rfl, kb0⟩
  by_cases q2 : sp < 0
  · go_wp2_with fail
    go_ret
    exact ⟨2, rfl, .inr rfl, kb0⟩
  by_cases q3 : 7 < sp
  · go_wp2_with fail
    go_ret
    exact ⟨2, rfl, .inr rfl, kb0⟩
  go_wp2_with fail
  go_ret
  exact ⟨0, rfl, .inl (by omega), kb0⟩
theorem strs_form {base : Nat} {w : World} {v : Value} {L : List ByteArray} (h : OwnStrs base w v L) : ∃ a c, v = .slice a L.length c ∧ (0 < L.length → ∃ g, a = some ⟨g, 0, none⟩ ∧ ∀ W : World, OwnStrs base W v L → ∀ j t, L[j]? = some t → W.cell? ⟨g, j, none⟩ = some (.string t)) := by
  rcases h.2 with ⟨rfl, h0⟩ | ⟨g, cap, cur, rfl, hb, hg, _⟩
  · exact ⟨none, 0, by rw [h0], fun hp => absurd hp (by omega)⟩
  · refine ⟨_, cap, rfl, fun _ => ⟨g, rfl, fun W hW j t ht => ?_⟩⟩
    have := World.ownsRow.cells (g := g) hW rfl j (.string t) (by rw [List.getElem?_map, ht]; rfl)
    rwa [Addr.add_mid, Nat.zero_add] at this
theorem one9 (f : Fr) : ∀ u ∈ f.vals, u.oneCell' = true := by
  intro u hu
  simp only [Fr.vals, List.mem_cons, List.not_mem_nil, or_false] at hu
  rcases hu with rfl | rfl | rfl | rfl | rfl | rfl | rfl | rfl | rfl <;> rfl
/-- the frames of the first reels -/
def rowD (n d sp : Int) (l : List UInt8) (r : Nat) : List Fr := (List.range (cntP l.length)).map (frD n d sp l r)
def framesN (n d sp : Int) (l : List UInt8) (R : Nat) : List Fr := (List.range R).flatMap (rowD n d sp l)
theorem framesN_succ (n d sp : Int) (l : List UInt8) (R : Nat) : framesN n d sp l (R + 1) = framesN n d sp l R ++ rowD n d sp l R := by
  unfold framesN; rw [List.range_succ, List.flatMap_append]; simp
def accD (n d sp : Int) (l : List UInt8) (r j : Nat) : List Fr := framesN n d sp l r ++ (List.range j).map (frD n d sp l r)
theorem accD_zero (n d sp : Int) (l : List UInt8) (r : Nat) : accD n d sp l r 0 = framesN n d sp l r := by unfold accD; simp
theorem accD_succ (n d sp : Int) (l : List UInt8) (r j : Nat) : accD n d sp l r (j + 1) = accD n d sp l r j ++ [frD n d sp l r j] := by unfold accD; rw [List.range_succ, List.map_append, List.append_assoc]; rfl
theorem accD_full (n d sp : Int) (l : List UInt8) (r : Nat) : accD n d sp l r (cntP l.length) = framesN n d sp l (r + 1) := by rw [framesN_succ]; rfl
theorem framesN_len (n d sp : Int) (l : List UInt8) (R : Nat) : (framesN n d sp l R).length = R * cntP l.length := by
  induction R with
  | zero => rw [Nat.zero_mul]; rfl
  | succ R ih => rw [framesN_succ, List.length_append, ih, rowD, List.length_map, List.length_range, Nat.succ_mul]
theorem accD_len (n d sp : Int) (l : List UInt8) (r j : Nat) : (accD n d sp l r j).length = r * cntP l.length + j := by unfold accD; rw [List.length_append, framesN_len, List.length_map, List.length_range]
set_option maxRecDepth 100000 in
set_option maxHeartbeats 4000000 in
theorem dirs45_any (n : Int) (d sp : Nat) (s : ByteArray) (w : World) (hd : d ≤ 8) (hsp : sp ≤ 7) (hs : s.size ≤ 2700) :
    Calls Tryz.prog 23 #[.int .i64 n, .agg #[.int .i64 (d : Int), .int .i64 (sp : Int)], .string s] w (fun e w' => ∃ v, e = .returned v ∧ OwnG w.heap.size 46 9 Fr.vals w' v (framesN n d sp s.data.toList (d + sp)) ∧ Below w.heap.size w w') := by
  obtain ⟨i0, hi, hz0, hz1, hz2⟩ := info_parts infoFr
  obtain ⟨kb0, bC0⟩ := boxr w [.int .i64 (d : Int), .int .i64 (sp : Int)] 39
  have hck : cntP s.data.toList.length ≤ 100 := by show cntP s.size ≤ 100; unfold cntP; omega
  have HC := Lib.hid (show cntP s.data.toList.length = cntP s.size from rfl)
  go_enter Tryz.func23, Tryz.ntmps23
  go_upto_region 1 with (fail)
  obtain ⟨W0, hW0⟩ : ∃ W0, w.alloc (.cells [.int .i64 (d : Int), .int .i64 (sp : Int)].toArray 39) = W0 := ⟨_, rfl⟩
  change Code.wp _ _ _ _ (w.alloc (.cells [.int .i64 (d : Int), .int .i64 (sp : Int)].toArray 39))
  rw [hW0] at kb0 bC0 ⊢
  clear hW0
  go_wp2_with fail
  go_loopw [7, 8] (fun v x wr => ∃ r : Nat, r ≤ d + sp ∧ x = .int .i64 r ∧ Below w.heap.size w wr ∧ Box wr w.heap.size [.int .i64 (d : Int), .int .i64 (sp : Int)] 39 ∧ OwnG w.heap.size 46 9 Fr.vals wr v (framesN n d sp s.data.toList r)) (fun _ x _ => d + sp - (intOf x).toNat)
  case atStart => exact ⟨0, by omega, rfl, kb0, bC0, World.ownsRow_nil _ _ _ _⟩
  case round =>
    clear kb0 bC0
    obtain ⟨r, hr, rfl, kb, bC, ho⟩ := hrel
    obtain ⟨c0, c1⟩ := bC.cells2
    by_cases hlt : r < d + sp
    · have HP := Lib.hid (rparts_any s wr (by omega))
      go_wp2_with fail
      refine HP.out.mono ?_
      rintro e w2 ⟨pv, rfl, hown, hb2⟩
      have hB0 := bC.lt
      have kb2 := step2 kb hb2
      have bC2 := bC.below hb2
      have ho2 := owns_below ho hb2
      have hown := hown
      clear HP c0 c1 kb bC ho hb2
      have hKl : (partsB s).length = cntP s.size := by unfold partsB; rw [partsK_length]
      obtain ⟨pa, pc, rfl, hcell⟩ := strs_form hown
      have HS := Lib.hid hcell
      have hKb : (partsB s).length ≤ 100 := by rw [hKl]; exact hck
      have HK := Lib.hid hKl
      have hgt : Hid (∀ j, j < (partsB s).length → (partsB s)[j]? = some (bA' (chunkL s.data.toList j))) := fun j hj => by
        rw [hKl] at hj
        unfold partsB; exact partsK_get s.data.toList hj
      clear hcell hKl
      generalize hps : partsB s = ps at *
      clear hps
      generalize wr.heap.size = q at *
      obtain ⟨oa, oc, rfl⟩ := own_form ho2
      have ho2' : OwnG w.heap.size 46 9 Fr.vals w2 (.slice oa (framesN n d sp s.data.toList r).length oc) (accD n d sp s.data.toList r 0) := by rw [accD_zero]; exact ho2
      clear ho2
      go_wp2_with fail
      go_loopw [7, 24] (fun v x wr2 => ∃ j : Nat, j ≤ ps.length ∧ x = .int .i64 j ∧ Below w.heap.size w wr2 ∧ w.heap.size ≤ wr2.heap.size ∧ Box wr2 w.heap.size [.int .i64 (d : Int), .int .i64 (sp : Int)] 39 ∧ OwnStrs q wr2 (.slice pa ps.length pc) ps ∧
        OwnG w.heap.size 46 9 Fr.vals wr2 v (accD n d sp s.data.toList r j)) (fun _ x _ => ps.length - (intOf x).toNat)
      case atStart => exact ⟨0, by omega, rfl, kb2, kb2.size, bC2, hown, ho2'⟩
      case round =>
        clear kb2 bC2 hown ho2'
        obtain ⟨j, hj, rfl, kb3, hz3, bC3, hs3, ho3⟩ := hrel
        by_cases hjl : j < ps.length
        · obtain ⟨g, rfl, hcl⟩ := HS.out (by omega)
          have cj := hcl wr hs3 j _ (hgt.out j hjl)
          obtain ⟨c0, c1⟩ := bC3.cells2
          have hix : (0 : Int) ≤ (j : Int) ∧ (j : Int) < (ps.length : Int) := by omega
          have HM := Lib.hid (make13_any r n j d sp 1 (bA' (chunkL s.data.toList j)) wr (chunk_le _ _))
          have hal : (accD n d sp s.data.toList r j).length ≤ 1600 := by
            rw [accD_len]
            have h1 : r * cntP s.data.toList.length ≤ 15 * 100 := Nat.mul_le_mul (by omega) hck
            have h2 := HK.out
            omega
          have HA := Lib.hid hal
          clear hcl hal
          go_wp2_with fail
          refine HM.out.mono ?_
          rintro e w4 ⟨rfl, hb4⟩
          have kb4 := step2 kb3 hb4
          have bC4 := bC3.below hb4
          have hs4 := owns_below hs3 hb4
          have ho4 := owns_below ho3 hb4
          clear HM kb3 bC3 hs3 ho3 hb4 c0 c1 cj hz3
          have bF := Box.new w4 (mkFr r n j d sp 1 (bA' (chunkL s.data.toList j))).vals 46
          have kF : Below w4.heap.size w4 (w4.alloc (.cells (mkFr r n j d sp 1 (bA' (chunkL s.data.toList j))).vals.toArray 46)) := (Below.refl _ w4).alloc (Nat.le_refl _) _
          obtain ⟨W4, hW4⟩ : ∃ W4, w4.alloc (.cells (mkFr r n j d sp 1 (bA' (chunkL s.data.toList j))).vals.toArray 46) = W4 := ⟨_, rfl⟩
          rw [hW4] at bF kF
          dsimp only [Fr.vals, mkFr]
          go_upto_region 9 with (fail)
          change Code.wp _ _ _ _ (w4.alloc (.cells (mkFr r n j d sp 1 (bA' (chunkL s.data.toList j))).vals.toArray 46))
          rw [hW4]
          clear hW4
          have b5 : Box (W4.setCell ⟨w4.heap.size, 0, none⟩ (.int .i64 68)) w4.heap.size (frD n d sp s.data.toList r j).vals 46 := bF.set (j := 0) _
          have k5 : Below w4.heap.size w4 (W4.setCell ⟨w4.heap.size, 0, none⟩ (.int .i64 68)) := kF.setCell (p := ⟨w4.heap.size, 0, none⟩) (Nat.le_refl _) _
          have f0 : W4.frozen? ⟨w4.heap.size, 0, none⟩ = false := bF.frozen 0
          have f1 : W4.cell? ⟨w4.heap.size, 0, none⟩ = some (.int .i64 66) := bF.cell 0
          obtain ⟨W5, hW5⟩ : ∃ W5, W4.setCell ⟨w4.heap.size, 0, none⟩ (.int .i64 68) = W5 := ⟨_, rfl⟩
          rw [hW5] at b5 k5
          go_upto_region 10 with (fail)
          try rw [hW5]
          clear hW5 bF kF f0 f1
          have kb5 := step2 kb4 k5
          have bC5 := bC4.below k5
          have hs5 := owns_below hs4 k5
          have ho5 := owns_below ho4 k5
          clear kb4 bC4 hs4 ho4 k5
          obtain ⟨z0, z1, z2, z3, z4, z5, z6, z7, z8⟩ := b5.cells9
          have hzw : w.heap.size ≤ W5.heap.size := kb5.size
          have hov := HA.out
          obtain ⟨FD, hFD⟩ : ∃ FD, frD n d sp s.data.toList r j = FD := ⟨_, rfl⟩
          have HFD := Lib.hid hFD
          rw [hFD] at z0 z1 z2 z3 z4 z5 z6 z7 z8
          clear hFD b5
          go_wp2_with (at_builtin; refine wpList_append_own _ rfl _ _ 23 rfl w.heap.size 46 i0 (.agg #[.int .i64 0, .int .i64 0, .int .i64 0, .int .i64 0, .int .i64 0, .int .i64 0, .int .i64 0, .int .u32 0, .string ⟨#[]⟩]) 9 80 Tryz.underlying23 hi hz0 hz1 hz2 rfl (by decide) _ _ _ rfl (World.ownsRow.alloc ho5 _) ⟨W5.heap.size, 0, none⟩ 1 1 (Fr.vals FD) rfl rfl ?c1 ?c2 ?c3 ?c4 ?c5 ?_)
          case c1 => exact fun j u hu => by rw [Addr.add_mid, Nat.zero_add]; exact ((Box.new W5 FD.vals 46).cell j).trans hu
          case c2 => exact one9 FD
          case c3 => unfold maxLen; omega
          case c4 => omega
          case c5 => simp; omega
          intro v6 w6 hown6 hgrow6 _
          have ka : Below W5.heap.size W5 (W5.alloc (.cells FD.vals.toArray 46)) := (Below.refl _ _).alloc (Nat.le_refl _) _
          have hg6 := grew_of (World.ownsRow.alloc ho5 _) hgrow6
          have kb6 := below_grownBy (step2 kb5 ka) (World.ownsRow.alloc ho5 _) hgrow6 (Nat.le_trans hzw ka.size)
          have hs6 := owns_grew (owns_below hs5 ka) hg6 (by decide)
          have bC6 := (bC5.below ka).grew hg6 (by decide)
          have ho6 : OwnG w.heap.size 46 9 Fr.vals w6 v6 (accD n d sp s.data.toList r (j + 1)) := by
            rw [accD_succ, HFD.out]
            unfold OwnG
            rw [List.length_append, List.flatMap_append]
            simpa using hown6
          have hz6 := kb6.size
          clear ka hg6 hown6 hgrow6 kb5 bC5 hs5 ho5 z0 z1 z2 z3 z4 z5 z6 z7 z8 hzw hov
          go_wp2_with fail
          go_roundw
          case rel => exact ⟨j + 1, by omega, by go_num, kb6, hz6, bC6, hs6, ho6⟩
          case measure => simp [intOf]; omega
        · obtain rfl : j = ps.length := by omega
          have hfin := ho3
          rw [HK.out, ← HC.out, accD_full] at hfin
          go_wp2_with fail
          go_roundw
          case rel => exact ⟨r + 1, by omega, by go_num, kb3, bC3, hfin⟩
          case measure => simp [intOf]; omega
    · obtain rfl : r = d + sp := by omega
      go_wp2_with fail
      go_ret
      exact ⟨_, rfl, ho, kb⟩
end Go.Proofs.YtpkapcijgldhhaaGreatDoor

namespace Go.Proofs.YtpkapcijgldhhaaGreatDoor
open Go.RowKit Go.Shelf

theorem EnRow.at' {w : World} {a : Option Addr} {c : Nat} {X : List En} (h : EnRow w (.slice a X.length c) X) {i : Nat} (hi : i < X.length) :
    ∃ b o a1 m1 a2 m2, a = some ⟨b, o, none⟩ ∧ AtRow w (.slice a1 (enAt X i).attrs.length m1) (enAt X i).attrs ∧ ExRow w (.slice a2 (enAt X i).exts.length m2) (enAt X i).exts ∧
      w.cell? ⟨b, o + i * 7, none⟩ = some (.int .i64 (enAt X i).kind) ∧ w.cell? ⟨b, o + i * 7 + 1, none⟩ = some (.string (enAt X i).path) ∧ w.cell? ⟨b, o + i * 7 + 2, none⟩ = some (.slice a1 (enAt X i).attrs.length m1) ∧ w.cell? ⟨b, o + i * 7 + 3, none⟩ = some (.string (enAt X i).target) ∧ w.cell? ⟨b, o + i * 7 + 4, none⟩ = some (.int .i64 (enAt X i).size) ∧ w.cell? ⟨b, o + i * 7 + 5, none⟩ = some (.string (enAt X i).digest) ∧ w.cell? ⟨b, o + i * 7 + 6, none⟩ = some (.slice a2 (enAt X i).exts.length m2) := by
  obtain ⟨b, o, va, vx, ha, _, hA, hX, hr⟩ := h.get hi
  obtain ⟨a1, m1, rfl⟩ := hA.form
  obtain ⟨a2, m2, rfl⟩ := hX.form
  exact ⟨b, o, a1, m1, a2, m2, ha, hA, hX, en_cells hr⟩
end Go.Proofs.YtpkapcijgldhhaaGreatDoor
