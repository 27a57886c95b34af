/-
  Chapter 47: custody.Check: a range over a function that writes a map.
-/
import Derived.RangeFuncNested
import Derived.RangeFuncBound
import Derived.RangeFuncCalls
import Derived.RangeFuncLeaves
import Derived.Shelf.Abstract
import Derived.Shelf.RegionOpen
import Derived.TacticsInMore
import Derived.LoopNIn
import Derived.LoopIn
import Derived.Maps.OwnIn
import Derived.Maps.Views
import Derived.DeepKeys5
import Derived.OwnWalkIn
import Derived.Sort.QuietIn
import Derived.Deep.MidRow
import Derived.Test.YtadhbnleahipaaaGreatDoorCuPlain
import Derived.Deep.CutBlock
import Derived.Deep.CutRange
import Derived.BigQuiet
import Derived.Deep.RegionHeld3
namespace Go.Proofs.YtadhbnleahipaaaGreatDoor
open Go.RowKit Go.Shelf
attribute [local go_sem] Oper.semAt_some
def Cu.vals (c : Cu) : List Value := [.string c.root, .string c.media, .int .i64 c.fr, .int .i64 c.un, .string c.sig]
/-- a slice of statements whose first element lies at offset o of block b -/
def CuAt (w : World) (b o : Nat) (L : List Cu) : Prop := ∀ i, i < L.length → w.rangeAt b (o + i * 5) (cuAt L i).vals
theorem CuAt.below {n : Nat} {A B : World} {b o : Nat} {L : List Cu} (h : CuAt A b o L) (hb : Below n A B) (hn : b < n) : CuAt B b o L :=
  fun i hi j v hv => (hb.cell (p := ⟨b, o + i * 5 + j, none⟩) hn).trans (h i hi j v hv)
/-- what a round keeps: what lay below n, and block B -/
def KpC (n B : Nat) (A C : World) : Prop := Below n A C ∧ C.heap[B]? = A.heap[B]?
theorem KpC.cell {n B : Nat} {A C : World} (h : KpC n B A C) {v : Value} (hc : A.cell? ⟨B, 0, none⟩ = some v) : C.cell? ⟨B, 0, none⟩ = some v := by
  unfold World.cell? at hc ⊢
  rw [h.2]; exact hc
def cuPrev (b o : Nat) (i : Nat) : Option Addr := if i = 0 then none else some ⟨b, o + (i - 1) * 5, none⟩
def cuEnc (b o : Nat) (L : List Cu) (x : Fin L.length) : Array Value := #[.pointer (cuPrev b o x.1), .agg (cuAt L x.1).vals.toArray]
theorem cuEnc_size (b o : Nat) (L : List Cu) (x : Fin L.length) : (cuEnc b o L x).size = 2 := rfl
theorem fin_take (N k : Nat) (h : k < N) : (List.finRange N).take (k + 1) = (List.finRange N).take k ++ [⟨k, h⟩] := by
  rw [List.take_succ_eq_append_getElem (by simpa using h)]; simp
set_option maxRecDepth 100000 in
set_option maxHeartbeats 1000000 in
theorem pairs1_in (F : Fence) (n : Nat) (h6 : F.fn 48) (hro : F.round = none) (hn : 1 ≤ n) (l Bn n₀ b o cap : Nat) (L : List Cu) (J Jx : List (Fin L.length) → World → Prop)
    (hY : ∀ pre x W, J pre W → pre.length < L.length → YieldAt F (n - 1) Tryz.prog l (cuEnc b o L x) W fun e W' =>
      (e = .returned (.bool true) ∧ J (pre ++ [x]) W' ∧ KpC n₀ Bn W W') ∨ (e = .returned (.bool false) ∧ Jx (pre ++ [x]) W'))
    (hlen : L.length ≤ 1000000) (h0L : 0 < L.length) (hb : b < n₀)
    (W : World) (hBn : W.cell? ⟨Bn, 0, none⟩ = some (.slice (some ⟨b, o, none⟩) L.length cap)) (hL : CuAt W b o L) (h0 : J [] W) :
    CallsIn F n Tryz.prog 48 #[.func (.yield l) #[] #[], .pointer (some ⟨Bn, 0, none⟩)] W fun e W' => (∃ v, e = .returned v) ∧
      ((∃ ys, ys = List.finRange L.length ∧ J ys W') ∨ (∃ pre, pre <+: List.finRange L.length ∧ Jx pre W')) := by
  refine callsIn_of_wp Tryz.func48 rfl h6 ?_ hro
  simp only [Tryz.ntmps48, List.size_toArray, List.length_cons, List.length_nil, Nat.reduceAdd, Nat.reduceSub, Array.replicate_succ, Array.replicate_zero, List.push_toArray, List.append_toArray, List.nil_append, List.cons_append]
  gi_wp2
  gi_loopw [3, 7] (fun p i wr => ∃ k : Nat, k ≤ L.length ∧ i = .int .i64 k ∧ p = .pointer (cuPrev b o k) ∧ wr.cell? ⟨Bn, 0, none⟩ = some (.slice (some ⟨b, o, none⟩) L.length cap) ∧ CuAt wr b o L ∧ J ((List.finRange L.length).take k) wr)
    (fun _ i _ => L.length - (intOf i).toNat)
  case atStart => exact ⟨0, by omega, rfl, rfl, hBn, hL, h0⟩
  case round =>
    obtain ⟨k, hk, rfl, rfl, hBk, hLk, hJk⟩ := hrel
    by_cases hlt : k < L.length
    · obtain ⟨fn, tmps, assign, body, hy, hR⟩ := hY _ ⟨k, hlt⟩ wr hJk (by simp; omega)
      dsimp only [cuEnc] at hy
      have c0 : wr.cell? ⟨b, o + k * 5, none⟩ = some (.string (cuAt L k).root) := hLk k hlt 0 _ rfl
      have c1 : wr.cell? ⟨b, o + k * 5 + 1, none⟩ = some (.string (cuAt L k).media) := hLk k hlt 1 _ rfl
      have c2 : wr.cell? ⟨b, o + k * 5 + 2, none⟩ = some (.int .i64 (cuAt L k).fr) := hLk k hlt 2 _ rfl
      have c3 : wr.cell? ⟨b, o + k * 5 + 3, none⟩ = some (.int .i64 (cuAt L k).un) := hLk k hlt 3 _ rfl
      have c4 : wr.cell? ⟨b, o + k * 5 + 4, none⟩ = some (.string (cuAt L k).sig) := hLk k hlt 4 _ rfl
      dsimp only [Cu.vals] at hy
      gi_wp2
      refine hR.mono ?_
      rintro e W3 (⟨rfl, hJ3, hk3⟩ | ⟨rfl, hJx3⟩)
      · have hB3 := hk3.cell hBk
        have hL3 := hLk.below hk3.1 hb
        rw [← fin_take L.length k hlt] at hJ3
        clear hY hR hy hLk c0 c1 c2 c3 c4 hJk hk3 hBn hL h0
        gi_wp2
        go_roundw
        case rel => exact ⟨k + 1, by omega, by go_num, by rw [cuPrev, if_neg (by omega), Nat.add_sub_cancel], hB3, hL3, hJ3⟩
        case measure => simp [intOf]; omega
      · rw [← fin_take L.length k hlt] at hJx3
        clear hY hR hy hLk c0 c1 c2 c3 c4 hJk hBn hL h0
        gi_wp2
        refine bodyPost_ret (results_none rfl _ _ _) rfl ?_
        exact ⟨⟨_, rfl⟩, .inr ⟨_, List.take_prefix _ _, hJx3⟩⟩
    · gi_wp2
      go_end0
      exact ⟨⟨_, rfl⟩, .inl ⟨_, rfl, by have : (List.finRange L.length).take k = List.finRange L.length := List.take_of_length_le (by simp; omega)
                                        rw [this] at hJk; exact hJk⟩⟩
/-- the empty slice -/
theorem pairs0_in (F : Fence) (n : Nat) (h6 : F.fn 48) (hro : F.round = none) (l Bn : Nat) (a : Option Addr) (cap : Nat) (Q : World → Prop)
    (W : World) (hBn : W.cell? ⟨Bn, 0, none⟩ = some (.slice a 0 cap)) (h0 : Q W) :
    CallsIn F n Tryz.prog 48 #[.func (.yield l) #[] #[], .pointer (some ⟨Bn, 0, none⟩)] W fun e W' => (∃ v, e = .returned v) ∧ Q W' := by
  refine callsIn_of_wp Tryz.func48 rfl h6 ?_ hro
  simp only [Tryz.ntmps48, List.size_toArray, List.length_cons, List.length_nil, Nat.reduceAdd, Nat.reduceSub, Array.replicate_succ, Array.replicate_zero, List.push_toArray, List.append_toArray, List.nil_append, List.cons_append]
  gi_wp2
  gi_loopw [7] (fun i wr => i = .int .i64 0 ∧ Q wr) (fun _ _ => 0)
  case atStart => exact ⟨rfl, h0⟩
  case round =>
    obtain ⟨rfl, hq⟩ := hrel
    gi_wp2
    go_end0
    exact ⟨⟨_, rfl⟩, hq⟩
theorem pairs_in (F : Fence) (n : Nat) (h5 : F.fn 31) (hro : F.round = none) (a : Option Addr) (k cap : Nat) (w : World) :
    CallsIn F n Tryz.prog 31 #[.slice a k cap] w fun e w' => e = .returned (.func (.func 48) #[] #[.pointer (some ⟨w.heap.size, 0, none⟩)]) ∧ w' = w.alloc (.cells #[.slice a k cap] 22) := by
  refine callsIn_of_wp Tryz.func31 rfl h5 ?_ hro
  simp only [Tryz.ntmps31, List.size_toArray, List.length_cons, List.length_nil, Nat.reduceAdd, Nat.reduceSub, Array.replicate_succ, Array.replicate_zero, List.push_toArray, List.append_toArray, List.nil_append, List.cons_append]
  gi_wp2
  go_ret
  exact ⟨rfl, rfl⟩
/-- a slice of statements -/
def CuRow (w : World) (v : Value) (L : List Cu) : Prop :=
  L.length ≤ maxLen ∧ ((L = [] ∧ ∃ a cap, v = .slice a 0 cap ∧ (a = none → cap = 0)) ∨ (0 < L.length ∧ ∃ b o cap, v = .slice (some ⟨b, o, none⟩) L.length cap ∧ L.length ≤ cap ∧ cap ≤ maxLen ∧ b < w.heap.size ∧ CuAt w b o L))
theorem CuRow.below {w w' : World} {v : Value} {L : List Cu} (h : CuRow w v L) (hb : Below w.heap.size w w') : CuRow w' v L := by
  obtain ⟨h1, h2⟩ := h
  refine ⟨h1, ?_⟩
  rcases h2 with h2 | ⟨h2, b, o, cap, h3, h4, h5, h6, h7⟩
  · exact .inl h2
  · exact .inr ⟨h2, b, o, cap, h3, h4, h5, Nat.lt_of_lt_of_le h6 hb.size, h7.below hb h6⟩
/-! a quiet region within a round -/
section
variable {F : Fence} {n : Nat} {P : Program} {ops : Array Oper} {md : Region.Mode} {C : World → Prop}
def noDefer (o : Oper) : Bool := match o.op with | .defer _ => false | _ => true
theorem noDefer_ne {o : Oper} (h : noDefer o = true) : ∀ c, o.op ≠ .defer c := by
  intro c e
  rw [noDefer, e] at h; cases h
theorem wpIn_of_quietR {o : Oper} {a : Act} {K : Act → Prop} {K' : Act → World → Prop} {Q' : Exit → Act → World → Prop} {w : World} (hd : noDefer o = true) (hw : C w) (h : ∀ a w', C w' → K a → K' a w')
    (ha : o.askedIn F P a C) (hh : o.quietIn F n P a C K) : o.wpIn F n P a w K' Q' := by
  obtain ⟨v, h1, h2⟩ := hh
  have h3 := h1 w hw
  unfold Oper.quietAtIn at h3
  unfold Oper.wpIn
  refine ⟨ha w hw, ?_⟩
  rw [Oper.semAt_eq _ _ _ (noDefer_ne hd)]
  generalize (execOp a.eval o).run P w = r at *
  cases r with
  | ok x w' =>
    cases x <;> simp only [Oper.quietUponIn] at h3 <;> simp only [Oper.uponIn]
    case value u =>
      obtain ⟨e1, e2⟩ := h3
      rw [e1, e2]
      exact h _ _ hw h2
    case skip =>
      obtain ⟨e1, e2⟩ := h3
      rw [e1, ← e2]
      exact h _ _ hw h2
    case enter f args =>
      obtain ⟨e1, hd, hc⟩ := h3
      rw [e1]
      exact ⟨hd, hc.mono fun e w'' ⟨he, hw''⟩ => by subst he; exact h _ _ hw'' h2⟩
  | halt x w' => simp only [Oper.quietUponIn] at h3
theorem wpOpIn_of_qOpInR {i : Nat} {a : Act} {K : Act → Prop} {K' : Act → World → Prop} {Q' : Exit → Act → World → Prop} {w : World} (hd : ∀ o ∈ ops, noDefer o = true) (hC : C w) (h : ∀ a w', C w' → K a → K' a w')
    (hh : qOpIn F n P ops C i K a) : wpOpIn F n P ops Q' i K' a w := by
  unfold qOpIn at hh
  unfold wpOpIn
  split
  · rename_i ho; simp only [ho] at hh; exact h _ _ hC hh
  · rename_i o ho
    simp only [ho] at hh
    obtain ⟨ha, hh⟩ := hh
    split
    · rename_i hw; simp only [hw, if_true] at hh; exact wpIn_of_quietR (hd o (Array.mem_of_getElem? ho)) hC h ha hh
    · rename_i hw; simp only [hw] at hh; exact ⟨ha w hC, h _ _ hC hh⟩
theorem wpAnyIn_of_quietR {Q : Act → Prop} {Q' : Exit → Act → World → Prop} (hd : ∀ o ∈ ops, noDefer o = true) (hQ : ∀ a w, C w → Q a → Q' .normal a w) : ∀ (fuel : Nat) (listed : Array Bool) (a : Act) (w : World), C w →
    wpAnyQIn F n P md ops C Q fuel listed a → wpAnyIn F n P md ops Q' fuel listed a w
  | 0, _, _, _, hw, h => ⟨h.1, hQ _ _ hw h.2⟩
  | fuel + 1, _, _, _, hw, h => ⟨fun h0 => hQ _ _ hw (h.1 h0), fun i hi => wpOpIn_of_qOpInR hd hw (fun a' w' hw' => wpAnyIn_of_quietR hd hQ fuel _ a' w' hw') (h.2 i hi)⟩
theorem wpIn_region_quietR {id : Nat} {Q : Exit → Act → World → Prop} {a : Act} {w : World} {l : List Oper} (hd : l.all noDefer = true) (hm : P.follows .mixedOrders = true) (hB : Region.lexB .any l.toArray = true)
    (h : wpQuietIn F n P l.toArray (fun w' => ∃ n, w' = w.drewN n) (fun a' => ∀ w', (∃ n, w' = w.drewN n) → Q .normal a' w') l a) : (Code.region id l.toArray true).wpIn F n P Q a w := by
  simp only [Region.lexB, Bool.and_eq_true] at hB
  refine wpIn_region_any hm (wpAnyIn_of_quietR (C := fun w' => ∃ n, w' = w.drewN n) (Q := fun a' => ∀ w', (∃ n, w' = w.drewN n) → Q .normal a' w') (fun o ho => List.all_eq_true.1 hd o (by simpa using ho)) (fun _ w' hw' h => h w' hw') _ _ _ _ ⟨1, rfl⟩ ?_)
  have := wpAnyQIn_lex (F := F) (n := n) (C := fun w' => ∃ n, w' = w.drewN n) (md := .any) hB.1 l 0 (Array.replicate l.toArray.size false) a (by simp) (by simpa using hB.2) h
  simpa using this
end
/-! the map of the keys used -/
theorem laidOutC : laidOutB Tryz.prog = true := by kernel_rfl
theorem usedRow : (64 : Nat) < Tryz.prog.types.size := of_decide_eq_true (by kernel_rfl)
theorem usedKeyed : Maps.Keyed Tryz.prog 64 :=
  Maps.Keyed.of_law (deep_law_gate laidOutC (of_decide_eq_true (by kernel_rfl)) usedRow (by kernel_rfl) (by rw [Tryz.underlying64]))
def usedV (r : ByteArray) (k : Int) : Value := .agg #[.string r, .int .i64 k]
theorem used_type : Tryz.prog.keyType 64 = true := by kernel_rfl
theorem used_cells : Tryz.prog.cellsOf 64 = 2 := by kernel_rfl
theorem str_cells : Tryz.prog.cellsOf 9 = 1 := by kernel_rfl
theorem int_cells : Tryz.prog.cellsOf 3 = 1 := by kernel_rfl
theorem used_key (r : ByteArray) (k : Int) (hr : r.size ≤ maxLen) (hk : 0 ≤ k ∧ k < 64) : ∃ s, keyOf Tryz.prog 64 (usedV r k) = some (.string s) := by
  obtain ⟨m, hm⟩ := Nat.exists_eq_succ_of_ne_zero (Nat.ne_of_gt (Nat.lt_of_le_of_lt (Nat.zero_le _) usedRow))
  have h1 : IntKind.i64.min ≤ k := Int.le_trans (by decide) hk.1
  have h2 : k ≤ IntKind.i64.max := Int.le_trans (Int.le_of_lt hk.2) (by decide)
  have hw : (Lit.int .i64 k).wf = true := by simp only [Lit.wf, Bool.and_eq_true, decide_eq_true_eq]; exact ⟨h1, h2⟩
  rw [keyOf, Tryz.underlying64]
  simp only [used_type, usedV, Value.formed, Tryz.underlying64, used_cells]
  rw [hm]
  simp [Program.keyLits, Tryz.underlying64, Tryz.underlying9, Tryz.underlying3, used_cells, str_cells, int_cells, Value.cells, hw, hr]
noncomputable def usedL (L : List Cu) (j : Nat) : Lit := (keyOf Tryz.prog 64 (usedV (sgnB L j) (keyV L j).1)).getD (.bool false)
noncomputable def datD (L : List Cu) (p : List Nat) : DataW Unit := p.foldl (fun D j => D.put (usedL L j) (.lit (.bool true))) (.map [])
theorem datD_snoc (L : List Cu) (p : List Nat) (x : Nat) : datD L (p ++ [x]) = (datD L p).put (usedL L x) (.lit (.bool true)) := by simp [datD]
theorem usedL_key {L : List Cu} (hL : CusOk L) (j : Nat) : keyOf Tryz.prog 64 (usedV (sgnB L j) (keyV L j).1) = some (usedL L j) := by
  obtain ⟨s, hs⟩ := used_key (sgnB L j) (keyV L j).1 (by have := (hL (j - 1)).root; unfold maxLen; rw [sgnB]; omega) (verifyL_key ..)
  rw [usedL, hs]; rfl
theorem usedL_inj {L : List Cu} (hL : CusOk L) {i j : Nat} : usedL L i = usedL L j ↔ ((sgnB L i).data.toList = (sgnB L j).data.toList ∧ (keyV L i).1 = (keyV L j).1) := by
  constructor
  · intro h
    have h1 := usedL_key hL i
    rw [h] at h1
    have := usedKeyed.inj h1 (usedL_key hL j)
    simp only [usedV, Value.agg.injEq, Array.mk.injEq, List.cons.injEq, Value.string.injEq, Value.int.injEq, and_true, true_and] at this
    exact ⟨by rw [this.1], this.2⟩
  · rintro ⟨h1, h2⟩
    rw [usedL, usedL, list_inj h1, h2]
set_option maxRecDepth 100000 in
theorem usedL_isKey {L : List Cu} (hL : CusOk L) (j : Nat) : WideAt.IsKeyLit (usedL L j) := by
  obtain ⟨s, hs⟩ := used_key (sgnB L j) (keyV L j).1 (by have := (hL (j - 1)).root; unfold maxLen; rw [sgnB]; omega) (verifyL_key ..)
  rw [usedL, hs]; trivial
theorem datD_map (L : List Cu) (p : List Nat) : Maps.IsMap (datD L p) := by
  have : ∀ (p : List Nat) (D : DataW Unit), Maps.IsMap D → Maps.IsMap (p.foldl (fun D j => D.put (usedL L j) (.lit (.bool true))) D) := by
    intro p
    induction p with
    | nil => exact fun D h => h
    | cons x p ih => exact fun D h => ih _ (h.put _ _)
  exact this p _ ⟨[], rfl⟩
theorem snoc_ind {P : List Nat → Prop} (h0 : P []) (h1 : ∀ p x, P p → P (p ++ [x])) (p : List Nat) : P p := by
  have : ∀ q : List Nat, P q.reverse := by
    intro q
    induction q with
    | nil => exact h0
    | cons x q ih => rw [List.reverse_cons]; exact h1 _ _ ih
  have h := this p.reverse
  rwa [List.reverse_reverse] at h
set_option maxRecDepth 100000 in
theorem datD_look {L : List Cu} (hL : CusOk L) (p : List Nat) (i : Nat) : (datD L p).atKey (usedL L i) (.lit (.bool false)) = .lit (.bool (usedB L p i)) := by
  refine snoc_ind (P := fun p => (datD L p).atKey (usedL L i) (.lit (.bool false)) = .lit (.bool (usedB L p i))) (WideAt.atKey_none _ (fun p hp => by cases hp)) ?_ p
  · intro p x ih
    rw [datD_snoc]
    have hu : usedB L (p ++ [x]) i = (usedB L p i || decide ((sgnB L x).data.toList = (sgnB L i).data.toList ∧ (keyV L x).1 = (keyV L i).1)) := by
      rw [usedB, List.any_append]; simp [usedB]
    by_cases h : usedL L i = usedL L x
    · rw [h, Maps.atKey_put_same (datD_map L p) (usedL_isKey hL x), hu]
      have := (usedL_inj hL).1 h
      rw [decide_eq_true ⟨this.1.symm, this.2.symm⟩, Bool.or_true]
    · rw [Maps.atKey_put_other h, ih, hu, decide_eq_false (fun e => h ((usedL_inj hL).2 ⟨e.1.symm, e.2.symm⟩)), Bool.or_false]
theorem plainElem_bool_inv {P : Program} {e : TypeId} (he : P.underlying e = some .bool) {v : Value} {z : DataW Unit × List MemPlace} (h : plainElem P e v = some z) : ∃ c, v = .bool c ∧ z = (.lit (.bool c), []) := by
  unfold plainElem at h
  rw [he] at h
  cases v <;> simp at h
  exact ⟨_, rfl, h.symm⟩
/-- a look-up of a bool in a map of the call's own -/
theorem own_look_bool {P : Program} {w : World} {t k e : TypeId} {b n : Nat} {D : DataW Unit} (hown : w.ownsMap P k (plainElem P e) b n D) (K : Maps.Keyed P k) (ht : P.underlying t = some (.map k e)) (he : P.underlying e = some .bool) (hz : (zeroValue e).run P w = .ok (.bool false) w)
    {key : Value} {kl : Lit} (hkey : keyOf P k key = some kl) {c : Bool} (hc : D.atKey kl (.lit (.bool false)) = .lit (.bool c)) : (Instr.lookup t (.map (some b)) key false).run P w = .ok (.bool c) w := by
  obtain ⟨v, ps, hrun, hv⟩ := hown.lookup K ht hz (plainElem_bool he false) hkey
  obtain ⟨c', rfl, hc'⟩ := plainElem_bool_inv he hv
  rw [hc] at hc'
  simp only [Prod.mk.injEq, DataW.lit.injEq, Lit.bool.injEq] at hc'
  obtain ⟨rfl, _⟩ := hc'
  exact hrun
/-! the walk of Check -/
def goE (L : List Cu) : List Nat → List Nat → Int
  | _, [] => 0
  | acc, x :: r => if oneP L acc x ≠ 0 then oneP L acc x else goE L (acc ++ [x]) r
def runE (L : List Cu) (p : List Nat) : Int := goE L [] p
theorem goE_snoc (L : List Cu) (x : Nat) : ∀ (p acc : List Nat), goE L acc (p ++ [x]) = if goE L acc p ≠ 0 then goE L acc p else oneP L (acc ++ p) x
  | [], acc => by
    simp only [List.nil_append, List.append_nil, goE, ne_eq, not_true_eq_false, if_false]
    split
    · rfl
    · rename_i h; simpa using (Decidable.not_not.1 h).symm
  | y :: p, acc => by
    simp only [List.cons_append, goE]
    by_cases h : oneP L acc y ≠ 0
    · simp only [if_pos h]
    · simp only [if_neg h]
      rw [goE_snoc L x p (acc ++ [y]), List.append_assoc]; rfl
theorem runE_snoc {L : List Cu} {p : List Nat} (h : runE L p = 0) (x : Nat) : runE L (p ++ [x]) = oneP L p x := by
  rw [runE, goE_snoc, if_neg (by rw [runE] at h; omega), List.nil_append]
theorem runE_range (L : List Cu) : ∀ n, runE L (List.range n) = checkN L n
  | 0 => rfl
  | n + 1 => by
    have ih := runE_range L n
    rw [List.range_succ, runE, goE_snoc, List.nil_append, checkN]
    rw [runE] at ih
    rw [ih]; rfl
def finV {N : Nat} (p : List (Fin N)) : List Nat := p.map (·.1)
theorem finV_snoc {N : Nat} (p : List (Fin N)) (x : Fin N) : finV (p ++ [x]) = finV p ++ [x.1] := by simp [finV]
theorem finV_pre {N : Nat} {p : List (Fin N)} (h : p <+: List.finRange N) : finV p = List.range p.length ∧ p.length ≤ N := by
  have h1 := List.prefix_iff_eq_take.1 h
  have h2 := h.length_le
  rw [List.length_finRange] at h2
  refine ⟨?_, h2⟩
  have h3 : (List.finRange N).map (·.1) = List.range N := List.ext_getElem (by simp) (fun i _ _ => by simp)
  have h4 : p.map (·.1) = (List.range N).take p.length := by rw [← h3, ← List.map_take, ← h1]
  rw [finV, h4, List.take_range, Nat.min_eq_left h2]
theorem keeps_below {B : Nat} {W W' : World} (h : Below W.heap.size W W') : KeepsFrom B W W' :=
  ⟨h.size, fun k _ _ hk _ => (h.block k (Array.getElem?_eq_some_iff.1 hk).1).trans hk⟩
theorem KpC.of_below {n B : Nat} {W W' : World} (h : Below W.heap.size W W') (hn : n ≤ W.heap.size) (hB : B < W.heap.size) : KpC n B W W' := ⟨h.mono hn, h.block B hB⟩
theorem KpC.trans {n B : Nat} {X Y Z : World} (h : KpC n B X Y) (k : KpC n B Y Z) : KpC n B X Z := ⟨h.1.trans k.1, k.2.trans h.2⟩
theorem ownsMap_below {W W' : World} {b n : Nat} {D : DataW Unit} {P : Program} {k : TypeId} {R : Value → Option (DataW Unit × List MemPlace)} (h : W.ownsMap P k R b n D) (hb : Below W.heap.size W W') : W'.ownsMap P k R b n D := by
  have hlt := h.lt
  obtain ⟨es, clock, hh, r⟩ := h
  exact ⟨es, clock, (hb.block b hlt).trans hh, r⟩
theorem boxed_below {W W' : World} {B : Nat} {t : TypeId} {v : Value} (h : Boxed W B t v) (hb : Below W.heap.size W W') : Boxed W' B t v := (hb.block B h.lt).trans h
/-- a block that holds a statement -/
def BoxC (W : World) (B : Nat) (c : Cu) : Prop := W.heap[B]? = some (.cells c.vals.toArray 29 (0, 0))
theorem BoxC.lt {W : World} {B : Nat} {c : Cu} (h : BoxC W B c) : B < W.heap.size := (Array.getElem?_eq_some_iff.1 h).1
theorem BoxC.new (W : World) (c : Cu) : BoxC (W.alloc (.cells c.vals.toArray 29)) W.heap.size c := World.alloc_heap_new W _
theorem BoxC.below {W W' : World} {B : Nat} {c : Cu} (h : BoxC W B c) (hb : Below W.heap.size W W') : BoxC W' B c := (hb.block B h.lt).trans h
theorem BoxC.cell {W : World} {B : Nat} {c : Cu} (h : BoxC W B c) (j : Nat) : W.cell? ⟨B, j, none⟩ = c.vals[j]? := by
  unfold World.cell?
  rw [show W.heap[B]? = _ from h]; simp
theorem boxC_own (B : Nat) (c : Cu) {X Y : World} {row : Option Nat} (h : BoxC X B c) (hg : X.grownBy Y row) (hrow : ∀ r, row = some r → ∃ o : Obj, X.heap[r]? = some o ∧ o.isCells = false) : BoxC Y B c :=
  (hg.block B h.lt (fun e' => by obtain ⟨o, ho, hc⟩ := hrow B e'.symm; rw [show X.heap[B]? = _ from h] at ho; cases ho; cases hc)).trans h
theorem cuCells {w : World} {b o : Nat} {L : List Cu} (h : CuAt w b o L) {i : Nat} (hi : i < L.length) :
    w.cell? ⟨b, o + i * 5, none⟩ = some (.string (cuAt L i).root) ∧ w.cell? ⟨b, o + i * 5 + 1, none⟩ = some (.string (cuAt L i).media) ∧ w.cell? ⟨b, o + i * 5 + 2, none⟩ = some (.int .i64 (cuAt L i).fr) ∧
    w.cell? ⟨b, o + i * 5 + 3, none⟩ = some (.int .i64 (cuAt L i).un) ∧ w.cell? ⟨b, o + i * 5 + 4, none⟩ = some (.string (cuAt L i).sig) :=
  ⟨h i hi 0 _ rfl, h i hi 1 _ rfl, h i hi 2 _ rfl, h i hi 3 _ rfl, h i hi 4 _ rfl⟩
def ErrP (x : Int) (w : World) (e : Ending) (w' : World) : Prop := e = .returned (.int .i64 x) ∧ Below w.heap.size w w'
theorem pairs_stops (n n₀ b o Bn cap : Nat) (a : Option Addr) (L : List Cu) (w : World) (hn : 1 ≤ n) (hlen : L.length ≤ 1000000) (hB : Bn < w.heap.size) (hn₀ : n₀ ≤ w.heap.size) (hb : 0 < L.length → b < n₀) (ha : 0 < L.length → a = some ⟨b, o, none⟩)
    (hc : w.cell? ⟨Bn, 0, none⟩ = some (.slice a L.length cap)) (hL : CuAt w b o L) :
    SeqStopsK Fence.wide n Tryz.prog 48 #[.pointer (some ⟨Bn, 0, none⟩)] (cuEnc b o L) (KpC n₀ Bn) (fun ys => ys = List.finRange L.length) (fun pre => pre <+: List.finRange L.length) L.length w := by
  intro l J Jx W hW _ _ hY h0
  have hc' := (hW.cell (p := ⟨Bn, 0, none⟩) hB).trans hc
  by_cases h : 0 < L.length
  · rw [ha h] at hc'
    exact pairs1_in Fence.wide n trivial rfl hn l Bn n₀ b o cap L J Jx hY hlen h (hb h) W hc' (hL.below hW (Nat.lt_of_lt_of_le (hb h) hn₀)) h0
  · have h0L : L.length = 0 := by omega
    have he : List.finRange L.length = [] := List.eq_nil_of_length_eq_zero (by simpa using h0L)
    rw [h0L] at hc'
    refine (pairs0_in Fence.wide n trivial rfl l Bn a cap (J []) W hc' h0).mono ?_
    rintro e W' ⟨h1, h2⟩
    exact ⟨h1, .inl ⟨[], he.symm, h2⟩⟩
theorem below_refl' (B : Nat) (w : World) : Below B w w := Below.refl _ _
/-- a round that leaves with an error -/
theorem ret_fin {N B : Nat} {L : List Cu} {pre : List (Fin N)} {W w1 W' w : World} {t : TypeId} {e : Int} (hB1 : Below w.heap.size w W) (hWb : w.heap.size ≤ W.heap.size) (hb1 : Below W.heap.size W w1) (bR1 : Boxed W w.heap.size t (.int .i64 0))
    (hret : runE L (finV pre) = e) (he : e ≠ 0) (hW : W'.heap = (w1.setCell ⟨w.heap.size, 0, none⟩ (.int .i64 e)).heap) (hBe : Below w.heap.size (w1.setCell ⟨w.heap.size, 0, none⟩ (.int .i64 e)) W') :
    KeepsFrom B W W' ∧ (((Code.ret = Code.ret ∧ runE L (finV pre) ≠ 0) ∧ Boxed W' w.heap.size t (.int .i64 (runE L (finV pre)))) ∧ Below w.heap.size w W') := by
  have hk : KeepsFrom B W (w1.setCell ⟨w.heap.size, 0, none⟩ (.int .i64 e)) := (keeps_below hb1).trans ((KeepsOthers.setCell _ _ _).from _)
  refine ⟨⟨by rw [hW]; exact hk.size, fun k o h1 h2 h3 => by rw [hW]; exact hk.same k o h1 h2 h3⟩, ⟨⟨rfl, by rw [hret]; exact he⟩, ?_⟩, ((hB1.trans (hb1.mono hWb)).setCell (p := ⟨w.heap.size, 0, none⟩) (Nat.le_refl _) _).trans hBe⟩
  rw [hret]
  unfold Boxed
  rw [hW]; exact (boxed_below bR1 hb1).set _
/-- a round that goes on -/
theorem norm_fin {N B : Nat} {L : List Cu} {pre : List (Fin N)} {x : Fin N} {W w1 w3 w : World} {t t1 t2 : TypeId} {v : Value} {P : Program} {kt : TypeId} {R : Value → Option (DataW Unit × List MemPlace)} (hB1 : Below w.heap.size w W) (hWb : w.heap.size ≤ W.heap.size) (hb1 : Below W.heap.size W w1)
    (bR1 : Boxed W w.heap.size t (.int .i64 0)) (bV1 : Boxed W (w.heap.size + 1 + 1 + 1) t1 v) (bM1 : Boxed W (w.heap.size + 1 + 1) t2 (.map (some (w.heap.size + 1)))) (hsz : B = w.heap.size + 4)
    (hret : runE L (finV (pre ++ [x])) = 0) (hsuc : finV (pre ++ [x]) = finV pre ++ [x.1]) (hown : w3.ownsMap P kt R (w.heap.size + 1) (pre.length + 1) ((datD L (finV pre)).put (usedL L x.1) (.lit (.bool true)))) (hg : w1.grownBy w3 (some (w.heap.size + 1))) :
    KeepsFrom B W w3 ∧ KpC w.heap.size (w.heap.size + 1 + 1 + 1) W w3 ∧ (((((runE L (finV (pre ++ [x])) = 0 ∧ Boxed w3 w.heap.size t (.int .i64 0)) ∧ Boxed w3 (w.heap.size + 1 + 1 + 1) t1 v) ∧ Boxed w3 (w.heap.size + 1 + 1) t2 (.map (some (w.heap.size + 1)))) ∧
      w3.ownsMap P kt R (w.heap.size + 1) (pre ++ [x]).length (datD L (finV (pre ++ [x])))) ∧ Below w.heap.size w w3) := by
  have bR2 := boxed_below bR1 hb1
  have bV2 := boxed_below bV1 hb1
  have bM2 := boxed_below bM1 hb1
  have h1 : Below w.heap.size W w3 := (hb1.mono hWb).grown hg (Nat.le_trans hWb hb1.size) (fun k e => by cases e; exact Nat.le_succ _)
  refine ⟨(keeps_below hb1).trans (KeepsFrom.of_grownBy hg (fun j e => by cases e; omega)), ⟨h1, ?_⟩, ⟨⟨⟨⟨hret, bR2.kept hg (fun e => by have := Option.some.inj e; omega)⟩, bV2.kept hg (fun e => by have := Option.some.inj e; omega)⟩, bM2.kept hg (fun e => by have := Option.some.inj e; omega)⟩, ?_⟩, hB1.trans h1⟩
  · exact (hg.block _ bV2.lt (fun e => by have := Option.some.inj e; omega)).trans (hb1.block _ bV1.lt)
  · rw [hsuc, datD_snoc, List.length_append]; exact hown
theorem Cu.vals_arr (c : Cu) : c.vals.toArray = #[.string c.root, .string c.media, .int .i64 c.fr, .int .i64 c.un, .string c.sig] := rfl
set_option maxRecDepth 100000 in
set_option maxHeartbeats 4000000 in
theorem check1 (a : Option Addr) (b o cap : Nat) (L : List Cu) (w : World) (he : Env w) (hok : CusOk L) (hlen : L.length ≤ 1000000) (hb : 0 < L.length → b < w.heap.size) (ha : 0 < L.length → a = some ⟨b, o, none⟩) (hL : CuAt w b o L) :
    Calls Tryz.prog 17 #[.slice a L.length cap] w (ErrP (checkV L) w) := by
  refine (callsIn_wide (n := 9)).1 ?_
  have hmm := @run_makeMap Tryz.prog
  have hmx : Tryz.prog.follows .mixedOrders = true := by kernel_rfl
  refine callsIn_of_wp_marks Tryz.func17 rfl trivial ?_ rfl
  simp only [Tryz.ntmps17, List.size_toArray, List.length_cons, List.length_nil, Nat.reduceAdd, Nat.reduceSub, Array.replicate_succ, Array.replicate_zero, List.push_toArray, List.append_toArray, List.nil_append, List.cons_append]
  gi_wp2_with (refine ⟨trivial, ?_⟩; gi_at_call 31; refine (pairs_in Fence.wide _ trivial rfl _ _ _ _).mono ?_; rintro e w' ⟨rfl, rfl⟩)
  have hm0 := World.ownsMap_made (w.alloc (.cells #[.int .i64 0] 25)) Tryz.prog 64 (plainElem (H := Unit) Tryz.prog 4)
  have bR := (((Boxed.new w 25 (.int .i64 0)).alloc (.map #[] 0)).alloc (.cells #[.map (some (w.heap.size + 1))] 57)).alloc (.cells #[.slice a L.length cap] 22)
  have bM := (Boxed.new ((w.alloc (.cells #[.int .i64 0] 25)).alloc (.map #[] 0)) 57 (.map (some (w.heap.size + 1)))).alloc (.cells #[.slice a L.length cap] 22)
  have bV := Boxed.new (((w.alloc (.cells #[.int .i64 0] 25)).alloc (.map #[] 0)).alloc (.cells #[.map (some (w.heap.size + 1))] 57)) 22 (.slice a L.length cap)
  have hB0 : Below w.heap.size w ((((w.alloc (.cells #[.int .i64 0] 25)).alloc (.map #[] 0)).alloc (.cells #[.map (some (w.heap.size + 1))] 57)).alloc (.cells #[.slice a L.length cap] 22)) :=
    ((((Below.refl _ w).alloc (Nat.le_refl _) _).alloc (by simp) _).alloc (by simp; omega) _).alloc (by simp; omega) _
  have hm1 := ((hm0.alloc (.cells #[.map (some (w.heap.size + 1))] 57))).alloc (.cells #[.slice a L.length cap] 22)
  simp only [World.size_alloc] at bR bM bV hm1
  have hsz : ((((w.alloc (.cells #[.int .i64 0] 25)).alloc (.map #[] 0)).alloc (.cells #[.map (some (w.heap.size + 1))] 57)).alloc (.cells #[.slice a L.length cap] 22)).heap.size = w.heap.size + 4 := by simp
  obtain ⟨W0, hW0⟩ : ∃ W0, (((w.alloc (.cells #[.int .i64 0] 25)).alloc (.map #[] 0)).alloc (.cells #[.map (some (w.heap.size + 1))] 57)).alloc (.cells #[.slice a L.length cap] 22) = W0 := ⟨_, rfl⟩
  rw [hW0] at bR bM bV hm1 hB0 hsz ⊢
  clear hW0
  refine wpIn_rangeFunc_ownH rfl (by omega) (gf := 48) (lb := #[.pointer (some ⟨w.heap.size + 1 + 1 + 1, 0, none⟩)]) rfl trivial (enters_of Tryz.func48 (by kernel_rfl) rfl)
    (pairs_stops _ w.heap.size b o (w.heap.size + 1 + 1 + 1) cap a L W0 (by omega) hlen (by omega) (by omega) hb ha bV.cell (fun i hi => (hL.below hB0 (hb (by omega))) i hi))
    (fun h k => KpC.trans h k) (fun W l o o' hl hh h1 h2 => ⟨belowK_b (w := W0) (by omega) W l o o' hl hh h1 h2, World.putObj_heap_other (by omega)⟩) (Below.refl _ _) (cuEnc_size b o L)
    (fun pre W => ((((runE L (finV pre) = 0 ∧ Boxed W w.heap.size 25 (.int .i64 0)) ∧ Boxed W (w.heap.size + 1 + 1 + 1) 22 (.slice a L.length cap)) ∧ Boxed W (w.heap.size + 1 + 1) 57 (.map (some (w.heap.size + 1)))) ∧ W.ownsMap Tryz.prog 64 (plainElem (H := Unit) Tryz.prog 4) (w.heap.size + 1) pre.length (datD L (finV pre))) ∧ Below w.heap.size w W)
    (fun c pre W => ((c = .ret ∧ runE L (finV pre) ≠ 0) ∧ Boxed W w.heap.size 25 (.int .i64 (runE L (finV pre)))) ∧ Below w.heap.size w W)
    (OwnFrom.and (OwnFrom.and (OwnFrom.and (OwnFrom.and (OwnFrom.and (ownFrom_pure _ _) (Own.from (boxed_own _ _ _) _)) (Own.from (boxed_own _ _ _) _)) (Own.from (boxed_own _ _ _) _)) (fun s A B row hs hg hr => hs.kept hg (fun e => by have := (hr _ e.symm).1; omega))) (ownFrom_below (Nat.le_refl _) (by omega)))
    (fun c => OwnFrom.and (OwnFrom.and (ownFrom_pure _ _) (Own.from (boxed_own _ _ _) _)) (ownFrom_below (Nat.le_refl _) (by omega)))
    ⟨⟨⟨⟨⟨rfl, bR⟩, bV⟩, bM⟩, hm1⟩, hB0⟩
    (fun x a' W => ∃ Bx, w.heap.size + 1 + 1 < Bx ∧ BoxC W Bx (cuAt L x.1) ∧ a' = { tmps := #[.slice a L.length cap, undef, .pointer (some ⟨w.heap.size, 0, none⟩), .pointer (some ⟨w.heap.size + 1 + 1, 0, none⟩), .pointer (cuPrev b o x.1), .pointer (some ⟨Bx, 0, none⟩), undef, undef, undef, undef, .map (some (w.heap.size + 1)), .slice a L.length cap, .func (.func 48) #[] #[.pointer (some ⟨w.heap.size + 1 + 1 + 1, 0, none⟩)], .pointer (cuPrev b o x.1), .agg (cuAt L x.1).vals.toArray, undef, undef, undef, undef, undef, undef, undef, undef, undef, undef, undef, undef, undef, undef, undef, undef, undef, undef, undef, undef, undef, undef, undef, undef, undef, undef, undef, undef, undef, undef, undef, undef, undef, undef, undef, undef, undef, undef, undef, undef, undef, undef, undef, undef, undef, undef, undef, undef, undef, undef, undef, undef, undef], defers := [] })
    (fun x a' _ X Y row hs hg hr => by obtain ⟨Bx, e1, e2, e3⟩ := hs; exact ⟨Bx, e1, boxC_own Bx _ e2 hg (fun r e => (hr r e).2), e3⟩)
    ?assign ?body ?done ?stop
  case assign =>
    rintro l pre x W K ⟨⟨⟨⟨⟨hp, bR1⟩, bV1⟩, bM1⟩, hm1⟩, hB1⟩ hK
    have hva := Cu.vals_arr (cuAt L x.1)
    dsimp only [cuEnc]
    gi_wp2
    exact hK _ _ ((KeepsOthers.alloc _ _).from _) ⟨(Below.refl _ W).alloc hB1.size _, Below.heap_alloc _ _ _ bV1.lt⟩ ⟨⟨⟨⟨⟨hp, bR1.alloc _⟩, bV1.alloc _⟩, bM1.alloc _⟩, hm1.alloc _⟩, hB1.alloc hB1.size _⟩ ⟨W.heap.size, bM1.lt, BoxC.new W _, rfl⟩
  case body =>
    rintro l pre ⟨x, hx⟩ a' W hl _ ⟨⟨⟨⟨⟨hp, bR1⟩, bV1⟩, bM1⟩, hm1⟩, hB1⟩ ⟨Bx, hBx, bX, rfl⟩ hlt
    have hWb := hB1.size
    have hsuc := finV_snoc pre ⟨x, hx⟩
    have hret := runE_snoc hp x
    rw [← hsuc] at hret
    have hc := hok x
    have HE := Lib.hid (show ∀ W', Below w.heap.size w W' → Env W' from fun W' h => he.below h)
    have HD := Lib.hid (cuDigest_any (cuAt L x).root (cuAt L x).media (cuAt L x).sig (cuAt L x).fr (cuAt L x).un W (HE.out W hB1) (by have := hc.root; omega) (by have := hc.media; omega) hc.fr hc.un)
    change Hid (Calls _ _ _ _ (RootP (cuAt L x).d (cuAt L x).e W)) at HD
    have c0 : W.cell? ⟨Bx, 0, none⟩ = some (.string (cuAt L x).root) := bX.cell 0
    have c1 : W.cell? ⟨Bx, 1, none⟩ = some (.string (cuAt L x).media) := bX.cell 1
    have c2 : W.cell? ⟨Bx, 2, none⟩ = some (.int .i64 (cuAt L x).fr) := bX.cell 2
    have c3 : W.cell? ⟨Bx, 3, none⟩ = some (.int .i64 (cuAt L x).un) := bX.cell 3
    have c4 : W.cell? ⟨Bx, 4, none⟩ = some (.string (cuAt L x).sig) := bX.cell 4
    dsimp only
    have HV := Lib.hid (show ∀ (W' : World) (d : ByteArray), Below w.heap.size w W' → d.data.toList = (cuAt L x).d → Calls Tryz.prog 32 #[.string (sgnB L x), .string d, .string (cuAt L x).sig] W' (VerP (keyV L x) W') from fun W' d hW' hd => by
      have hdl : d.size ≤ 32 := by rw [← toList_size, hd]; exact cu_dlen _
      have := verify_any (sgnB L x) d (cuAt L x).sig W' (HE.out W' hW') (by omega) (by have := hc.sig; omega)
      rw [hd] at this; exact this)
    have hval : oneP L (finV pre) x = oneP L (finV pre) x := rfl
    conv at hval => rhs; rw [oneP]
    by_cases he0 : (cuAt L x).e = 0
    case neg =>
      rw [if_pos he0] at hval
      rw [hval] at hret
      have x1n := Lib.hid he0
      obtain ⟨x1, x2⟩ := neq0 he0
      clear HV hval hm1 bM1 bV1 bX hc he0
      generalize (cuAt L x).e = er at *
      generalize (cuAt L x).d = dg at *
      gi_wp2_with fail
      refine ⟨trivial, (CallsIn.inRound l (callsIn_wide.2 HD.out)).mono ?_⟩
      rintro e w1 ⟨t, rfl, ht, hb1⟩
      have bR2 := boxed_below bR1 hb1
      have cR := bR2.cell
      have fR := bR2.frozen
      clear c0 c1 c2 c3 c4 HD
      gi_wp2_with fail
      exact ret_fin hB1 hWb hb1 bR1 hret x1n.out rfl (below_refl' _ _)
    rw [if_neg (by omega)] at hval
    rw [he0] at HD
    have hxx : x = 0 ∨ ∃ k, x = k + 1 := by cases x with | zero => exact .inl rfl | succ k => exact .inr ⟨k, rfl⟩
    rcases hxx with rfl | ⟨k, rfl⟩
    · rw [if_neg (by omega), if_neg (by omega)] at hval
      replace hval := Lib.hid hval
      have hrt : sgnB L 0 = (cuAt L 0).root := rfl
      rw [hrt] at HV
      have hpv : cuPrev b o 0 = none := rfl
      rw [hpv]
      clear hpv hc he0
      have HC := Lib.hid (show ∀ W', Below W.heap.size W W' → W'.cell? ⟨Bx, 0, none⟩ = some (.string (cuAt L 0).root) ∧ W'.cell? ⟨Bx, 4, none⟩ = some (.string (cuAt L 0).sig) from
        fun W' hW => ⟨(hW.cell (p := ⟨Bx, _, none⟩) bX.lt).trans c0, (hW.cell (p := ⟨Bx, _, none⟩) bX.lt).trans c4⟩)
      gi_wp2_with fail
      refine ⟨trivial, (CallsIn.inRound l (callsIn_wide.2 HD.out)).mono ?_⟩
      rintro e w1 ⟨t, rfl, ht, hb1⟩
      obtain ⟨e1, e2⟩ := HC.out _ hb1
      clear c0 c1 c2 c3 c4 HD HC
      gi_wp2_with fail
      refine ⟨trivial, (CallsIn.inRound l (callsIn_wide.2 (HV.out _ t (hB1.trans (Below.mono hb1 hWb)) ht.out))).mono ?_⟩
      rintro e w2 ⟨n, y, rfl, hv, hb2⟩
      have hb3 := step2 hb1 hb2
      have bR2 := boxed_below bR1 hb3
      have bV2 := boxed_below bV1 hb3
      have bM2 := boxed_below bM1 hb3
      have hm2 := ownsMap_below hm1 hb3
      have cR := bR2.cell
      have fR := bR2.frozen
      have cM := bM2.cell
      have hB3 := hB1.trans (hb3.mono hWb)
      have hval2 := hval.out
      rw [hv.out] at hval2
      by_cases hy : y = 0
      case neg =>
        rw [if_pos hy] at hval2
        rw [hval2] at hret
        obtain ⟨x1, x2⟩ := neq0 hy
        clear HV hv hval hval2 hm1 hm2 bM1 bM2 bV1 bV2 hy
        gi_wp2_with fail
        exact ret_fin hB1 hWb hb3 bR1 hret (by decide) rfl (below_refl' _ _)
      case pos =>
      subst hy
      rw [if_neg (fun h => h rfl)] at hval2
      have hkey : keyOf Tryz.prog 64 (.agg #[.string (cuAt L 0).root, .int .i64 n]) = some (usedL L 0) := by
        have := usedL_key hok 0
        rw [hv.out] at this; exact this
      have hlook := datD_look hok (finV pre) 0
      have hmx' : pre.length < maxLen := by unfold maxLen; omega
      cases hu : usedB L (finV pre) 0 with
      | true =>
        rw [hu, if_pos rfl] at hval2
        rw [hval2] at hret
        rw [hu] at hlook
        clear HV hv hval hval2 hu
        have hlk := own_look_bool hm2 usedKeyed Tryz.underlying57 Tryz.underlying4 (Tryz.zeroValue4 _) hkey hlook
        clear hm2 hm1 hlook
        gi_wp2_with fail
        exact ret_fin hB1 hWb hb3 bR1 hret (by decide) rfl (below_refl' _ _)
      | false =>
        rw [hu, if_neg (by decide)] at hval2
        rw [hval2] at hret
        rw [hu] at hlook
        clear HV hv hval hval2 hu
        have hlk := own_look_bool hm2 usedKeyed Tryz.underlying57 Tryz.underlying4 (Tryz.zeroValue4 _) hkey hlook
        clear hlook
        gi_wp2_with ((gi_at_mapUpdate; refine wpListIn_mapUpdate_own _ rfl _ _ _ 57 rfl 64 4 usedKeyed Tryz.underlying57 _ (w.heap.size + 1) pre.length _ rfl hm2 hmx' _ _ _ rfl rfl hkey _ [] (plainElem_bool Tryz.underlying4 true) ?_; intro w3 hown1 hgrow1))
        exact norm_fin hB1 hWb hb3 bR1 bV1 bM1 hsz hret hsuc hown1 hgrow1

    · have hLW := hL.below hB1 (hb (by omega))
      have hbW := hb (by omega)
      obtain ⟨d0, d1, d2, d3, d4⟩ := cuCells hLW (i := k) (by omega)
      rw [Nat.add_sub_cancel] at hval
      have HC := Lib.hid (show ∀ W', Below W.heap.size W W' → (W'.cell? ⟨Bx, 0, none⟩ = some (.string (cuAt L (k + 1)).root) ∧ W'.cell? ⟨Bx, 2, none⟩ = some (.int .i64 (cuAt L (k + 1)).fr) ∧ W'.cell? ⟨Bx, 4, none⟩ = some (.string (cuAt L (k + 1)).sig)) ∧
          W'.cell? ⟨b, o + k * 5, none⟩ = some (.string (cuAt L k).root) ∧ W'.cell? ⟨b, o + k * 5 + 2, none⟩ = some (.int .i64 (cuAt L k).fr) ∧ W'.cell? ⟨b, o + k * 5 + 3, none⟩ = some (.int .i64 (cuAt L k).un) from
        fun W' hW => ⟨⟨(hW.cell (p := ⟨Bx, _, none⟩) bX.lt).trans c0, (hW.cell (p := ⟨Bx, _, none⟩) bX.lt).trans c2, (hW.cell (p := ⟨Bx, _, none⟩) bX.lt).trans c4⟩,
          (hW.cell (p := ⟨b, _, none⟩) (Nat.lt_of_lt_of_le hbW hWb)).trans d0, (hW.cell (p := ⟨b, _, none⟩) (Nat.lt_of_lt_of_le hbW hWb)).trans d2, (hW.cell (p := ⟨b, _, none⟩) (Nat.lt_of_lt_of_le hbW hWb)).trans d3⟩)
      have h10 : 0 < k + 1 := by omega
      have hpv : cuPrev b o (k + 1) = some ⟨b, o + k * 5, none⟩ := by rw [cuPrev, if_neg (by omega), Nat.add_sub_cancel]
      rw [hpv]
      clear hc he0 hpv hbW hLW d0 d1 d2 d3 d4
      by_cases h14 : (cuAt L (k + 1)).fr ≤ (cuAt L k).fr
      · rw [if_pos ⟨h10, h14⟩] at hval
        rw [hval] at hret
        clear HV hval hm1 bM1 bV1 bX h10
        generalize (cuAt L (k + 1)).d = dg at *
        generalize (cuAt L (k + 1)).fr = fr1 at *
        generalize (cuAt L k).fr = fr0 at *
        generalize (cuAt L k).un = un0 at *
        gi_wp2_with fail
        refine ⟨trivial, (CallsIn.inRound l (callsIn_wide.2 HD.out)).mono ?_⟩
        rintro e w1 ⟨t, rfl, ht, hb1⟩
        have bR2 := boxed_below bR1 hb1
        have cR := bR2.cell
        have fR := bR2.frozen
        obtain ⟨⟨e1, e2, e3⟩, e4, e5, e6⟩ := HC.out _ hb1
        clear c0 c1 c2 c3 c4 HD HC
        gi_wp2_with fail
        refine wpIn_region_quietR (by kernel_rfl) hmx (by kernel_rfl) ?_
        repeat (quiet_step_in (fail))
        refine wpQuietIn_nil ?_
        rintro _ ⟨nq, rfl⟩
        gi_wp2_with fail
        exact ret_fin hB1 hWb hb1 bR1 hret (by decide) rfl (below_drewN (below_refl' _ _) _)
      · rw [if_neg (fun h => h14 h.2)] at hval
        by_cases h18 : (cuAt L k).un < (cuAt L (k + 1)).fr
        · rw [if_pos ⟨h10, h18⟩] at hval
          rw [hval] at hret
          clear HV hval hm1 bM1 bV1 bX h10
          generalize (cuAt L (k + 1)).d = dg at *
          generalize (cuAt L (k + 1)).fr = fr1 at *
          generalize (cuAt L k).fr = fr0 at *
          generalize (cuAt L k).un = un0 at *
          gi_wp2_with fail
          refine ⟨trivial, (CallsIn.inRound l (callsIn_wide.2 HD.out)).mono ?_⟩
          rintro e w1 ⟨t, rfl, ht, hb1⟩
          have bR2 := boxed_below bR1 hb1
          have cR := bR2.cell
          have fR := bR2.frozen
          obtain ⟨⟨e1, e2, e3⟩, e4, e5, e6⟩ := HC.out _ hb1
          clear c0 c1 c2 c3 c4 HD HC
          gi_wp2_with fail
          refine wpIn_region_quietR (by kernel_rfl) hmx (by kernel_rfl) ?_
          repeat (quiet_step_in (fail))
          refine wpQuietIn_nil ?_
          rintro _ ⟨nq, rfl⟩
          gi_wp2_with fail
          refine wpIn_region_quietR (by kernel_rfl) hmx (by kernel_rfl) ?_
          repeat (quiet_step_in (fail))
          refine wpQuietIn_nil ?_
          rintro _ ⟨nr, rfl⟩
          gi_wp2_with fail
          exact ret_fin hB1 hWb hb1 bR1 hret (by decide) rfl (below_drewN (below_refl' _ _) _)
        · rw [if_neg (fun h => h18 h.2)] at hval
          replace hval := Lib.hid hval
          have hrt : sgnB L (k + 1) = (cuAt L k).root := rfl
          rw [hrt] at HV
          generalize hf1 : (cuAt L (k + 1)).fr = fr1 at *
          generalize hf0 : (cuAt L k).fr = fr0 at *
          generalize hu0 : (cuAt L k).un = un0 at *
          clear hf1 hf0 hu0 h10
          gi_wp2_with fail
          refine ⟨trivial, (CallsIn.inRound l (callsIn_wide.2 HD.out)).mono ?_⟩
          rintro e w1 ⟨t, rfl, ht, hb1⟩
          obtain ⟨⟨e1, e2, e3⟩, e4, e5, e6⟩ := HC.out _ hb1
          clear c0 c1 c2 c3 c4 HD HC
          gi_wp2_with fail
          refine wpIn_region_quietR (by kernel_rfl) hmx (by kernel_rfl) ?_
          repeat (quiet_step_in (fail))
          refine wpQuietIn_nil ?_
          rintro _ ⟨nq, rfl⟩
          gi_wp2_with fail
          refine wpIn_region_quietR (by kernel_rfl) hmx (by kernel_rfl) ?_
          repeat (quiet_step_in (fail))
          refine wpQuietIn_nil ?_
          rintro _ ⟨nr, rfl⟩
          gi_wp2_with fail
          clear h14 h18
          gi_wp2_with fail
          refine ⟨trivial, (CallsIn.inRound l (callsIn_wide.2 (HV.out _ t (hB1.trans (Below.mono (below_drewN hb1 _) hWb)) ht.out))).mono ?_⟩
          rintro e w2 ⟨n, y, rfl, hv, hb2⟩
          have hb3 := step2 (below_drewN hb1 _) hb2
          have bR2 := boxed_below bR1 hb3
          have bV2 := boxed_below bV1 hb3
          have bM2 := boxed_below bM1 hb3
          have hm2 := ownsMap_below hm1 hb3
          have cR := bR2.cell
          have fR := bR2.frozen
          have cM := bM2.cell
          have hB3 := hB1.trans (hb3.mono hWb)
          have hval2 := hval.out
          rw [hv.out] at hval2
          by_cases hy : y = 0
          case neg =>
            rw [if_pos hy] at hval2
            rw [hval2] at hret
            obtain ⟨x1, x2⟩ := neq0 hy
            clear HV hv hval hval2 hm1 hm2 bM1 bM2 bV1 bV2 hy
            gi_wp2_with fail
            exact ret_fin hB1 hWb hb3 bR1 hret (by decide) rfl (below_refl' _ _)
          case pos =>
          subst hy
          rw [if_neg (fun h => h rfl)] at hval2
          have hkey : keyOf Tryz.prog 64 (.agg #[.string (cuAt L k).root, .int .i64 n]) = some (usedL L (k + 1)) := by
            have := usedL_key hok (k + 1)
            rw [hv.out] at this; exact this
          have hlook := datD_look hok (finV pre) (k + 1)
          have hmx' : pre.length < maxLen := by unfold maxLen; omega
          cases hu : usedB L (finV pre) (k + 1) with
          | true =>
            rw [hu, if_pos rfl] at hval2
            rw [hval2] at hret
            rw [hu] at hlook
            clear HV hv hval hval2 hu
            have hlk := own_look_bool hm2 usedKeyed Tryz.underlying57 Tryz.underlying4 (Tryz.zeroValue4 _) hkey hlook
            clear hm2 hm1 hlook
            gi_wp2_with fail
            exact ret_fin hB1 hWb hb3 bR1 hret (by decide) rfl (below_refl' _ _)
          | false =>
            rw [hu, if_neg (by decide)] at hval2
            rw [hval2] at hret
            rw [hu] at hlook
            clear HV hv hval hval2 hu
            have hlk := own_look_bool hm2 usedKeyed Tryz.underlying57 Tryz.underlying4 (Tryz.zeroValue4 _) hkey hlook
            clear hlook
            gi_wp2_with ((gi_at_mapUpdate; refine wpListIn_mapUpdate_own _ rfl _ _ _ 57 rfl 64 4 usedKeyed Tryz.underlying57 _ (w.heap.size + 1) pre.length _ rfl hm2 hmx' _ _ _ rfl rfl hkey _ [] (plainElem_bool Tryz.underlying4 true) ?_; intro w3 hown1 hgrow1))
            exact norm_fin hB1 hWb hb3 bR1 bV1 bM1 hsz hret hsuc hown1 hgrow1
  case done =>
    rintro D zs W hD rfl ⟨⟨⟨⟨⟨hp, bR1⟩, bV1⟩, bM1⟩, hm1⟩, hB1⟩ hK
    have cR := bR1.cell
    have fR := bR1.frozen
    gi_wp2
    have hK' := (KeepsOthers.setCell W ⟨w.heap.size, 0, none⟩ (.int .i64 0)).same D _ hK rfl
    refine ⟨by simp, .inl ⟨_, _, rfl, run_takeDeferred hK', ?_⟩⟩
    have hc5 := cell_kept (bR1.set (.int .i64 0)).cell (grownBy_putObj' _ D (.deferred none)) (fun r e => by cases e; exact ⟨_, hK', rfl⟩)
    have hq : checkV L = 0 := by
      rw [(finV_pre (List.prefix_refl _)).1, List.length_finRange, runE_range] at hp; exact hp
    refine ⟨.int .i64 0, ?_, by rw [hq], (hB1.setCell (p := ⟨w.heap.size, 0, none⟩) (by simp) _).trans (belowK_b (w := w) (Nat.le_refl _) _ D _ _ (by omega) hK' rfl rfl)⟩
    simp [results, Tryz.f17, go_sem, hc5]
  case stop =>
    rintro D c pre W hD hpre ⟨⟨⟨rfl, hx⟩, bR1⟩, hB1⟩ hK
    gi_wp2
    refine ⟨by simp, .inl ⟨_, _, rfl, run_takeDeferred hK, ?_⟩⟩
    have hc5 := cell_kept bR1.cell (grownBy_putObj' _ D (.deferred none)) (fun r e => by cases e; exact ⟨_, hK, rfl⟩)
    have hq : checkV L = runE L (finV pre) := by
      obtain ⟨h1, h2⟩ := finV_pre hpre
      rw [h1, runE_range] at hx ⊢
      exact checkN_err hx h2
    refine ⟨_, ?_, by rw [hq], hB1.trans (belowK_b (w := w) (Nat.le_refl _) W D _ _ (by omega) hK rfl rfl)⟩
    simp [results, Tryz.f17, go_sem, hc5]
theorem check_any (v : Value) (L : List Cu) (w : World) (he : Env w) (hr : CuRow w v L) (hlen : L.length ≤ 1000000) (hok : CusOk L) : Calls Tryz.prog 17 #[v] w (ErrP (checkV L) w) := by
  rcases hr.2 with ⟨rfl, a, cap, rfl, _⟩ | ⟨h0, b, o, cap, rfl, _, _, hb, hL⟩
  · exact check1 a 0 0 cap [] w he hok hlen (fun h => absurd h (by decide)) (fun h => absurd h (by decide)) (fun i hi => absurd hi (Nat.not_lt_zero _))
  · exact check1 _ b o cap L w he hok hlen (fun _ => hb) (fun _ => rfl) hL
end Go.Proofs.YtadhbnleahipaaaGreatDoor
