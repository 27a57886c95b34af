/-
  Lists of strings in memory; netstrings of lists (what the laws of other chapters use).
  Entries: paths, attributes, dates: plain laws on lists of bytes.
-/
import Derived.Test.YtpkapcijgldhhaaGreatDoorCe04
import Derived.Deep.RegionWith
import Derived.Deep.QuietTactic
import Derived.BigQuiet
import Derived.Laws.AppendOwnNone
import Derived.Test.YtpkapcijgldhhaaGreatDoorCe03
import Derived.Lib.Split
import Derived.Lib.DecodeN
import Derived.Lib.AtoiAll
import Derived.Shelf.GgClosure.StringsIndexFunc
namespace Go.Proofs.YtpkapcijgldhhaaGreatDoor
open Go.RowKit
def TrueP (w : World) (e : Ending) (w' : World) : Prop := e = .returned (.bool true) ∧ Below w.heap.size w w'
/-! ### slices whose elements are one cell each -/
/-- the slice value v has the elements vs in w -/
def Row (w : World) (v : Value) (vs : List Value) : Prop :=
  ∃ a cap, v = .slice a vs.length cap ∧ vs.length ≤ cap ∧ cap ≤ maxLen ∧ ((vs = [] ∧ (a = none → cap = 0)) ∨ ∃ b o, a = some ⟨b, o, none⟩ ∧ ∀ i u, vs[i]? = some u → w.cell? ⟨b, o + i, none⟩ = some u)
theorem Row.below {w w' : World} {v : Value} {vs : List Value} (h : Row w v vs) (hb : Below w.heap.size w w') : Row w' v vs := by
  obtain ⟨a, cap, rfl, h1, h2, h3⟩ := h
  refine ⟨a, cap, rfl, h1, h2, ?_⟩
  rcases h3 with h3 | ⟨b, o, rfl, h3⟩
  · exact .inl h3
  · refine .inr ⟨b, o, rfl, fun i u hu => ?_⟩
    have hc := h3 i u hu
    rw [hb.cell (World.block_lt_of_cell? w _ hc)]
    exact hc
theorem Row.nil (w : World) : Row w (.slice none 0 0) [] := ⟨none, 0, rfl, Nat.le_refl _, by decide, .inl ⟨rfl, fun _ => rfl⟩⟩
theorem Row.of_owns {w : World} {base : Nat} {e : TypeId} {v : Value} {n : Nat} {vs : List Value} (h : w.ownsRow base e 1 v n vs) : Row w v vs := by
  have hl := h.1
  rcases h.2 with ⟨rfl, rfl⟩ | ⟨g, cap, cur, rfl, _, hg, hnc, hcm, hcs, htake⟩
  · obtain rfl := List.eq_nil_of_length_eq_zero (by simpa using hl)
    exact Row.nil w
  · have hln : vs.length = n := by simpa using hl
    subst hln
    refine ⟨_, cap, rfl, hnc, hcm, .inr ⟨g, 0, rfl, fun i u hu => ?_⟩⟩
    have := h.cells (g := g) rfl i u hu
    rw [Nat.zero_add]
    have hadd : (⟨g, 0, none⟩ : Addr).add i = ⟨g, i, none⟩ := by unfold Addr.add; split <;> simp_all
    rwa [hadd] at this
/-- a list of strings -/
def Strs (w : World) (v : Value) (l : List ByteArray) : Prop := Row w v (l.map Value.string)
theorem Strs.below {w w' : World} {v : Value} {l : List ByteArray} (h : Strs w v l) (hb : Below w.heap.size w w') : Strs w' v l := Row.below h hb
/-- v is a slice of strings of the call's own -/
def OwnStrs (base : Nat) (w : World) (v : Value) (l : List ByteArray) : Prop := w.ownsRow base 9 1 v l.length (l.map Value.string)
theorem owns_below {w w' : World} {base : Nat} {e : TypeId} {size : Nat} {v : Value} {n : Nat} {xs : List Value} (h : w.ownsRow base e size v n xs) (hb : Below w.heap.size w w') : w'.ownsRow base e size v n xs := by
  refine ⟨h.1, ?_⟩
  rcases h.2 with h2 | ⟨g, cap, cur, hv, hg, hh, r⟩
  · exact .inl h2
  · exact .inr ⟨g, cap, cur, hv, hg, by rw [hb.block g (Array.getElem?_eq_some_iff.1 hh).1]; exact hh, r⟩
theorem OwnStrs.below {base : Nat} {w w' : World} {v : Value} {l : List ByteArray} (h : OwnStrs base w v l) (hb : Below w.heap.size w w') : OwnStrs base w' v l := owns_below h hb
theorem below_grownBy {B : Nat} {a w w' : World} {v : Value} {e : TypeId} {size n : Nat} {xs : List Value} (h : Below B a w) (hown : w.ownsRow B e size v n xs) (hg : w.grownBy w' v.ownBlock) (hB : B ≤ w.heap.size) : Below B a w' :=
  h.grown hg hB (fun k hk => (hown.lt k hk).1)
theorem OwnStrs.strs {base : Nat} {w : World} {v : Value} {l : List ByteArray} (h : OwnStrs base w v l) : Strs w v l := Row.of_owns h
theorem infoStr : (Tryz.prog.info? 9).map (fun i => (i.zero, i.size, i.bytes)) = some (some (.string ⟨#[]⟩), 1, 16) := by kernel_rfl
/-! ### reading all strings -/
def rdAll : Nat → List UInt8 → Nat → List (List UInt8) → List (List UInt8) × Int
  | 0, _, _, acc => (acc, 0)
  | fuel + 1, l, a, acc =>
    if a < l.length then
      if (rdStr l a).2.2 = 0 then rdAll fuel l (rdStr l a).2.1.toNat (acc ++ [(rdStr l a).1]) else ([], (rdStr l a).2.2)
    else (acc, 0)
def rdStrs (l : List UInt8) : List (List UInt8) × Int := rdAll (l.length + 1) l 0 []
theorem rdStr_next {l : List UInt8} {a : Nat} {x : List UInt8} {n : Int} (h : rdStr l a = (x, n, 0)) : ∃ m : Nat, n = m ∧ a < m ∧ m ≤ l.length := by
  by_cases ha : a ≤ l.length
  · rcases indexByte_cases (l.drop a) 58 with ⟨h1, _⟩ | ⟨k, h1, _⟩
    · rw [rdStr_short ha (by rw [h1]; decide)] at h
      simp at h
    · rw [rdStr_tail ha h1, rdStr.rdTail] at h
      split at h
      · simp at h
      · split at h
        · simp at h
        · split at h
          · simp at h
          · simp only [Prod.mk.injEq, and_true] at h
            exact ⟨_, h.2.symm, by omega, by omega⟩
  · rw [rdStr_arg (.inr (by omega))] at h
    simp at h
theorem rdAll_step {fuel : Nat} {l : List UInt8} {a m : Nat} {x : List UInt8} {acc : List (List UInt8)} (ha : a < l.length) (h : rdStr l a = (x, (m : Int), 0)) : rdAll (fuel + 1) l a acc = rdAll fuel l m (acc ++ [x]) := by
  rw [rdAll, if_pos ha, h]; simp
theorem rdAll_err {fuel : Nat} {l : List UInt8} {a : Nat} {x : List UInt8} {n e : Int} {acc : List (List UInt8)} (ha : a < l.length) (h : rdStr l a = (x, n, e)) (he : e ≠ 0) : rdAll (fuel + 1) l a acc = ([], e) := by
  rw [rdAll, if_pos ha, h, if_neg he]
theorem rdAll_end {fuel : Nat} {l : List UInt8} {a : Nat} {acc : List (List UInt8)} (ha : ¬ a < l.length) : rdAll (fuel + 1) l a acc = (acc, 0) := by
  rw [rdAll, if_neg ha]
def RdStrsP (l : List UInt8) (w : World) (e : Ending) (w' : World) : Prop :=
  ∃ (v : Value) (k : List ByteArray) (x : Int), e = .returned (.tuple #[v, .int .i64 x]) ∧ Hid (rdStrs l = (k.map (·.data.toList), x)) ∧ OwnStrs w.heap.size w' v k ∧ Below w.heap.size w w'
set_option maxRecDepth 100000 in
set_option maxHeartbeats 1000000 in
theorem readStrings_any (s : ByteArray) (w : World) (he : Env w) (hs : s.size ≤ 1099511627776) :
    Calls Tryz.prog 146 #[.string s] w (RdStrsP s.data.toList w) := by
  obtain ⟨i0, hi, hz0, hz1, hz2⟩ := info_parts infoStr
  go_enter Tryz.func146, Tryz.ntmps146
  go_wp2_with fail
  go_loopw [4, 5] (fun v i wr => ∃ (k fuel : Nat) (acc : List ByteArray), k ≤ s.size ∧ i = .int .i64 k ∧ s.size < k + fuel ∧ acc.length ≤ k ∧ Hid (rdAll fuel s.data.toList k (acc.map (·.data.toList)) = rdStrs s.data.toList) ∧
      OwnStrs w.heap.size wr v acc ∧ Below w.heap.size w wr) (fun _ i _ => s.size - (intOf i).toNat)
  case atStart => exact ⟨0, s.size + 1, [], by omega, rfl, by omega, by simp, rfl, World.ownsRow_nil _ _ _ _, below_refl _⟩
  case round =>
    obtain ⟨k, fuel, acc, hk, rfl, hf, hacc, hall, hown, hbw⟩ := hrel
    have hew := he.below hbw
    obtain ⟨fuel, rfl⟩ : ∃ f, fuel = f + 1 := ⟨fuel - 1, by omega⟩
    by_cases hlt : k < s.size
    · go_wp2_with fail
      refine (readString_any s k _ (by omega) hew).mono ?_
      rintro e w1 ⟨u, x, y, rfl, h1, hb1⟩
      by_cases hy : y = 0
      · subst hy
        obtain ⟨m, rfl, hkm, hms⟩ := rdStr_next h1.out
        rw [toList_size] at hms
        have hstep := hall.out
        rw [rdAll_step hlt h1.out] at hstep
        have Hstep := Lib.hid hstep
        have hown1 : w1.ownsRow w.heap.size 9 1 u4 acc.length (acc.map Value.string) := hown.below hb1
        clear hstep hall h1
        go_wp2_with (at_builtin; refine wpList_append_own _ rfl _ _ 57 rfl w.heap.size 9 i0 (.string ⟨#[]⟩) 1 16 Tryz.underlying57 hi hz0 hz1 hz2 rfl (by decide) _ _ _ rfl (hown1.alloc _) ⟨w1.heap.size, 0, none⟩ 1 1 [.string u] rfl rfl ?c1 ?c2 ?c3 ?c4 ?c5 ?_)
        case c1 => exact cell_one_new _ _ _
        case c2 => simp [Value.oneCell']
        case c3 => unfold maxLen; omega
        case c4 => omega
        case c5 => have := hbw.size; have := hb1.size; simp; omega
        intro v' w2 hown2 hgrow2 _
        have hbw2 : Below w.heap.size w w2 := below_grownBy ((step2 hbw hb1).alloc (by have := hbw.size; have := hb1.size; omega) _) (hown1.alloc _) hgrow2 (by have := hbw.size; have := hb1.size; simp; omega)
        have hown3 : OwnStrs w.heap.size w2 v' (acc ++ [u]) := by unfold OwnStrs; simpa using hown2
        clear hown2 hgrow2 hown1 hown hi hz0 hz1 hz2
        go_wp2_with fail
        go_roundw
        case rel => exact ⟨m, fuel, acc ++ [u], hms, rfl, by omega, by simp; omega, by rw [Hid, List.map_append]; exact Hstep.out, hown3, hbw2⟩
        case measure => simp [intOf]; omega
      · have hstep := hall.out
        rw [rdAll_err hlt h1.out hy] at hstep
        have Hstep := Lib.hid hstep
        have hyb : (y == 0) = false := by simpa using hy
        have hyn : (y != 0) = true := by simpa using hy
        have Hy := Lib.hid hy
        clear hstep hall h1 hown hy
        go_wp2_with fail
        go_ret2
        exact ⟨_, [], _, rfl, Hstep.out.symm, World.ownsRow_nil _ _ _ _, step2 hbw hb1⟩
    · have hstep := hall.out
      rw [rdAll_end hlt] at hstep
      have Hstep := Lib.hid hstep
      clear hstep hall
      go_wp2_with fail
      go_ret2
      exact ⟨_, acc, _, rfl, Hstep.out.symm, hown, hbw⟩
def BoolP (b : Bool) (w : World) (e : Ending) (w' : World) : Prop := e = .returned (.bool b) ∧ Below w.heap.size w w'
theorem row_cases {w : World} {v : Value} {vs : List Value} (h : Row w v vs) : vs.length ≤ maxLen ∧ ((vs = [] ∧ ∃ a cap, v = .slice a 0 cap ∧ (a = none → cap = 0)) ∨
    (0 < vs.length ∧ ∃ b o cap, v = .slice (some ⟨b, o, none⟩) vs.length cap ∧ vs.length ≤ cap ∧ cap ≤ maxLen ∧ ∀ i u, vs[i]? = some u → w.cell? ⟨b, o + i, none⟩ = some u)) := by
  obtain ⟨a, cap, rfl, h1, h2, h3⟩ := h
  refine ⟨Nat.le_trans h1 h2, ?_⟩
  rcases h3 with ⟨rfl, h3⟩ | ⟨b, o, rfl, h3⟩
  · exact .inl ⟨rfl, a, cap, rfl, h3⟩
  · by_cases h0 : vs = []
    · subst h0; exact .inl ⟨rfl, _, cap, rfl, fun e => by cases e⟩
    · exact .inr ⟨by cases vs with | nil => exact absurd rfl h0 | cons => simp, b, o, cap, rfl, h1, h2, h3⟩
def totS (l : List ByteArray) : Nat := (l.map fun s => 10 + s.size).sum
theorem totS_take (l : List ByteArray) (k : Nat) (h : k < l.length) : totS (l.take (k + 1)) = totS (l.take k) + 10 + l[k].size := by
  rw [List.take_succ_eq_append_getElem h]; unfold totS; rw [List.map_append, List.sum_append]; simp only [List.map_cons, List.map_nil, List.sum_cons, List.sum_nil]; omega
theorem totS_le (l : List ByteArray) (k : Nat) : totS (l.take k) ≤ totS l := by
  conv => rhs; rw [← List.take_append_drop k l]
  unfold totS; rw [List.map_append, List.sum_append]; omega
def strsL (l : List ByteArray) : List UInt8 := (l.map fun s => strL s.data.toList).flatten
theorem strsL_take (l : List ByteArray) (k : Nat) (h : k < l.length) : strsL (l.take (k + 1)) = strsL (l.take k) ++ strL l[k].data.toList := by
  rw [List.take_succ_eq_append_getElem h]; unfold strsL; rw [List.map_append, List.flatten_append]; simp
theorem strL_le (s : ByteArray) (h : s.size ≤ 140737488355328) : (strL s.data.toList).length ≤ 3 * (10 + s.size) := by
  rw [strL_length, toList_size]
  have := itoa_len (n := s.size) (by omega) (by omega)
  omega
theorem strsL_le : ∀ (l : List ByteArray), totS l ≤ 140737488355328 → (strsL l).length ≤ 3 * totS l
  | [], _ => by simp [strsL, totS]
  | s :: l, h => by
    have e : totS (s :: l) = (10 + s.size) + totS l := by simp [totS]
    have h1 := strL_le s (by omega)
    have h2 := strsL_le l (by omega)
    have e2 : strsL (s :: l) = strL s.data.toList ++ strsL l := by simp [strsL]
    rw [e2, List.length_append]; omega
theorem isBuilder_below {T e : TypeId} {B b : Nat} {bs : List Value} {w w' : World} (h : Lib.IsBuilder T e B b bs w) (hb : Below w.heap.size w w') : Lib.IsBuilder T e B b bs w' := by
  have one : ∀ {p : Value}, Lib.BuilderAt T e B b p bs w → Lib.BuilderAt T e B b p bs w' := by
    rintro p ⟨hB, v, hv, hown, hne⟩
    exact ⟨hB, v, by rw [hb.block b (Array.getElem?_eq_some_iff.1 hv).1]; exact hv, owns_below hown hb, hne⟩
  exact h.imp one one
/-- one more netstring into the builder -/
theorem writeString_at (B : Nat) (l : List UInt8) (s : ByteArray) (w : World) (h : Hid (Lib.IsBuilder 93 5 B B (Lib.byteCells l) w)) (hlen : l.length + s.size ≤ 140737488355328) (hBw : B ≤ w.heap.size) :
    Calls Tryz.prog 44 #[.pointer (some ⟨B, 0, none⟩), .string s] w fun e w' => e = .returned (.tuple #[.int .i64 s.size, .nilIface]) ∧ Hid (Lib.IsBuilder 93 5 B B (Lib.byteCells (l ++ s.data.toList)) w') ∧ Below B w w' := by
  refine (Tryz.Builder_WriteString B B _ s w h.out (by rw [Lib.byteCells_length]; exact hlen) hBw).mono ?_
  rintro e w' ⟨rfl, h1, hb⟩
  refine ⟨rfl, ?_, hb⟩
  rw [Lib.strCells_eq, ← Lib.byteCells_append] at h1
  exact Or.inr h1
set_option maxHeartbeats 1000000 in
theorem strings_any (va : Value) (la : List ByteArray) (w : World) (he : Env w) (ha : Strs w va la) (ht : totS la ≤ 1099511627776) :
    Calls Tryz.prog 150 #[va] w (StrP (strsL la) w) := by
  obtain ⟨hla, ha'⟩ := row_cases ha
  simp only [List.length_map] at hla ha'
  unfold maxLen at hla
  have h0 : Hid (Lib.IsBuilder 93 5 w.heap.size w.heap.size (Lib.byteCells []) (w.alloc (.cells #[.pointer none, .slice none 0 0] 93))) := Lib.fresh_isBuilder 93 5 w
  have b0 : Below w.heap.size w (w.alloc (.cells #[.pointer none, .slice none 0 0] 93)) := (Below.refl _ w).alloc (Nat.le_refl _) _
  rcases ha' with ⟨h0', aa, ca, rfl, _⟩ | ⟨h0', ba, oa, ca, rfl, hca, hca2, hcella⟩
  · have hla0 : la = [] := by simpa using h0'
    subst hla0
    go_enter Tryz.func150, Tryz.ntmps150
    go_wp2_with fail
    refine wp_loop_rounds 1 ?_; rw [rounds_succ]
    go_wp2_with fail
    refine (Tryz.Builder_String_any w.heap.size w.heap.size [] _ h0 (by simp)).mono ?_
    rintro e w1 ⟨rfl, hb1⟩
    go_wp2_with fail
    go_ret
    exact ⟨_, rfl, rfl, b0.trans hb1⟩
  · go_enter Tryz.func150, Tryz.ntmps150
    go_wp2_with fail
    go_loopw [8] (fun i wr => ∃ k : Nat, k ≤ la.length ∧ i = .int .i64 k ∧ Hid (Lib.IsBuilder 93 5 w.heap.size w.heap.size (Lib.byteCells (strsL (la.take k))) wr) ∧ Below w.heap.size w wr) (fun i _ => la.length - (intOf i).toNat)
    case atStart => exact ⟨0, by omega, rfl, h0, b0⟩
    case round =>
      obtain ⟨k, hk, rfl, hB, hbw⟩ := hrel
      by_cases hlt : k < la.length
      · have c1 : wr.cell? ⟨ba, oa + k, none⟩ = some (.string la[k]) := by
          have := hcella k (.string la[k]) (by simp [hlt])
          rw [hbw.cell (World.block_lt_of_cell? w _ this)]; exact this
        have h1 := strsL_take la k hlt
        have h2 := totS_le la (k + 1)
        have h3 := totS_take la k hlt
        have h4 := strsL_le (la.take k) (by omega)
        have h5 := strL_le la[k] (by omega)
        generalize la[k] = x at *
        have hxs : x.size ≤ 1099511627776 := by omega
        have hlen : (strsL (la.take k)).length + (strL x.data.toList).length ≤ 140737488355328 := by omega
        have H1 := Lib.hid h1
        have Hlen := Lib.hid hlen
        have Hcella := Lib.hid hcella
        clear h1 h2 h3 h4 h5 hlen hcella
        have hew := he.below hbw
        go_wp2_with fail
        refine (string_any x _ hew (by omega)).mono ?_
        rintro e w1 ⟨t, rfl, hts, hb1⟩
        go_wp2_with fail
        refine (writeString_at w.heap.size (strsL (la.take k)) t _ (isBuilder_below hB.out hb1) (by rw [← toList_size t, hts.out]; exact Hlen.out) (Nat.le_trans hbw.size hb1.size)).mono ?_
        rintro e w2 ⟨rfl, hB2, hb2⟩
        go_wp2_with fail
        go_roundw
        case rel => exact ⟨k + 1, by omega, by go_num, by rw [H1.out, ← hts.out]; exact hB2, (step2 hbw hb1).trans hb2⟩
        case measure => simp [intOf]; omega
      · have ht2 : la.take k = la := List.take_of_length_le (by omega)
        rw [ht2] at hB
        clear ht2
        go_wp2_with fail
        refine (Tryz.Builder_String_any w.heap.size w.heap.size (strsL la) _ hB.out hbw.size).mono ?_
        rintro e w1 ⟨rfl, hb1⟩
        go_wp2_with fail
        go_ret
        exact ⟨_, rfl, rfl, hbw.trans hb1⟩
/-! ### reading an encoding -/
/-- 'append(v, x...)', v the call's own, x whatever slice of one-cell elements -/
theorem wpList_append_row {P : Program} {w : World} {ops : Array Oper} {rest : List Oper} {o : Oper} {a : Act} {Q : Exit → Act → World → Prop} (hgd : o.guard = none) (s x : Operand) (t : TypeId)
    (ho : o.op = .call { callee := .builtin .append, args := #[s, x], argTypes := #[t, t] })
    (base : Nat) (e : TypeId) (i : TypeInfo) (z : Value) (bytes : Nat) (ht : P.underlying t = some (.slice e)) (hi : P.info? e = some i) (hz : i.zero = some z)
    (hsize : i.size = 1) (hby : i.bytes = bytes) (hzs : z.cells.size = 1)
    (v : Value) (n : Nat) (xs : List Value) (hs : a.eval s = v) (hown : w.ownsRow base e 1 v n xs)
    (vx : Value) (news : List Value) (hx : a.eval x = vx) (hrow : Row w vx news) (h1 : ∀ u ∈ news, u.oneCell' = true)
    (h63 : n + news.length ≤ maxLen) (hbytes : (n + news.length) * bytes ≤ 140737488355328) (hbase : base ≤ w.heap.size)
    (h : ∀ v' w', w'.ownsRow base e 1 v' (n + news.length) (xs ++ news) → w.grownBy w' v.ownBlock → wpList P ops Q rest (a.put o.dst v') w') : wpList P ops Q (o :: rest) a w := by
  obtain ⟨ax, cap, rfl, hc1, hc2, hrow⟩ := hrow
  cases ax with
  | none =>
    rcases hrow with ⟨rfl, hcap⟩ | ⟨b, off, hax, _⟩
    · obtain rfl := hcap rfl
      refine wpList_append_own_none hgd s x t ho base e i 1 ht hi v n xs hs hown hx ?_
      exact h v w (by simpa using hown) ⟨rfl, rfl, rfl, Nat.le_refl _, fun _ _ _ => rfl⟩
    · cases hax
  | some ad =>
    refine wpList_append_own w hgd s x t ho base e i z 1 bytes ht hi hz hsize hby hzs (by decide) v n xs hs hown ad news.length cap news hx (by omega) ?_ h1 h63 hbytes hbase (fun v' w' h2 h3 _ => h v' w' h2 h3)
    intro j u hj
    rcases hrow with ⟨rfl, _⟩ | ⟨b, off, hax, hrow⟩
    · simp at hj
    · cases hax
      have := hrow j u hj
      have hadd : (⟨b, off, none⟩ : Addr).add j = ⟨b, off + j, none⟩ := by unfold Addr.add; split <;> simp_all
      rw [hadd]; exact this
theorem totS_append (a b : List ByteArray) : totS (a ++ b) = totS a + totS b := by unfold totS; rw [List.map_append, List.sum_append]
theorem totS_len (a : List ByteArray) : a.length ≤ totS a := by
  induction a with
  | nil => simp
  | cons s a ih => have e : totS (s :: a) = (10 + s.size) + totS a := by simp [totS]
                   rw [e, List.length_cons]; omega
theorem oneCell_strs (l : List ByteArray) : ∀ u ∈ l.map Value.string, u.oneCell' = true := by
  intro u hu
  obtain ⟨s, _, rfl⟩ := List.mem_map.1 hu
  rfl
end Go.Proofs.YtpkapcijgldhhaaGreatDoor

namespace Go.Proofs.YtpkapcijgldhhaaGreatDoor

/-! ### bytes of keys and of path components -/
def okC (c : UInt8) : Bool := decide (97 ≤ c.toNat ∧ c.toNat ≤ 122) || decide (48 ≤ c.toNat ∧ c.toNat ≤ 57) || decide (c.toNat = 46) || decide (c.toNat = 95) || decide (c.toNat = 45)
/-- the predicate on runes that strings.ContainsFunc is handed: not allowed -/
def badR (r : Nat) : Bool := !(decide (97 ≤ r ∧ r ≤ 122) || decide (48 ≤ r ∧ r ≤ 57) || decide (r = 46) || decide (r = 95) || decide (r = 45))
theorem badR_byte (c : UInt8) : badR c.toNat = !okC c := rfl
theorem badR_big {r : Nat} (h : 128 ≤ r) : badR r = true := by
  unfold badR
  have h1 : decide (97 ≤ r ∧ r ≤ 122) = false := by simp; omega
  have h2 : decide (48 ≤ r ∧ r ≤ 57) = false := by simp; omega
  have h3 : decide (r = 46) = false := by simp; omega
  have h4 : decide (r = 95) = false := by simp; omega
  have h5 : decide (r = 45) = false := by simp; omega
  rw [h1, h2, h3, h4, h5]; rfl
theorem okC_small {c : UInt8} (h : okC c = true) : c.toNat < 128 := by
  unfold okC at h
  simp only [Bool.or_eq_true, decide_eq_true_eq] at h
  omega
theorem decode_big (s : ByteArray) (i : Nat) (h : ¬ (s.get! i).toNat < 128) : badR (Utf8.decode s i).1 = true := by
  refine badR_big ?_
  rw [Lib.decode_at]
  unfold Lib.decodeN
  rw [if_neg h]
  repeat' split
  all_goals simp only
  all_goals omega
theorem get_bang (s : ByteArray) (i : Nat) (h : i < s.size) : s.data.toList[i]? = some (s.get! i) := by
  have h' : i < s.data.size := h
  rw [Array.getElem?_toList]
  show s.data[i]? = some (s.data[i]!)
  rw [getElem!_pos s.data i h', Array.getElem?_eq_getElem h']
theorem idxFuncFrom_ok (s : ByteArray) : ∀ (f pos : Nat), s.size ≤ pos + f → (0 ≤ Lib.idxFuncFrom badR true s f pos ↔ (s.data.toList.drop pos).all okC = false)
  | 0, pos, h => by
    have : s.data.toList.drop pos = [] := List.drop_eq_nil_of_le (by simpa using h)
    rw [this, Lib.idxFuncFrom]; simp
  | f + 1, pos, h => by
    rw [Lib.idxFuncFrom]
    by_cases hp : pos < s.size
    · rw [if_pos hp]
      have hd : s.data.toList.drop pos = s.get! pos :: s.data.toList.drop (pos + 1) := by
        have hl : pos < s.data.toList.length := hp
        have h1 := get_bang s pos hp
        rw [List.getElem?_eq_getElem hl] at h1
        rw [List.drop_eq_getElem_cons hl, Option.some.inj h1]
      rw [hd, List.all_cons]
      by_cases hb : (s.get! pos).toNat < 128
      · have he : Utf8.decode s pos = ((s.get! pos).toNat, 1) := by rw [Lib.decode_at, Lib.decodeN, if_pos hb]
        by_cases hk : okC (s.get! pos) = true
        · rw [if_neg (by rw [he]; show ¬ badR (s.get! pos).toNat = true; rw [badR_byte, hk]; decide), he, hk, Bool.true_and]
          exact idxFuncFrom_ok s f (pos + 1) (by omega)
        · have hk' : okC (s.get! pos) = false := by simpa using hk
          rw [if_pos (by rw [he]; show badR (s.get! pos).toNat = true; rw [badR_byte, hk']; decide), hk']; simp
      · rw [if_pos (decode_big s pos hb)]
        have : okC (s.get! pos) = false := by
          cases hk : okC (s.get! pos)
          · rfl
          · exact absurd (okC_small hk) hb
        rw [this]; simp
    · rw [if_neg hp, List.drop_eq_nil_of_le (by simpa using Nat.le_of_not_lt hp)]; simp
theorem idxFunc_ok (s : ByteArray) : decide (0 ≤ Lib.idxFunc badR true s) = !(s.data.toList.all okC) := by
  have := idxFuncFrom_ok s s.size 0 (by omega)
  rw [List.drop_zero] at this
  unfold Lib.idxFunc
  cases h : s.data.toList.all okC
  · rw [h] at this; simpa using this
  · rw [h] at this; simp only [Bool.not_true, decide_eq_false_iff_not]
    intro h'; exact absurd (this.1 h') (by simp)

def keySet : List UInt8 := [97, 98, 99, 100, 101, 102, 103, 104, 105, 106, 107, 108, 109, 110, 111, 112, 113, 114, 115, 116, 117, 118, 119, 120, 121, 122, 48, 49, 50, 51, 52, 53, 54, 55, 56, 57, 46, 95, 45]
theorem keySet_iff (c : UInt8) : keySet.contains c = okC c := by
  have h : ∀ n : Fin 256, keySet.contains (UInt8.ofNat n.val) = okC (UInt8.ofNat n.val) := by decide +kernel
  have := h ⟨c.toNat, c.toNat_lt⟩
  simpa using this
theorem trim_keys (l : List UInt8) : (Lib.trimS l keySet = []) ↔ l.all okC = true := by
  have e : (fun x => keySet.contains x) = okC := funext keySet_iff
  unfold Lib.trimS Lib.trimLeftS Lib.trimRightS
  rw [e]
  constructor
  · intro h
    have h1 := dropWhile_nil h
    rw [List.all_reverse] at h1
    have h2 := List.takeWhile_append_dropWhile (p := okC) (l := l.reverse)
    have : (l.reverse).all okC = true := by
      rw [← h2, List.all_append, h1]
      simp
    simpa using this
  · intro h
    have h1 : (l.reverse).all okC = true := by simpa using h
    rw [dropWhile_all h1]
    rfl

/-! ### paths -/
def compB (l : List UInt8) : Bool := decide (1 ≤ l.length) && decide (l.length ≤ 32) && !(l == [46]) && !(l == [46, 46]) && l.all okC
def elSt (l : List UInt8) : List (List UInt8) × List UInt8 := l.foldl (fun s c => if c = 47 then (s.1 ++ [s.2], []) else (s.1, s.2 ++ [c])) ([], [])
theorem elSt_snoc (l : List UInt8) (c : UInt8) : elSt (l ++ [c]) = if c = 47 then ((elSt l).1 ++ [(elSt l).2], []) else ((elSt l).1, (elSt l).2 ++ [c]) := by
  unfold elSt; rw [List.foldl_append]; rfl
def elAll (l : List UInt8) : List (List UInt8) := (elSt l).1 ++ [(elSt l).2]
def elemsL (l : List UInt8) : List (List UInt8) := if l = [] then [] else elAll l
theorem elFold (l : List UInt8) : ∀ (o : List (List UInt8)) (p : List UInt8), l.foldl (fun s c => if c = 47 then (s.1 ++ [s.2], []) else (s.1, s.2 ++ [c])) (o, p) =
    (o ++ (l.foldl (fun (s : List (List UInt8) × List UInt8) c => if c = 47 then (s.1 ++ [s.2], []) else (s.1, s.2 ++ [c])) ([], p)).1, (l.foldl (fun (s : List (List UInt8) × List UInt8) c => if c = 47 then (s.1 ++ [s.2], []) else (s.1, s.2 ++ [c])) ([], p)).2) := by
  induction l with
  | nil => intro o p; simp
  | cons c l ih =>
    intro o p
    simp only [List.foldl_cons]
    by_cases h : c = 47
    · simp only [h, if_true, List.nil_append]
      rw [ih (o ++ [p]) [], ih [p] []]
      simp
    · simp only [h, if_false]
      rw [ih o (p ++ [c])]
theorem elFree (a : List UInt8) (h : (47 : UInt8) ∉ a) : ∀ (o : List (List UInt8)) (p : List UInt8), a.foldl (fun s c => if c = 47 then (s.1 ++ [s.2], []) else (s.1, s.2 ++ [c])) (o, p) = (o, p ++ a) := by
  induction a with
  | nil => intro o p; simp
  | cons c a ih =>
    intro o p
    simp only [List.mem_cons, not_or] at h
    have hc : ¬ c = 47 := fun e => h.1 e.symm
    simp only [List.foldl_cons, hc, if_false]
    rw [ih h.2]; simp
theorem elAll_free {a : List UInt8} (h : (47 : UInt8) ∉ a) : elAll a = [a] := by
  unfold elAll elSt; rw [elFree a h]; simp
theorem elAll_cut {a r : List UInt8} (h : (47 : UInt8) ∉ a) : elAll (a ++ 47 :: r) = a :: elAll r := by
  have e : elSt (a ++ 47 :: r) = (a :: (elSt r).1, (elSt r).2) := by
    unfold elSt
    rw [List.foldl_append, elFree a h]
    simp only [List.foldl_cons, if_true, List.nil_append]
    rw [elFold r [a] []]; simp
  unfold elAll; rw [e]; simp
theorem elSt_len (l : List UInt8) : (elSt l).1.length ≤ l.length ∧ (elSt l).2.length ≤ l.length ∧ (∀ x ∈ (elSt l).1, x.length ≤ l.length) := by
  suffices h : ∀ n, ∀ l : List UInt8, l.length = n → (elSt l).1.length ≤ l.length ∧ (elSt l).2.length ≤ l.length ∧ (∀ x ∈ (elSt l).1, x.length ≤ l.length) from h _ l rfl
  intro n
  induction n with
  | zero => intro l h; rw [List.eq_nil_of_length_eq_zero h]; exact ⟨Nat.le_refl _, Nat.le_refl _, fun x hx => by cases hx⟩
  | succ n ih =>
    intro l h
    rcases List.eq_nil_or_concat l with rfl | ⟨l', c, rfl⟩
    · cases h
    · rw [List.concat_eq_append] at h ⊢
      obtain ⟨h1, h2, h3⟩ := ih l' (by simpa using h)
      rw [elSt_snoc]
      split
      · refine ⟨by simp; omega, by simp, fun x hx => ?_⟩
        rcases List.mem_append.1 hx with hx | hx
        · have := h3 x hx; simp; omega
        · simp only [List.mem_singleton] at hx; subst hx; simp; omega
      · refine ⟨by simp; omega, by simp; omega, fun x hx => ?_⟩
        have := h3 x hx; simp; omega

theorem occ_slash (l : List UInt8) (i : Nat) : Lib.occAt l [47] i = decide (l[i]? = some 47) := by
  unfold Lib.occAt
  cases hd : l.drop i with
  | nil =>
    have : l[i]? = none := by rw [List.getElem?_eq_none]; simpa using hd
    rw [this]; rfl
  | cons c r =>
    have : l[i]? = some c := by
      have := congrArg (fun x => x[0]?) hd
      simpa using this
    rw [this]
    simp only [List.isPrefixOf, Bool.and_true]
    by_cases h : c = 47
    · subst h; rfl
    · have h' : ¬ 47 = c := fun e => h e.symm
      simp [h, h']
theorem index_slash (l : List UInt8) : (Lib.index l [47] = -1 ∧ (47 : UInt8) ∉ l) ∨ (∃ a r, l = a ++ 47 :: r ∧ (47 : UInt8) ∉ a ∧ Lib.index l [47] = a.length) := by
  rcases Lib.index_spec l [47] with ⟨h, hn⟩ | ⟨i, h, hi, ho, hn⟩
  · refine .inl ⟨h, fun hm => ?_⟩
    obtain ⟨j, hj, he⟩ := List.getElem_of_mem hm
    have := hn j (by omega)
    rw [occ_slash, List.getElem?_eq_getElem hj, he] at this
    simp at this
  · right
    rw [occ_slash, decide_eq_true_eq] at ho
    obtain ⟨hlt, he⟩ := List.getElem?_eq_some_iff.1 ho
    refine ⟨l.take i, l.drop (i + 1), ?_, fun hm => ?_, ?_⟩
    · rw [← he, ← List.drop_eq_getElem_cons hlt, List.take_append_drop]
    · obtain ⟨j, hj, hej⟩ := List.getElem_of_mem hm
      rw [List.getElem_take] at hej
      have hj' : j < i := by rw [List.length_take] at hj; omega
      have := hn j hj'
      rw [occ_slash, List.getElem?_eq_getElem (by omega), hej] at this
      simp at this
    · rw [h, List.length_take]; congr 1; omega
theorem split_slash : ∀ (n : Nat) (l : List UInt8), l.length ≤ n → Lib.splitK [47] 0 (Lib.count l [47]) l = elAll l
  | n, l, hn => by
    rcases index_slash l with ⟨h, hm⟩ | ⟨a, r, hl, hm, h⟩
    · rw [Lib.count_miss h, Lib.splitK, elAll_free hm]
    · have hc := Lib.count_hit (s := l) (sub := [47]) (by simp) h
      rw [hc, Nat.add_comm, Lib.splitK]
      rw [if_neg (by rw [h]; simp), h]
      have hd : l.drop (a.length + ([47] : List UInt8).length) = r := by rw [hl]; simp [← List.drop_drop]
      have ht : l.take ((a.length : Int).toNat + 0) = a := by rw [hl]; simp
      rw [ht, Int.toNat_natCast, hd]
      match n, hn with
      | 0, hn => exfalso; rw [hl] at hn; simp at hn
      | n + 1, hn =>
        rw [split_slash n r (by rw [hl] at hn; simp at hn; omega)]
        conv => rhs; rw [hl, elAll_cut hm]
theorem count_elAll : ∀ (n : Nat) (l : List UInt8), l.length ≤ n → (elAll l).length = Lib.count l [47] + 1
  | n, l, hn => by
    rcases index_slash l with ⟨h, hm⟩ | ⟨a, r, hl, hm, h⟩
    · rw [Lib.count_miss h, elAll_free hm]; rfl
    · have hc := Lib.count_hit (s := l) (sub := [47]) (by simp) h
      have hd : l.drop (a.length + ([47] : List UInt8).length) = r := by rw [hl]; simp [← List.drop_drop]
      rw [hd] at hc
      rw [hc]
      match n, hn with
      | 0, hn => exfalso; rw [hl] at hn; simp at hn
      | n + 1, hn =>
        conv => lhs; rw [hl, elAll_cut hm]
        rw [List.length_cons, count_elAll n r (by rw [hl] at hn; simp at hn; omega)]; omega
def pathE (l : List UInt8) : Int := if 200 < l.length then 6 else if 8 < (elemsL l).length then 6 else if (elemsL l).all compB then 0 else 7

/-! ### dates -/
def dateB (l : List UInt8) : Bool := decide (1 ≤ l.length) && decide (l.length ≤ 10) && (decide (l.length ≤ 1) || decide (l.head? ≠ some 48)) && l.all isDig && decide (val l ≤ 1000000000)
end Go.Proofs.YtpkapcijgldhhaaGreatDoor
