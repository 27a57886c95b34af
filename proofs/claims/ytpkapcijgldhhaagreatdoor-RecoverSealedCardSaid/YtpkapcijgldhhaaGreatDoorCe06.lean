/-
  Entries as plain data: their check, their encoding, their decoding.
  The walks of pathname.Check and of its reference.
  The walks of the reference's check of a path.
  Rows of structs: slices of attributes and of extents in memory.
-/
import Derived.Test.YtpkapcijgldhhaaGreatDoorCe05
import Derived.Lib.Bytealg
import Derived.Deep.CutBlock
import Derived.Deep.CutRange
import Derived.Deep.MidRow
namespace Go.Proofs.YtpkapcijgldhhaaGreatDoor

/-- the first error of a row of n -/
def firstE (f : Nat → Int) : Nat → Int
  | 0 => 0
  | n + 1 => if firstE f n = 0 then f n else firstE f n
theorem firstE_stop {f : Nat → Int} {k : Nat} (h : firstE f k = 0) (hk : f k ≠ 0) : ∀ {n : Nat}, k < n → firstE f n = f k := by
  intro n hn
  induction n with
  | zero => omega
  | succ n ih =>
    rw [firstE]
    by_cases e : k = n
    · subst e; rw [if_pos h]
    · rw [ih (by omega), if_neg hk]
theorem firstE_next {f : Nat → Int} {k : Nat} (h : firstE f k = 0) (hk : f k = 0) : firstE f (k + 1) = 0 := by rw [firstE, if_pos h, hk]
theorem firstE_all {f : Nat → Int} : ∀ {n : Nat}, firstE f n = 0 → ∀ k, k < n → f k = 0 := by
  intro n
  induction n with
  | zero => intro _ k hk; omega
  | succ n ih =>
    intro h k hk
    rw [firstE] at h
    split at h
    · rename_i h0
      by_cases e : k = n
      · subst e; exact h
      · exact ih h0 k (by omega)
    · rename_i h0; exact absurd h h0
structure At where
  key : ByteArray
  value : ByteArray
structure Ex where
  s : Int
  o : Int
  l : Int
structure En where
  kind : Int
  path : ByteArray
  attrs : List At
  target : ByteArray
  size : Int
  digest : ByteArray
  exts : List Ex
def at0 : At := ⟨ByteArray.empty, ByteArray.empty⟩
def ex0 : Ex := ⟨0, 0, 0⟩
def en0 : En := ⟨0, ByteArray.empty, [], ByteArray.empty, 0, ByteArray.empty, []⟩
def atAt (A : List At) (i : Nat) : At := A.getD i at0
def exAt (X : List Ex) (i : Nat) : Ex := X.getD i ex0
theorem exAt_get {X : List Ex} {i : Nat} (h : i < X.length) : exAt X i = X[i] := by
  rw [exAt, List.getD_eq_getElem?_getD, List.getElem?_eq_getElem h]; rfl

/-! ### the check -/
def keyB (l : List UInt8) : Bool := decide (1 ≤ l.length) && decide (l.length ≤ 32) && l.all okC
def attrOne (k v : ByteArray) : Int := if keyB k.data.toList = false then 7 else if 64 < v.size then 6 else 0
def attrTwo (p k : ByteArray) : Int := if Lib.compareBytes p.data.toList k.data.toList = 0 then 8 else if Lib.compareBytes p.data.toList k.data.toList = 1 then 14 else 0
def attrE (A : List At) (i : Nat) : Int :=
  if attrOne (atAt A i).key (atAt A i).value = 0 then (if i = 0 then 0 else attrTwo (atAt A (i - 1)).key (atAt A i).key) else attrOne (atAt A i).key (atAt A i).value
def attrsE (A : List At) : Int := if 16 < A.length then 6 else firstE (attrE A) A.length
def nameL (kind : Int) : List UInt8 :=
  if kind = 1 then [102, 105, 108, 101] else if kind = 2 then [100, 105, 114] else if kind = 3 then [108, 105, 110, 107] else if kind = 4 then [114, 101, 109, 111, 118, 101]
  else if kind = 5 then [104, 111, 108, 100] else if kind = 6 then [114, 101, 108, 101, 97, 115, 101] else []
def targetB (kind : Int) (t : List UInt8) : Bool := if kind = 3 then decide (1 ≤ t.length) && decide (t.length ≤ 200) else if kind = 5 then dateB t else t.isEmpty
def exOk (x : Ex) : Bool := !(decide (x.s < 0) || decide (255 < x.s) || decide (x.o < 0) || decide (2147483647 < x.o) || decide (x.l < 1) || decide (65536 < x.l) || (decide (x.s = 0) && decide (x.o ≠ 0)))
def exE (kind : Int) (X : List Ex) (i : Nat) : Int := if kind = 1 then (if exOk (exAt X i) then 0 else 2) else 1
def exSum (X : List Ex) : Int := (X.map Ex.l).sum
def sizeE (kind size : Int) (d : Nat) : Int :=
  if size < 0 ∨ (if kind = 1 then 65536 else 0) < size then 2 else if d ≠ (if kind = 1 then 32 else 0) then 1 else 0
def contE (kind size : Int) (d : Nat) (X : List Ex) : Int :=
  if sizeE kind size d = 0 then (if firstE (exE kind X) X.length = 0 then (if exSum X = size then 0 else 1) else firstE (exE kind X) X.length) else sizeE kind size d
def chkE (e : En) : Int :=
  if e.kind < 1 ∨ 6 < e.kind then 10
  else if pathE e.path.data.toList = 0 then
    (if e.path.data.toList = [] ∧ e.kind < 5 then 1
     else if attrsE e.attrs = 0 then (if (0 < e.attrs.length ∧ 3 < e.kind) ∨ targetB e.kind e.target.data.toList = false then 1 else contE e.kind e.size e.digest.size e.exts)
     else attrsE e.attrs)
  else pathE e.path.data.toList

/-! ### the encoding -/
def atL (a : At) : List UInt8 := strL a.key.data.toList ++ strL a.value.data.toList
def exL (x : Ex) : List UInt8 := numL x.s ++ numL x.o ++ numL x.l
def headL (e : En) : List UInt8 := strL (nameL e.kind) ++ strL e.path.data.toList ++ numL e.attrs.length ++ e.attrs.flatMap atL ++ strL e.target.data.toList
def bodyL (e : En) : List UInt8 := strL (headL e) ++ numL e.size ++ strL e.digest.data.toList ++ numL e.exts.length ++ e.exts.flatMap exL

/-! ### the decoding: up to the first error -/
def txt (l : List UInt8) (a : Int) : Except Int (List UInt8 × Int) := if (rdStr l a).2.2 = 0 then .ok ((rdStr l a).1, (rdStr l a).2.1) else .error (rdStr l a).2.2
def nmb (l : List UInt8) (a : Int) : Except Int (Int × Int) := if (rdNum l a).2.2 = 0 then .ok ((rdNum l a).1, (rdNum l a).2.1) else .error (rdNum l a).2.2
def cnt (most : Int) (l : List UInt8) (a : Int) : Except Int (Int × Int) := do
  let (n, b) ← nmb l a
  if n < 0 ∨ most < n then .error 2 else .ok (n, b)
def bA' (l : List UInt8) : ByteArray := ⟨l.toArray⟩
def atR (l : List UInt8) (a : Int) : Except Int (At × Int) := do
  let (k, b) ← txt l a
  let (v, c) ← txt l b
  .ok (⟨bA' k, bA' v⟩, c)
def exR (l : List UInt8) (a : Int) : Except Int (Ex × Int) := do
  let (s, b) ← nmb l a
  let (o, c) ← nmb l b
  let (n, d) ← nmb l c
  .ok (⟨s, o, n⟩, d)
def rowR {α : Type} (f : Int → Except Int (α × Int)) (a : Int) : Nat → Except Int (List α × Int)
  | 0 => .ok ([], a)
  | k + 1 => do
    let (A, b) ← rowR f a k
    let (x, c) ← f b
    .ok (A ++ [x], c)
def kindOf (l : List UInt8) : Int :=
  if l = nameL 1 then 1 else if l = nameL 2 then 2 else if l = nameL 3 then 3 else if l = nameL 4 then 4 else if l = nameL 5 then 5 else if l = nameL 6 then 6 else 0
structure Hd where
  kind : Int
  path : ByteArray
  attrs : List At
  target : ByteArray
def headR (l : List UInt8) : Except Int Hd := do
  let (name, a) ← txt l 0
  if kindOf name = 0 then .error 3 else
  let (p, b) ← txt l a
  let (n, c) ← cnt 400 l b
  let (A, d) ← rowR (atR l) c n.toNat
  let (t, e) ← txt l d
  if e = l.length then .ok ⟨kindOf name, bA' p, A, bA' t⟩ else .error 3
def decR (l : List UInt8) (a : Int) : Except Int (En × Int) := do
  let (h, b) ← txt l a
  let x ← headR h
  let (z, c) ← nmb l b
  let (g, d) ← txt l c
  let (n, e) ← cnt 65536 l d
  let (X, f) ← rowR (exR l) e n.toNat
  let y : En := ⟨x.kind, x.path, x.attrs, x.target, z, bA' g, X⟩
  if chkE y = 0 then .ok (y, f) else .error (chkE y)
end Go.Proofs.YtpkapcijgldhhaaGreatDoor

namespace Go.Proofs.YtpkapcijgldhhaaGreatDoor
open Go.RowKit Go.Shelf

/-- the variable internal/bytealg.MaxLen holds some int -/
def HasMax (w : World) : Prop := ∃ m, w.cell? ⟨0, 0, none⟩ = some (.int .i64 m)
theorem HasMax.below {w w' : World} (h : HasMax w) (hb : Below w.heap.size w w') : HasMax w' := by
  obtain ⟨m, hm⟩ := h
  exact ⟨m, (hb.cell (World.block_lt_of_cell? w _ hm)).trans hm⟩
def BoolS (b : Bool) (w : World) (e : Ending) (w' : World) : Prop := e = .returned (.bool b) ∧ w = w'
def IntP (x : Int) (w : World) (e : Ending) (w' : World) : Prop := e = .returned (.int .i64 x) ∧ Below w.heap.size w w'
theorem allowed_any (r : Nat) (w : World) : Calls Tryz.prog 234 #[.int .i32 (r : Int)] w (BoolS (!badR r) w) := by
  have hr : (!badR r) = (decide (97 ≤ r ∧ r ≤ 122) || decide (48 ≤ r ∧ r ≤ 57) || decide (r = 46) || decide (r = 95) || decide (r = 45)) := by simp [badR]
  have HR := Lib.hid hr; clear hr
  go_enter Tryz.func234, Tryz.ntmps234
  go_wp2_with fail
  all_goals
    go_ret
    refine ⟨ret_bool ?_, rfl⟩
    rw [HR.out, Bool.eq_iff_iff]
    simp
    omega
theorem comp1_any (r : Nat) (w : World) : Calls Tryz.prog 233 #[.int .i32 (r : Int)] w (BoolS (badR r) w) := by
  obtain ⟨b, hb⟩ : ∃ b, badR r = b := ⟨_, rfl⟩
  have HA := Lib.hid (fun w => allowed_any r w)
  rw [hb] at HA ⊢
  go_enter Tryz.func233, Tryz.ntmps233
  go_wp2_with fail
  refine (HA.out _).mono ?_
  rintro e w' ⟨rfl, rfl⟩
  go_wp2_with fail
  go_ret
  exact ⟨by simp, rfl⟩
theorem comp1_at (w : World) : PredAt Tryz.prog 233 #[] encR badR w := fun W r _ => by
  unfold FnGives
  refine (comp1_any r W).mono ?_
  rintro e w' ⟨rfl, rfl⟩
  exact ⟨rfl, 0, rfl⟩
theorem bad_any (s : ByteArray) (w : World) : Calls Tryz.prog 232 #[.string s, .func (.func 233) #[] #[]] w (BoolP (!(s.data.toList.all okC)) w) := by
  refine (Tryz.strings_ContainsFunc 233 #[] (enters_of Tryz.func233 (by kernel_rfl) rfl) badR s w (comp1_at w)).mono ?_
  rintro e w' ⟨rfl, hb⟩
  exact ⟨by rw [idxFunc_ok], hb⟩
/-- two strings of the walk: equal or not -/
theorem str_eq (s t : ByteArray) : (s.toList == t.toList) = decide (s.data.toList = t.data.toList) := by
  rw [ByteArray.toList_eq, ByteArray.toList_eq, Bool.eq_iff_iff, beq_iff_eq, decide_eq_true_eq]
theorem component_any (s : ByteArray) (w : World) (hs : s.size ≤ 140737488355328) : Calls Tryz.prog 213 #[.string s] w (BoolP (compB s.data.toList) w) := by
  have HB := Lib.hid (fun w => bad_any s w)
  have HC : Hid (compB s.data.toList = (decide (1 ≤ s.size) && decide (s.size ≤ 32) && !(s.data.toList == [46]) && !(s.data.toList == [46, 46]) && s.data.toList.all okC)) := rfl
  generalize s.data.toList.all okC = b at HB HC
  go_enter Tryz.func213, Tryz.ntmps213
  go_wp2_with (go_at_call 232; refine (HB.out _).mono ?_; rintro e w' ⟨rfl, hb⟩)
  all_goals
    go_ret
    refine ⟨ret_bool ?_, by first | exact below_refl _ | assumption⟩
    rw [HC.out]
    clear HB HC
    simp_all [ByteArray.toList_eq]
    try first
      | omega
      | (rw [decide_eq_true (show 1 ≤ s.size by omega), decide_eq_true (show s.size ≤ 32 by omega)]; simp)
theorem check1_any (s : ByteArray) (w : World) (hs : s.size ≤ 140737488355328) : Calls Tryz.prog 212 #[.string s] w (BoolP (!compB s.data.toList) w) := by
  have HA := Lib.hid (fun w => component_any s w hs)
  generalize compB s.data.toList = b at *
  go_enter Tryz.func212, Tryz.ntmps212
  go_wp2_with fail
  refine (HA.out _).mono ?_
  rintro e w' ⟨rfl, hb⟩
  go_wp2_with fail
  go_ret
  exact ⟨rfl, hb⟩
def IdxP (l : List ByteArray) (w : World) (e : Ending) (w' : World) : Prop := ∃ n : Int, e = .returned (.int .i64 n) ∧ Hid (decide (0 ≤ n) = !(l.all fun s => compB s.data.toList)) ∧ Below w.heap.size w w'
theorem all_take (l : List ByteArray) (k : Nat) (h : k < l.length) : ((l.take (k + 1)).all fun s => compB s.data.toList) = (((l.take k).all fun s => compB s.data.toList) && compB l[k].data.toList) := by
  rw [List.take_succ_eq_append_getElem h, List.all_append]; simp
theorem all_hit (l : List ByteArray) (k : Nat) (h : k < l.length) (hb : compB l[k].data.toList = false) : (l.all fun s => compB s.data.toList) = false := by
  rw [List.all_eq_false]
  exact ⟨l[k], List.getElem_mem h, by rw [hb]; decide⟩
set_option maxHeartbeats 1000000 in
theorem indexFunc_any (v : Value) (l : List ByteArray) (w : World) (hl : Strs w v l) (hs : ∀ s ∈ l, s.size ≤ 140737488355328) :
    Calls Tryz.prog 231 #[v, .func (.func 212) #[] #[]] w (IdxP l w) := by
  obtain ⟨hla, ha'⟩ := row_cases hl
  simp only [List.length_map] at hla ha'
  unfold maxLen at hla
  have eg := enters_of Tryz.func212 (by kernel_rfl) rfl
  rcases ha' with ⟨h0', aa, ca, rfl, _⟩ | ⟨h0', ba, oa, ca, rfl, hca, hca2, hcella⟩
  · have hla0 : l = [] := by simpa using h0'
    subst hla0
    go_enter Tryz.func231, Tryz.ntmps231
    go_wp2_with fail
    refine wp_loop_rounds 1 ?_; rw [rounds_succ]
    go_wp2_with fail
    go_ret
    exact ⟨_, rfl, rfl, below_refl _⟩
  · have HS := Lib.hid hs; clear hs
    have Hcella := Lib.hid hcella; clear hcella
    go_enter Tryz.func231, Tryz.ntmps231
    go_wp2_with fail
    go_loopw [8] (fun i wr => ∃ k : Nat, k ≤ l.length ∧ i = .int .i64 k ∧ Hid (((l.take k).all fun s => compB s.data.toList) = true) ∧ Below w.heap.size w wr) (fun i _ => l.length - (intOf i).toNat)
    case atStart => exact ⟨0, by omega, rfl, rfl, below_refl _⟩
    case round =>
      obtain ⟨k, hk, rfl, hA, hbw⟩ := hrel
      by_cases hlt : k < l.length
      · have c1 : wr.cell? ⟨ba, oa + k, none⟩ = some (.string l[k]) := by
          have := Hcella.out k (.string l[k]) (by simp [hlt])
          rw [hbw.cell (World.block_lt_of_cell? w _ this)]; exact this
        have H1 := Lib.hid (all_take l k hlt)
        have H2 := Lib.hid (all_hit l k hlt)
        have hxs := HS.out l[k] (List.getElem_mem hlt)
        generalize l[k] = x at *
        have HX := Lib.hid (fun w => check1_any x w hxs)
        by_cases hc : compB x.data.toList = true
        · rw [hc] at HX H1
          have HC := Lib.hid hc; clear hc H2
          go_wp2_with fail
          refine (HX.out _).mono ?_
          rintro e w1 ⟨rfl, hb1⟩
          go_wp2_with fail
          go_roundw
          case rel => exact ⟨k + 1, by omega, by go_num, by rw [Hid, H1.out, hA.out]; rfl, step2 hbw hb1⟩
          case measure => simp [intOf]; omega
        · have hc' : compB x.data.toList = false := by simpa using hc
          have H3 := Lib.hid (H2.out hc')
          rw [hc'] at HX
          clear hc hc' H1 H2
          go_wp2_with fail
          refine (HX.out _).mono ?_
          rintro e w1 ⟨rfl, hb1⟩
          go_wp2_with fail
          go_ret
          exact ⟨_, rfl, by rw [Hid, H3.out]; simp, step2 hbw hb1⟩
      · have ht2 : l.take k = l := List.take_of_length_le (by omega)
        rw [ht2] at hA
        have hA2 : Hid (decide ((0 : Int) ≤ -1) = !(l.all fun s => compB s.data.toList)) := by rw [Hid, hA.out]; rfl
        clear ht2
        go_wp2_with fail
        go_ret
        exact ⟨_, rfl, hA2, hbw⟩
theorem containsFunc_any (v : Value) (l : List ByteArray) (w : World) (hl : Strs w v l) (hs : ∀ s ∈ l, s.size ≤ 140737488355328) :
    Calls Tryz.prog 211 #[v, .func (.func 212) #[] #[]] w (BoolP (!(l.all fun s => compB s.data.toList)) w) := by
  have HI := Lib.hid (indexFunc_any v l w hl hs)
  clear hl hs
  go_enter Tryz.func211, Tryz.ntmps211
  go_wp2_with fail
  refine HI.out.mono ?_
  rintro e w' ⟨n, rfl, hn, hb⟩
  go_wp2_with fail
  go_ret
  exact ⟨ret_bool hn.out, hb⟩

/-! ### elements -/
theorem splitB_elems (s : ByteArray) : (Lib.splitB ⟨#[47]⟩ 0 (Lib.countB s ⟨#[47]⟩) s).map (·.data.toList) = elAll s.data.toList := by
  rw [Lib.splitB_data]
  exact split_slash _ _ (Nat.le_refl _)
theorem splitB_len (s : ByteArray) : (Lib.splitB ⟨#[47]⟩ 0 (Lib.countB s ⟨#[47]⟩) s).length = Lib.countB s ⟨#[47]⟩ + 1 := by
  have := congrArg List.length (splitB_elems s)
  rw [List.length_map, count_elAll _ _ (Nat.le_refl _)] at this
  exact this
def ElemsP (l : List UInt8) (w : World) (e : Ending) (w' : World) : Prop :=
  ∃ (v : Value) (L : List ByteArray), e = .returned v ∧ Strs w' v L ∧ Hid (L.map (·.data.toList) = elemsL l) ∧ (∃ a c, v = .slice a L.length c) ∧ Below w.heap.size w w'
theorem strs_new (w : World) (L : List ByteArray) (T : TypeId) (h : L.length ≤ maxLen) : Strs (w.alloc (.cells (L.map Value.string).toArray T)) (.slice (some ⟨w.heap.size, 0, none⟩) L.length L.length) L := by
  refine ⟨some ⟨w.heap.size, 0, none⟩, L.length, by rw [List.length_map], by rw [List.length_map]; exact Nat.le_refl _, h, ?_⟩
  by_cases h0 : L = []
  · subst h0; exact .inl ⟨rfl, fun e => by cases e⟩
  · refine .inr ⟨w.heap.size, 0, rfl, fun i u hu => ?_⟩
    rw [alloc_new_cell, Nat.zero_add]; simpa using hu
theorem elements_any (s : ByteArray) (w : World) (hm : HasMax w) (hs : s.size ≤ 1000000) : Calls Tryz.prog 210 #[.string s] w (ElemsP s.data.toList w) := by
  by_cases h0 : s.data.toList = []
  · have he : s.toList.isEmpty = true := by rw [isEmpty_list, h0]; rfl
    have H0 := Lib.hid h0; clear h0
    go_enter Tryz.func210, Tryz.ntmps210
    go_wp2_with fail
    go_ret
    exact ⟨_, [], rfl, Row.nil _, by rw [Hid, H0.out]; rfl, ⟨_, _, rfl⟩, below_refl _⟩
  · have he : s.toList.isEmpty = false := by rw [isEmpty_list]; simpa using h0
    have H0 := Lib.hid h0; clear h0
    obtain ⟨m, hm⟩ := hm
    have HS := Lib.hid (fun w (hm : w.cell? ⟨0, 0, none⟩ = some (.int .i64 m)) => Any.strings_Split { Tryz.laysM146 with } Tryz.laysM146.i9 s ⟨#[47]⟩ m w (by omega) hm (by decide))
    have hc : Lib.countB s ⟨#[47]⟩ ≤ s.size + 1 := Lib.count_le _ _
    go_enter Tryz.func210, Tryz.ntmps210
    go_wp2_with fail
    refine (HS.out _ hm).mono ?_
    rintro e w' ⟨rfl, rfl⟩
    have hl := Lib.hid (splitB_len s)
    have hd := Lib.hid (splitB_elems s)
    generalize Lib.countB s ⟨#[47]⟩ = n at *
    generalize Lib.splitB ⟨#[47]⟩ 0 n s = L at *
    have hrow := Lib.hid (strs_new w L 9)
    go_wp2_with fail
    go_ret
    refine ⟨.slice (some ⟨w.heap.size, 0, none⟩) (n + 1) (n + 1), L, rfl, ?_, ?_, ⟨_, _, by rw [hl.out]⟩, (below_refl _).alloc (Nat.le_refl _) _⟩
    · rw [← hl.out]; exact hrow.out (by rw [hl.out]; unfold maxLen; omega)
    · rw [Hid, hd.out, elemsL, if_neg H0.out]
theorem strs_size {l : List UInt8} {L : List ByteArray} (h : L.map (·.data.toList) = elemsL l) (s : ByteArray) (hs : s ∈ L) : s.size ≤ l.length := by
  have hm : s.data.toList ∈ elemsL l := by rw [← h]; exact List.mem_map_of_mem hs
  unfold elemsL at hm
  split at hm
  · cases hm
  · obtain ⟨_, h2, h3⟩ := elSt_len l
    rcases List.mem_append.1 hm with hm | hm
    · exact h3 _ hm
    · rw [List.mem_singleton] at hm
      rw [← toList_size, hm]; exact h2
theorem elemsL_len (l : List UInt8) : (elemsL l).length ≤ l.length + 1 := by
  unfold elemsL
  split
  · simp
  · have := (elSt_len l).1
    simp [elAll]; omega
theorem all_map {l : List UInt8} {L : List ByteArray} (h : L.map (·.data.toList) = elemsL l) : (L.all fun s => compB s.data.toList) = (elemsL l).all compB := by
  rw [← h, List.all_map]; rfl
set_option maxHeartbeats 1000000 in
theorem pathCheck_any (s : ByteArray) (w : World) (hm : HasMax w) (hs : s.size ≤ 1000000) : Calls Tryz.prog 182 #[.string s] w (IntP (pathE s.data.toList) w) := by
  have HP : Hid (pathE s.data.toList = if 200 < s.size then 6 else if 8 < (elemsL s.data.toList).length then 6 else if (elemsL s.data.toList).all compB then 0 else 7) := rfl
  have hle := elemsL_len s.data.toList
  rw [toList_size] at hle
  have HE := Lib.hid (elements_any s w hm hs)
  go_enter Tryz.func182, Tryz.ntmps182
  go_wp2_with fail
  refine HE.out.mono ?_
  rintro e w1 ⟨v, L, rfl, hL, hmap, ⟨a, c, rfl⟩, hb1⟩
  have hlen : L.length = (elemsL s.data.toList).length := by rw [← hmap.out, List.length_map]
  have HA := Lib.hid (all_map hmap.out)
  have HC := Lib.hid (containsFunc_any _ L w1 hL (fun x hx => by have := strs_size hmap.out x hx; rw [toList_size] at this; omega))
  rw [HA.out] at HC
  generalize (elemsL s.data.toList).all compB = b at *
  rw [← hlen] at HP hle
  clear hlen HA hmap hL HE hm
  generalize L.length = n at *
  by_cases h1 : 200 < s.size
  · rw [if_pos h1] at HP
    go_wp2_with fail
    go_ret
    exact ⟨ret_int HP.out.symm, hb1⟩
  by_cases h2 : 8 < n
  · rw [if_neg h1, if_pos h2] at HP
    go_wp2_with fail
    go_ret
    exact ⟨ret_int HP.out.symm, hb1⟩
  rw [if_neg h1, if_neg h2] at HP
  cases b
  · rw [if_neg (by decide)] at HP
    go_wp2_with fail
    refine HC.out.mono ?_
    rintro e w2 ⟨rfl, hb2⟩
    go_wp2_with fail
    go_ret
    exact ⟨ret_int HP.out.symm, step2 hb1 hb2⟩
  · rw [if_pos rfl] at HP
    go_wp2_with fail
    refine HC.out.mono ?_
    rintro e w2 ⟨rfl, hb2⟩
    go_wp2_with fail
    go_ret
    exact ⟨ret_int HP.out.symm, step2 hb1 hb2⟩
end Go.Proofs.YtpkapcijgldhhaaGreatDoor

namespace Go.Proofs.YtpkapcijgldhhaaGreatDoor
open Go.RowKit Go.Shelf
/-- the state of Elements: the parts that are closed, and the open one -/
def ElSt (l : List UInt8) (L : List ByteArray) (p : ByteArray) : Prop := L.map (·.data.toList) = (elSt l).1 ∧ p.data.toList = (elSt l).2
theorem ElSt.other {l : List UInt8} {L : List ByteArray} {p q : ByteArray} {c : UInt8} (h : ElSt l L p) (hc : ¬ c = 47) (hq : q.data.toList = [c]) : ElSt (l ++ [c]) L (p ++ q) := by
  unfold ElSt
  rw [elSt_snoc, if_neg hc, append_list, hq, h.2]
  exact ⟨h.1, rfl⟩
theorem ElSt.len {l : List UInt8} {L : List ByteArray} {p : ByteArray} (h : ElSt l L p) : L.length ≤ l.length ∧ p.size ≤ l.length := by
  obtain ⟨h1, h2, _⟩ := elSt_len l
  refine ⟨?_, ?_⟩
  · have := congrArg List.length h.1; rw [List.length_map] at this; omega
  · rw [← toList_size, h.2]; exact h2
theorem ElSt.all {l : List UInt8} {L : List ByteArray} {p : ByteArray} (h : ElSt l L p) : (L ++ [p]).map (·.data.toList) = elAll l := by
  rw [List.map_append, h.1, List.map_singleton, h.2]; rfl
end Go.Proofs.YtpkapcijgldhhaaGreatDoor

namespace Go.Proofs.YtpkapcijgldhhaaGreatDoor
open Go.RowKit Go.Shelf

section
variable {α : Type}
/-- n cells for each element: element i begins at o + i * n -/
def GAt (n : Nat) (f : α → List Value) (d : α) (w : World) (b o : Nat) (L : List α) : Prop := ∀ i, i < L.length → w.rangeAt b (o + i * n) (f (L.getD i d))
theorem GAt.below {n m : Nat} {f : α → List Value} {d : α} {A B : World} {b o : Nat} {L : List α} (h : GAt n f d A b o L) (hb : Below m A B) (hm : b < m) : GAt n f d B b o L :=
  fun i hi j v hv => (hb.cell (p := ⟨b, o + i * n + j, none⟩) hm).trans (h i hi j v hv)
def GRow (n : Nat) (f : α → List Value) (d : α) (w : World) (v : Value) (L : List α) : Prop :=
  L.length ≤ maxLen ∧ ((L = [] ∧ ∃ a cap, v = .slice a 0 cap ∧ (a = none → cap = 0)) ∨ (0 < L.length ∧ ∃ b o cap, v = .slice (some ⟨b, o, none⟩) L.length cap ∧ L.length ≤ cap ∧ cap ≤ maxLen ∧ b < w.heap.size ∧ GAt n f d w b o L))
theorem GRow.below {n : Nat} {f : α → List Value} {d : α} {w w' : World} {v : Value} {L : List α} (h : GRow n f d w v L) (hb : Below w.heap.size w w') : GRow n f d w' v L := by
  obtain ⟨h1, h2⟩ := h
  refine ⟨h1, ?_⟩
  rcases h2 with h2 | ⟨h2, b, o, cap, h3, h4, h5, h6, h7⟩
  · exact .inl h2
  · exact .inr ⟨h2, b, o, cap, h3, h4, h5, Nat.lt_of_lt_of_le h6 hb.size, h7.below hb h6⟩
theorem GRow.nil {n : Nat} {f : α → List Value} {d : α} (w : World) : GRow n f d w (.slice none 0 0) [] := ⟨Nat.zero_le _, .inl ⟨rfl, none, 0, rfl, fun _ => rfl⟩⟩
theorem GRow.form {n : Nat} {f : α → List Value} {d : α} {w : World} {v : Value} {L : List α} (h : GRow n f d w v L) : ∃ a cap, v = .slice a L.length cap := by
  rcases h.2 with ⟨rfl, a, cap, h, _⟩ | ⟨_, b, o, cap, h, _⟩
  · exact ⟨a, cap, h⟩
  · exact ⟨_, cap, h⟩
/-- a slice of the call's own -/
def OwnG (base : Nat) (T : TypeId) (n : Nat) (f : α → List Value) (w : World) (v : Value) (L : List α) : Prop := w.ownsRow base T n v L.length (L.flatMap f)
theorem gflat_get {n : Nat} {f : α → List Value} {d : α} (hf : ∀ x, (f x).length = n) (L : List α) : ∀ i j v, i < L.length → (f (L.getD i d))[j]? = some v → (L.flatMap f)[i * n + j]? = some v := by
  induction L with
  | nil => intro i j v h; exact absurd h (Nat.not_lt_zero _)
  | cons c L ih =>
    intro i j v hi hv
    rw [List.flatMap_cons]
    cases i with
    | zero =>
      have hj : j < n := by have := (List.getElem?_eq_some_iff.1 hv).1; rwa [hf] at this
      rw [List.getElem?_append_left (by rw [hf]; omega), Nat.zero_mul, Nat.zero_add]
      simpa using hv
    | succ i =>
      have e : (i + 1) * n + j = n + (i * n + j) := by rw [Nat.succ_mul]; omega
      rw [List.getElem?_append_right (by rw [hf]; omega), hf, e, Nat.add_sub_cancel_left]
      exact ih i j v (by simpa using hi) (by simpa using hv)
theorem OwnG.row {base : Nat} {T : TypeId} {n : Nat} {f : α → List Value} {d : α} (hf : ∀ x, (f x).length = n) {w : World} {v : Value} {L : List α} (h : OwnG base T n f w v L) : GRow n f d w v L := by
  have h' := h
  rcases h.2 with ⟨rfl, h0⟩ | ⟨g, cap, cur, rfl, _, hg, hl, hm, hcs, htk⟩
  · have : L = [] := List.eq_nil_of_length_eq_zero h0
    subst this; exact GRow.nil w
  · by_cases h0 : 0 < L.length
    · refine ⟨Nat.le_trans hl hm, .inr ⟨h0, g, 0, cap, rfl, hl, hm, (Array.getElem?_eq_some_iff.1 hg).1, fun i hi j u hu => ?_⟩⟩
      have := World.ownsRow.cells h' (g := g) rfl (i * n + j) u (gflat_get hf L i j u hi hu)
      rw [Addr.add_mid, Nat.zero_add] at this
      rw [Nat.zero_add]; exact this
    · have : L = [] := List.eq_nil_of_length_eq_zero (by omega)
      subst this
      exact ⟨Nat.zero_le _, .inl ⟨rfl, _, cap, rfl, fun e => by cases e⟩⟩
end

/-! attributes -/
def At.vals (x : At) : List Value := [.string x.key, .string x.value]
def AtAt (w : World) (b o : Nat) (A : List At) : Prop := GAt 2 At.vals at0 w b o A
def AtRow (w : World) (v : Value) (A : List At) : Prop := GRow 2 At.vals at0 w v A
theorem atCells {w : World} {b o : Nat} {A : List At} (h : AtAt w b o A) {i : Nat} (hi : i < A.length) :
    w.cell? ⟨b, o + i * 2, none⟩ = some (.string (atAt A i).key) ∧ w.cell? ⟨b, o + i * 2 + 1, none⟩ = some (.string (atAt A i).value) := ⟨h i hi 0 _ rfl, h i hi 1 _ rfl⟩
structure AtOk (x : At) : Prop where
  key : x.key.size ≤ 1000000
  value : x.value.size ≤ 1000000
/-! extents -/
def Ex.vals (x : Ex) : List Value := [.int .i64 x.s, .int .i64 x.o, .int .i64 x.l]
def ExAt (w : World) (b o : Nat) (X : List Ex) : Prop := GAt 3 Ex.vals ex0 w b o X
def ExRow (w : World) (v : Value) (X : List Ex) : Prop := GRow 3 Ex.vals ex0 w v X
theorem exCells {w : World} {b o : Nat} {X : List Ex} (h : ExAt w b o X) {i : Nat} (hi : i < X.length) :
    w.cell? ⟨b, o + i * 3, none⟩ = some (.int .i64 (exAt X i).s) ∧ w.cell? ⟨b, o + i * 3 + 1, none⟩ = some (.int .i64 (exAt X i).o) ∧ w.cell? ⟨b, o + i * 3 + 2, none⟩ = some (.int .i64 (exAt X i).l) := ⟨h i hi 0 _ rfl, h i hi 1 _ rfl, h i hi 2 _ rfl⟩
structure ExOk (x : Ex) : Prop where
  s : -9223372036854775808 ≤ x.s ∧ x.s ≤ 9223372036854775807
  o : -9223372036854775808 ≤ x.o ∧ x.o ≤ 9223372036854775807
  l : -9223372036854775808 ≤ x.l ∧ x.l ≤ 9223372036854775807
/-! entries -/
structure EnOk (e : En) : Prop where
  kind : -9223372036854775808 ≤ e.kind ∧ e.kind ≤ 9223372036854775807
  path : e.path.size ≤ 1000000
  attrs : e.attrs.length ≤ 1000000 ∧ ∀ i, AtOk (atAt e.attrs i)
  target : e.target.size ≤ 1000000
  size : -9223372036854775808 ≤ e.size ∧ e.size ≤ 9223372036854775807
  digest : e.digest.size ≤ 1000000
  exts : e.exts.length ≤ 1000000 ∧ ∀ i, ExOk (exAt e.exts i)
def En.vals (e : En) (va vx : Value) : List Value := [.int .i64 e.kind, .string e.path, va, .string e.target, .int .i64 e.size, .string e.digest, vx]
/-- the value of an entry, as a struct -/
def enV (e : En) (va vx : Value) : Value := .agg #[.int .i64 e.kind, .string e.path, va, .string e.target, .int .i64 e.size, .string e.digest, vx]
/-- a block that holds given cells of type T -/
def Box (W : World) (B : Nat) (cs : List Value) (T : TypeId) : Prop := W.heap[B]? = some (.cells cs.toArray T (0, 0))
theorem Box.lt {W : World} {B : Nat} {cs : List Value} {T : TypeId} (h : Box W B cs T) : B < W.heap.size := (Array.getElem?_eq_some_iff.1 h).1
theorem Box.new (W : World) (cs : List Value) (T : TypeId) : Box (W.alloc (.cells cs.toArray T)) W.heap.size cs T := heap_alloc_new W _
theorem Box.below {W W' : World} {B : Nat} {cs : List Value} {T : TypeId} (h : Box W B cs T) (hb : Below W.heap.size W W') : Box W' B cs T := (hb.block B h.lt).trans h
theorem Box.below' {W W' : World} {B n : Nat} {cs : List Value} {T : TypeId} (h : Box W B cs T) (hb : Below n W W') (hn : B < n) : Box W' B cs T := (hb.block B hn).trans h
theorem Box.cell {W : World} {B : Nat} {cs : List Value} {T : TypeId} (h : Box W B cs T) (j : Nat) : W.cell? ⟨B, j, none⟩ = cs[j]? := by
  unfold World.cell?
  rw [show W.heap[B]? = _ from h]; simp
theorem Box.frozen {W : World} {B : Nat} {cs : List Value} {T : TypeId} (h : Box W B cs T) (j : Nat) : W.frozen? ⟨B, j, none⟩ = false := by
  unfold World.frozen?
  rw [show W.heap[B]? = _ from h]; simp
end Go.Proofs.YtpkapcijgldhhaaGreatDoor
