/-
  The walks of pathname.Check and of its reference.
  The walks of the reference's check of a path.
-/
import Derived.Test.YtpkapcijgldhhaaGreatDoorCa05
import Derived.Test.YtpkapcijgldhhaaGreatDoorCa06
import Derived.Deep.CutBlock
import Derived.Deep.CutRange
namespace Go.Proofs.YtpkapcijgldhhaaGreatDoor
open Go.RowKit Go.Shelf

/-- the variable internal/bytealg.MaxLen holds some int -/
def HasMax (w : World) : Prop := ∃ m, w.cell? ⟨0, 0, none⟩ = some (.int .i64 m)
theorem HasMax.below {w w' : World} (h : HasMax w) (hb : Below w.heap.size w w') : HasMax w' := by
  obtain ⟨m, hm⟩ := h
  exact ⟨m, (hb.cell (World.block_lt_of_cell? w _ hm)).trans hm⟩
def BoolS (b : Bool) (w : World) (e : Ending) (w' : World) : Prop := e = .returned (.bool b) ∧ w = w'
def IntP (x : Int) (w : World) (e : Ending) (w' : World) : Prop := e = .returned (.int .i64 x) ∧ Below w.heap.size w w'
theorem allowed_any (r : Nat) (w : World) : Calls Tryz.prog 234 #[.int .i32 (r : Int)] w (BoolS (!badR r) w) := by
  have hr : (!badR r) = (decide (97 ≤ r ∧ r ≤ 122) || decide (48 ≤ r ∧ r ≤ 57) || decide (r = 46) || decide (r = 95) || decide (r = 45)) := by simp [badR]
  have HR := Lib.hid hr; clear hr
  go_enter Tryz.func234, Tryz.ntmps234
  go_wp2_with fail
  all_goals
    go_ret
    refine ⟨ret_bool ?_, rfl⟩
    rw [HR.out, Bool.eq_iff_iff]
    simp
    omega
theorem comp1_any (r : Nat) (w : World) : Calls Tryz.prog 233 #[.int .i32 (r : Int)] w (BoolS (badR r) w) := by
  obtain ⟨b, hb⟩ : ∃ b, badR r = b := ⟨_, rfl⟩
  have HA := Lib.hid (fun w => allowed_any r w)
  rw [hb] at HA ⊢
  go_enter Tryz.func233, Tryz.ntmps233
  go_wp2_with fail
  refine (HA.out _).mono ?_
  rintro e w' ⟨rfl, rfl⟩
  go_wp2_with fail
  go_ret
  exact ⟨by simp, rfl⟩
theorem comp1_at (w : World) : PredAt Tryz.prog 233 #[] encR badR w := fun W r _ => by
  unfold FnGives
  refine (comp1_any r W).mono ?_
  rintro e w' ⟨rfl, rfl⟩
  exact ⟨rfl, 0, rfl⟩
theorem bad_any (s : ByteArray) (w : World) : Calls Tryz.prog 232 #[.string s, .func (.func 233) #[] #[]] w (BoolP (!(s.data.toList.all okC)) w) := by
  refine (Tryz.strings_ContainsFunc 233 #[] (enters_of Tryz.func233 (by kernel_rfl) rfl) badR s w (comp1_at w)).mono ?_
  rintro e w' ⟨rfl, hb⟩
  exact ⟨by rw [idxFunc_ok], hb⟩
/-- two strings of the walk: equal or not -/
theorem str_eq (s t : ByteArray) : (s.toList == t.toList) = decide (s.data.toList = t.data.toList) := by
  rw [ByteArray.toList_eq, ByteArray.toList_eq, Bool.eq_iff_iff, beq_iff_eq, decide_eq_true_eq]
theorem component_any (s : ByteArray) (w : World) (hs : s.size ≤ 140737488355328) : Calls Tryz.prog 213 #[.string s] w (BoolP (compB s.data.toList) w) := by
  have HB := Lib.hid (fun w => bad_any s w)
  have HC : Hid (compB s.data.toList = (decide (1 ≤ s.size) && decide (s.size ≤ 32) && !(s.data.toList == [46]) && !(s.data.toList == [46, 46]) && s.data.toList.all okC)) := rfl
  generalize s.data.toList.all okC = b at HB HC
  go_enter Tryz.func213, Tryz.ntmps213
  go_wp2_with (go_at_call 232; refine (HB.out _).mono ?_; rintro e w' ⟨rfl, hb⟩)
  all_goals
    go_ret
    refine ⟨ret_bool ?_, by first | exact below_refl _ | assumption⟩
    rw [HC.out]
    clear HB HC
    simp_all [ByteArray.toList_eq]
    try first
      | omega
      | (rw [decide_eq_true (show 1 ≤ s.size by omega), decide_eq_true (show s.size ≤ 32 by omega)]; simp)
theorem check1_any (s : ByteArray) (w : World) (hs : s.size ≤ 140737488355328) : Calls Tryz.prog 212 #[.string s] w (BoolP (!compB s.data.toList) w) := by
  have HA := Lib.hid (fun w => component_any s w hs)
  generalize compB s.data.toList = b at *
  go_enter Tryz.func212, Tryz.ntmps212
  go_wp2_with fail
  refine (HA.out _).mono ?_
  rintro e w' ⟨rfl, hb⟩
  go_wp2_with fail
  go_ret
  exact ⟨rfl, hb⟩
def IdxP (l : List ByteArray) (w : World) (e : Ending) (w' : World) : Prop := ∃ n : Int, e = .returned (.int .i64 n) ∧ Hid (decide (0 ≤ n) = !(l.all fun s => compB s.data.toList)) ∧ Below w.heap.size w w'
theorem all_take (l : List ByteArray) (k : Nat) (h : k < l.length) : ((l.take (k + 1)).all fun s => compB s.data.toList) = (((l.take k).all fun s => compB s.data.toList) && compB l[k].data.toList) := by
  rw [List.take_succ_eq_append_getElem h, List.all_append]; simp
theorem all_hit (l : List ByteArray) (k : Nat) (h : k < l.length) (hb : compB l[k].data.toList = false) : (l.all fun s => compB s.data.toList) = false := by
  rw [List.all_eq_false]
  exact ⟨l[k], List.getElem_mem h, by rw [hb]; decide⟩
set_option maxHeartbeats 1000000 in
theorem indexFunc_any (v : Value) (l : List ByteArray) (w : World) (hl : Strs w v l) (hs : ∀ s ∈ l, s.size ≤ 140737488355328) :
    Calls Tryz.prog 231 #[v, .func (.func 212) #[] #[]] w (IdxP l w) := by
  obtain ⟨hla, ha'⟩ := row_cases hl
  simp only [List.length_map] at hla ha'
  unfold maxLen at hla
  have eg := enters_of Tryz.func212 (by kernel_rfl) rfl
  rcases ha' with ⟨h0', aa, ca, rfl, _⟩ | ⟨h0', ba, oa, ca, rfl, hca, hca2, hcella⟩
  · have hla0 : l = [] := by simpa using h0'
    subst hla0
    go_enter Tryz.func231, Tryz.ntmps231
    go_wp2_with fail
    refine wp_loop_rounds 1 ?_; rw [rounds_succ]
    go_wp2_with fail
    go_ret
    exact ⟨_, rfl, rfl, below_refl _⟩
  · have HS := Lib.hid hs; clear hs
    have Hcella := Lib.hid hcella; clear hcella
    go_enter Tryz.func231, Tryz.ntmps231
    go_wp2_with fail
    go_loopw [8] (fun i wr => ∃ k : Nat, k ≤ l.length ∧ i = .int .i64 k ∧ Hid (((l.take k).all fun s => compB s.data.toList) = true) ∧ Below w.heap.size w wr) (fun i _ => l.length - (intOf i).toNat)
    case atStart => exact ⟨0, by omega, rfl, rfl, below_refl _⟩
    case round =>
      obtain ⟨k, hk, rfl, hA, hbw⟩ := hrel
      by_cases hlt : k < l.length
      · have c1 : wr.cell? ⟨ba, oa + k, none⟩ = some (.string l[k]) := by
          have := Hcella.out k (.string l[k]) (by simp [hlt])
          rw [hbw.cell (World.block_lt_of_cell? w _ this)]; exact this
        have H1 := Lib.hid (all_take l k hlt)
        have H2 := Lib.hid (all_hit l k hlt)
        have hxs := HS.out l[k] (List.getElem_mem hlt)
        generalize l[k] = x at *
        have HX := Lib.hid (fun w => check1_any x w hxs)
        by_cases hc : compB x.data.toList = true
        · rw [hc] at HX H1
          have HC := Lib.hid hc; clear hc H2
          go_wp2_with fail
          refine (HX.out _).mono ?_
          rintro e w1 ⟨rfl, hb1⟩
          go_wp2_with fail
          go_roundw
          case rel => exact ⟨k + 1, by omega, by go_num, by rw [Hid, H1.out, hA.out]; rfl, step2 hbw hb1⟩
          case measure => simp [intOf]; omega
        · have hc' : compB x.data.toList = false := by simpa using hc
          have H3 := Lib.hid (H2.out hc')
          rw [hc'] at HX
          clear hc hc' H1 H2
          go_wp2_with fail
          refine (HX.out _).mono ?_
          rintro e w1 ⟨rfl, hb1⟩
          go_wp2_with fail
          go_ret
          exact ⟨_, rfl, by rw [Hid, H3.out]; simp, step2 hbw hb1⟩
      · have ht2 : l.take k = l := List.take_of_length_le (by omega)
        rw [ht2] at hA
        have hA2 : Hid (decide ((0 : Int) ≤ -1) = !(l.all fun s => compB s.data.toList)) := by rw [Hid, hA.out]; rfl
        clear ht2
        go_wp2_with fail
        go_ret
        exact ⟨_, rfl, hA2, hbw⟩
theorem containsFunc_any (v : Value) (l : List ByteArray) (w : World) (hl : Strs w v l) (hs : ∀ s ∈ l, s.size ≤ 140737488355328) :
    Calls Tryz.prog 211 #[v, .func (.func 212) #[] #[]] w (BoolP (!(l.all fun s => compB s.data.toList)) w) := by
  have HI := Lib.hid (indexFunc_any v l w hl hs)
  clear hl hs
  go_enter Tryz.func211, Tryz.ntmps211
  go_wp2_with fail
  refine HI.out.mono ?_
  rintro e w' ⟨n, rfl, hn, hb⟩
  go_wp2_with fail
  go_ret
  exact ⟨ret_bool hn.out, hb⟩

/-! ### elements -/
theorem splitB_elems (s : ByteArray) : (Lib.splitB ⟨#[47]⟩ 0 (Lib.countB s ⟨#[47]⟩) s).map (·.data.toList) = elAll s.data.toList := by
  rw [Lib.splitB_data]
  exact split_slash _ _ (Nat.le_refl _)
theorem splitB_len (s : ByteArray) : (Lib.splitB ⟨#[47]⟩ 0 (Lib.countB s ⟨#[47]⟩) s).length = Lib.countB s ⟨#[47]⟩ + 1 := by
  have := congrArg List.length (splitB_elems s)
  rw [List.length_map, count_elAll _ _ (Nat.le_refl _)] at this
  exact this
def ElemsP (l : List UInt8) (w : World) (e : Ending) (w' : World) : Prop :=
  ∃ (v : Value) (L : List ByteArray), e = .returned v ∧ Strs w' v L ∧ Hid (L.map (·.data.toList) = elemsL l) ∧ (∃ a c, v = .slice a L.length c) ∧ Below w.heap.size w w'
theorem strs_new (w : World) (L : List ByteArray) (T : TypeId) (h : L.length ≤ maxLen) : Strs (w.alloc (.cells (L.map Value.string).toArray T)) (.slice (some ⟨w.heap.size, 0, none⟩) L.length L.length) L := by
  refine ⟨some ⟨w.heap.size, 0, none⟩, L.length, by rw [List.length_map], by rw [List.length_map]; exact Nat.le_refl _, h, ?_⟩
  by_cases h0 : L = []
  · subst h0; exact .inl ⟨rfl, fun e => by cases e⟩
  · refine .inr ⟨w.heap.size, 0, rfl, fun i u hu => ?_⟩
    rw [alloc_new_cell, Nat.zero_add]; simpa using hu
theorem elements_any (s : ByteArray) (w : World) (hm : HasMax w) (hs : s.size ≤ 1000000) : Calls Tryz.prog 210 #[.string s] w (ElemsP s.data.toList w) := by
  by_cases h0 : s.data.toList = []
  · have he : s.toList.isEmpty = true := by rw [isEmpty_list, h0]; rfl
    have H0 := Lib.hid h0; clear h0
    go_enter Tryz.func210, Tryz.ntmps210
    go_wp2_with fail
    go_ret
    exact ⟨_, [], rfl, Row.nil _, by rw [Hid, H0.out]; rfl, ⟨_, _, rfl⟩, below_refl _⟩
  · have he : s.toList.isEmpty = false := by rw [isEmpty_list]; simpa using h0
    have H0 := Lib.hid h0; clear h0
    obtain ⟨m, hm⟩ := hm
    have HS := Lib.hid (fun w (hm : w.cell? ⟨0, 0, none⟩ = some (.int .i64 m)) => Any.strings_Split { Tryz.laysM146 with } Tryz.laysM146.i9 s ⟨#[47]⟩ m w (by omega) hm (by decide))
    have hc : Lib.countB s ⟨#[47]⟩ ≤ s.size + 1 := Lib.count_le _ _
    go_enter Tryz.func210, Tryz.ntmps210
    go_wp2_with fail
    refine (HS.out _ hm).mono ?_
    rintro e w' ⟨rfl, rfl⟩
    have hl := Lib.hid (splitB_len s)
    have hd := Lib.hid (splitB_elems s)
    generalize Lib.countB s ⟨#[47]⟩ = n at *
    generalize Lib.splitB ⟨#[47]⟩ 0 n s = L at *
    have hrow := Lib.hid (strs_new w L 9)
    go_wp2_with fail
    go_ret
    refine ⟨.slice (some ⟨w.heap.size, 0, none⟩) (n + 1) (n + 1), L, rfl, ?_, ?_, ⟨_, _, by rw [hl.out]⟩, (below_refl _).alloc (Nat.le_refl _) _⟩
    · rw [← hl.out]; exact hrow.out (by rw [hl.out]; unfold maxLen; omega)
    · rw [Hid, hd.out, elemsL, if_neg H0.out]
theorem strs_size {l : List UInt8} {L : List ByteArray} (h : L.map (·.data.toList) = elemsL l) (s : ByteArray) (hs : s ∈ L) : s.size ≤ l.length := by
  have hm : s.data.toList ∈ elemsL l := by rw [← h]; exact List.mem_map_of_mem hs
  unfold elemsL at hm
  split at hm
  · cases hm
  · obtain ⟨_, h2, h3⟩ := elSt_len l
    rcases List.mem_append.1 hm with hm | hm
    · exact h3 _ hm
    · rw [List.mem_singleton] at hm
      rw [← toList_size, hm]; exact h2
theorem elemsL_len (l : List UInt8) : (elemsL l).length ≤ l.length + 1 := by
  unfold elemsL
  split
  · simp
  · have := (elSt_len l).1
    simp [elAll]; omega
theorem all_map {l : List UInt8} {L : List ByteArray} (h : L.map (·.data.toList) = elemsL l) : (L.all fun s => compB s.data.toList) = (elemsL l).all compB := by
  rw [← h, List.all_map]; rfl
set_option maxHeartbeats 1000000 in
theorem pathCheck_any (s : ByteArray) (w : World) (hm : HasMax w) (hs : s.size ≤ 1000000) : Calls Tryz.prog 182 #[.string s] w (IntP (pathE s.data.toList) w) := by
  have HP : Hid (pathE s.data.toList = if 200 < s.size then 6 else if 8 < (elemsL s.data.toList).length then 6 else if (elemsL s.data.toList).all compB then 0 else 7) := rfl
  have hle := elemsL_len s.data.toList
  rw [toList_size] at hle
  have HE := Lib.hid (elements_any s w hm hs)
  go_enter Tryz.func182, Tryz.ntmps182
  go_wp2_with fail
  refine HE.out.mono ?_
  rintro e w1 ⟨v, L, rfl, hL, hmap, ⟨a, c, rfl⟩, hb1⟩
  have hlen : L.length = (elemsL s.data.toList).length := by rw [← hmap.out, List.length_map]
  have HA := Lib.hid (all_map hmap.out)
  have HC := Lib.hid (containsFunc_any _ L w1 hL (fun x hx => by have := strs_size hmap.out x hx; rw [toList_size] at this; omega))
  rw [HA.out] at HC
  generalize (elemsL s.data.toList).all compB = b at *
  rw [← hlen] at HP hle
  clear hlen HA hmap hL HE hm
  generalize L.length = n at *
  by_cases h1 : 200 < s.size
  · rw [if_pos h1] at HP
    go_wp2_with fail
    go_ret
    exact ⟨ret_int HP.out.symm, hb1⟩
  by_cases h2 : 8 < n
  · rw [if_neg h1, if_pos h2] at HP
    go_wp2_with fail
    go_ret
    exact ⟨ret_int HP.out.symm, hb1⟩
  rw [if_neg h1, if_neg h2] at HP
  cases b
  · rw [if_neg (by decide)] at HP
    go_wp2_with fail
    refine HC.out.mono ?_
    rintro e w2 ⟨rfl, hb2⟩
    go_wp2_with fail
    go_ret
    exact ⟨ret_int HP.out.symm, step2 hb1 hb2⟩
  · rw [if_pos rfl] at HP
    go_wp2_with fail
    refine HC.out.mono ?_
    rintro e w2 ⟨rfl, hb2⟩
    go_wp2_with fail
    go_ret
    exact ⟨ret_int HP.out.symm, step2 hb1 hb2⟩
end Go.Proofs.YtpkapcijgldhhaaGreatDoor

namespace Go.Proofs.YtpkapcijgldhhaaGreatDoor
open Go.RowKit Go.Shelf

theorem take_snoc (s : ByteArray) (k : Nat) (h : k < s.size) : s.data.toList.take (k + 1) = s.data.toList.take k ++ [s[k]] := by
  rw [List.take_succ_eq_append_getElem (by simpa using h)]; rfl
theorem one_extract (s : ByteArray) (k : Nat) (h : k < s.size) : (s.extract k (k + 1)).data.toList = [s[k]] := by
  rw [extract_list, show k + 1 - k = 1 from by omega]
  have hl : k < s.data.toList.length := h
  rw [List.drop_eq_getElem_cons hl]
  rfl
/-- the state of Elements: the parts that are closed, and the open one -/
def ElSt (l : List UInt8) (L : List ByteArray) (p : ByteArray) : Prop := L.map (·.data.toList) = (elSt l).1 ∧ p.data.toList = (elSt l).2
theorem ElSt.slash {l : List UInt8} {L : List ByteArray} {p : ByteArray} (h : ElSt l L p) : ElSt (l ++ [47]) (L ++ [p]) ⟨#[]⟩ := by
  unfold ElSt
  rw [elSt_snoc, if_pos rfl, List.map_append, h.1, List.map_singleton, h.2]
  exact ⟨rfl, rfl⟩
theorem ElSt.other {l : List UInt8} {L : List ByteArray} {p q : ByteArray} {c : UInt8} (h : ElSt l L p) (hc : ¬ c = 47) (hq : q.data.toList = [c]) : ElSt (l ++ [c]) L (p ++ q) := by
  unfold ElSt
  rw [elSt_snoc, if_neg hc, append_list, hq, h.2]
  exact ⟨h.1, rfl⟩
theorem ElSt.len {l : List UInt8} {L : List ByteArray} {p : ByteArray} (h : ElSt l L p) : L.length ≤ l.length ∧ p.size ≤ l.length := by
  obtain ⟨h1, h2, _⟩ := elSt_len l
  refine ⟨?_, ?_⟩
  · have := congrArg List.length h.1; rw [List.length_map] at this; omega
  · rw [← toList_size, h.2]; exact h2
theorem ElSt.all {l : List UInt8} {L : List ByteArray} {p : ByteArray} (h : ElSt l L p) : (L ++ [p]).map (·.data.toList) = elAll l := by
  rw [List.map_append, h.1, List.map_singleton, h.2]; rfl
def ElemsQ (l : List UInt8) (w : World) (e : Ending) (w' : World) : Prop :=
  ∃ (v : Value) (L : List ByteArray), e = .returned v ∧ Strs w' v L ∧ Hid (L.map (·.data.toList) = elemsL l) ∧ Below w.heap.size w w'
set_option maxRecDepth 100000 in
set_option maxHeartbeats 1000000 in
theorem refElements_any (s : ByteArray) (w : World) (hs : s.size ≤ 1000000) : Calls Tryz.prog 165 #[.string s] w (ElemsQ s.data.toList w) := by
  obtain ⟨i0, hi, hz0, hz1, hz2⟩ := info_parts infoStr
  have hown0 : (w.alloc (.cells #[] 9)).ownsRow w.heap.size 9 1 (.slice (some ⟨w.heap.size, 0, none⟩) 0 0) 0 [] := World.ownsRow_made w #[] 0 (Nat.le_refl _) (by decide) rfl
  have hb0 : Below w.heap.size w (w.alloc (.cells #[] 9)) := (below_refl _).alloc (Nat.le_refl _) _
  by_cases h0 : s.data.toList = []
  · have he : s.toList.isEmpty = true := by rw [isEmpty_list, h0]; rfl
    have H0 := Lib.hid h0; clear h0
    go_enter Tryz.func165, Tryz.ntmps165
    go_wp2_with fail
    go_ret
    exact ⟨_, [], rfl, Row.of_owns hown0, by rw [Hid, H0.out]; rfl, hb0⟩
  · have he : s.toList.isEmpty = false := by rw [isEmpty_list]; simpa using h0
    have H0 := Lib.hid h0; clear h0
    go_enter Tryz.func165, Tryz.ntmps165
    go_wp2_with fail
    go_loopw [3, 4, 5] (fun v p i wr => ∃ (k : Nat) (L : List ByteArray) (q : ByteArray), k ≤ s.size ∧ i = .int .i64 k ∧ p = .string q ∧ Hid (ElSt (s.data.toList.take k) L q) ∧ wr.ownsRow w.heap.size 9 1 v L.length (L.map Value.string) ∧ Below w.heap.size w wr)
      (fun _ _ i _ => s.size - (intOf i).toNat)
    case atStart => exact ⟨0, [], ⟨#[]⟩, by omega, rfl, rfl, ⟨rfl, rfl⟩, hown0, hb0⟩
    case round =>
      obtain ⟨k, L, q, hk, rfl, rfl, hst, hown, hbw⟩ := hrel
      have hll := hst.out.len
      have htk : (s.data.toList.take k).length ≤ k := List.length_take_le _ _
      have hL : L.length ≤ 1000000 := by omega
      have hq : q.size ≤ 1000000 := by omega
      clear hll htk hown0 hb0
      by_cases hlt : k < s.size
      · have HT := Lib.hid (take_snoc s k hlt)
        have HX := Lib.hid (one_extract s k hlt)
        by_cases h47 : s[k] = 47
        · obtain ⟨b1, b2⟩ := byte_is h47 (n := 47) rfl
          rw [h47] at HT
          have H47 := Lib.hid h47; clear h47
          have hst2 := Lib.hid hst.out.slash
          rw [← HT.out] at hst2
          clear HT HX hst
          go_wp2_with (at_builtin; refine wpList_append_own _ rfl _ _ 57 rfl w.heap.size 9 i0 (.string ⟨#[]⟩) 1 16 Tryz.underlying57 hi hz0 hz1 hz2 rfl (by decide) _ _ _ rfl (hown.alloc _) ⟨wr.heap.size, 0, none⟩ 1 1 [.string q] rfl rfl ?c1 ?c2 ?c3 ?c4 ?c5 ?_)
          case c1 => exact cell_one_new _ _ _
          case c2 => simp [Value.oneCell']
          case c3 => unfold maxLen; omega
          case c4 => omega
          case c5 => have := hbw.size; simp; omega
          intro v' w2 hown2 hgrow2 _
          have hbw2 : Below w.heap.size w w2 := below_grownBy (hbw.alloc hbw.size _) (hown.alloc _) hgrow2 (by have := hbw.size; simp; omega)
          have hown3 : w2.ownsRow w.heap.size 9 1 v' (L ++ [q]).length ((L ++ [q]).map Value.string) := by simpa using hown2
          clear hown2 hgrow2 hown hi hz0 hz1 hz2
          go_wp2_with fail
          go_roundw
          case rel => exact ⟨k + 1, L ++ [q], ⟨#[]⟩, by omega, by go_num, rfl, hst2, hown3, hbw2⟩
          case measure => simp [intOf]; omega
        · obtain ⟨b1, b2⟩ := byte_not h47 (n := 47) rfl
          have hst2 := Lib.hid (hst.out.other h47 HX.out)
          rw [← HT.out] at hst2
          have hxs : (s.extract k (k + 1)).size = 1 := by rw [← toList_size, HX.out]; rfl
          have hxs1 : (s.extract k (k + 1)).size ≤ 1 := by omega
          clear HT HX hst h47 hxs
          go_wp2_with fail
          go_roundw
          case rel => exact ⟨k + 1, L, _, by omega, by go_num, rfl, hst2, hown, hbw⟩
          case measure => simp [intOf]; omega
      · have htk : s.data.toList.take k = s.data.toList := List.take_of_length_le (by rw [toList_size]; omega)
        rw [htk] at hst
        have hall := Lib.hid hst.out.all
        clear hst htk
        go_wp2_with (at_builtin; refine wpList_append_own _ rfl _ _ 57 rfl w.heap.size 9 i0 (.string ⟨#[]⟩) 1 16 Tryz.underlying57 hi hz0 hz1 hz2 rfl (by decide) _ _ _ rfl (hown.alloc _) ⟨wr.heap.size, 0, none⟩ 1 1 [.string q] rfl rfl ?d1 ?d2 ?d3 ?d4 ?d5 ?_)
        case d1 => exact cell_one_new _ _ _
        case d2 => simp [Value.oneCell']
        case d3 => unfold maxLen; omega
        case d4 => omega
        case d5 => have := hbw.size; simp; omega
        intro v' w2 hown2 hgrow2 _
        have hbw2 : Below w.heap.size w w2 := below_grownBy (hbw.alloc hbw.size _) (hown.alloc _) hgrow2 (by have := hbw.size; simp; omega)
        have hown3 : w2.ownsRow w.heap.size 9 1 v' (L ++ [q]).length ((L ++ [q]).map Value.string) := by simpa using hown2
        clear hown2 hgrow2 hown hi hz0 hz1 hz2
        go_wp2_with fail
        go_ret
        exact ⟨_, L ++ [q], rfl, Row.of_owns hown3, by rw [Hid, hall.out, elemsL, if_neg H0.out], hbw2⟩

def compPre (s : ByteArray) : Bool := decide (0 < s.size) && decide (s.size ≤ 32) && !(s.data.toList == [46]) && !(s.data.toList == [46, 46])
theorem compPre_walk (s : ByteArray) : compPre s = (decide (0 < s.size) && decide ((s.size : Int) ≤ 32) && !(s.toList == [46]) && !(s.toList == [46, 46])) := by
  rw [compPre, ByteArray.toList_eq]
  congr 3
  rw [decide_eq_decide]; omega
theorem compB_pre (s : ByteArray) : compB s.data.toList = (compPre s && s.data.toList.all okC) := rfl
theorem okC_int (c : UInt8) : okC c = (decide (97 ≤ (c.toNat : Int)) && decide ((c.toNat : Int) ≤ 122) || decide (48 ≤ (c.toNat : Int)) && decide ((c.toNat : Int) ≤ 57) || ((c.toNat : Int) == 46) || ((c.toNat : Int) == 95) || ((c.toNat : Int) == 45)) := by
  rw [okC, Bool.eq_iff_iff]
  simp only [Bool.or_eq_true, Bool.and_eq_true, decide_eq_true_eq, beq_iff_eq]
  omega
theorem all_take_c (s : ByteArray) (k : Nat) (h : k < s.size) : ((s.data.toList.take (k + 1)).all okC) = ((s.data.toList.take k).all okC && okC s[k]) := by
  rw [take_snoc s k h, List.all_append]; simp
theorem all_hit_c (s : ByteArray) (k : Nat) (h : k < s.size) (hb : okC s[k] = false) : s.data.toList.all okC = false := by
  rw [List.all_eq_false]
  exact ⟨s[k], List.mem_of_getElem? (get_list s k h), by rw [hb]; decide⟩
theorem comp_next (s : ByteArray) (k : Nat) (h : k < s.size) (hc : (s.data.toList.take k).all okC = true) (c : Bool) (e : c = okC s[k]) : (c = true ∧ (s.data.toList.take (k + 1)).all okC = true) ∨ (c = false ∧ s.data.toList.all okC = false) := by
  cases hok : okC s[k]
  · exact .inr ⟨e.trans hok, all_hit_c s k h hok⟩
  · exact .inl ⟨e.trans hok, by rw [all_take_c s k h, hc, hok]; rfl⟩
set_option maxHeartbeats 1000000 in
theorem refComponent_any (s : ByteArray) (w : World) (hs : s.size ≤ 1000000) : Calls Tryz.prog 166 #[.string s] w (BoolS (compB s.data.toList) w) := by
  have HC := Lib.hid (compB_pre s)
  have HP := Lib.hid (compPre_walk s)
  go_enter Tryz.func166, Tryz.ntmps166
  go_upto_region 1 with (fail)
  go_cut [3] from 6 to 21 (fun v wc => v = .bool (compPre s) ∧ w = wc)
  case first =>
    go_wp2_with fail
    all_goals
      go_meet
      case rel =>
        refine ⟨congrArg Value.bool ?_, rfl⟩
        rw [HP.out]
        clear HP HC
        simp_all
        try (intros; omega)
  case rest =>
    obtain ⟨rfl, rfl⟩ := hcut
    cases hpre : compPre s
    · rw [hpre] at HC
      clear HP hpre
      go_wp2_with fail
      refine wp_loop_rounds 1 ?_; rw [rounds_succ]
      go_wp2_with fail
      go_ret
      exact ⟨ret_bool (by rw [HC.out]; rfl), rfl⟩
    · rw [hpre, Bool.true_and] at HC
      clear HP hpre
      go_wp2_with fail
      go_loop [3, 4] (fun b i => ∃ (k : Nat) (c : Bool), k ≤ s.size ∧ i = .int .i64 k ∧ b = .bool c ∧ Hid ((c = true ∧ (s.data.toList.take k).all okC = true) ∨ (c = false ∧ s.data.toList.all okC = false))) (fun _ i => s.size - (intOf i).toNat)
      case atStart => exact ⟨0, true, by omega, rfl, rfl, .inl ⟨rfl, rfl⟩⟩
      case round =>
        obtain ⟨k, c, hk, rfl, rfl, hc⟩ := hrel
        cases c
        · have hc2 : Hid (s.data.toList.all okC = false) := by rcases hc.out with ⟨h, _⟩ | ⟨_, h⟩; cases h; exact h
          go_wp2_with fail
          go_ret
          exact ⟨ret_bool (by rw [HC.out, hc2.out]), rfl⟩
        have hc2 : Hid ((s.data.toList.take k).all okC = true) := by rcases hc.out with ⟨_, h⟩ | ⟨h, _⟩; exact h; cases h
        clear hc
        by_cases hlt : k < s.size
        · have HN := Lib.hid (comp_next s k hlt hc2.out)
          have H3 := Lib.hid (okC_int s[k])
          have hb : s[k].toNat < 256 := s[k].toNat_lt
          go_wp2_with fail
          all_goals
            go_round
            case rel =>
              refine ⟨k + 1, _, by omega, by go_num, rfl, HN.out _ ?_⟩
              rw [H3.out, Bool.eq_iff_iff]
              simp
              omega
            case measure => simp [intOf]; omega
        · have ht : s.data.toList.take k = s.data.toList := List.take_of_length_le (by rw [toList_size]; omega)
          rw [ht] at hc2
          clear ht
          go_wp2_with fail
          go_ret
          exact ⟨ret_bool (by rw [HC.out, hc2.out]), rfl⟩
end Go.Proofs.YtpkapcijgldhhaaGreatDoor
