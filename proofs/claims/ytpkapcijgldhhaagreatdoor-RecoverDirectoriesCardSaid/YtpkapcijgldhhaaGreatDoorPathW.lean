/-
  The walks of pathname.Check and of its reference.
-/
import Derived.Test.YtpkapcijgldhhaaGreatDoorNetRows
import Derived.Test.YtpkapcijgldhhaaGreatDoorEntDef
import Derived.Deep.CutBlock
import Derived.Deep.CutRange
namespace Go.Proofs.YtpkapcijgldhhaaGreatDoor
open Go.RowKit Go.Shelf

/-- the variable internal/bytealg.MaxLen holds some int -/
def HasMax (w : World) : Prop := ∃ m, w.cell? ⟨0, 0, none⟩ = some (.int .i64 m)
theorem HasMax.below {w w' : World} (h : HasMax w) (hb : Below w.heap.size w w') : HasMax w' := by
  obtain ⟨m, hm⟩ := h
  exact ⟨m, (hb.cell (World.block_lt_of_cell? w _ hm)).trans hm⟩
def BoolS (b : Bool) (w : World) (e : Ending) (w' : World) : Prop := e = .returned (.bool b) ∧ w = w'
def IntP (x : Int) (w : World) (e : Ending) (w' : World) : Prop := e = .returned (.int .i64 x) ∧ Below w.heap.size w w'
def IntS (x : Int) (w : World) (e : Ending) (w' : World) : Prop := e = .returned (.int .i64 x) ∧ w = w'

theorem allowed_any (r : Nat) (w : World) : Calls Tryz.prog 234 #[.int .i32 (r : Int)] w (BoolS (!badR r) w) := by
  have hr : (!badR r) = (decide (97 ≤ r ∧ r ≤ 122) || decide (48 ≤ r ∧ r ≤ 57) || decide (r = 46) || decide (r = 95) || decide (r = 45)) := by simp [badR]
  have HR := Lib.hid hr; clear hr
  go_enter Tryz.func234, Tryz.ntmps234
  go_wp2_with fail
  all_goals
    go_ret
    refine ⟨ret_bool ?_, rfl⟩
    rw [HR.out, Bool.eq_iff_iff]
    simp
    omega
theorem comp1_any (r : Nat) (w : World) : Calls Tryz.prog 233 #[.int .i32 (r : Int)] w (BoolS (badR r) w) := by
  obtain ⟨b, hb⟩ : ∃ b, badR r = b := ⟨_, rfl⟩
  have HA := Lib.hid (fun w => allowed_any r w)
  rw [hb] at HA ⊢
  go_enter Tryz.func233, Tryz.ntmps233
  go_wp2_with fail
  refine (HA.out _).mono ?_
  rintro e w' ⟨rfl, rfl⟩
  go_wp2_with fail
  go_ret
  exact ⟨by simp, rfl⟩
theorem comp1_at (w : World) : PredAt Tryz.prog 233 #[] encR badR w := fun W r _ => by
  unfold FnGives
  refine (comp1_any r W).mono ?_
  rintro e w' ⟨rfl, rfl⟩
  exact ⟨rfl, 0, rfl⟩
theorem bad_any (s : ByteArray) (w : World) : Calls Tryz.prog 232 #[.string s, .func (.func 233) #[] #[]] w (BoolP (!(s.data.toList.all okC)) w) := by
  refine (Tryz.strings_ContainsFunc 233 #[] (enters_of Tryz.func233 (by kernel_rfl) rfl) badR s w (comp1_at w)).mono ?_
  rintro e w' ⟨rfl, hb⟩
  exact ⟨by rw [idxFunc_ok], hb⟩
def dotS : ByteArray := ⟨#[46]⟩
def dotsS : ByteArray := ⟨#[46, 46]⟩
/-- two strings of the walk: equal or not -/
theorem str_eq (s t : ByteArray) : (s.toList == t.toList) = decide (s.data.toList = t.data.toList) := by
  rw [ByteArray.toList_eq, ByteArray.toList_eq, Bool.eq_iff_iff, beq_iff_eq, decide_eq_true_eq]
theorem component_any (s : ByteArray) (w : World) (hs : s.size ≤ 140737488355328) : Calls Tryz.prog 213 #[.string s] w (BoolP (compB s.data.toList) w) := by
  have HB := Lib.hid (fun w => bad_any s w)
  have HC : Hid (compB s.data.toList = (decide (1 ≤ s.size) && decide (s.size ≤ 32) && !(s.data.toList == [46]) && !(s.data.toList == [46, 46]) && s.data.toList.all okC)) := rfl
  generalize s.data.toList.all okC = b at HB HC
  go_enter Tryz.func213, Tryz.ntmps213
  go_wp2_with (go_at_call 232; refine (HB.out _).mono ?_; rintro e w' ⟨rfl, hb⟩)
  all_goals
    go_ret
    refine ⟨ret_bool ?_, by first | exact below_refl _ | assumption⟩
    rw [HC.out]
    clear HB HC
    simp_all [ByteArray.toList_eq]
    try first
      | omega
      | (rw [decide_eq_true (show 1 ≤ s.size by omega), decide_eq_true (show s.size ≤ 32 by omega)]; simp)
theorem check1_any (s : ByteArray) (w : World) (hs : s.size ≤ 140737488355328) : Calls Tryz.prog 212 #[.string s] w (BoolP (!compB s.data.toList) w) := by
  have HA := Lib.hid (fun w => component_any s w hs)
  generalize compB s.data.toList = b at *
  go_enter Tryz.func212, Tryz.ntmps212
  go_wp2_with fail
  refine (HA.out _).mono ?_
  rintro e w' ⟨rfl, hb⟩
  go_wp2_with fail
  go_ret
  exact ⟨rfl, hb⟩
def IdxP (l : List ByteArray) (w : World) (e : Ending) (w' : World) : Prop := ∃ n : Int, e = .returned (.int .i64 n) ∧ Hid (decide (0 ≤ n) = !(l.all fun s => compB s.data.toList)) ∧ Below w.heap.size w w'
theorem all_take (l : List ByteArray) (k : Nat) (h : k < l.length) : ((l.take (k + 1)).all fun s => compB s.data.toList) = (((l.take k).all fun s => compB s.data.toList) && compB l[k].data.toList) := by
  rw [List.take_succ_eq_append_getElem h, List.all_append]; simp
theorem all_hit (l : List ByteArray) (k : Nat) (h : k < l.length) (hb : compB l[k].data.toList = false) : (l.all fun s => compB s.data.toList) = false := by
  rw [List.all_eq_false]
  exact ⟨l[k], List.getElem_mem h, by rw [hb]; decide⟩
set_option maxHeartbeats 1000000 in
theorem indexFunc_any (v : Value) (l : List ByteArray) (w : World) (hl : Strs w v l) (hs : ∀ s ∈ l, s.size ≤ 140737488355328) :
    Calls Tryz.prog 231 #[v, .func (.func 212) #[] #[]] w (IdxP l w) := by
  obtain ⟨hla, ha'⟩ := row_cases hl
  simp only [List.length_map] at hla ha'
  unfold maxLen at hla
  have eg := enters_of Tryz.func212 (by kernel_rfl) rfl
  rcases ha' with ⟨h0', aa, ca, rfl, _⟩ | ⟨h0', ba, oa, ca, rfl, hca, hca2, hcella⟩
  · have hla0 : l = [] := by simpa using h0'
    subst hla0
    go_enter Tryz.func231, Tryz.ntmps231
    go_wp2_with fail
    refine wp_loop_rounds 1 ?_; rw [rounds_succ]
    go_wp2_with fail
    go_ret
    exact ⟨_, rfl, rfl, below_refl _⟩
  · have HS := Lib.hid hs; clear hs
    have Hcella := Lib.hid hcella; clear hcella
    go_enter Tryz.func231, Tryz.ntmps231
    go_wp2_with fail
    go_loopw [8] (fun i wr => ∃ k : Nat, k ≤ l.length ∧ i = .int .i64 k ∧ Hid (((l.take k).all fun s => compB s.data.toList) = true) ∧ Below w.heap.size w wr) (fun i _ => l.length - (intOf i).toNat)
    case atStart => exact ⟨0, by omega, rfl, rfl, below_refl _⟩
    case round =>
      obtain ⟨k, hk, rfl, hA, hbw⟩ := hrel
      by_cases hlt : k < l.length
      · have c1 : wr.cell? ⟨ba, oa + k, none⟩ = some (.string l[k]) := by
          have := Hcella.out k (.string l[k]) (by simp [hlt])
          rw [hbw.cell (World.block_lt_of_cell? w _ this)]; exact this
        have H1 := Lib.hid (all_take l k hlt)
        have H2 := Lib.hid (all_hit l k hlt)
        have hxs := HS.out l[k] (List.getElem_mem hlt)
        generalize l[k] = x at *
        have HX := Lib.hid (fun w => check1_any x w hxs)
        by_cases hc : compB x.data.toList = true
        · rw [hc] at HX H1
          have HC := Lib.hid hc; clear hc H2
          go_wp2_with fail
          refine (HX.out _).mono ?_
          rintro e w1 ⟨rfl, hb1⟩
          go_wp2_with fail
          go_roundw
          case rel => exact ⟨k + 1, by omega, by go_num, by rw [Hid, H1.out, hA.out]; rfl, step2 hbw hb1⟩
          case measure => simp [intOf]; omega
        · have hc' : compB x.data.toList = false := by simpa using hc
          have H3 := Lib.hid (H2.out hc')
          rw [hc'] at HX
          clear hc hc' H1 H2
          go_wp2_with fail
          refine (HX.out _).mono ?_
          rintro e w1 ⟨rfl, hb1⟩
          go_wp2_with fail
          go_ret
          exact ⟨_, rfl, by rw [Hid, H3.out]; simp, step2 hbw hb1⟩
      · have ht2 : l.take k = l := List.take_of_length_le (by omega)
        rw [ht2] at hA
        have hA2 : Hid (decide ((0 : Int) ≤ -1) = !(l.all fun s => compB s.data.toList)) := by rw [Hid, hA.out]; rfl
        clear ht2
        go_wp2_with fail
        go_ret
        exact ⟨_, rfl, hA2, hbw⟩
theorem containsFunc_any (v : Value) (l : List ByteArray) (w : World) (hl : Strs w v l) (hs : ∀ s ∈ l, s.size ≤ 140737488355328) :
    Calls Tryz.prog 211 #[v, .func (.func 212) #[] #[]] w (BoolP (!(l.all fun s => compB s.data.toList)) w) := by
  have HI := Lib.hid (indexFunc_any v l w hl hs)
  clear hl hs
  go_enter Tryz.func211, Tryz.ntmps211
  go_wp2_with fail
  refine HI.out.mono ?_
  rintro e w' ⟨n, rfl, hn, hb⟩
  go_wp2_with fail
  go_ret
  exact ⟨ret_bool hn.out, hb⟩

/-! ### elements -/
def OwnS0 (w : World) (v : Value) (l : List ByteArray) : Prop := Strs w v l
theorem splitB_elems (s : ByteArray) : (Lib.splitB ⟨#[47]⟩ 0 (Lib.countB s ⟨#[47]⟩) s).map (·.data.toList) = elAll s.data.toList := by
  rw [Lib.splitB_data]
  exact split_slash _ _ (Nat.le_refl _)
theorem splitB_len (s : ByteArray) : (Lib.splitB ⟨#[47]⟩ 0 (Lib.countB s ⟨#[47]⟩) s).length = Lib.countB s ⟨#[47]⟩ + 1 := by
  have := congrArg List.length (splitB_elems s)
  rw [List.length_map, count_elAll _ _ (Nat.le_refl _)] at this
  exact this
def ElemsP (l : List UInt8) (w : World) (e : Ending) (w' : World) : Prop :=
  ∃ (v : Value) (L : List ByteArray), e = .returned v ∧ Strs w' v L ∧ Hid (L.map (·.data.toList) = elemsL l) ∧ (∃ a c, v = .slice a L.length c) ∧ Below w.heap.size w w'
theorem strs_new (w : World) (L : List ByteArray) (T : TypeId) (h : L.length ≤ maxLen) : Strs (w.alloc (.cells (L.map Value.string).toArray T)) (.slice (some ⟨w.heap.size, 0, none⟩) L.length L.length) L := by
  refine ⟨some ⟨w.heap.size, 0, none⟩, L.length, by rw [List.length_map], by rw [List.length_map]; exact Nat.le_refl _, h, ?_⟩
  by_cases h0 : L = []
  · subst h0; exact .inl ⟨rfl, fun e => by cases e⟩
  · refine .inr ⟨w.heap.size, 0, rfl, fun i u hu => ?_⟩
    rw [alloc_new_cell, Nat.zero_add]; simpa using hu
theorem elements_any (s : ByteArray) (w : World) (hm : HasMax w) (hs : s.size ≤ 1000000) : Calls Tryz.prog 210 #[.string s] w (ElemsP s.data.toList w) := by
  by_cases h0 : s.data.toList = []
  · have he : s.toList.isEmpty = true := by rw [isEmpty_list, h0]; rfl
    have H0 := Lib.hid h0; clear h0
    go_enter Tryz.func210, Tryz.ntmps210
    go_wp2_with fail
    go_ret
    exact ⟨_, [], rfl, Row.nil _, by rw [Hid, H0.out]; rfl, ⟨_, _, rfl⟩, below_refl _⟩
  · have he : s.toList.isEmpty = false := by rw [isEmpty_list]; simpa using h0
    have H0 := Lib.hid h0; clear h0
    obtain ⟨m, hm⟩ := hm
    have HS := Lib.hid (fun w (hm : w.cell? ⟨0, 0, none⟩ = some (.int .i64 m)) => Any.strings_Split { Tryz.laysM146 with } Tryz.laysM146.i9 s ⟨#[47]⟩ m w (by omega) hm (by decide))
    have hc : Lib.countB s ⟨#[47]⟩ ≤ s.size + 1 := Lib.count_le _ _
    go_enter Tryz.func210, Tryz.ntmps210
    go_wp2_with fail
    refine (HS.out _ hm).mono ?_
    rintro e w' ⟨rfl, rfl⟩
    have hl := Lib.hid (splitB_len s)
    have hd := Lib.hid (splitB_elems s)
    generalize Lib.countB s ⟨#[47]⟩ = n at *
    generalize Lib.splitB ⟨#[47]⟩ 0 n s = L at *
    have hrow := Lib.hid (strs_new w L 9)
    go_wp2_with fail
    go_ret
    refine ⟨.slice (some ⟨w.heap.size, 0, none⟩) (n + 1) (n + 1), L, rfl, ?_, ?_, ⟨_, _, by rw [hl.out]⟩, (below_refl _).alloc (Nat.le_refl _) _⟩
    · rw [← hl.out]; exact hrow.out (by rw [hl.out]; unfold maxLen; omega)
    · rw [Hid, hd.out, elemsL, if_neg H0.out]
theorem strs_size {l : List UInt8} {L : List ByteArray} (h : L.map (·.data.toList) = elemsL l) (s : ByteArray) (hs : s ∈ L) : s.size ≤ l.length := by
  have hm : s.data.toList ∈ elemsL l := by rw [← h]; exact List.mem_map_of_mem hs
  unfold elemsL at hm
  split at hm
  · cases hm
  · obtain ⟨_, h2, h3⟩ := elSt_len l
    rcases List.mem_append.1 hm with hm | hm
    · exact h3 _ hm
    · rw [List.mem_singleton] at hm
      rw [← toList_size, hm]; exact h2
theorem elemsL_len (l : List UInt8) : (elemsL l).length ≤ l.length + 1 := by
  unfold elemsL
  split
  · simp
  · have := (elSt_len l).1
    simp [elAll]; omega
theorem all_map {l : List UInt8} {L : List ByteArray} (h : L.map (·.data.toList) = elemsL l) : (L.all fun s => compB s.data.toList) = (elemsL l).all compB := by
  rw [← h, List.all_map]; rfl
set_option maxHeartbeats 1000000 in
theorem pathCheck_any (s : ByteArray) (w : World) (hm : HasMax w) (hs : s.size ≤ 1000000) : Calls Tryz.prog 182 #[.string s] w (IntP (pathE s.data.toList) w) := by
  have HP : Hid (pathE s.data.toList = if 200 < s.size then 6 else if 8 < (elemsL s.data.toList).length then 6 else if (elemsL s.data.toList).all compB then 0 else 7) := rfl
  have hle := elemsL_len s.data.toList
  rw [toList_size] at hle
  have HE := Lib.hid (elements_any s w hm hs)
  go_enter Tryz.func182, Tryz.ntmps182
  go_wp2_with fail
  refine HE.out.mono ?_
  rintro e w1 ⟨v, L, rfl, hL, hmap, ⟨a, c, rfl⟩, hb1⟩
  have hlen : L.length = (elemsL s.data.toList).length := by rw [← hmap.out, List.length_map]
  have HA := Lib.hid (all_map hmap.out)
  have HC := Lib.hid (containsFunc_any _ L w1 hL (fun x hx => by have := strs_size hmap.out x hx; rw [toList_size] at this; omega))
  rw [HA.out] at HC
  generalize (elemsL s.data.toList).all compB = b at *
  rw [← hlen] at HP hle
  clear hlen HA hmap hL HE hm
  generalize L.length = n at *
  by_cases h1 : 200 < s.size
  · rw [if_pos h1] at HP
    go_wp2_with fail
    go_ret
    exact ⟨ret_int HP.out.symm, hb1⟩
  by_cases h2 : 8 < n
  · rw [if_neg h1, if_pos h2] at HP
    go_wp2_with fail
    go_ret
    exact ⟨ret_int HP.out.symm, hb1⟩
  rw [if_neg h1, if_neg h2] at HP
  cases b
  · rw [if_neg (by decide)] at HP
    go_wp2_with fail
    refine HC.out.mono ?_
    rintro e w2 ⟨rfl, hb2⟩
    go_wp2_with fail
    go_ret
    exact ⟨ret_int HP.out.symm, step2 hb1 hb2⟩
  · rw [if_pos rfl] at HP
    go_wp2_with fail
    refine HC.out.mono ?_
    rintro e w2 ⟨rfl, hb2⟩
    go_wp2_with fail
    go_ret
    exact ⟨ret_int HP.out.symm, step2 hb1 hb2⟩
end Go.Proofs.YtpkapcijgldhhaaGreatDoor
