/-
  The walks of the closures that entry.reader returns: they read a number, a string, a count, and panic at the first error.
  The walks of names and of slices.Index at strings; the head's reading, step by step.
-/
import Derived.Test.YtpkapcijgldhhaaGreatDoorCe07
import Derived.Test.YtpkapcijgldhhaaGreatDoorCe08
import Derived.Deep.RegionHeld3
import Derived.Laws.EntriesVeiled
namespace Go.Proofs.YtpkapcijgldhhaaGreatDoor
open Go.RowKit Go.Shelf

/-- the panic of an error -/
def failP (x : Int) : List PanicEntry := [{ v := .iface 202 (.agg #[.int .i64 x]), recovered := false }]
theorem must_ok (w : World) : Calls Tryz.prog 176 #[.int .i64 0] w fun e w' => e = .returned (.tuple #[]) ∧ w = w' := by
  go_enter Tryz.func176, Tryz.ntmps176
  go_wp2_with fail
  go_end0
  exact ⟨rfl, rfl⟩
theorem must_no (x : Int) (hx : x ≠ 0) (w : World) : Calls Tryz.prog 176 #[.int .i64 x] w fun e w' => e = .panicked (failP x) ∧ w = w' := by
  have q1 : (x != 0) = true := by rw [bne_iff_ne]; exact hx
  have Hx := Lib.hid hx; clear hx
  go_enter Tryz.func176, Tryz.ntmps176
  go_wp2_with fail
  exact ⟨rfl, rfl, rfl⟩
/-- the variables of a reader: its string, the address of the index, the functions; the index itself -/
structure RdAt (W : World) (s : ByteArray) (aB B : Nat) (a : Int) : Prop where
  cs : W.cell? ⟨B, 0, none⟩ = some (.string s)
  pa : W.cell? ⟨B + 1, 0, none⟩ = some (.pointer (some ⟨aB, 0, none⟩))
  nu : W.cell? ⟨B + 2, 0, none⟩ = some (.func (.func 177) #[] #[.pointer (some ⟨B, 0, none⟩), .pointer (some ⟨B + 1, 0, none⟩), .pointer (some ⟨B + 3, 0, none⟩)])
  mu : W.cell? ⟨B + 3, 0, none⟩ = some (.func (.func 176) #[] #[])
  ca : W.cell? ⟨aB, 0, none⟩ = some (.int .i64 a)
  fz : W.frozen? ⟨aB, 0, none⟩ = false
  lt : B + 3 < W.heap.size
  la : aB < B
theorem RdAt.below {W W' : World} {s : ByteArray} {aB B : Nat} {a : Int} (h : RdAt W s aB B a) (hb : Below W.heap.size W W') : RdAt W' s aB B a := by
  have hl := h.lt
  have ha := h.la
  exact ⟨(hb.cell (p := ⟨B, 0, none⟩) (show B < _ by omega)).trans h.cs, (hb.cell (p := ⟨B + 1, 0, none⟩) (show B + 1 < _ by omega)).trans h.pa, (hb.cell (p := ⟨B + 2, 0, none⟩) (show B + 2 < _ by omega)).trans h.nu, (hb.cell (p := ⟨B + 3, 0, none⟩) hl).trans h.mu,
    (hb.cell (p := ⟨aB, 0, none⟩) (show aB < _ by omega)).trans h.ca, (hb.frozen (p := ⟨aB, 0, none⟩) (show aB < _ by omega)).trans h.fz, Nat.lt_of_lt_of_le hl hb.size, ha⟩
/-- what a reading keeps: all blocks that were there, the index's alone aside -/
def Keep (aB : Nat) (W W' : World) : Prop := Below aB W W' ∧ ∀ j, aB < j → j < W.heap.size → W'.heap[j]? = W.heap[j]?
theorem Keep.refl (aB : Nat) (W : World) : Keep aB W W := ⟨Below.refl _ _, fun _ _ _ => rfl⟩
theorem Keep.trans {aB : Nat} {A B C : World} (h : Keep aB A B) (k : Keep aB B C) : Keep aB A C :=
  ⟨h.1.trans k.1, fun j h1 h2 => (k.2 j h1 (Nat.lt_of_lt_of_le h2 h.1.size)).trans (h.2 j h1 h2)⟩
theorem Keep.of_below {aB : Nat} {W W' : World} (h : Below W.heap.size W W') (ha : aB ≤ W.heap.size) : Keep aB W W' :=
  ⟨h.mono ha, fun j _ h2 => h.block j h2⟩
theorem Keep.set {aB : Nat} {W W' : World} (h : Keep aB W W') (v : Value) : Keep aB W (W'.setCell ⟨aB, 0, none⟩ v) :=
  ⟨h.1.setCell (p := ⟨aB, 0, none⟩) (Nat.le_refl _) v, fun j h1 h2 => by
    rw [← h.2 j h1 h2]
    simp only [World.setCell, Array.getElem?_modify]
    rw [if_neg (by omega)]⟩
theorem Keep.cell {aB : Nat} {W W' : World} (h : Keep aB W W') {b o : Nat} {v : Value} (hb : aB < b) (hc : W.cell? ⟨b, o, none⟩ = some v) : W'.cell? ⟨b, o, none⟩ = some v := by
  have hlt := World.block_lt_of_cell? W _ hc
  have e := h.2 b hb hlt
  unfold World.cell? at hc ⊢
  rw [e]; exact hc
theorem Keep.frozen {aB : Nat} {W W' : World} (h : Keep aB W W') {b o : Nat} (hb : aB < b) (hlt : b < W.heap.size) : W'.frozen? ⟨b, o, none⟩ = W.frozen? ⟨b, o, none⟩ := by
  have e := h.2 b hb hlt
  unfold World.frozen?
  rw [e]
theorem set_cell_same {W : World} {B : Nat} {u v : Value} (h : W.cell? ⟨B, 0, none⟩ = some u) : (W.setCell ⟨B, 0, none⟩ v).cell? ⟨B, 0, none⟩ = some v := World.cell?_setCell_same _ _ _ h
theorem RdAt.keep {W W' : World} {s : ByteArray} {aB B : Nat} {a b : Int} (h : RdAt W s aB B a) (hk : Keep aB W W') (hc : W'.cell? ⟨aB, 0, none⟩ = some (.int .i64 b)) (hf : W'.frozen? ⟨aB, 0, none⟩ = false) : RdAt W' s aB B b := by
  have ha := h.la
  have hl := h.lt
  exact ⟨hk.cell (by omega) h.cs, hk.cell (by omega) h.pa, hk.cell (by omega) h.nu, hk.cell (by omega) h.mu, hc, hf, Nat.lt_of_lt_of_le hl hk.1.size, ha⟩
theorem below_drew0 {B : Nat} {a w : World} (h : Below B a w) : Below B a w.drew := h.trans (Below.drew (Below.refl _ _))
theorem nmb_parts {l : List UInt8} {a n x y : Int} (h : rdNum l a = (n, x, y)) : nmb l a = if y = 0 then .ok (n, x) else .error y := by unfold nmb; rw [h]
theorem txt_parts {l u : List UInt8} {a x y : Int} (h : rdStr l a = (u, x, y)) : txt l a = if y = 0 then .ok (u, x) else .error y := by unfold txt; rw [h]
def NumOk (n b : Int) (s : ByteArray) (aB B : Nat) (W : World) (e : Ending) (W' : World) : Prop := e = .returned (.int .i64 n) ∧ RdAt W' s aB B b ∧ Keep aB W W'
def TxtOk (u : List UInt8) (b : Int) (s : ByteArray) (aB B : Nat) (W : World) (e : Ending) (W' : World) : Prop := e = .returned (.string (bA' u)) ∧ RdAt W' s aB B b ∧ Keep aB W W'
def RdNo (x : Int) (aB : Nat) (W : World) (e : Ending) (W' : World) : Prop := e = .panicked (failP x) ∧ Keep aB W W'
set_option maxRecDepth 100000 in
set_option maxHeartbeats 1000000 in
theorem num_ok {s : ByteArray} {aB B : Nat} {a n b : Int} {W : World} (h : nmb s.data.toList a = .ok (n, b)) (hr : RdAt W s aB B a) (he : Env W) (hs : s.size ≤ 140737488355328) :
    Calls Tryz.prog 177 #[.pointer (some ⟨B, 0, none⟩), .pointer (some ⟨B + 1, 0, none⟩), .pointer (some ⟨B + 3, 0, none⟩)] W (NumOk n b s aB B W) := by
  have HN := Lib.hid (show Calls Tryz.prog 94 #[.string s, .int .i64 a] W.drew fun e w' => e = .returned (.tuple #[.int .i64 n, .int .i64 b, .int .i64 0]) ∧ Hid (Below W.heap.size W w') from
    (readNumber_any s a W.drew hs (he.below (below_drew0 (below_refl W)))).mono fun e w' ⟨n', x, y, h1, h2, h3⟩ => by
      have h4 := nmb_parts h2.out
      rw [h] at h4
      split at h4
      · rename_i hy
        simp only [Except.ok.injEq, Prod.mk.injEq] at h4
        obtain ⟨rfl, rfl⟩ := h4
        subst hy
        exact ⟨h1, step2 (below_drew0 (below_refl W)) h3⟩
      · cases h4)
  have HR := Lib.hid hr
  have c0 := hr.cs
  have c1 := hr.pa
  have c2 := hr.ca
  have hla := hr.la
  have hlt := hr.lt
  clear h hr he
  go_enter Tryz.func177, Tryz.ntmps177
  go_upto_region 1 with (fail)
  go_region_held3 (fun w => w.cell? ⟨B, 0, none⟩ = some (.string s) ∧ w.cell? ⟨B + 1, 0, none⟩ = some (.pointer (some ⟨aB, 0, none⟩)) ∧ w.cell? ⟨aB, 0, none⟩ = some (.int .i64 a))
    (first | exact ⟨c0, c1, c2⟩ | exact SK)
    ((go_at_call 94; refine HN.out.mono ?_; rintro e w1 ⟨rfl, hb⟩; have hr1 := Lib.hid (HR.out.below hb.out); have SK := And.intro hr1.out.cs (And.intro hr1.out.pa hr1.out.ca)))
  have d3 := hr1.out.mu
  have d1 := hr1.out.pa
  have d2 := hr1.out.ca
  have df := hr1.out.fz
  clear SK c0 c1 c2
  go_wp2_with fail
  refine (must_ok _).mono ?_
  rintro e w2 ⟨rfl, rfl⟩
  go_wp2_with fail
  go_ret
  have hk : Keep aB W w1 := Keep.of_below hb.out (by omega)
  have hk2 := hk.set (.int .i64 b)
  exact ⟨rfl, HR.out.keep hk2 (set_cell_same d2) (by rw [World.frozen?_setCell]; exact df), hk2⟩
set_option maxRecDepth 100000 in
set_option maxHeartbeats 1000000 in
theorem num_no {s : ByteArray} {aB B : Nat} {a x : Int} {W : World} (h : nmb s.data.toList a = .error x) (hr : RdAt W s aB B a) (he : Env W) (hs : s.size ≤ 140737488355328) :
    Calls Tryz.prog 177 #[.pointer (some ⟨B, 0, none⟩), .pointer (some ⟨B + 1, 0, none⟩), .pointer (some ⟨B + 3, 0, none⟩)] W (RdNo x aB W) := by
  have HN := Lib.hid (show Calls Tryz.prog 94 #[.string s, .int .i64 a] W.drew fun e w' => ∃ n' x' : Int, e = .returned (.tuple #[.int .i64 n', .int .i64 x', .int .i64 x]) ∧ Hid (Below W.heap.size W w') from
    (readNumber_any s a W.drew hs (he.below (below_drew0 (below_refl W)))).mono fun e w' ⟨n', x', y, h1, h2, h3⟩ => by
      have h4 := nmb_parts h2.out
      rw [h] at h4
      split at h4
      · cases h4
      · simp only [Except.error.injEq] at h4
        subst h4
        exact ⟨n', x', h1, step2 (below_drew0 (below_refl W)) h3⟩)
  have hx : x ≠ 0 := by
    unfold nmb at h
    split at h
    · cases h
    · rename_i hy
      simp only [Except.error.injEq] at h
      rw [← h]; exact hy
  have HM := Lib.hid (fun w => must_no x hx w)
  have HR := Lib.hid hr
  have c0 := hr.cs
  have c1 := hr.pa
  have c2 := hr.ca
  have hla := hr.la
  have hlt := hr.lt
  clear h hr he hx
  go_enter Tryz.func177, Tryz.ntmps177
  go_upto_region 1 with (fail)
  go_region_held3 (fun w => w.cell? ⟨B, 0, none⟩ = some (.string s) ∧ w.cell? ⟨B + 1, 0, none⟩ = some (.pointer (some ⟨aB, 0, none⟩)) ∧ w.cell? ⟨aB, 0, none⟩ = some (.int .i64 a))
    (first | exact ⟨c0, c1, c2⟩ | exact SK)
    ((go_at_call 94; refine HN.out.mono ?_; rintro e w1 ⟨n', x', rfl, hb⟩; have hr1 := Lib.hid (HR.out.below hb.out); have SK := And.intro hr1.out.cs (And.intro hr1.out.pa hr1.out.ca)))
  have d3 := hr1.out.mu
  have d1 := hr1.out.pa
  have d2 := hr1.out.ca
  have df := hr1.out.fz
  clear SK c0 c1 c2
  go_wp2_with fail
  refine (HM.out _).mono ?_
  rintro e w2 ⟨rfl, rfl⟩
  go_wp2_with fail
  have hk : Keep aB W w1 := Keep.of_below hb.out (by omega)
  exact ⟨rfl, rfl, hk⟩
set_option maxRecDepth 100000 in
set_option maxHeartbeats 1000000 in
theorem txt_ok' {s : ByteArray} {aB B : Nat} {a b : Int} {u : List UInt8} {W : World} (h : txt s.data.toList a = .ok (u, b)) (hr : RdAt W s aB B a) (he : Env W) (hs : s.size ≤ 140737488355328) :
    Calls Tryz.prog 178 #[.pointer (some ⟨B, 0, none⟩), .pointer (some ⟨B + 1, 0, none⟩), .pointer (some ⟨B + 3, 0, none⟩)] W (TxtOk u b s aB B W) := by
  have HN := Lib.hid (show Calls Tryz.prog 96 #[.string s, .int .i64 a] W.drew fun e w' => e = .returned (.tuple #[.string (bA' u), .int .i64 b, .int .i64 0]) ∧ Hid (Below W.heap.size W w') from
    (readString_any s a W.drew hs (he.below (below_drew0 (below_refl W)))).mono fun e w' ⟨n', x, y, h1, h2, h3⟩ => by
      have h4 := txt_parts h2.out
      rw [h] at h4
      split at h4
      · rename_i hy
        simp only [Except.ok.injEq, Prod.mk.injEq] at h4
        obtain ⟨h5, rfl⟩ := h4
        subst hy
        rw [h5, bA'_of]
        exact ⟨h1, step2 (below_drew0 (below_refl W)) h3⟩
      · cases h4)
  have HR := Lib.hid hr
  have c0 := hr.cs
  have c1 := hr.pa
  have c2 := hr.ca
  have hla := hr.la
  have hlt := hr.lt
  clear h hr he
  go_enter Tryz.func178, Tryz.ntmps178
  go_upto_region 1 with (fail)
  go_region_held3 (fun w => w.cell? ⟨B, 0, none⟩ = some (.string s) ∧ w.cell? ⟨B + 1, 0, none⟩ = some (.pointer (some ⟨aB, 0, none⟩)) ∧ w.cell? ⟨aB, 0, none⟩ = some (.int .i64 a))
    (first | exact ⟨c0, c1, c2⟩ | exact SK)
    ((go_at_call 96; refine HN.out.mono ?_; rintro e w1 ⟨rfl, hb⟩; have hr1 := Lib.hid (HR.out.below hb.out); have SK := And.intro hr1.out.cs (And.intro hr1.out.pa hr1.out.ca)))
  have d3 := hr1.out.mu
  have d1 := hr1.out.pa
  have d2 := hr1.out.ca
  have df := hr1.out.fz
  clear SK c0 c1 c2
  go_wp2_with fail
  refine (must_ok _).mono ?_
  rintro e w2 ⟨rfl, rfl⟩
  go_wp2_with fail
  go_ret
  have hk : Keep aB W w1 := Keep.of_below hb.out (by omega)
  have hk2 := hk.set (.int .i64 b)
  exact ⟨rfl, HR.out.keep hk2 (set_cell_same d2) (by rw [World.frozen?_setCell]; exact df), hk2⟩
set_option maxRecDepth 100000 in
set_option maxHeartbeats 1000000 in
theorem txt_no' {s : ByteArray} {aB B : Nat} {a x : Int} {W : World} (h : txt s.data.toList a = .error x) (hr : RdAt W s aB B a) (he : Env W) (hs : s.size ≤ 140737488355328) :
    Calls Tryz.prog 178 #[.pointer (some ⟨B, 0, none⟩), .pointer (some ⟨B + 1, 0, none⟩), .pointer (some ⟨B + 3, 0, none⟩)] W (RdNo x aB W) := by
  have HN := Lib.hid (show Calls Tryz.prog 96 #[.string s, .int .i64 a] W.drew fun e w' => ∃ (n' : ByteArray) (x' : Int), e = .returned (.tuple #[.string n', .int .i64 x', .int .i64 x]) ∧ Hid (Below W.heap.size W w') from
    (readString_any s a W.drew hs (he.below (below_drew0 (below_refl W)))).mono fun e w' ⟨n', x', y, h1, h2, h3⟩ => by
      have h4 := txt_parts h2.out
      rw [h] at h4
      split at h4
      · cases h4
      · simp only [Except.error.injEq] at h4
        subst h4
        exact ⟨n', x', h1, step2 (below_drew0 (below_refl W)) h3⟩)
  have hx : x ≠ 0 := by
    unfold txt at h
    split at h
    · cases h
    · rename_i hy
      simp only [Except.error.injEq] at h
      rw [← h]; exact hy
  have HM := Lib.hid (fun w => must_no x hx w)
  have HR := Lib.hid hr
  have c0 := hr.cs
  have c1 := hr.pa
  have c2 := hr.ca
  have hla := hr.la
  have hlt := hr.lt
  clear h hr he hx
  go_enter Tryz.func178, Tryz.ntmps178
  go_upto_region 1 with (fail)
  go_region_held3 (fun w => w.cell? ⟨B, 0, none⟩ = some (.string s) ∧ w.cell? ⟨B + 1, 0, none⟩ = some (.pointer (some ⟨aB, 0, none⟩)) ∧ w.cell? ⟨aB, 0, none⟩ = some (.int .i64 a))
    (first | exact ⟨c0, c1, c2⟩ | exact SK)
    ((go_at_call 96; refine HN.out.mono ?_; rintro e w1 ⟨n', x', rfl, hb⟩; have hr1 := Lib.hid (HR.out.below hb.out); have SK := And.intro hr1.out.cs (And.intro hr1.out.pa hr1.out.ca)))
  have d3 := hr1.out.mu
  have d1 := hr1.out.pa
  have d2 := hr1.out.ca
  have df := hr1.out.fz
  clear SK c0 c1 c2
  go_wp2_with fail
  refine (HM.out _).mono ?_
  rintro e w2 ⟨rfl, rfl⟩
  go_wp2_with fail
  have hk : Keep aB W w1 := Keep.of_below hb.out (by omega)
  exact ⟨rfl, rfl, hk⟩
/-- a count: a number in its range -/
theorem cnt_ok_parts {most : Int} {l : List UInt8} {a n b : Int} (h : cnt most l a = .ok (n, b)) : nmb l a = .ok (n, b) ∧ 0 ≤ n ∧ n ≤ most := by
  unfold cnt at h
  rw [bind_ok] at h
  obtain ⟨⟨n', b'⟩, h1, h2⟩ := h
  simp only at h2
  split at h2
  · cases h2
  · simp only [Except.ok.injEq, Prod.mk.injEq] at h2
    obtain ⟨rfl, rfl⟩ := h2
    exact ⟨h1, by omega, by omega⟩
theorem cnt_no_parts {most : Int} {l : List UInt8} {a x : Int} (h : cnt most l a = .error x) : nmb l a = .error x ∨ (∃ n b, nmb l a = .ok (n, b) ∧ (n < 0 ∨ most < n) ∧ x = 2) := by
  unfold cnt at h
  cases hn : nmb l a with
  | error y =>
    rw [hn] at h
    exact .inl (by cases h; rfl)
  | ok p =>
    obtain ⟨n, b⟩ := p
    rw [hn] at h
    simp only [bind, Except.bind] at h
    split at h
    · rename_i hc
      simp only [Except.error.injEq] at h
      exact .inr ⟨n, b, rfl, hc, h.symm⟩
    · cases h
set_option maxRecDepth 100000 in
set_option maxHeartbeats 1000000 in
theorem cnt_ok' {s : ByteArray} {aB B : Nat} {a n b most : Int} {W : World} (h : cnt most s.data.toList a = .ok (n, b)) (hr : RdAt W s aB B a) (he : Env W) (hs : s.size ≤ 140737488355328) :
    Calls Tryz.prog 179 #[.int .i64 most, .pointer (some ⟨B + 2, 0, none⟩), .pointer (some ⟨B + 3, 0, none⟩)] W (NumOk n b s aB B W) := by
  obtain ⟨h1, h2, h3⟩ := cnt_ok_parts h
  have HN := Lib.hid (num_ok h1 hr he hs)
  have c2 := hr.nu
  have eg := enters_of Tryz.func177 (by kernel_rfl) rfl
  clear h h1 hr he
  go_enter Tryz.func179, Tryz.ntmps179
  go_wp2_with fail
  refine HN.out.mono ?_
  rintro e w1 ⟨rfl, hr1, hk1⟩
  go_wp2_with fail
  go_ret
  exact ⟨rfl, hr1, hk1⟩
set_option maxRecDepth 100000 in
set_option maxHeartbeats 1000000 in
theorem cnt_no' {s : ByteArray} {aB B : Nat} {a x most : Int} {W : World} (h : cnt most s.data.toList a = .error x) (hr : RdAt W s aB B a) (he : Env W) (hs : s.size ≤ 140737488355328) :
    Calls Tryz.prog 179 #[.int .i64 most, .pointer (some ⟨B + 2, 0, none⟩), .pointer (some ⟨B + 3, 0, none⟩)] W (RdNo x aB W) := by
  have eg := enters_of Tryz.func177 (by kernel_rfl) rfl
  have eg1 := enters_of Tryz.func176 (by kernel_rfl) rfl
  have c2 := hr.nu
  rcases cnt_no_parts h with h1 | ⟨n, b, h1, h2, rfl⟩
  · have HN := Lib.hid (num_no h1 hr he hs)
    clear h h1 hr he
    go_enter Tryz.func179, Tryz.ntmps179
    go_wp2_with fail
    refine HN.out.mono ?_
    rintro e w1 ⟨rfl, hk1⟩
    go_wp2_with fail
    exact ⟨rfl, rfl, hk1⟩
  · have HN := Lib.hid (num_ok h1 hr he hs)
    have HM := Lib.hid (fun w => must_no 2 (by decide) w)
    clear h h1 hr he
    by_cases h3 : n < 0
    · clear h2
      go_enter Tryz.func179, Tryz.ntmps179
      go_wp2_with fail
      refine HN.out.mono ?_
      rintro e w1 ⟨rfl, hr1, hk1⟩
      have d3 := hr1.mu
      go_wp2_with fail
      refine (HM.out _).mono ?_
      rintro e w2 ⟨rfl, rfl⟩
      go_wp2_with fail
      exact ⟨rfl, rfl, hk1⟩
    · have h4 : most < n := by omega
      clear h2
      go_enter Tryz.func179, Tryz.ntmps179
      go_wp2_with fail
      refine HN.out.mono ?_
      rintro e w1 ⟨rfl, hr1, hk1⟩
      have d3 := hr1.mu
      go_wp2_with fail
      refine (HM.out _).mono ?_
      rintro e w2 ⟨rfl, rfl⟩
      go_wp2_with fail
      exact ⟨rfl, rfl, hk1⟩
/-- reader lays its variables: four blocks from the next one on -/
def ReaderP (s : ByteArray) (aB : Nat) (a : Int) (W : World) (e : Ending) (W' : World) : Prop :=
  e = .returned (.tuple #[.func (.func 177) #[] #[.pointer (some ⟨W.heap.size, 0, none⟩), .pointer (some ⟨W.heap.size + 1, 0, none⟩), .pointer (some ⟨W.heap.size + 3, 0, none⟩)],
    .func (.func 178) #[] #[.pointer (some ⟨W.heap.size, 0, none⟩), .pointer (some ⟨W.heap.size + 1, 0, none⟩), .pointer (some ⟨W.heap.size + 3, 0, none⟩)],
    .func (.func 179) #[] #[.pointer (some ⟨W.heap.size + 2, 0, none⟩), .pointer (some ⟨W.heap.size + 3, 0, none⟩)]]) ∧ RdAt W' s aB W.heap.size a ∧ Below W.heap.size W W'
set_option maxRecDepth 100000 in
set_option maxHeartbeats 1000000 in
theorem reader_any (s : ByteArray) (aB : Nat) (a : Int) (W : World) (ha : W.cell? ⟨aB, 0, none⟩ = some (.int .i64 a)) (hf : W.frozen? ⟨aB, 0, none⟩ = false) :
    Calls Tryz.prog 142 #[.string s, .pointer (some ⟨aB, 0, none⟩)] W (ReaderP s aB a W) := by
  have hmf : ∀ (fn : Fn) (first cap : Array Value) (w : World), (Instr.makeFunc fn first cap).run Tryz.prog w = .ok (.func fn first cap) w := fun _ _ _ _ => rfl
  go_enter Tryz.func142, Tryz.ntmps142
  have hla := World.block_lt_of_cell? W _ ha
  go_wp2_with fail
  have hb : Below W.heap.size W ((((W.alloc (.cells #[.string s] 9)).alloc (.cells #[.pointer (some ⟨aB, 0, none⟩)] 206)).alloc (.cells #[.func (.func 177) #[] #[.pointer (some ⟨W.heap.size, 0, none⟩), .pointer (some ⟨W.heap.size + 1, 0, none⟩), .pointer (some ⟨W.heap.size + 1 + 1 + 1, 0, none⟩)]] 117)).alloc (.cells #[.func (.func 176) #[] #[]] 226)) :=
    ((((Below.refl _ W).alloc (Nat.le_refl _) _).alloc (by simp) _).alloc (by simp; omega) _).alloc (by simp; omega) _
  refine bodyPost_ret (v := .tuple #[.func (.func 177) #[] #[.pointer (some ⟨W.heap.size, 0, none⟩), .pointer (some ⟨W.heap.size + 1, 0, none⟩), .pointer (some ⟨W.heap.size + 3, 0, none⟩)],
    .func (.func 178) #[] #[.pointer (some ⟨W.heap.size, 0, none⟩), .pointer (some ⟨W.heap.size + 1, 0, none⟩), .pointer (some ⟨W.heap.size + 3, 0, none⟩)],
    .func (.func 179) #[] #[.pointer (some ⟨W.heap.size + 2, 0, none⟩), .pointer (some ⟨W.heap.size + 3, 0, none⟩)]]) (by simp [results, Tryz.results142, go_sem]) rfl ⟨rfl, ?_, hb⟩
  refine ⟨?_, ?_, ?_, ?_, (hb.cell (p := ⟨aB, 0, none⟩) hla).trans ha, (hb.frozen (p := ⟨aB, 0, none⟩) hla).trans hf, by simp, hla⟩
  all_goals simp [go_sem]
end Go.Proofs.YtpkapcijgldhhaaGreatDoor

namespace Go.Proofs.YtpkapcijgldhhaaGreatDoor
open Go.RowKit Go.Shelf

def namesB : List ByteArray := [⟨#[102, 105, 108, 101]⟩, ⟨#[100, 105, 114]⟩, ⟨#[108, 105, 110, 107]⟩, ⟨#[114, 101, 109, 111, 118, 101]⟩, ⟨#[104, 111, 108, 100]⟩, ⟨#[114, 101, 108, 101, 97, 115, 101]⟩]
theorem strs_box {W : World} {g : Nat} {L : List ByteArray} {T : TypeId} (h : Box W g (L.map Value.string) T) (hl : L.length ≤ maxLen) : Strs W (.slice (some ⟨g, 0, none⟩) L.length L.length) L := by
  refine ⟨some ⟨g, 0, none⟩, L.length, by rw [List.length_map], by rw [List.length_map]; exact Nat.le_refl _, hl, ?_⟩
  by_cases h0 : L = []
  · subst h0; exact .inl ⟨rfl, fun e => by cases e⟩
  · refine .inr ⟨g, 0, rfl, fun i u hu => ?_⟩
    rw [Nat.zero_add, h.cell i]; exact hu
def NamesQ (w : World) (e : Ending) (w' : World) : Prop := ∃ g, e = .returned (.slice (some ⟨g, 0, none⟩) 6 6) ∧ w.heap.size ≤ g ∧ Box w' g (namesB.map Value.string) 9 ∧ Below w.heap.size w w'
theorem namesQ_any (w : World) : Calls Tryz.prog 181 #[] w (NamesQ w) := by
  have HC := Lib.hid (Box.new w (namesB.map Value.string) 9)
  go_enter Tryz.func181, Tryz.ntmps181
  go_wp2_with fail
  go_ret
  exact ⟨_, rfl, Nat.le_refl _, HC.out, (below_refl _).alloc (Nat.le_refl _) _⟩
/-- where a string stands first -/
def IdxR (l : List ByteArray) (x : ByteArray) (n : Int) : Prop := (∃ j : Nat, n = j ∧ j < l.length ∧ l.getD j ByteArray.empty = x) ∨ (n = -1 ∧ ∀ j, j < l.length → l.getD j ByteArray.empty ≠ x)
def IdxP' (l : List ByteArray) (x : ByteArray) (w : World) (e : Ending) (w' : World) : Prop := ∃ n : Int, e = .returned (.int .i64 n) ∧ Hid (IdxR l x n) ∧ Below w.heap.size w w'
set_option maxRecDepth 100000 in
set_option maxHeartbeats 1000000 in
theorem idx_any (v : Value) (l : List ByteArray) (x : ByteArray) (w : World) (hl : Strs w v l) (hpos : 0 < l.length) :
    Calls Tryz.prog 180 #[v, .string x] w (IdxP' l x w) := by
  obtain ⟨hla, ha'⟩ := row_cases hl
  simp only [List.length_map] at hla ha'
  unfold maxLen at hla
  rcases ha' with ⟨h0', aa, ca, rfl, _⟩ | ⟨h0', ba, oa, ca, rfl, hca, hca2, hcella⟩
  · have hla0 : l = [] := by simpa using h0'
    subst hla0; exact absurd hpos (by decide)
  have Hcella := Lib.hid hcella; clear hcella hl
  go_enter Tryz.func180, Tryz.ntmps180
  go_wp2_with fail
  go_loopw [8] (fun i wr => ∃ k : Nat, k ≤ l.length ∧ i = .int .i64 k ∧ Hid (∀ j, j < k → l.getD j ByteArray.empty ≠ x) ∧ Below w.heap.size w wr) (fun i _ => l.length - (intOf i).toNat)
  case atStart => exact ⟨0, by omega, rfl, fun j hj => absurd hj (Nat.not_lt_zero _), below_refl _⟩
  case round =>
    obtain ⟨k, hk, rfl, hA, hbw⟩ := hrel
    by_cases hlt : k < l.length
    · have c1 : wr.cell? ⟨ba, oa + k, none⟩ = some (.string (l.getD k ByteArray.empty)) := by
        have := Hcella.out k (.string l[k]) (by simp [hlt])
        rw [hbw.cell (World.block_lt_of_cell? w _ this), this, List.getD_eq_getElem?_getD, List.getElem?_eq_getElem hlt]; rfl
      have HY := Lib.hid (show l.getD k ByteArray.empty = x → IdxR l x (k : Int) from fun h => .inl ⟨k, rfl, hlt, h⟩)
      have HN := Lib.hid (show l.getD k ByteArray.empty ≠ x → ∀ j, j < k + 1 → l.getD j ByteArray.empty ≠ x from fun h j hj => by
        by_cases e : j = k
        · rw [e]; exact h
        · exact hA.out j (by omega))
      generalize l.getD k ByteArray.empty = y at *
      by_cases hc : y.data.toList = x.data.toList
      · have q1 : (y.toList == x.toList) = true := by rw [str_eq]; exact decide_eq_true hc
        have q2 : (x.toList == y.toList) = true := by rw [str_eq]; exact decide_eq_true hc.symm
        have HR := Lib.hid (HY.out (list_inj hc))
        clear HY HN hc hA
        go_wp2_with fail
        go_ret
        exact ⟨_, rfl, HR, hbw⟩
      · have q1 : (y.toList == x.toList) = false := by rw [str_eq]; exact decide_eq_false hc
        have q2 : (x.toList == y.toList) = false := by rw [str_eq]; exact decide_eq_false (fun h => hc h.symm)
        have HR := Lib.hid (HN.out fun h => hc (by rw [h]))
        clear HY HN hc hA
        go_wp2_with fail
        go_roundw
        case rel => exact ⟨k + 1, by omega, by go_num, HR, hbw⟩
        case measure => simp [intOf]; omega
    · obtain rfl : k = l.length := by omega
      have HR : Hid (IdxR l x (-1)) := .inr ⟨rfl, hA.out⟩
      go_wp2_with fail
      go_ret
      exact ⟨_, rfl, HR, hbw⟩
theorem idx_kind {x : ByteArray} {n : Int} (h : IdxR namesB x n) : n = kindOf x.data.toList - 1 := by
  rcases h with ⟨j, rfl, hj, rfl⟩ | ⟨rfl, h⟩
  · have : j = 0 ∨ j = 1 ∨ j = 2 ∨ j = 3 ∨ j = 4 ∨ j = 5 := by have : namesB.length = 6 := rfl; omega
    rcases this with rfl | rfl | rfl | rfl | rfl | rfl <;> decide
  · have hk : kindOf x.data.toList = 0 := by
      rcases Classical.em (kindOf x.data.toList = 0) with h0 | h0
      · exact h0
      · exfalso
        obtain ⟨h1, h2⟩ := kindOf_iff.1 ⟨rfl, h0⟩
        have : kindOf x.data.toList = 1 ∨ kindOf x.data.toList = 2 ∨ kindOf x.data.toList = 3 ∨ kindOf x.data.toList = 4 ∨ kindOf x.data.toList = 5 ∨ kindOf x.data.toList = 6 := by omega
        rcases this with e | e | e | e | e | e <;> rw [e] at h2
        · exact h 0 (by decide) (list_inj h2.symm)
        · exact h 1 (by decide) (list_inj h2.symm)
        · exact h 2 (by decide) (list_inj h2.symm)
        · exact h 3 (by decide) (list_inj h2.symm)
        · exact h 4 (by decide) (list_inj h2.symm)
        · exact h 5 (by decide) (list_inj h2.symm)
    rw [hk]; rfl

/-! ### the head's reading, step by step -/
def hd5 (l : List UInt8) (k : Int) (p : List UInt8) (A : List At) : Except Int (List UInt8 × Int) → Except Int Hd
  | .error x => .error x
  | .ok (t, f) => if f = l.length then .ok ⟨k, bA' p, A, bA' t⟩ else .error 3
def hd4 (l : List UInt8) (k : Int) (p : List UInt8) : Except Int (List At × Int) → Except Int Hd
  | .error x => .error x
  | .ok (A, e) => hd5 l k p A (txt l e)
def hd3 (l : List UInt8) (k : Int) (p : List UInt8) : Except Int (Int × Int) → Except Int Hd
  | .error x => .error x
  | .ok (n, d) => hd4 l k p (rowR (atR l) d n.toNat)
def hd2 (l : List UInt8) (k : Int) : Except Int (List UInt8 × Int) → Except Int Hd
  | .error x => .error x
  | .ok (p, c) => hd3 l k p (cnt 400 l c)
def hd1 (l : List UInt8) : Except Int (List UInt8 × Int) → Except Int Hd
  | .error x => .error x
  | .ok (u, b) => if kindOf u = 0 then .error 3 else hd2 l (kindOf u) (txt l b)
theorem headR_steps (l : List UInt8) : headR l = hd1 l (txt l 0) := by
  unfold headR
  cases txt l 0 with
  | error x => rfl
  | ok p =>
    obtain ⟨u, b⟩ := p
    show (if kindOf u = 0 then _ else _) = (if kindOf u = 0 then _ else _)
    split
    · rfl
    · cases txt l b with
      | error x => rfl
      | ok p =>
        obtain ⟨p, c⟩ := p
        show _ = hd3 l _ p (cnt 400 l c)
        simp only [bind, Except.bind]
        cases cnt 400 l c with
        | error x => rfl
        | ok q =>
          obtain ⟨n, d⟩ := q
          show _ = hd4 l _ p (rowR (atR l) d n.toNat)
          simp only
          cases rowR (atR l) d n.toNat with
          | error x => rfl
          | ok q =>
            obtain ⟨A, e⟩ := q
            show _ = hd5 l _ p A (txt l e)
            simp only
            cases txt l e with
            | error x => rfl
            | ok q => obtain ⟨t, f⟩ := q; rfl
theorem rowR_stop {α : Type} {f : Int → Except Int (α × Int)} {a b : Int} {x : Int} {k : Nat} {A : List α} (h : rowR f a k = .ok (A, b)) (hx : f b = .error x) : ∀ n, k < n → rowR f a n = .error x := by
  intro n hn
  induction n with
  | zero => omega
  | succ n ih =>
    rw [rowR]
    by_cases e : k = n
    · subst e; rw [h]; simp only [bind, Except.bind, hx]
    · rw [ih (by omega)]; rfl
theorem rowR_next {α : Type} {f : Int → Except Int (α × Int)} {a b c : Int} {x : α} {k : Nat} {A : List α} (h : rowR f a k = .ok (A, b)) (hx : f b = .ok (x, c)) : rowR f a (k + 1) = .ok (A ++ [x], c) := by
  rw [rowR, h]; simp only [bind, Except.bind, hx]
theorem atR_e1 {l : List UInt8} {a x : Int} (h : txt l a = .error x) : atR l a = .error x := by unfold atR; rw [h]; rfl
theorem atR_e2 {l u : List UInt8} {a b x : Int} (h : txt l a = .ok (u, b)) (h2 : txt l b = .error x) : atR l a = .error x := by unfold atR; rw [h]; simp only [bind, Except.bind, h2]
theorem atR_o {l u v : List UInt8} {a b c : Int} (h : txt l a = .ok (u, b)) (h2 : txt l b = .ok (v, c)) : atR l a = .ok (⟨bA' u, bA' v⟩, c) := by unfold atR; rw [h]; simp only [bind, Except.bind, h2]
end Go.Proofs.YtpkapcijgldhhaaGreatDoor
