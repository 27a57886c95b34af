/-
  The walks of the closures that entry.reader returns: they read a number, a string, a count, and panic at the first error.
-/
import Derived.Test.YtpkapcijgldhhaaGreatDoorCa09
import Derived.Test.YtpkapcijgldhhaaGreatDoorCa10
import Derived.Deep.RegionHeld3
import Derived.Laws.EntriesVeiled
namespace Go.Proofs.YtpkapcijgldhhaaGreatDoor
open Go.RowKit Go.Shelf

/-- the panic of an error -/
def failP (x : Int) : List PanicEntry := [{ v := .iface 202 (.agg #[.int .i64 x]), recovered := false }]
theorem must_ok (w : World) : Calls Tryz.prog 176 #[.int .i64 0] w fun e w' => e = .returned (.tuple #[]) ∧ w = w' := by
  go_enter Tryz.func176, Tryz.ntmps176
  go_wp2_with fail
  go_end0
  exact ⟨rfl, rfl⟩
theorem must_no (x : Int) (hx : x ≠ 0) (w : World) : Calls Tryz.prog 176 #[.int .i64 x] w fun e w' => e = .panicked (failP x) ∧ w = w' := by
  have q1 : (x != 0) = true := by rw [bne_iff_ne]; exact hx
  have Hx := Lib.hid hx; clear hx
  go_enter Tryz.func176, Tryz.ntmps176
  go_wp2_with fail
  exact ⟨rfl, rfl, rfl⟩
/-- the variables of a reader: its string, the address of the index, the functions; the index itself -/
structure RdAt (W : World) (s : ByteArray) (aB B : Nat) (a : Int) : Prop where
  cs : W.cell? ⟨B, 0, none⟩ = some (.string s)
  pa : W.cell? ⟨B + 1, 0, none⟩ = some (.pointer (some ⟨aB, 0, none⟩))
  nu : W.cell? ⟨B + 2, 0, none⟩ = some (.func (.func 177) #[] #[.pointer (some ⟨B, 0, none⟩), .pointer (some ⟨B + 1, 0, none⟩), .pointer (some ⟨B + 3, 0, none⟩)])
  mu : W.cell? ⟨B + 3, 0, none⟩ = some (.func (.func 176) #[] #[])
  ca : W.cell? ⟨aB, 0, none⟩ = some (.int .i64 a)
  fz : W.frozen? ⟨aB, 0, none⟩ = false
  lt : B + 3 < W.heap.size
  la : aB < B
theorem RdAt.below {W W' : World} {s : ByteArray} {aB B : Nat} {a : Int} (h : RdAt W s aB B a) (hb : Below W.heap.size W W') : RdAt W' s aB B a := by
  have hl := h.lt
  have ha := h.la
  exact ⟨(hb.cell (p := ⟨B, 0, none⟩) (show B < _ by omega)).trans h.cs, (hb.cell (p := ⟨B + 1, 0, none⟩) (show B + 1 < _ by omega)).trans h.pa, (hb.cell (p := ⟨B + 2, 0, none⟩) (show B + 2 < _ by omega)).trans h.nu, (hb.cell (p := ⟨B + 3, 0, none⟩) hl).trans h.mu,
    (hb.cell (p := ⟨aB, 0, none⟩) (show aB < _ by omega)).trans h.ca, (hb.frozen (p := ⟨aB, 0, none⟩) (show aB < _ by omega)).trans h.fz, Nat.lt_of_lt_of_le hl hb.size, ha⟩
/-- what a reading keeps: all blocks that were there, the index's alone aside -/
def Keep (aB : Nat) (W W' : World) : Prop := Below aB W W' ∧ ∀ j, aB < j → j < W.heap.size → W'.heap[j]? = W.heap[j]?
theorem Keep.refl (aB : Nat) (W : World) : Keep aB W W := ⟨Below.refl _ _, fun _ _ _ => rfl⟩
theorem Keep.trans {aB : Nat} {A B C : World} (h : Keep aB A B) (k : Keep aB B C) : Keep aB A C :=
  ⟨h.1.trans k.1, fun j h1 h2 => (k.2 j h1 (Nat.lt_of_lt_of_le h2 h.1.size)).trans (h.2 j h1 h2)⟩
theorem Keep.of_below {aB : Nat} {W W' : World} (h : Below W.heap.size W W') (ha : aB ≤ W.heap.size) : Keep aB W W' :=
  ⟨h.mono ha, fun j _ h2 => h.block j h2⟩
theorem Keep.set {aB : Nat} {W W' : World} (h : Keep aB W W') (v : Value) : Keep aB W (W'.setCell ⟨aB, 0, none⟩ v) :=
  ⟨h.1.setCell (p := ⟨aB, 0, none⟩) (Nat.le_refl _) v, fun j h1 h2 => by
    rw [← h.2 j h1 h2]
    simp only [World.setCell, Array.getElem?_modify]
    rw [if_neg (by omega)]⟩
theorem Keep.cell {aB : Nat} {W W' : World} (h : Keep aB W W') {b o : Nat} {v : Value} (hb : aB < b) (hc : W.cell? ⟨b, o, none⟩ = some v) : W'.cell? ⟨b, o, none⟩ = some v := by
  have hlt := World.block_lt_of_cell? W _ hc
  have e := h.2 b hb hlt
  unfold World.cell? at hc ⊢
  rw [e]; exact hc
theorem Keep.frozen {aB : Nat} {W W' : World} (h : Keep aB W W') {b o : Nat} (hb : aB < b) (hlt : b < W.heap.size) : W'.frozen? ⟨b, o, none⟩ = W.frozen? ⟨b, o, none⟩ := by
  have e := h.2 b hb hlt
  unfold World.frozen?
  rw [e]
theorem set_cell_same {W : World} {B : Nat} {u v : Value} (h : W.cell? ⟨B, 0, none⟩ = some u) : (W.setCell ⟨B, 0, none⟩ v).cell? ⟨B, 0, none⟩ = some v := World.cell?_setCell_same _ _ _ h
theorem RdAt.keep {W W' : World} {s : ByteArray} {aB B : Nat} {a b : Int} (h : RdAt W s aB B a) (hk : Keep aB W W') (hc : W'.cell? ⟨aB, 0, none⟩ = some (.int .i64 b)) (hf : W'.frozen? ⟨aB, 0, none⟩ = false) : RdAt W' s aB B b := by
  have ha := h.la
  have hl := h.lt
  exact ⟨hk.cell (by omega) h.cs, hk.cell (by omega) h.pa, hk.cell (by omega) h.nu, hk.cell (by omega) h.mu, hc, hf, Nat.lt_of_lt_of_le hl hk.1.size, ha⟩
theorem below_drew0 {B : Nat} {a w : World} (h : Below B a w) : Below B a w.drew := h.trans (Below.drew (Below.refl _ _))
theorem nmb_parts {l : List UInt8} {a n x y : Int} (h : rdNum l a = (n, x, y)) : nmb l a = if y = 0 then .ok (n, x) else .error y := by unfold nmb; rw [h]
theorem txt_parts {l u : List UInt8} {a x y : Int} (h : rdStr l a = (u, x, y)) : txt l a = if y = 0 then .ok (u, x) else .error y := by unfold txt; rw [h]
def NumOk (n b : Int) (s : ByteArray) (aB B : Nat) (W : World) (e : Ending) (W' : World) : Prop := e = .returned (.int .i64 n) ∧ RdAt W' s aB B b ∧ Keep aB W W'
def TxtOk (u : List UInt8) (b : Int) (s : ByteArray) (aB B : Nat) (W : World) (e : Ending) (W' : World) : Prop := e = .returned (.string (bA' u)) ∧ RdAt W' s aB B b ∧ Keep aB W W'
def RdNo (x : Int) (aB : Nat) (W : World) (e : Ending) (W' : World) : Prop := e = .panicked (failP x) ∧ Keep aB W W'
set_option maxRecDepth 100000 in
set_option maxHeartbeats 1000000 in
theorem num_ok {s : ByteArray} {aB B : Nat} {a n b : Int} {W : World} (h : nmb s.data.toList a = .ok (n, b)) (hr : RdAt W s aB B a) (he : Env W) (hs : s.size ≤ 140737488355328) :
    Calls Tryz.prog 177 #[.pointer (some ⟨B, 0, none⟩), .pointer (some ⟨B + 1, 0, none⟩), .pointer (some ⟨B + 3, 0, none⟩)] W (NumOk n b s aB B W) := by
  have HN := Lib.hid (show Calls Tryz.prog 94 #[.string s, .int .i64 a] W.drew fun e w' => e = .returned (.tuple #[.int .i64 n, .int .i64 b, .int .i64 0]) ∧ Hid (Below W.heap.size W w') from
    (readNumber_any s a W.drew hs (he.below (below_drew0 (below_refl W)))).mono fun e w' ⟨n', x, y, h1, h2, h3⟩ => by
      have h4 := nmb_parts h2.out
      rw [h] at h4
      split at h4
      · rename_i hy
        simp only [Except.ok.injEq, Prod.mk.injEq] at h4
        obtain ⟨rfl, rfl⟩ := h4
        subst hy
        exact ⟨h1, step2 (below_drew0 (below_refl W)) h3⟩
      · cases h4)
  have HR := Lib.hid hr
  have c0 := hr.cs
  have c1 := hr.pa
  have c2 := hr.ca
  have hla := hr.la
  have hlt := hr.lt
  clear h hr he
  go_enter Tryz.func177, Tryz.ntmps177
  go_upto_region 1 with (fail)
  go_region_held3 (fun w => w.cell? ⟨B, 0, none⟩ = some (.string s) ∧ w.cell? ⟨B + 1, 0, none⟩ = some (.pointer (some ⟨aB, 0, none⟩)) ∧ w.cell? ⟨aB, 0, none⟩ = some (.int .i64 a))
    (first | exact ⟨c0, c1, c2⟩ | exact SK)
    ((go_at_call 94; refine HN.out.mono ?_; rintro e w1 ⟨rfl, hb⟩; have hr1 := Lib.hid (HR.out.below hb.out); have SK := And.intro hr1.out.cs (And.intro hr1.out.pa hr1.out.ca)))
  have d3 := hr1.out.mu
  have d1 := hr1.out.pa
  have d2 := hr1.out.ca
  have df := hr1.out.fz
  clear SK c0 c1 c2
  go_wp2_with fail
  refine (must_ok _).mono ?_
  rintro e w2 ⟨rfl, rfl⟩
  go_wp2_with fail
  go_ret
  have hk : Keep aB W w1 := Keep.of_below hb.out (by omega)
  have hk2 := hk.set (.int .i64 b)
  exact ⟨rfl, HR.out.keep hk2 (set_cell_same d2) (by rw [World.frozen?_setCell]; exact df), hk2⟩
set_option maxRecDepth 100000 in
set_option maxHeartbeats 1000000 in
theorem num_no {s : ByteArray} {aB B : Nat} {a x : Int} {W : World} (h : nmb s.data.toList a = .error x) (hr : RdAt W s aB B a) (he : Env W) (hs : s.size ≤ 140737488355328) :
    Calls Tryz.prog 177 #[.pointer (some ⟨B, 0, none⟩), .pointer (some ⟨B + 1, 0, none⟩), .pointer (some ⟨B + 3, 0, none⟩)] W (RdNo x aB W) := by
  have HN := Lib.hid (show Calls Tryz.prog 94 #[.string s, .int .i64 a] W.drew fun e w' => ∃ n' x' : Int, e = .returned (.tuple #[.int .i64 n', .int .i64 x', .int .i64 x]) ∧ Hid (Below W.heap.size W w') from
    (readNumber_any s a W.drew hs (he.below (below_drew0 (below_refl W)))).mono fun e w' ⟨n', x', y, h1, h2, h3⟩ => by
      have h4 := nmb_parts h2.out
      rw [h] at h4
      split at h4
      · cases h4
      · simp only [Except.error.injEq] at h4
        subst h4
        exact ⟨n', x', h1, step2 (below_drew0 (below_refl W)) h3⟩)
  have hx : x ≠ 0 := by
    unfold nmb at h
    split at h
    · cases h
    · rename_i hy
      simp only [Except.error.injEq] at h
      rw [← h]; exact hy
  have HM := Lib.hid (fun w => must_no x hx w)
  have HR := Lib.hid hr
  have c0 := hr.cs
  have c1 := hr.pa
  have c2 := hr.ca
  have hla := hr.la
  have hlt := hr.lt
  clear h hr he hx
  go_enter Tryz.func177, Tryz.ntmps177
  go_upto_region 1 with (fail)
  go_region_held3 (fun w => w.cell? ⟨B, 0, none⟩ = some (.string s) ∧ w.cell? ⟨B + 1, 0, none⟩ = some (.pointer (some ⟨aB, 0, none⟩)) ∧ w.cell? ⟨aB, 0, none⟩ = some (.int .i64 a))
    (first | exact ⟨c0, c1, c2⟩ | exact SK)
    ((go_at_call 94; refine HN.out.mono ?_; rintro e w1 ⟨n', x', rfl, hb⟩; have hr1 := Lib.hid (HR.out.below hb.out); have SK := And.intro hr1.out.cs (And.intro hr1.out.pa hr1.out.ca)))
  have d3 := hr1.out.mu
  have d1 := hr1.out.pa
  have d2 := hr1.out.ca
  have df := hr1.out.fz
  clear SK c0 c1 c2
  go_wp2_with fail
  refine (HM.out _).mono ?_
  rintro e w2 ⟨rfl, rfl⟩
  go_wp2_with fail
  have hk : Keep aB W w1 := Keep.of_below hb.out (by omega)
  exact ⟨rfl, rfl, hk⟩
set_option maxRecDepth 100000 in
set_option maxHeartbeats 1000000 in
theorem txt_ok' {s : ByteArray} {aB B : Nat} {a b : Int} {u : List UInt8} {W : World} (h : txt s.data.toList a = .ok (u, b)) (hr : RdAt W s aB B a) (he : Env W) (hs : s.size ≤ 140737488355328) :
    Calls Tryz.prog 178 #[.pointer (some ⟨B, 0, none⟩), .pointer (some ⟨B + 1, 0, none⟩), .pointer (some ⟨B + 3, 0, none⟩)] W (TxtOk u b s aB B W) := by
  have HN := Lib.hid (show Calls Tryz.prog 96 #[.string s, .int .i64 a] W.drew fun e w' => e = .returned (.tuple #[.string (bA' u), .int .i64 b, .int .i64 0]) ∧ Hid (Below W.heap.size W w') from
    (readString_any s a W.drew hs (he.below (below_drew0 (below_refl W)))).mono fun e w' ⟨n', x, y, h1, h2, h3⟩ => by
      have h4 := txt_parts h2.out
      rw [h] at h4
      split at h4
      · rename_i hy
        simp only [Except.ok.injEq, Prod.mk.injEq] at h4
        obtain ⟨h5, rfl⟩ := h4
        subst hy
        rw [h5, bA'_of]
        exact ⟨h1, step2 (below_drew0 (below_refl W)) h3⟩
      · cases h4)
  have HR := Lib.hid hr
  have c0 := hr.cs
  have c1 := hr.pa
  have c2 := hr.ca
  have hla := hr.la
  have hlt := hr.lt
  clear h hr he
  go_enter Tryz.func178, Tryz.ntmps178
  go_upto_region 1 with (fail)
  go_region_held3 (fun w => w.cell? ⟨B, 0, none⟩ = some (.string s) ∧ w.cell? ⟨B + 1, 0, none⟩ = some (.pointer (some ⟨aB, 0, none⟩)) ∧ w.cell? ⟨aB, 0, none⟩ = some (.int .i64 a))
    (first | exact ⟨c0, c1, c2⟩ | exact SK)
    ((go_at_call 96; refine HN.out.mono ?_; rintro e w1 ⟨rfl, hb⟩; have hr1 := Lib.hid (HR.out.below hb.out); have SK := And.intro hr1.out.cs (And.intro hr1.out.pa hr1.out.ca)))
  have d3 := hr1.out.mu
  have d1 := hr1.out.pa
  have d2 := hr1.out.ca
  have df := hr1.out.fz
  clear SK c0 c1 c2
  go_wp2_with fail
  refine (must_ok _).mono ?_
  rintro e w2 ⟨rfl, rfl⟩
  go_wp2_with fail
  go_ret
  have hk : Keep aB W w1 := Keep.of_below hb.out (by omega)
  have hk2 := hk.set (.int .i64 b)
  exact ⟨rfl, HR.out.keep hk2 (set_cell_same d2) (by rw [World.frozen?_setCell]; exact df), hk2⟩
set_option maxRecDepth 100000 in
set_option maxHeartbeats 1000000 in
theorem txt_no' {s : ByteArray} {aB B : Nat} {a x : Int} {W : World} (h : txt s.data.toList a = .error x) (hr : RdAt W s aB B a) (he : Env W) (hs : s.size ≤ 140737488355328) :
    Calls Tryz.prog 178 #[.pointer (some ⟨B, 0, none⟩), .pointer (some ⟨B + 1, 0, none⟩), .pointer (some ⟨B + 3, 0, none⟩)] W (RdNo x aB W) := by
  have HN := Lib.hid (show Calls Tryz.prog 96 #[.string s, .int .i64 a] W.drew fun e w' => ∃ (n' : ByteArray) (x' : Int), e = .returned (.tuple #[.string n', .int .i64 x', .int .i64 x]) ∧ Hid (Below W.heap.size W w') from
    (readString_any s a W.drew hs (he.below (below_drew0 (below_refl W)))).mono fun e w' ⟨n', x', y, h1, h2, h3⟩ => by
      have h4 := txt_parts h2.out
      rw [h] at h4
      split at h4
      · cases h4
      · simp only [Except.error.injEq] at h4
        subst h4
        exact ⟨n', x', h1, step2 (below_drew0 (below_refl W)) h3⟩)
  have hx : x ≠ 0 := by
    unfold txt at h
    split at h
    · cases h
    · rename_i hy
      simp only [Except.error.injEq] at h
      rw [← h]; exact hy
  have HM := Lib.hid (fun w => must_no x hx w)
  have HR := Lib.hid hr
  have c0 := hr.cs
  have c1 := hr.pa
  have c2 := hr.ca
  have hla := hr.la
  have hlt := hr.lt
  clear h hr he hx
  go_enter Tryz.func178, Tryz.ntmps178
  go_upto_region 1 with (fail)
  go_region_held3 (fun w => w.cell? ⟨B, 0, none⟩ = some (.string s) ∧ w.cell? ⟨B + 1, 0, none⟩ = some (.pointer (some ⟨aB, 0, none⟩)) ∧ w.cell? ⟨aB, 0, none⟩ = some (.int .i64 a))
    (first | exact ⟨c0, c1, c2⟩ | exact SK)
    ((go_at_call 96; refine HN.out.mono ?_; rintro e w1 ⟨n', x', rfl, hb⟩; have hr1 := Lib.hid (HR.out.below hb.out); have SK := And.intro hr1.out.cs (And.intro hr1.out.pa hr1.out.ca)))
  have d3 := hr1.out.mu
  have d1 := hr1.out.pa
  have d2 := hr1.out.ca
  have df := hr1.out.fz
  clear SK c0 c1 c2
  go_wp2_with fail
  refine (HM.out _).mono ?_
  rintro e w2 ⟨rfl, rfl⟩
  go_wp2_with fail
  have hk : Keep aB W w1 := Keep.of_below hb.out (by omega)
  exact ⟨rfl, rfl, hk⟩
/-- a count: a number in its range -/
theorem cnt_ok_parts {most : Int} {l : List UInt8} {a n b : Int} (h : cnt most l a = .ok (n, b)) : nmb l a = .ok (n, b) ∧ 0 ≤ n ∧ n ≤ most := by
  unfold cnt at h
  rw [bind_ok] at h
  obtain ⟨⟨n', b'⟩, h1, h2⟩ := h
  simp only at h2
  split at h2
  · cases h2
  · simp only [Except.ok.injEq, Prod.mk.injEq] at h2
    obtain ⟨rfl, rfl⟩ := h2
    exact ⟨h1, by omega, by omega⟩
theorem cnt_no_parts {most : Int} {l : List UInt8} {a x : Int} (h : cnt most l a = .error x) : nmb l a = .error x ∨ (∃ n b, nmb l a = .ok (n, b) ∧ (n < 0 ∨ most < n) ∧ x = 2) := by
  unfold cnt at h
  cases hn : nmb l a with
  | error y =>
    rw [hn] at h
    exact .inl (by cases h; rfl)
  | ok p =>
    obtain ⟨n, b⟩ := p
    rw [hn] at h
    simp only [bind, Except.bind] at h
    split at h
    · rename_i hc
      simp only [Except.error.injEq] at h
      exact .inr ⟨n, b, rfl, hc, h.symm⟩
    · cases h
set_option maxRecDepth 100000 in
set_option maxHeartbeats 1000000 in
theorem cnt_ok' {s : ByteArray} {aB B : Nat} {a n b most : Int} {W : World} (h : cnt most s.data.toList a = .ok (n, b)) (hr : RdAt W s aB B a) (he : Env W) (hs : s.size ≤ 140737488355328) :
    Calls Tryz.prog 179 #[.int .i64 most, .pointer (some ⟨B + 2, 0, none⟩), .pointer (some ⟨B + 3, 0, none⟩)] W (NumOk n b s aB B W) := by
  obtain ⟨h1, h2, h3⟩ := cnt_ok_parts h
  have HN := Lib.hid (num_ok h1 hr he hs)
  have c2 := hr.nu
  have eg := enters_of Tryz.func177 (by kernel_rfl) rfl
  clear h h1 hr he
  go_enter Tryz.func179, Tryz.ntmps179
  go_wp2_with fail
  refine HN.out.mono ?_
  rintro e w1 ⟨rfl, hr1, hk1⟩
  go_wp2_with fail
  go_ret
  exact ⟨rfl, hr1, hk1⟩
set_option maxRecDepth 100000 in
set_option maxHeartbeats 1000000 in
theorem cnt_no' {s : ByteArray} {aB B : Nat} {a x most : Int} {W : World} (h : cnt most s.data.toList a = .error x) (hr : RdAt W s aB B a) (he : Env W) (hs : s.size ≤ 140737488355328) :
    Calls Tryz.prog 179 #[.int .i64 most, .pointer (some ⟨B + 2, 0, none⟩), .pointer (some ⟨B + 3, 0, none⟩)] W (RdNo x aB W) := by
  have eg := enters_of Tryz.func177 (by kernel_rfl) rfl
  have eg1 := enters_of Tryz.func176 (by kernel_rfl) rfl
  have c2 := hr.nu
  rcases cnt_no_parts h with h1 | ⟨n, b, h1, h2, rfl⟩
  · have HN := Lib.hid (num_no h1 hr he hs)
    clear h h1 hr he
    go_enter Tryz.func179, Tryz.ntmps179
    go_wp2_with fail
    refine HN.out.mono ?_
    rintro e w1 ⟨rfl, hk1⟩
    go_wp2_with fail
    exact ⟨rfl, rfl, hk1⟩
  · have HN := Lib.hid (num_ok h1 hr he hs)
    have HM := Lib.hid (fun w => must_no 2 (by decide) w)
    clear h h1 hr he
    by_cases h3 : n < 0
    · clear h2
      go_enter Tryz.func179, Tryz.ntmps179
      go_wp2_with fail
      refine HN.out.mono ?_
      rintro e w1 ⟨rfl, hr1, hk1⟩
      have d3 := hr1.mu
      go_wp2_with fail
      refine (HM.out _).mono ?_
      rintro e w2 ⟨rfl, rfl⟩
      go_wp2_with fail
      exact ⟨rfl, rfl, hk1⟩
    · have h4 : most < n := by omega
      clear h2
      go_enter Tryz.func179, Tryz.ntmps179
      go_wp2_with fail
      refine HN.out.mono ?_
      rintro e w1 ⟨rfl, hr1, hk1⟩
      have d3 := hr1.mu
      go_wp2_with fail
      refine (HM.out _).mono ?_
      rintro e w2 ⟨rfl, rfl⟩
      go_wp2_with fail
      exact ⟨rfl, rfl, hk1⟩
/-- reader lays its variables: four blocks from the next one on -/
def ReaderP (s : ByteArray) (aB : Nat) (a : Int) (W : World) (e : Ending) (W' : World) : Prop :=
  e = .returned (.tuple #[.func (.func 177) #[] #[.pointer (some ⟨W.heap.size, 0, none⟩), .pointer (some ⟨W.heap.size + 1, 0, none⟩), .pointer (some ⟨W.heap.size + 3, 0, none⟩)],
    .func (.func 178) #[] #[.pointer (some ⟨W.heap.size, 0, none⟩), .pointer (some ⟨W.heap.size + 1, 0, none⟩), .pointer (some ⟨W.heap.size + 3, 0, none⟩)],
    .func (.func 179) #[] #[.pointer (some ⟨W.heap.size + 2, 0, none⟩), .pointer (some ⟨W.heap.size + 3, 0, none⟩)]]) ∧ RdAt W' s aB W.heap.size a ∧ Below W.heap.size W W'
set_option maxRecDepth 100000 in
set_option maxHeartbeats 1000000 in
theorem reader_any (s : ByteArray) (aB : Nat) (a : Int) (W : World) (ha : W.cell? ⟨aB, 0, none⟩ = some (.int .i64 a)) (hf : W.frozen? ⟨aB, 0, none⟩ = false) :
    Calls Tryz.prog 142 #[.string s, .pointer (some ⟨aB, 0, none⟩)] W (ReaderP s aB a W) := by
  have hmf : ∀ (fn : Fn) (first cap : Array Value) (w : World), (Instr.makeFunc fn first cap).run Tryz.prog w = .ok (.func fn first cap) w := fun _ _ _ _ => rfl
  go_enter Tryz.func142, Tryz.ntmps142
  have hla := World.block_lt_of_cell? W _ ha
  go_wp2_with fail
  have hb : Below W.heap.size W ((((W.alloc (.cells #[.string s] 9)).alloc (.cells #[.pointer (some ⟨aB, 0, none⟩)] 206)).alloc (.cells #[.func (.func 177) #[] #[.pointer (some ⟨W.heap.size, 0, none⟩), .pointer (some ⟨W.heap.size + 1, 0, none⟩), .pointer (some ⟨W.heap.size + 1 + 1 + 1, 0, none⟩)]] 117)).alloc (.cells #[.func (.func 176) #[] #[]] 226)) :=
    ((((Below.refl _ W).alloc (Nat.le_refl _) _).alloc (by simp) _).alloc (by simp; omega) _).alloc (by simp; omega) _
  refine bodyPost_ret (v := .tuple #[.func (.func 177) #[] #[.pointer (some ⟨W.heap.size, 0, none⟩), .pointer (some ⟨W.heap.size + 1, 0, none⟩), .pointer (some ⟨W.heap.size + 3, 0, none⟩)],
    .func (.func 178) #[] #[.pointer (some ⟨W.heap.size, 0, none⟩), .pointer (some ⟨W.heap.size + 1, 0, none⟩), .pointer (some ⟨W.heap.size + 3, 0, none⟩)],
    .func (.func 179) #[] #[.pointer (some ⟨W.heap.size + 2, 0, none⟩), .pointer (some ⟨W.heap.size + 3, 0, none⟩)]]) (by simp [results, Tryz.results142, go_sem]) rfl ⟨rfl, ?_, hb⟩
  refine ⟨?_, ?_, ?_, ?_, (hb.cell (p := ⟨aB, 0, none⟩) hla).trans ha, (hb.frozen (p := ⟨aB, 0, none⟩) hla).trans hf, by simp, hla⟩
  all_goals simp [go_sem]
end Go.Proofs.YtpkapcijgldhhaaGreatDoor
