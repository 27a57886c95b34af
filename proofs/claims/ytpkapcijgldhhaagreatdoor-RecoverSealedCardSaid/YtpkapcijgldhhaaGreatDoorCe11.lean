/-
  The walks of dates, names of kinds and targets.
  The walks of names of kinds and of targets.
  The walk of the check of size, digest and extents.
-/
import Derived.Test.YtpkapcijgldhhaaGreatDoorCe07
import Derived.Test.YtpkapcijgldhhaaGreatDoorCe08
namespace Go.Proofs.YtpkapcijgldhhaaGreatDoor
open Go.RowKit Go.Shelf

theorem dateB_iff (l : List UInt8) : dateB l = true ↔ ∃ v : Int, Lib.atoiAll l = .ok v ∧ 0 ≤ v ∧ v ≤ 1000000000 ∧ Lib.itoa v = l := by
  unfold dateB
  simp only [Bool.and_eq_true, Bool.or_eq_true, decide_eq_true_eq]
  constructor
  · rintro ⟨⟨⟨⟨h1, h2⟩, h3⟩, h4⟩, h5⟩
    have h45 : l.head? ≠ some 45 := by
      intro e
      match l, h4, e with
      | c :: r, h4, e =>
        simp only [List.head?_cons, Option.some.injEq] at e
        subst e
        simp [isDig] at h4
    have hd : decB l = true := by
      rw [← natOk_pos h45, natOk_iff]
      exact ⟨by intro e; rw [e] at h1; exact absurd h1 (by decide), h4, h3⟩
    have hv := pos_dec h45
    have hi := itoa_val hd
    rcases atoi_dec hd with ⟨_, _, h⟩ | ⟨h, _⟩
    · exact ⟨_, h, by omega, by omega, hi⟩
    · omega
  · rintro ⟨v, h1, h2, h3, h4⟩
    obtain ⟨n, rfl⟩ := Int.eq_ofNat_of_zero_le h2
    have hn : n ≤ 1000000000 := by omega
    rw [Lib.itoa, if_neg (by omega), Int.toNat_natCast] at h4
    subst h4
    obtain ⟨f1, f2, f3, f4⟩ := dd_facts n
    refine ⟨⟨⟨⟨List.length_pos_iff.2 f3, decDigits_len 9 n (by omega)⟩, ?_⟩, f1⟩, by rw [f2]; exact hn⟩
    by_cases h0 : n = 0
    · left; subst h0; rw [dd_zero]; decide
    · right; exact f4 (by omega)
theorem atoi_bad (s : ByteArray) (w : World) (he : Env w) (hs : s.size ≤ 140737488355328) (h : ∀ v, Lib.atoiAll s.data.toList ≠ .ok v) :
    Calls Tryz.prog 140 #[.string s] w fun e w' => ∃ (n : Int) (N : Nat), e = .returned (.tuple #[.int .i64 n, .iface 248 (.pointer (some ⟨N, 0, none⟩))]) ∧ Below w.heap.size w w' := by
  cases hc : Lib.atoiAll s.data.toList with
  | ok v => exact absurd hc (h v)
  | range =>
    obtain ⟨tp, p, hp⟩ := he.rng
    refine (Tryz.strconv_Atoi_range_var s (by omega) hc tp p w hp).mono ?_
    rintro e w' ⟨N, rfl, _, _, hb⟩
    exact ⟨_, N, rfl, hb⟩
  | _ =>
    obtain ⟨tp, p, hp⟩ := he.syn
    refine (Any.strconv_Atoi_syntax_var Tryz.laysC172 s (by omega) hc tp p w hp).mono ?_
    rintro e w' ⟨N, rfl, _, _, hb⟩
    exact ⟨_, N, rfl, hb⟩
set_option maxHeartbeats 1000000 in
theorem isDate_any (s : ByteArray) (w : World) (he : Env w) (hs : s.size ≤ 1000000) : Calls Tryz.prog 216 #[.string s] w (BoolP (dateB s.data.toList) w) := by
  have HI := Lib.hid (dateB_iff s.data.toList)
  by_cases hx : ∃ v, Lib.atoiAll s.data.toList = .ok v
  · obtain ⟨v, hv⟩ := hx
    have HA := Lib.hid (fun w => Tryz.strconv_Atoi_ok s (by omega) v hv w)
    have HF := Lib.hid (show (v < 0 ∨ 1000000000 < v) → dateB s.data.toList = false from fun h => by
      cases hd : dateB s.data.toList
      · rfl
      · obtain ⟨u, h1, h2, h3, _⟩ := HI.out.1 hd
        rw [hv] at h1
        cases h1
        omega)
    have HG := Lib.hid (show 0 ≤ v → v ≤ 1000000000 → decide (Lib.itoa v = s.data.toList) = dateB s.data.toList from fun h1 h2 => by
      rw [Bool.eq_iff_iff, decide_eq_true_eq, HI.out]
      constructor
      · intro h; exact ⟨v, hv, h1, h2, h⟩
      · rintro ⟨u, g1, _, _, g4⟩
        rw [hv] at g1
        cases g1; exact g4)
    have HV := Lib.hid hv
    clear hv HI
    generalize dateB s.data.toList = r at *
    by_cases h1 : v < 0
    · have HR := Lib.hid (HF.out (.inl h1))
      clear HF HG
      go_enter Tryz.func216, Tryz.ntmps216
      go_wp2_with fail
      refine (HA.out _).mono ?_
      rintro e w1 ⟨rfl, hw1⟩
      have hb : Below w.heap.size w w1 := by
        rcases hw1 with rfl | ⟨t, rfl⟩
        · exact below_refl _
        · exact below_bytes _ _ _
      clear hw1
      go_wp2_with fail
      go_ret
      exact ⟨ret_bool HR.out.symm, hb⟩
    by_cases h2 : 1000000000 < v
    · have HR := Lib.hid (HF.out (.inr h2))
      clear HF HG
      go_enter Tryz.func216, Tryz.ntmps216
      go_wp2_with fail
      refine (HA.out _).mono ?_
      rintro e w1 ⟨rfl, hw1⟩
      have hb : Below w.heap.size w w1 := by
        rcases hw1 with rfl | ⟨t, rfl⟩
        · exact below_refl _
        · exact below_bytes _ _ _
      clear hw1
      go_wp2_with fail
      go_ret
      exact ⟨ret_bool HR.out.symm, hb⟩
    have HR := Lib.hid (HG.out (by omega) (by omega))
    have HE := Lib.hid he
    clear HF HG he
    go_enter Tryz.func216, Tryz.ntmps216
    go_wp2_with fail
    refine (HA.out _).mono ?_
    rintro e w1 ⟨rfl, hw1⟩
    have hb : Below w.heap.size w w1 := by
      rcases hw1 with rfl | ⟨t, rfl⟩
      · exact below_refl _
      · exact below_bytes _ _ _
    clear hw1
    go_wp2_with fail
    refine (itoa_any v _ (HE.out.below hb) (by omega) (by omega)).mono ?_
    rintro e w2 ⟨t, rfl, ht, hb2⟩
    have HT : Hid ((t.toList == s.toList) = r) := by rw [Hid, str_eq, ht.out]; exact HR.out
    go_wp2_with fail
    go_ret
    exact ⟨ret_bool HT.out, step2 hb hb2⟩
  · have hx' : ∀ v, Lib.atoiAll s.data.toList ≠ .ok v := fun v e => hx ⟨v, e⟩
    have HR : Hid (dateB s.data.toList = false) := by
      rw [Hid]
      cases hd : dateB s.data.toList
      · rfl
      · obtain ⟨v, h, _⟩ := HI.out.1 hd; exact absurd h (hx' v)
    have HA := Lib.hid (atoi_bad s w he (by omega) hx')
    clear hx hx' HI
    go_enter Tryz.func216, Tryz.ntmps216
    go_wp2_with fail
    refine HA.out.mono ?_
    rintro e w1 ⟨n, N, rfl, hb⟩
    go_wp2_with fail
    go_ret
    exact ⟨ret_bool HR.out.symm, hb⟩
end Go.Proofs.YtpkapcijgldhhaaGreatDoor

namespace Go.Proofs.YtpkapcijgldhhaaGreatDoor
open Go.RowKit Go.Shelf
theorem isEmpty_size (s : ByteArray) : s.data.toList.isEmpty = decide (s.size = 0) := by
  rw [Bool.eq_iff_iff, List.isEmpty_iff, decide_eq_true_eq]
  exact ⟨fun h => by rw [← toList_size, h]; rfl, fun h => List.eq_nil_of_length_eq_zero h⟩
set_option maxHeartbeats 1000000 in
theorem target_any (kd : Int) (pt tg dg : ByteArray) (sz : Int) (va vx : Value) (w : World) (he : Env w) (hs : tg.size ≤ 1000000) :
    Calls Tryz.prog 184 #[.agg #[.int .i64 kd, .string pt, va, .string tg, .int .i64 sz, .string dg, vx]] w (BoolP (targetB kd tg.data.toList) w) := by
  have hb0 : Below w.heap.size w (w.alloc (.cells #[.int .i64 kd, .string pt, va, .string tg, .int .i64 sz, .string dg, vx] 109)) := (below_refl _).alloc (Nat.le_refl _) _
  by_cases h3 : kd = 3
  · subst h3
    have HT : Hid (targetB 3 tg.data.toList = (decide (1 ≤ tg.size) && decide (tg.size ≤ 200))) := rfl
    by_cases h0 : tg.size = 0
    · have HR : Hid (targetB 3 tg.data.toList = false) := by rw [Hid, HT.out, decide_eq_false (show ¬ 1 ≤ tg.size by omega)]; rfl
      have he0 : tg.toList.isEmpty = true := by rw [isEmpty_list, isEmpty_size]; exact decide_eq_true h0
      clear HT h0
      go_enter Tryz.func184, Tryz.ntmps184
      go_wp2_with fail
      go_ret
      exact ⟨ret_bool HR.out.symm, hb0⟩
    · have he0 : tg.toList.isEmpty = false := by rw [isEmpty_list, isEmpty_size]; exact decide_eq_false h0
      have HR : Hid (targetB 3 tg.data.toList = decide ((tg.size : Int) ≤ 200)) := by
        rw [Hid, HT.out, decide_eq_true (show 1 ≤ tg.size by omega), Bool.true_and, decide_eq_decide]; omega
      clear HT h0
      go_enter Tryz.func184, Tryz.ntmps184
      go_wp2_with fail
      go_ret
      exact ⟨ret_bool HR.out.symm, hb0⟩
  have q3 : (kd == 3) = false := by simpa using h3
  by_cases h5 : kd = 5
  · subst h5
    have HT : Hid (targetB 5 tg.data.toList = dateB tg.data.toList) := rfl
    have HD := Lib.hid (fun w he => isDate_any tg w he hs)
    have HE := Lib.hid (he.below hb0)
    rw [← HT.out] at HD
    generalize targetB 5 tg.data.toList = r at *
    clear HT he h3
    go_enter Tryz.func184, Tryz.ntmps184
    go_wp2_with fail
    refine (HD.out _ HE.out).mono ?_
    rintro e w1 ⟨rfl, hb⟩
    go_wp2_with fail
    go_ret
    exact ⟨rfl, step2 hb0 hb⟩
  have q5 : (kd == 5) = false := by simpa using h5
  have HT : Hid (targetB kd tg.data.toList = tg.toList.isEmpty) := by rw [Hid, targetB, if_neg h3, if_neg h5, isEmpty_list]
  clear h3 h5
  go_enter Tryz.func184, Tryz.ntmps184
  go_wp2_with fail
  go_ret
  exact ⟨ret_bool HT.out.symm, hb0⟩
end Go.Proofs.YtpkapcijgldhhaaGreatDoor

namespace Go.Proofs.YtpkapcijgldhhaaGreatDoor
open Go.RowKit Go.Shelf

theorem sizeE_range {kd sz : Int} {d : Nat} (h : sz < 0 ∨ (if kd = 1 then 65536 else 0) < sz) : sizeE kd sz d = 2 := by rw [sizeE, if_pos h]
theorem sizeE_arg {kd sz : Int} {d : Nat} (h : ¬ (sz < 0 ∨ (if kd = 1 then 65536 else 0) < sz)) (h2 : d ≠ (if kd = 1 then 32 else 0)) : sizeE kd sz d = 1 := by rw [sizeE, if_neg h, if_pos h2]
theorem sizeE_ok {kd sz : Int} {d : Nat} (h : ¬ (sz < 0 ∨ (if kd = 1 then 65536 else 0) < sz)) (h2 : ¬ d ≠ (if kd = 1 then 32 else 0)) : sizeE kd sz d = 0 := by rw [sizeE, if_neg h, if_neg h2]
theorem contE_size {kd sz : Int} {d : Nat} {X : List Ex} {e : Int} (h : sizeE kd sz d = e) (he : e ≠ 0) : contE kd sz d X = e := by rw [contE, h, if_neg he]
theorem contE_ext {kd sz : Int} {d : Nat} {X : List Ex} {e : Int} {k : Nat} (h : sizeE kd sz d = 0) (h2 : firstE (exE kd X) k = 0) (hk : k < X.length) (h3 : exE kd X k = e) (he : e ≠ 0) : contE kd sz d X = e := by
  have := firstE_stop h2 (by rw [h3]; exact he) hk
  rw [contE, if_pos h, this, h3, if_neg he]
theorem contE_sum {kd sz : Int} {d : Nat} {X : List Ex} (h : sizeE kd sz d = 0) (h2 : firstE (exE kd X) X.length = 0) : contE kd sz d X = if exSum X = sz then 0 else 1 := by rw [contE, if_pos h, if_pos h2]
theorem exE_bad {X : List Ex} {k : Nat} (h : exOk (exAt X k) = false) : exE 1 X k = 2 := by rw [exE, if_pos rfl, h]; rfl
theorem exE_ok {X : List Ex} {k : Nat} (h : exOk (exAt X k) = true) : exE 1 X k = 0 := by rw [exE, if_pos rfl, h]; rfl
theorem exE_kind {kd : Int} {X : List Ex} {k : Nat} (h : ¬ kd = 1) : exE kd X k = 1 := by rw [exE, if_neg h]
theorem exE_allOk {X : List Ex} (h : firstE (exE 1 X) X.length = 0) (k : Nat) (hk : k < X.length) : exOk (exAt X k) = true := by
  have := firstE_all h k hk
  cases e : exOk (exAt X k)
  · rw [exE_bad e] at this; cases this
  · rfl
theorem exSum_take (X : List Ex) (k : Nat) (h : k < X.length) : exSum (X.take (k + 1)) = exSum (X.take k) + (exAt X k).l := by
  rw [List.take_succ_eq_append_getElem h, exSum, exSum, List.map_append, List.sum_append, exAt_get h]; simp
theorem exSum_rest (X : List Ex) (k : Nat) (h : ∀ j, j < X.length → 1 ≤ (exAt X j).l) : exSum (X.take k) ≤ exSum X := by
  have e : exSum X = exSum (X.take k) + exSum (X.drop k) := by
    conv => lhs; rw [← List.take_append_drop k X]
    rw [exSum, List.map_append, List.sum_append]; rfl
  have h2 := sum_ge (X.drop k) (fun x hx => by
    obtain ⟨j, hj, rfl⟩ := List.getElem_of_mem (List.mem_of_mem_drop hx)
    have := h j hj
    rwa [exAt_get hj] at this)
  omega
set_option maxRecDepth 100000 in
set_option maxHeartbeats 4000000 in
theorem content_file (pt tg dg : ByteArray) (sz : Int) (va vx : Value) (X : List Ex) (w : World) (hx : ExRow w vx X) (hok : ∀ i, ExOk (exAt X i)) (hlen : X.length ≤ 1000000) (_hdg : dg.size ≤ 1000000) :
    Calls Tryz.prog 185 #[.agg #[.int .i64 1, .string pt, va, .string tg, .int .i64 sz, .string dg, vx]] w (IntP (contE 1 sz dg.size X) w) := by
  obtain ⟨xa, xc, rfl⟩ := hx.form
  have hb0 : Below w.heap.size w (w.alloc (.cells #[.int .i64 1, .string pt, va, .string tg, .int .i64 sz, .string dg, .slice xa X.length xc] 109)) := (below_refl _).alloc (Nat.le_refl _) _
  have C := alloc_new_cell w #[.int .i64 1, .string pt, va, .string tg, .int .i64 sz, .string dg, .slice xa X.length xc] 109
  have hsz0 := size_one w (.cells #[.int .i64 1, .string pt, va, .string tg, .int .i64 sz, .string dg, .slice xa X.length xc] 109)
  have hHX := hx.2
  have HX := Lib.hid hHX
  have HOK := Lib.hid hok
  clear hx hok hHX
  by_cases h1 : sz < 0
  · have HR := Lib.hid (contE_size (X := X) (sizeE_range (kd := 1) (d := dg.size) (.inl h1)) (by decide))
    clear C
    go_enter Tryz.func185, Tryz.ntmps185
    go_wp2_with fail
    go_ret
    exact ⟨ret_int HR.out.symm, hb0⟩
  by_cases h2 : 65536 < sz
  · have HR := Lib.hid (contE_size (X := X) (sizeE_range (kd := 1) (d := dg.size) (.inr h2)) (by decide))
    clear C
    go_enter Tryz.func185, Tryz.ntmps185
    go_wp2_with fail
    go_ret
    exact ⟨ret_int HR.out.symm, hb0⟩
  have hn : ¬ (sz < 0 ∨ (if (1 : Int) = 1 then 65536 else 0) < sz) := by rw [if_pos rfl]; omega
  by_cases h3 : dg.size = 32
  case neg =>
    have HR := Lib.hid (contE_size (X := X) (sizeE_arg hn (by rw [if_pos rfl]; exact h3)) (by decide))
    have q1 : ((dg.size : Int) == 32) = false := by simp; omega
    have q2 : ((dg.size : Int) != 32) = true := by simp; omega
    clear C hn
    have H3 := Lib.hid h3; clear h3
    go_enter Tryz.func185, Tryz.ntmps185
    go_wp2_with fail
    go_ret
    exact ⟨ret_int HR.out.symm, hb0⟩
  have q1 : ((dg.size : Int) == 32) = true := by simp; omega
  have q2 : ((dg.size : Int) != 32) = false := by simp; omega
  have HS := Lib.hid (sizeE_ok hn (d := dg.size) (by rw [if_pos rfl]; exact fun h => h h3))
  clear hn h3
  go_enter Tryz.func185, Tryz.ntmps185
  go_upto_region 1 with (fail)
  obtain ⟨W1, hW1⟩ : ∃ W1, w.alloc (.cells #[.int .i64 1, .string pt, va, .string tg, .int .i64 sz, .string dg, .slice xa X.length xc] 109) = W1 := ⟨_, rfl⟩
  change Code.wp _ _ _ _ (w.alloc (.cells #[.int .i64 1, .string pt, va, .string tg, .int .i64 sz, .string dg, .slice xa X.length xc] 109))
  rw [hW1] at C hb0 hsz0 ⊢
  have hlt1 : w.heap.size < W1.heap.size := by omega
  clear hW1 hsz0
  have c0 : W1.cell? ⟨w.heap.size, 0, none⟩ = some (.int .i64 1) := C 0
  have c4 : W1.cell? ⟨w.heap.size, 4, none⟩ = some (.int .i64 sz) := C 4
  have c5 : W1.cell? ⟨w.heap.size, 5, none⟩ = some (.string dg) := C 5
  have c6 : W1.cell? ⟨w.heap.size, 6, none⟩ = some (.slice xa X.length xc) := C 6
  clear C
  rcases HX.out with ⟨rfl, _⟩ | ⟨hpos, b, o, cc, ev, _, _, hb, hXX⟩
  · have HR : Hid (contE 1 sz dg.size [] = if 0 = sz then 0 else 1) := contE_sum HS.out rfl
    by_cases hz : 0 = sz
    · subst hz
      rw [if_pos rfl] at HR
      go_upto_block 0 with (fail)
      go_wp2_with fail
      refine wp_loop_rounds 1 ?_; rw [rounds_succ]
      go_wp2_with fail
      refine wp_loop_rounds 1 ?_; rw [rounds_succ]
      go_wp2_with fail
      go_ret
      exact ⟨ret_int HR.out.symm, hb0⟩
    · rw [if_neg hz] at HR
      have q4 : (sz == 0) = false := by simp; omega
      have q5 : (sz != 0) = true := by simp; omega
      have HZ := Lib.hid hz; clear hz
      go_upto_block 0 with (fail)
      go_wp2_with fail
      refine wp_loop_rounds 1 ?_; rw [rounds_succ]
      go_wp2_with fail
      refine wp_loop_rounds 1 ?_; rw [rounds_succ]
      go_wp2_with fail
      go_ret
      exact ⟨ret_int HR.out.symm, hb0⟩
  cases ev
  have hXX : ExAt w b o X := hXX
  have HXX := Lib.hid hXX
  clear hXX HX
  go_upto_block 0 with (fail)
  go_wp2_with fail
  go_loopw [32] (fun i wr => ∃ k : Nat, k ≤ X.length ∧ i = .int .i64 k ∧ Hid (firstE (exE 1 X) k = 0) ∧ Below W1.heap.size W1 wr) (fun i _ => X.length - (intOf i).toNat)
  case atStart => exact ⟨0, by omega, rfl, rfl, below_refl _⟩
  case round =>
    obtain ⟨k, hk, rfl, hE, hbw⟩ := hrel
    have c0' : wr.cell? ⟨w.heap.size, 0, none⟩ = some (.int .i64 1) := (hbw.cell (p := ⟨w.heap.size, 0, none⟩) (show w.heap.size < _ by omega)).trans c0
    have c4' : wr.cell? ⟨w.heap.size, 4, none⟩ = some (.int .i64 sz) := (hbw.cell (p := ⟨w.heap.size, 4, none⟩) (show w.heap.size < _ by omega)).trans c4
    have c6' : wr.cell? ⟨w.heap.size, 6, none⟩ = some (.slice (some ⟨b, o, none⟩) X.length xc) := (hbw.cell (p := ⟨w.heap.size, 6, none⟩) (show w.heap.size < _ by omega)).trans c6
    have hbr := step2 hb0 hbw
    have hwl : w.heap.size < wr.heap.size := by have := hbw.size; omega
    by_cases hlt : k < X.length
    · obtain ⟨x0, x1, x2⟩ := exCells (show ExAt wr b o X from HXX.out.below hbr hb) hlt
      have hy := HOK.out k
      obtain ⟨ys, yo, yl⟩ := hy
      have HP := Lib.hid (exOk_iff (x := exAt X k))
      have S1 := Lib.hid (show exOk (exAt X k) = false → 2 = contE 1 sz dg.size X from fun h => (contE_ext HS.out hE.out hlt (exE_bad h) (by decide)).symm)
      have S2 := Lib.hid (show exOk (exAt X k) = true → firstE (exE 1 X) (k + 1) = 0 from fun h => firstE_next hE.out (exE_ok h))
      have hbW : Below wr.heap.size wr (wr.alloc (.cells #[.int .i64 (exAt X k).s, .int .i64 (exAt X k).o, .int .i64 (exAt X k).l] 34)) := (below_refl wr).alloc (Nat.le_refl _) _
      generalize exOk (exAt X k) = ok at *
      generalize (exAt X k).s = xs at *
      generalize (exAt X k).o = xo at *
      generalize (exAt X k).l = xl at *
      clear c4' c6'
      go_upto_region 14 with (fail)
      cases ok
      · have HR := Lib.hid (S1.out rfl)
        have HN := Lib.hid (show ¬ (0 ≤ xs ∧ xs ≤ 255 ∧ 0 ≤ xo ∧ xo ≤ 2147483647 ∧ 1 ≤ xl ∧ xl ≤ 65536 ∧ (xs = 0 → xo = 0)) from fun h => by have := HP.out.2 h; cases this)
        have HD := Lib.hid (show xs < 0 ∨ (0 ≤ xs ∧ 255 < xs) ∨ (0 ≤ xs ∧ xs ≤ 255 ∧ xl < 1) ∨ (0 ≤ xs ∧ xs ≤ 255 ∧ 1 ≤ xl ∧ 65536 < xl) ∨ (0 ≤ xs ∧ xs ≤ 255 ∧ 1 ≤ xl ∧ xl ≤ 65536 ∧ xo < 0) ∨ (0 ≤ xs ∧ xs ≤ 255 ∧ 1 ≤ xl ∧ xl ≤ 65536 ∧ 0 ≤ xo ∧ 2147483647 < xo) ∨ (xs = 0 ∧ 1 ≤ xl ∧ xl ≤ 65536 ∧ 0 ≤ xo ∧ xo ≤ 2147483647 ∧ ¬ xo = 0) from by have := HN.out; omega)
        clear S1 S2 HP x0 x1 x2 HN
        rcases HD.out with g1 | ⟨g1, g2⟩ | ⟨g1, g2, g3⟩ | ⟨g1, g2, g3, g4⟩ | ⟨g1, g2, g3, g4, g5⟩ | ⟨g1, g2, g3, g4, g5, g6⟩ | ⟨rfl, g3, g4, g5, g6, g7⟩
        case inr.inr.inr.inr.inr.inr =>
          have q4 : (xo == 0) = false := by simpa using g7
          have q5 : (xo != 0) = true := by simpa using g7
          clear g7 HD
          go_wp2_with fail
          go_ret
          exact ⟨ret_int HR.out, step2 hbr hbW⟩
        all_goals
          clear HD
          go_wp2_with fail
          go_ret
          exact ⟨ret_int HR.out, step2 hbr hbW⟩
      · have HE2 := Lib.hid (S2.out rfl)
        obtain ⟨g1, g2, g3, g4, g5, g6, g7⟩ := HP.out.1 rfl
        clear S1 S2 HP x0 x1 x2
        by_cases hz : xs = 0
        · have hzo := g7 hz
          subst hz
          subst hzo
          go_wp2_with fail
          go_roundw
          case rel => exact ⟨k + 1, by omega, by go_num, HE2, step2 hbw hbW⟩
          case measure => simp [intOf]; omega
        · have q4 : (xs == 0) = false := by simpa using hz
          clear g7 hz
          go_wp2_with fail
          go_roundw
          case rel => exact ⟨k + 1, by omega, by go_num, HE2, step2 hbw hbW⟩
          case measure => simp [intOf]; omega
    · obtain rfl : k = X.length := by omega
      have HC := Lib.hid (contE_sum (X := X) HS.out hE.out)
      have HAL := Lib.hid (exE_allOk hE.out)
      clear hE HS c0'
      have HLE := Lib.hid (fun j => exSum_rest X j fun i hi => (exOk_iff.1 (HAL.out i hi)).2.2.2.2.1)
      obtain ⟨wo, rfl⟩ : ∃ wo : World, wo = wr := ⟨_, rfl⟩
      go_upto_block 2 with (fail)
      go_wp2_with fail
      go_loopw [5, 81] (fun r i wr => ∃ (k : Nat) (m : Int), k ≤ X.length ∧ i = .int .i64 k ∧ r = .int .i64 (sz - m) ∧ Hid (m = exSum (X.take k)) ∧ 0 ≤ m ∧ m ≤ sz ∧ Below wo.heap.size wo wr) (fun _ i _ => X.length - (intOf i).toNat)
      case atStart => exact ⟨0, 0, by omega, rfl, by simp, rfl, by omega, by omega, below_refl _⟩
      case round =>
        obtain ⟨k, m, hk2, rfl, rfl, hm, hm0, hm1, hbq⟩ := hrel
        have c4q : wr.cell? ⟨w.heap.size, 4, none⟩ = some (.int .i64 sz) := (hbq.cell (p := ⟨w.heap.size, 4, none⟩) hwl).trans c4'
        have hbr2 := step2 hbr hbq
        by_cases hlt : k < X.length
        · obtain ⟨x0, x1, x2⟩ := exCells (show ExAt wr b o X from HXX.out.below hbr2 hb) hlt
          have HP := Lib.hid (exOk_iff.1 (HAL.out k hlt))
          have hl1 := HP.out.2.2.2.2.1
          have hl2 := HP.out.2.2.2.2.2.1
          have hbW : Below wr.heap.size wr (wr.alloc (.cells #[.int .i64 (exAt X k).s, .int .i64 (exAt X k).o, .int .i64 (exAt X k).l] 34)) := (below_refl wr).alloc (Nat.le_refl _) _
          have HST := Lib.hid (exSum_take X k hlt)
          have HLK := Lib.hid (HLE.out (k + 1))
          rw [HST.out, ← hm.out] at HLK
          rw [← hm.out] at HST
          have hsl : w.heap.size < wr.heap.size := Nat.lt_of_lt_of_le hwl hbq.size
          clear HP
          generalize (exAt X k).s = xs at *
          generalize (exAt X k).o = xo at *
          generalize (exAt X k).l = xl at *
          by_cases hg : sz - m < xl
          · have HR : Hid (1 = contE 1 sz dg.size X) := by rw [Hid, HC.out, if_neg (by have := HLK.out; omega)]
            clear HC HST HLK
            go_wp2_with fail
            go_ret
            exact ⟨ret_int HR.out, step2 hbr2 hbW⟩
          · clear HC HLK
            go_wp2_with fail
            go_roundw
            case rel => exact ⟨k + 1, m + xl, by omega, by go_num, by congr 1; omega, HST.out.symm, by omega, by omega, step2 hbq hbW⟩
            case measure => simp [intOf]; omega
        · have ht : X.take k = X := List.take_of_length_le (by omega)
          rw [ht] at hm
          rw [← hm.out] at HC
          clear ht hm HLE
          by_cases hz : m = sz
          · rw [if_pos hz] at HC
            subst hz
            have q4 : (m - m == 0) = true := by simp
            have q5 : (m - m != 0) = false := by simp
            go_wp2_with fail
            go_ret
            exact ⟨ret_int HC.out.symm, hbr2⟩
          · rw [if_neg hz] at HC
            have q4 : (sz - m == 0) = false := by simp; omega
            have q5 : (sz - m != 0) = true := by simp; omega
            have HZ := Lib.hid hz; clear hz
            go_wp2_with fail
            go_ret
            exact ⟨ret_int HC.out.symm, hbr2⟩
set_option maxRecDepth 100000 in
set_option maxHeartbeats 4000000 in
theorem content_other (kd : Int) (pt tg dg : ByteArray) (sz : Int) (va vx : Value) (X : List Ex) (w : World) (hkd : ¬ kd = 1) (hx : ExRow w vx X) (hlen : X.length ≤ 1000000) (_hdg : dg.size ≤ 1000000) :
    Calls Tryz.prog 185 #[.agg #[.int .i64 kd, .string pt, va, .string tg, .int .i64 sz, .string dg, vx]] w (IntP (contE kd sz dg.size X) w) := by
  obtain ⟨xa, xc, rfl⟩ := hx.form
  have hb0 : Below w.heap.size w (w.alloc (.cells #[.int .i64 kd, .string pt, va, .string tg, .int .i64 sz, .string dg, .slice xa X.length xc] 109)) := (below_refl _).alloc (Nat.le_refl _) _
  have C := alloc_new_cell w #[.int .i64 kd, .string pt, va, .string tg, .int .i64 sz, .string dg, .slice xa X.length xc] 109
  have hsz0 := size_one w (.cells #[.int .i64 kd, .string pt, va, .string tg, .int .i64 sz, .string dg, .slice xa X.length xc] 109)
  have hHX := hx.2
  have HX := Lib.hid hHX
  have qk : (kd == 1) = false := by simpa using hkd
  have qk2 : (kd != 1) = true := by simpa using hkd
  have HK := Lib.hid hkd
  clear hx hHX hkd
  by_cases h1 : sz < 0
  · have HR := Lib.hid (contE_size (X := X) (sizeE_range (kd := kd) (d := dg.size) (.inl h1)) (by decide))
    clear C hsz0
    go_enter Tryz.func185, Tryz.ntmps185
    go_wp2_with fail
    go_ret
    exact ⟨ret_int HR.out.symm, hb0⟩
  by_cases h2 : 0 < sz
  · have HR := Lib.hid (contE_size (X := X) (sizeE_range (kd := kd) (d := dg.size) (.inr (by rw [if_neg HK.out]; exact h2))) (by decide))
    clear C hsz0
    go_enter Tryz.func185, Tryz.ntmps185
    go_wp2_with fail
    go_ret
    exact ⟨ret_int HR.out.symm, hb0⟩
  obtain rfl : sz = 0 := by omega
  have hn : ¬ ((0 : Int) < 0 ∨ (if kd = 1 then 65536 else 0) < (0 : Int)) := by rw [if_neg HK.out]; omega
  by_cases h3 : dg.size = 0
  case neg =>
    have HR := Lib.hid (contE_size (X := X) (sizeE_arg hn (d := dg.size) (by rw [if_neg HK.out]; exact h3)) (by decide))
    have q1 : ((dg.size : Int) == 0) = false := by rw [beq_eq_false_iff_ne]; omega
    have q2 : ((dg.size : Int) != 0) = true := by rw [bne_iff_ne]; omega
    clear C hn hsz0
    have H3 := Lib.hid h3; clear h3
    go_enter Tryz.func185, Tryz.ntmps185
    go_wp2_with fail
    go_ret
    exact ⟨ret_int HR.out.symm, hb0⟩
  have q1 : ((dg.size : Int) == 0) = true := by rw [beq_iff_eq]; omega
  have q2 : ((dg.size : Int) != 0) = false := by rw [bne_eq_false_iff_eq]; omega
  have HS := Lib.hid (sizeE_ok hn (d := dg.size) (by rw [if_neg HK.out]; exact fun h => h h3))
  clear hn h3
  go_enter Tryz.func185, Tryz.ntmps185
  go_upto_region 1 with (fail)
  obtain ⟨W1, hW1⟩ : ∃ W1, w.alloc (.cells #[.int .i64 kd, .string pt, va, .string tg, .int .i64 0, .string dg, .slice xa X.length xc] 109) = W1 := ⟨_, rfl⟩
  change Code.wp _ _ _ _ (w.alloc (.cells #[.int .i64 kd, .string pt, va, .string tg, .int .i64 0, .string dg, .slice xa X.length xc] 109))
  rw [hW1] at C hb0 hsz0 ⊢
  have hlt1 : w.heap.size < W1.heap.size := by omega
  clear hW1 hsz0
  have c0 : W1.cell? ⟨w.heap.size, 0, none⟩ = some (.int .i64 kd) := C 0
  have c4 : W1.cell? ⟨w.heap.size, 4, none⟩ = some (.int .i64 0) := C 4
  have c5 : W1.cell? ⟨w.heap.size, 5, none⟩ = some (.string dg) := C 5
  have c6 : W1.cell? ⟨w.heap.size, 6, none⟩ = some (.slice xa X.length xc) := C 6
  clear C
  rcases HX.out with ⟨rfl, _⟩ | ⟨hpos, b, o, cc, ev, _, _, hb, hXX⟩
  · have HR : Hid (contE kd 0 dg.size [] = if (0 : Int) = 0 then 0 else 1) := contE_sum HS.out rfl
    rw [if_pos rfl] at HR
    go_upto_block 0 with (fail)
    go_wp2_with fail
    refine wp_loop_rounds 1 ?_; rw [rounds_succ]
    go_wp2_with fail
    refine wp_loop_rounds 1 ?_; rw [rounds_succ]
    go_wp2_with fail
    go_ret
    exact ⟨ret_int HR.out.symm, hb0⟩
  · cases ev
    have hXX : ExAt w b o X := hXX
    have HR := Lib.hid (contE_ext (k := 0) (X := X) HS.out rfl hpos (exE_kind HK.out) (by decide))
    obtain ⟨x0, x1, x2⟩ := exCells (show ExAt W1 b o X from hXX.below hb0 hb) hpos
    have hbW : Below W1.heap.size W1 (W1.alloc (.cells #[.int .i64 (exAt X 0).s, .int .i64 (exAt X 0).o, .int .i64 (exAt X 0).l] 34)) := (below_refl W1).alloc (Nat.le_refl _) _
    simp only [Nat.zero_mul, Nat.add_zero] at x0 x1 x2
    generalize (exAt X 0).s = xs at *
    generalize (exAt X 0).o = xo at *
    generalize (exAt X 0).l = xl at *
    clear HX hXX
    go_upto_block 0 with (fail)
    go_wp2_with fail
    refine wp_loop_rounds 1 ?_; rw [rounds_succ]
    go_wp2_with fail
    go_ret
    exact ⟨ret_int HR.out.symm, step2 hb0 hbW⟩
theorem content_any (kd : Int) (pt tg dg : ByteArray) (sz : Int) (va vx : Value) (X : List Ex) (w : World) (hx : ExRow w vx X) (hok : ∀ i, ExOk (exAt X i)) (hlen : X.length ≤ 1000000) (hdg : dg.size ≤ 1000000) :
    Calls Tryz.prog 185 #[.agg #[.int .i64 kd, .string pt, va, .string tg, .int .i64 sz, .string dg, vx]] w (IntP (contE kd sz dg.size X) w) := by
  by_cases h : kd = 1
  · subst h; exact content_file pt tg dg sz va vx X w hx hok hlen hdg
  · exact content_other kd pt tg dg sz va vx X w h hx hlen hdg
end Go.Proofs.YtpkapcijgldhhaaGreatDoor
