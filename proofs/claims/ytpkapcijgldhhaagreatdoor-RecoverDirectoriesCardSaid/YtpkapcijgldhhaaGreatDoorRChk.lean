/-
  The walk of the reference's check of an entry.
-/
import Derived.Test.YtpkapcijgldhhaaGreatDoorChkW
import Derived.Deep.Cut
import Derived.Deep.CutRange
import Derived.Deep.CutBlock
namespace Go.Proofs.YtpkapcijgldhhaaGreatDoor
open Go.RowKit Go.Shelf

theorem Box.cells7 {W : World} {D : Nat} {v0 v1 v2 v3 v4 v5 v6 : Value} {T : TypeId} (h : Box W D [v0, v1, v2, v3, v4, v5, v6] T) :
    W.cell? ⟨D, 0, none⟩ = some v0 ∧ W.cell? ⟨D, 1, none⟩ = some v1 ∧ W.cell? ⟨D, 2, none⟩ = some v2 ∧ W.cell? ⟨D, 3, none⟩ = some v3 ∧ W.cell? ⟨D, 4, none⟩ = some v4 ∧ W.cell? ⟨D, 5, none⟩ = some v5 ∧ W.cell? ⟨D, 6, none⟩ = some v6 :=
  ⟨h.cell 0, h.cell 1, h.cell 2, h.cell 3, h.cell 4, h.cell 5, h.cell 6⟩
theorem nameL_nil {k : Int} : nameL k = [] ↔ (k < 1 ∨ 6 < k) := by
  constructor
  · intro h
    by_cases h1 : 1 ≤ k ∧ k ≤ 6
    · have : k = 1 ∨ k = 2 ∨ k = 3 ∨ k = 4 ∨ k = 5 ∨ k = 6 := by omega
      rcases this with rfl | rfl | rfl | rfl | rfl | rfl <;> cases h
    · omega
  · intro h
    unfold nameL
    rw [if_neg (by omega), if_neg (by omega), if_neg (by omega), if_neg (by omega), if_neg (by omega), if_neg (by omega)]
theorem exSum_bd {X : List Ex} : ∀ {k : Nat}, k ≤ X.length → firstE (exE 1 X) k = 0 → 0 ≤ exSum (X.take k) ∧ exSum (X.take k) ≤ 65536 * k
  | 0, _, _ => by simp [exSum]
  | k + 1, hk, h => by
    have h0 : firstE (exE 1 X) k = 0 := by
      rw [firstE] at h
      split at h
      · assumption
      · rename_i h1; exact absurd h h1
    have h1 : exOk (exAt X k) = true := by
      have := firstE_all h k (Nat.lt_succ_self k)
      cases e : exOk (exAt X k)
      · rw [exE_bad e] at this; cases this
      · rfl
    have h2 := exOk_iff.1 h1
    have h3 := exSum_bd (Nat.le_of_succ_le hk) h0
    have h4 := exSum_take X k hk
    omega
set_option maxRecDepth 100000 in
set_option maxHeartbeats 4000000 in
theorem rcheck_walk (kd : Int) (pt tg dg : ByteArray) (sz : Int) (xa : Option Addr) (n xc : Nat) (vx : Value) (X : List Ex) (w : World) (pe ae : Int) (tb : Bool) (hn : n ≤ 1000000) (hx : ExRow w vx X) (hok : ∀ i, ExOk (exAt X i)) (hlen : X.length ≤ 1000000) (_hdg : dg.size ≤ 1000000)
    (HP : Hid (∀ W, Calls Tryz.prog 130 #[.string pt] W (IntP pe W)))
    (HA : Hid (∀ W, Below w.heap.size w W → Calls Tryz.prog 131 #[.slice xa n xc] W (IntP ae W)))
    (HT : Hid (∀ W, Below w.heap.size w W → Calls Tryz.prog 132 #[.agg #[.int .i64 kd, .string pt, .slice xa n xc, .string tg, .int .i64 sz, .string dg, vx]] W (BoolP tb W))) :
    Calls Tryz.prog 81 #[.agg #[.int .i64 kd, .string pt, .slice xa n xc, .string tg, .int .i64 sz, .string dg, vx]] w (IntP (chkP kd pt.data.toList.isEmpty n pe ae (contE kd sz dg.size X) tb) w) := by
  obtain ⟨xx, xk, rfl⟩ := hx.form
  have hHX := hx.2
  have HX := Lib.hid hHX
  have HOK := Lib.hid hok
  clear hx hok hHX
  have bB := Box.new w [.int .i64 kd, .string pt, .slice xa n xc, .string tg, .int .i64 sz, .string dg, .slice xx X.length xk] 109
  have hb0 : Below w.heap.size w (w.alloc (.cells #[.int .i64 kd, .string pt, .slice xa n xc, .string tg, .int .i64 sz, .string dg, .slice xx X.length xk] 109)) := (below_refl _).alloc (Nat.le_refl _) _
  change Box (w.alloc (.cells #[.int .i64 kd, .string pt, .slice xa n xc, .string tg, .int .i64 sz, .string dg, .slice xx X.length xk] 109)) _ _ _ at bB
  have HR : Hid (chkP kd pt.data.toList.isEmpty n pe ae (contE kd sz dg.size X) tb = if kd < 1 ∨ 6 < kd then 10 else if pe = 0 then (if pt.data.toList.isEmpty = true ∧ kd < 5 then 1 else if ae = 0 then (if (0 < n ∧ 3 < kd) ∨ tb = false then 1 else contE kd sz dg.size X) else ae) else pe) := rfl
  obtain ⟨R, hRR⟩ : ∃ R, chkP kd pt.data.toList.isEmpty n pe ae (contE kd sz dg.size X) tb = R := ⟨_, rfl⟩
  rw [hRR] at HR ⊢
  clear hRR
  have hem : pt.toList.isEmpty = pt.data.toList.isEmpty := isEmpty_list pt
  obtain ⟨emp, hemp⟩ : ∃ emp, pt.data.toList.isEmpty = emp := ⟨_, rfl⟩
  rw [hemp] at hem HR
  clear hemp
  go_enter Tryz.func81, Tryz.ntmps81
  go_upto_region 1 with (fail)
  obtain ⟨W0, hW0⟩ : ∃ W0, w.alloc (.cells #[.int .i64 kd, .string pt, .slice xa n xc, .string tg, .int .i64 sz, .string dg, .slice xx X.length xk] 109) = W0 := ⟨_, rfl⟩
  change Code.wp _ _ _ _ (w.alloc (.cells #[.int .i64 kd, .string pt, .slice xa n xc, .string tg, .int .i64 sz, .string dg, .slice xx X.length xk] 109))
  rw [hW0] at bB hb0 ⊢
  clear hW0
  obtain ⟨c0, c1, c2, c3, c4, c5, c6⟩ := bB.cells7
  go_wp2_with fail
  refine (refName_any kd W0).mono ?_
  rintro e w1 ⟨t, rfl, ht, rfl⟩
  have hte : t.toList.isEmpty = decide (kd < 1 ∨ 6 < kd) := by
    rw [isEmpty_list, ht.out, Bool.eq_iff_iff, List.isEmpty_iff, nameL_nil, decide_eq_true_iff]
  clear ht
  by_cases k1 : kd < 1 ∨ 6 < kd
  · rw [if_pos k1] at HR
    rw [decide_eq_true k1] at hte
    have K1 := Lib.hid k1; clear k1
    go_wp2_with fail
    go_ret
    exact ⟨ret_int HR.out.symm, hb0⟩
  rw [if_neg k1] at HR
  rw [decide_eq_false k1] at hte
  have k2 : 1 ≤ kd ∧ kd ≤ 6 := by omega
  clear k1
  go_wp2_with fail
  refine (HP.out _).mono ?_
  rintro e w2 ⟨rfl, hb2⟩
  have kb2 := step2 hb0 hb2
  have bB2 := bB.below hb2
  clear hte bB hb0 hb2 c0 c1 c2 c3 c4 c5 c6 HP
  obtain ⟨c0, c1, c2, c3, c4, c5, c6⟩ := bB2.cells7
  by_cases hp : pe = 0
  case neg =>
    rw [if_neg hp] at HR
    obtain ⟨q1, q2⟩ := neq0 hp
    have Hp := Lib.hid hp; clear hp
    go_wp2_with fail
    go_ret
    exact ⟨ret_int HR.out.symm, kb2⟩
  subst hp
  rw [if_pos rfl] at HR
  go_upto_region 6 with (fail)
  go_cut [26] from 19 (fun v wc => w2 = wc ∧ v = .bool (emp && decide (kd < 5)))
  case first =>
    cases emp
    · go_wp2_with fail
      go_meet
      exact ⟨rfl, rfl⟩
    · by_cases h5 : kd < 5
      · go_wp2_with fail
        go_meet
        exact ⟨rfl, congrArg Value.bool (by simp [h5])⟩
      · go_wp2_with fail
        go_meet
        exact ⟨rfl, congrArg Value.bool (by simp [h5])⟩
  obtain ⟨rfl, rfl⟩ := hcut
  by_cases he : emp = true ∧ kd < 5
  · rw [if_pos he] at HR
    have h5 : decide (kd < 5) = true := decide_eq_true he.2
    rw [h5, he.1]
    have He := Lib.hid he; clear he
    go_wp2_with fail
    go_ret
    exact ⟨ret_int HR.out.symm, kb2⟩
  rw [if_neg he] at HR
  have hf : (emp && decide (kd < 5)) = false := by
    rw [Bool.eq_false_iff]; intro h; rw [Bool.and_eq_true, decide_eq_true_iff] at h; exact he h
  rw [hf]
  clear he hf hem
  go_wp2_with fail
  refine (HA.out _ kb2).mono ?_
  rintro e w3 ⟨rfl, hb3⟩
  have kb3 := step2 kb2 hb3
  have bB3 := bB2.below hb3
  clear kb2 bB2 hb3 c0 c1 c2 c3 c4 c5 c6 HA
  by_cases ha : ae = 0
  case neg =>
    rw [if_neg ha] at HR
    obtain ⟨q1, q2⟩ := neq0 ha
    have Ha := Lib.hid ha; clear ha
    go_wp2_with fail
    go_ret
    exact ⟨ret_int HR.out.symm, kb3⟩
  subst ha
  rw [if_pos rfl] at HR
  obtain ⟨c0, c1, c2, c3, c4, c5, c6⟩ := bB3.cells7
  go_upto_region 11 with (fail)
  go_cut [46] from 33 (fun v wc => Below w.heap.size w wc ∧ Box wc w.heap.size [.int .i64 kd, .string pt, .slice xa n xc, .string tg, .int .i64 sz, .string dg, .slice xx X.length xk] 109 ∧ v = .bool (decide (0 < n ∧ 3 < kd) || !tb))
  case first =>
    by_cases h3 : 0 < n ∧ 3 < kd
    · have H3 := Lib.hid (show decide (0 < n ∧ 3 < kd) = true from decide_eq_true h3)
      obtain ⟨h3, h4⟩ := h3
      go_wp2_with fail
      go_meet
      exact ⟨kb3, bB3, congrArg Value.bool (by rw [H3.out]; rfl)⟩
    · have HN : Hid (n = 0 ∨ (0 < n ∧ kd ≤ 3)) := by rw [Hid]; omega
      have H3 := Lib.hid (show decide (0 < n ∧ 3 < kd) = false from decide_eq_false h3)
      clear h3
      cases tb
      all_goals
        rcases HN.out with rfl | ⟨hn0, hk3⟩
        all_goals
          clear HN
          go_wp2_with fail
          refine (HT.out _ kb3).mono ?_
          rintro e w4 ⟨rfl, hb4⟩
          have kb4 := step2 kb3 hb4
          have bB4 := bB3.below hb4
          clear kb3 bB3 hb4 c0 c1 c2 c3 c4 c5 c6
          go_wp2_with fail
          go_meet
          exact ⟨kb4, bB4, congrArg Value.bool (by first | (rw [H3.out]; rfl) | (rw [H3.out, decide_eq_false (show ¬ 3 < kd by omega)]; rfl))⟩
  obtain ⟨kb4, bB4, rfl⟩ := hcut
  clear kb3 bB3 c0 c1 c2 c3 c4 c5 c6 HT
  by_cases hbad : (0 < n ∧ 3 < kd) ∨ tb = false
  · rw [if_pos hbad] at HR
    have hf : (decide (0 < n ∧ 3 < kd) || !tb) = true := by
      rw [Bool.or_eq_true, decide_eq_true_iff, Bool.not_eq_true']; exact hbad
    rw [hf]
    clear hf
    have Hb := Lib.hid hbad; clear hbad
    go_wp2_with fail
    go_ret
    exact ⟨ret_int HR.out.symm, kb4⟩
  rw [if_neg hbad] at HR
  have hf : (decide (0 < n ∧ 3 < kd) || !tb) = false := by
    rw [Bool.eq_false_iff]; intro h; rw [Bool.or_eq_true, decide_eq_true_iff, Bool.not_eq_true'] at h; exact hbad h
  rw [hf]
  clear hf hbad
  obtain ⟨c0, c1, c2, c3, c4, c5, c6⟩ := bB4.cells7
  obtain ⟨fl, hfl⟩ : ∃ fl, (kd == 1) = fl := ⟨_, rfl⟩
  go_upto_region 14 with (fail)
  have HF := Lib.hid hfl; clear hfl
  go_cut [66] from 50 (fun v wc' => wc = wc' ∧ v = .bool (decide (sz < 0 ∨ (if kd = 1 then 65536 else 0) < sz)))
  case first =>
    cases fl
    case true =>
      have HK1 : Hid (kd = 1) := by rw [Hid]; simpa using HF.out
      by_cases g1 : sz < 0
      · go_wp2_with fail
        go_meet
        exact ⟨rfl, congrArg Value.bool (decide_eq_true (.inl g1)).symm⟩
      by_cases g2 : 65536 < sz
      · go_wp2_with fail
        go_meet
        exact ⟨rfl, congrArg Value.bool (decide_eq_true (.inr (by rw [if_pos HK1.out]; exact g2))).symm⟩
      go_wp2_with fail
      go_meet
      exact ⟨rfl, congrArg Value.bool (decide_eq_false (by rw [if_pos HK1.out]; omega)).symm⟩
    case false =>
      have HK1 : Hid (kd ≠ 1) := by rw [Hid]; simpa using HF.out
      by_cases g1 : sz < 0
      · go_wp2_with fail
        go_meet
        exact ⟨rfl, congrArg Value.bool (decide_eq_true (.inl g1)).symm⟩
      by_cases g2 : 65536 < sz
      · go_wp2_with fail
        go_meet
        exact ⟨rfl, congrArg Value.bool (decide_eq_true (.inr (by rw [if_neg HK1.out]; omega))).symm⟩
      by_cases g3 : sz = 0
      · subst g3
        go_wp2_with fail
        go_meet
        exact ⟨rfl, congrArg Value.bool (decide_eq_false (by rw [if_neg HK1.out]; decide)).symm⟩
      have q1 : (sz == 0) = false := by rw [beq_eq_false_iff_ne]; exact g3
      have q2 : (sz != 0) = true := by rw [bne_iff_ne]; exact g3
      have G3 := Lib.hid g3; clear g3
      go_wp2_with fail
      go_meet
      exact ⟨rfl, congrArg Value.bool (decide_eq_true (.inr (by rw [if_neg HK1.out]; have := G3.out; omega))).symm⟩
  obtain ⟨rfl, rfl⟩ := hcut
  by_cases hs1 : sz < 0 ∨ (if kd = 1 then 65536 else 0) < sz
  · have HE := Lib.hid (HR.out.trans (contE_size (X := X) (sizeE_range (d := dg.size) hs1) (by decide)))
    rw [decide_eq_true hs1]
    have H1 := Lib.hid hs1; clear hs1
    go_wp2_with fail
    go_ret
    exact ⟨ret_int HE.out.symm, kb4⟩
  rw [decide_eq_false hs1]
  go_upto_region 16 with (fail)
  go_cut [82] from 67 (fun v wc' => wc = wc' ∧ v = .bool (decide (dg.size ≠ (if kd = 1 then 32 else 0))))
  case first =>
    cases fl
    case true =>
      have HK1 : Hid (kd = 1) := by rw [Hid]; simpa using HF.out
      by_cases g1 : dg.size = 32
      · have q1 : ((dg.size : Int) == 32) = true := by simp; omega
        have q2 : ((dg.size : Int) != 32) = false := by simp; omega
        have G := Lib.hid g1; clear g1
        go_wp2_with fail
        go_meet
        exact ⟨rfl, congrArg Value.bool (decide_eq_false (by rw [if_pos HK1.out]; exact fun h => h G.out)).symm⟩
      · have q1 : ((dg.size : Int) == 32) = false := by simp; omega
        have q2 : ((dg.size : Int) != 32) = true := by simp; omega
        have G := Lib.hid g1; clear g1
        go_wp2_with fail
        go_meet
        exact ⟨rfl, congrArg Value.bool (decide_eq_true (by rw [if_pos HK1.out]; exact G.out)).symm⟩
    case false =>
      have HK1 : Hid (kd ≠ 1) := by rw [Hid]; simpa using HF.out
      have hd0 : dg.toList.isEmpty = decide (dg.size = 0) := by
        rw [isEmpty_list, Bool.eq_iff_iff, List.isEmpty_iff, decide_eq_true_iff]
        exact ⟨fun h => by have := congrArg List.length h; exact this, fun h => List.eq_nil_of_length_eq_zero h⟩
      by_cases g1 : dg.size = 0
      · rw [decide_eq_true g1] at hd0
        have G := Lib.hid g1; clear g1
        go_wp2_with fail
        go_meet
        exact ⟨rfl, congrArg Value.bool (decide_eq_false (by rw [if_neg HK1.out]; exact fun h => h G.out)).symm⟩
      · rw [decide_eq_false g1] at hd0
        have G := Lib.hid g1; clear g1
        go_wp2_with fail
        go_meet
        exact ⟨rfl, congrArg Value.bool (decide_eq_true (by rw [if_neg HK1.out]; exact G.out)).symm⟩
  obtain ⟨rfl, rfl⟩ := hcut
  by_cases hs2 : dg.size ≠ (if kd = 1 then 32 else 0)
  · have HE := Lib.hid (HR.out.trans (contE_size (X := X) (sizeE_arg (d := dg.size) hs1 hs2) (by decide)))
    rw [decide_eq_true hs2]
    have H1 := Lib.hid hs1; clear hs1
    have H2 := Lib.hid hs2; clear hs2
    go_wp2_with fail
    go_ret
    exact ⟨ret_int HE.out.symm, kb4⟩
  have HS := Lib.hid (sizeE_ok hs1 (d := dg.size) hs2)
  rw [decide_eq_false hs2]
  clear hs1 hs2
  go_upto_block 0 with (fail)
  have hsz4 : w.heap.size < wc.heap.size := bB4.lt
  go_wp2_with fail
  go_loopw [6, 7, 8] (fun s i _ wr => ∃ k : Nat, k ≤ X.length ∧ i = .int .i64 k ∧ s = .int .i64 (exSum (X.take k)) ∧ Hid (firstE (exE kd X) k = 0) ∧ Below w.heap.size w wr ∧ Box wr w.heap.size [.int .i64 kd, .string pt, .slice xa n xc, .string tg, .int .i64 sz, .string dg, .slice xx X.length xk] 109) (fun _ i _ _ => X.length - (intOf i).toNat)
  case atStart => exact ⟨0, by omega, rfl, rfl, rfl, kb4, bB4⟩
  case round =>
    obtain ⟨k, hk, rfl, rfl, hE, kb5, bB5⟩ := hrel
    clear kb4 bB4 c0 c1 c2 c3 c4 c5 c6 hsz4
    obtain ⟨c0, c1, c2, c3, c4, c5, c6⟩ := bB5.cells7
    by_cases hlt : k < X.length
    · rcases HX.out with ⟨rfl, _⟩ | ⟨hpos, b, o, cc, ev, _, _, hb, hXX⟩
      · exact absurd hlt (Nat.not_lt_zero _)
      cases ev
      have hXX : ExAt w b o X := hXX
      obtain ⟨x0, x1, x2⟩ := exCells (show ExAt wr b o X from hXX.below kb5 hb) hlt
      clear hXX HX
      have hbW : Below wr.heap.size wr (wr.alloc (.cells #[.int .i64 (exAt X k).s, .int .i64 (exAt X k).o, .int .i64 (exAt X k).l] 34)) := (below_refl wr).alloc (Nat.le_refl _) _
      have hwl := bB5.lt
      cases fl
      case false =>
        have HK1 : Hid (kd ≠ 1) := by rw [Hid]; simpa using HF.out
        have HE := Lib.hid (HR.out.trans (contE_ext HS.out hE.out hlt (exE_kind HK1.out) (by decide)))
        go_wp2_with fail
        go_ret
        exact ⟨ret_int HE.out.symm, step2 kb5 hbW⟩
      have hk1 : kd = 1 := by simpa using HF.out
      subst hk1
      obtain ⟨sb0, sb1⟩ := exSum_bd (Nat.le_of_lt hlt) hE.out
      have hst := Lib.hid (exSum_take X k hlt)
      obtain ⟨ys, yo, yl⟩ := HOK.out k
      have HP := Lib.hid (exOk_iff (x := exAt X k))
      have S1 := Lib.hid (show exOk (exAt X k) = false → R = 2 from fun h => HR.out.trans (contE_ext HS.out hE.out hlt (exE_bad h) (by decide)))
      have S2 := Lib.hid (show exOk (exAt X k) = true → firstE (exE 1 X) (k + 1) = 0 from fun h => firstE_next hE.out (exE_ok h))
      generalize exSum (X.take k) = sm at *
      generalize exOk (exAt X k) = ok at *
      generalize (exAt X k).s = xs at *
      generalize (exAt X k).o = xo at *
      generalize (exAt X k).l = xl at *
      go_upto_region 25 with (fail)
      cases ok
      · have HR2 := Lib.hid (S1.out rfl)
        have HN := Lib.hid (show ¬ (0 ≤ xs ∧ xs ≤ 255 ∧ 0 ≤ xo ∧ xo ≤ 2147483647 ∧ 1 ≤ xl ∧ xl ≤ 65536 ∧ (xs = 0 → xo = 0)) from fun h => by have := HP.out.2 h; cases this)
        have HD := Lib.hid (show xs < 0 ∨ (0 ≤ xs ∧ 255 < xs) ∨ (0 ≤ xs ∧ xs ≤ 255 ∧ xo < 0) ∨ (0 ≤ xs ∧ xs ≤ 255 ∧ 0 ≤ xo ∧ 2147483647 < xo) ∨ (0 ≤ xs ∧ xs ≤ 255 ∧ 0 ≤ xo ∧ xo ≤ 2147483647 ∧ xl < 1) ∨ (0 ≤ xs ∧ xs ≤ 255 ∧ 0 ≤ xo ∧ xo ≤ 2147483647 ∧ 1 ≤ xl ∧ 65536 < xl) ∨ (xs = 0 ∧ 0 ≤ xo ∧ xo ≤ 2147483647 ∧ 1 ≤ xl ∧ xl ≤ 65536 ∧ ¬ xo = 0) from by have := HN.out; omega)
        clear S1 S2 HP x0 x1 x2 HN hst
        rcases HD.out with g1 | ⟨g1, g2⟩ | ⟨g1, g2, g3⟩ | ⟨g1, g2, g3, g4⟩ | ⟨g1, g2, g3, g4, g5⟩ | ⟨g1, g2, g3, g4, g5, g6⟩ | ⟨rfl, g3, g4, g5, g6, g7⟩
        case inr.inr.inr.inr.inr.inr =>
          have q4 : (xo == 0) = false := by simpa using g7
          have q5 : (xo != 0) = true := by simpa using g7
          clear g7 HD
          go_wp2_with fail
          go_ret
          exact ⟨ret_int HR2.out.symm, step2 kb5 hbW⟩
        all_goals
          clear HD
          go_wp2_with fail
          go_ret
          exact ⟨ret_int HR2.out.symm, step2 kb5 hbW⟩
      · have HE2 := Lib.hid (S2.out rfl)
        obtain ⟨g1, g2, g3, g4, g5, g6, g7⟩ := HP.out.1 rfl
        have bB6 := bB5.below hbW
        clear S1 S2 HP x0 x1 x2
        by_cases hz : xs = 0
        · have hzo := g7 hz
          subst hz
          subst hzo
          go_wp2_with fail
          go_roundw
          case rel => exact ⟨k + 1, by omega, by go_num, by rw [hst.out], HE2, step2 kb5 hbW, bB6⟩
          case measure => simp [intOf]; omega
        · have q4 : (xs == 0) = false := by simpa using hz
          clear g7 hz
          go_wp2_with fail
          go_roundw
          case rel => exact ⟨k + 1, by omega, by go_num, by rw [hst.out], HE2, step2 kb5 hbW, bB6⟩
          case measure => simp [intOf]; omega
    · obtain rfl : k = X.length := by omega
      have HC := Lib.hid (HR.out.trans (contE_sum (X := X) HS.out hE.out))
      rw [List.take_of_length_le (Nat.le_refl _)]
      generalize exSum X = sm at *
      by_cases hz : sm = sz
      · rw [if_pos hz] at HC
        have q1 : (sm == sz) = true := by rw [beq_iff_eq]; exact hz
        have q2 : (sm != sz) = false := by rw [bne_eq_false_iff_eq]; exact hz
        have Hz := Lib.hid hz; clear hz
        go_wp2_with fail
        go_ret
        exact ⟨ret_int HC.out.symm, kb5⟩
      · rw [if_neg hz] at HC
        have q1 : (sm == sz) = false := by rw [beq_eq_false_iff_ne]; exact hz
        have q2 : (sm != sz) = true := by rw [bne_iff_ne]; exact hz
        have Hz := Lib.hid hz; clear hz
        go_wp2_with fail
        go_ret
        exact ⟨ret_int HC.out.symm, kb5⟩
theorem refCheck_any (e : En) (va vx : Value) (w : World) (ha : AtRow w va e.attrs) (hx : ExRow w vx e.exts) (hok : EnOk e) :
    Calls Tryz.prog 81 #[.agg #[.int .i64 e.kind, .string e.path, va, .string e.target, .int .i64 e.size, .string e.digest, vx]] w (IntP (chkE e) w) := by
  obtain ⟨xa, xc, rfl⟩ := ha.form
  rw [chkE_parts]
  exact rcheck_walk e.kind e.path e.target e.digest e.size xa e.attrs.length xc vx e.exts w _ _ _ hok.attrs.1 hx hok.exts.2 hok.exts.1 hok.digest
    (fun W => refPathCheck_any e.path W hok.path)
    (fun W hW => refAttrCheck_any _ e.attrs W (ha.below hW) hok.attrs.2)
    (fun W _ => refTarget_any e.kind e.path e.target e.digest e.size _ vx W hok.target)
end Go.Proofs.YtpkapcijgldhhaaGreatDoor
