/-
  The walks of the reference's head, Head and Encode.
-/
import Derived.Test.YtjlfjchcmkkebaaGreatDoorRChk
import Derived.Test.YtjlfjchcmkkebaaGreatDoorEntMore
import Derived.Test.YtjlfjchcmkkebaaGreatDoorEncV
import Derived.Deep.QuietTactic
import Derived.BigQuiet
import Derived.Deep.RegionHeld3
import Derived.Deep.Cut
import Derived.Deep.CutRange
import Derived.Deep.CutBlock
namespace Go.Proofs.YtjlfjchcmkkebaaGreatDoor
open Go.RowKit Go.Shelf

theorem refStringQ (s : ByteArray) (hs : s.size ≤ 1000000) : ∃ t : ByteArray, Hid (t.data.toList = strL s.data.toList) ∧ t.size ≤ s.size + 22 ∧ Hid (∀ W, Calls Tryz.prog 48 #[.string s] W fun e w' => e = .returned (.string t) ∧ w' = W) :=
  ⟨bA' (strL s.data.toList), rfl, strL_bd (u := s.data.toList) (Nat.le_refl _) hs, fun W => (refString_any s W (by omega)).mono fun e w' ⟨t, h1, h2, h3⟩ => ⟨by rw [h1, ← h2.out, bA'_of], h3.symm⟩⟩
theorem refNumberQ (n : Int) (h0 : -9223372036854775808 ≤ n) (h1 : n ≤ 9223372036854775807) : ∃ t : ByteArray, Hid (t.data.toList = numL n) ∧ t.size ≤ 21 ∧ Hid (∀ W, Calls Tryz.prog 76 #[.int .i64 n] W fun e w' => e = .returned (.string t) ∧ w' = W) :=
  ⟨bA' (numL n), rfl, numL_le h0 h1, fun W => (refNumber_any n W h0 h1).mono fun e w' ⟨t, h1, h2, h3⟩ => ⟨by rw [h1, ← h2.out, bA'_of], h3.symm⟩⟩
theorem refNameQ (k : Int) : ∃ t : ByteArray, Hid (t.data.toList = nameL k) ∧ t.size ≤ 7 ∧ Hid (∀ W, Calls Tryz.prog 110 #[.int .i64 k] W fun e w' => e = .returned (.string t) ∧ w' = W) :=
  ⟨bA' (nameL k), rfl, (by show (nameL k).length ≤ 7; unfold nameL; (repeat' split) <;> decide), fun W => (refName_any k W).mono fun e w' ⟨t, h1, h2, h3⟩ => ⟨by rw [h1, ← h2.out, bA'_of], h3.symm⟩⟩
theorem box1'' (w : World) (c1 : List Value) (T1 : TypeId) : Below w.heap.size w (w.alloc (.cells c1.toArray T1)) ∧ Box (w.alloc (.cells c1.toArray T1)) w.heap.size c1 T1 :=
  ⟨(below_refl w).alloc (Nat.le_refl _) _, Box.new w c1 T1⟩
theorem Box.drewN' {W : World} {E : Nat} {cs : List Value} {T : TypeId} (h : Box W E cs T) (n : Nat) : Box (W.drewN n) E cs T := h
theorem take_flatA (A : List At) (k : Nat) (h : k < A.length) : (A.take (k + 1)).flatMap atL = (A.take k).flatMap atL ++ atL (atAt A k) := by
  rw [List.take_succ_eq_append_getElem h, List.flatMap_append, atAt_get h]; simp
set_option maxRecDepth 100000 in
set_option maxHeartbeats 4000000 in
theorem refHead0_any (e : En) (va vx : Value) (w : World) (ha : AtRow w va e.attrs) (hs : SmallE e) :
    Calls Tryz.prog 114 #[.agg #[.int .i64 e.kind, .string e.path, va, .string e.target, .int .i64 e.size, .string e.digest, vx]] w (StrP (headL e) w) := by
  obtain ⟨xa, xc, rfl⟩ := ha.form
  obtain ⟨sp, st, _, _, sA, sAt⟩ := hs
  have hHA := ha.2
  have HA := Lib.hid hHA
  have HS := Lib.hid sAt
  have HL : Hid (headL e = strL (nameL e.kind) ++ strL e.path.data.toList ++ numL e.attrs.length ++ e.attrs.flatMap atL ++ strL e.target.data.toList) := rfl
  generalize headL e = R at *
  clear ha hHA sAt
  generalize e.kind = kd at *
  generalize e.path = pt at *
  generalize e.attrs = A at *
  generalize e.target = tg at *
  generalize e.size = sz at *
  generalize e.digest = dg at *
  obtain ⟨hb0, bB⟩ := box1'' w [.int .i64 kd, .string pt, .slice xa A.length xc, .string tg, .int .i64 sz, .string dg, vx] 55
  change Below _ _ (w.alloc (.cells #[.int .i64 kd, .string pt, .slice xa A.length xc, .string tg, .int .i64 sz, .string dg, vx] 55)) at hb0
  change Box (w.alloc (.cells #[.int .i64 kd, .string pt, .slice xa A.length xc, .string tg, .int .i64 sz, .string dg, vx] 55)) _ _ _ at bB
  obtain ⟨tn, htn, ztn, HNm⟩ := refNameQ kd
  obtain ⟨t1, ht1, z1, H1⟩ := refStringQ tn (by omega)
  obtain ⟨t2, ht2, z2, H2⟩ := refStringQ pt (by omega)
  obtain ⟨t3, ht3, z3, H3⟩ := refNumberQ (A.length : Int) (by omega) (by omega)
  obtain ⟨t5, ht5, z5, H5⟩ := refStringQ tg (by omega)
  go_enter Tryz.func114, Tryz.ntmps114
  go_upto_region 1 with (fail)
  obtain ⟨W0, hW0⟩ : ∃ W0, w.alloc (.cells #[.int .i64 kd, .string pt, .slice xa A.length xc, .string tg, .int .i64 sz, .string dg, vx] 55) = W0 := ⟨_, rfl⟩
  change Code.wp _ _ _ _ (w.alloc (.cells #[.int .i64 kd, .string pt, .slice xa A.length xc, .string tg, .int .i64 sz, .string dg, vx] 55))
  rw [hW0] at hb0 bB ⊢
  clear hW0
  obtain ⟨c0, c1, c2, c3, c4, c5, c6⟩ := bB.cells7
  go_quiet ((first | (go_at_call 110; exact Calls.quiet_of_same (HNm.out _)) | (go_at_call 48; with_reducible exact Calls.quiet_of_same (H1.out _)) | (go_at_call 48; with_reducible exact Calls.quiet_of_same (H2.out _)) | (go_at_call 76; exact Calls.quiet_of_same (H3.out _))))
  have hb1 : Below w.heap.size w (W0.drewN nq) := below_drewN hb0 nq
  have bB1 := bB.drewN' nq
  obtain ⟨W1, hW1⟩ : ∃ W1, W0.drewN nq = W1 := ⟨_, rfl⟩
  rw [hW1] at hb1 bB1 ⊢
  clear hW1 hb0 bB c0 c1 c2 c3 c4 c5 c6
  have hu0 : Hid ((t1 ++ t2 ++ t3).data.toList = strL (nameL kd) ++ strL pt.data.toList ++ numL A.length) := by
    rw [Hid, append_list, append_list, ht1.out, ht2.out, ht3.out, htn.out]
  have zu0 : (t1 ++ t2 ++ t3).size ≤ 1000 := by rw [ByteArray.size_append, ByteArray.size_append]; omega
  generalize t1 ++ t2 ++ t3 = u0 at *
  clear H1 H2 H3 HNm ht1 ht2 ht3 htn z1 z2 z3 ztn
  go_upto_block 0 with (fail)
  have hbW : w.heap.size < W1.heap.size := bB1.lt
  go_wp2_with fail
  go_loopw [3, 4] (fun u i wr => ∃ (k : Nat) (v : ByteArray), k ≤ A.length ∧ i = .int .i64 k ∧ u = .string v ∧ Hid (v.data.toList = u0.data.toList ++ (A.take k).flatMap atL) ∧ v.size ≤ 1000 + 300 * k ∧ Below W1.heap.size W1 wr) (fun _ i _ => A.length - (intOf i).toNat)
  case atStart => exact ⟨0, u0, by omega, rfl, rfl, by rw [Hid]; simp, by omega, below_refl _⟩
  case round =>
    obtain ⟨k, v, hk, rfl, rfl, hv, zv, hbr⟩ := hrel
    have bBr := bB1.below hbr
    obtain ⟨c0, c1, c2, c3, c4, c5, c6⟩ := bBr.cells7
    by_cases hlt : k < A.length
    · rcases HA.out with ⟨rfl, _⟩ | ⟨hpos, b, o, cc, ev, _, _, hb, hAA⟩
      · exact absurd hlt (Nat.not_lt_zero _)
      cases ev
      have hAA : AtAt w b o A := hAA
      obtain ⟨x0, x1⟩ := atCells (show AtAt wr b o A from hAA.below (step2 hb1 hbr) hb) hlt
      obtain ⟨s0, s1⟩ := HS.out k hlt
      have HT := Lib.hid (take_flatA A k hlt)
      have HAt : Hid (atL (atAt A k) = strL (atAt A k).key.data.toList ++ strL (atAt A k).value.data.toList) := rfl
      generalize (atAt A k).key = ka at *
      generalize (atAt A k).value = kv at *
      obtain ⟨ta, hta, za, Ha⟩ := refStringQ ka (by omega)
      obtain ⟨tb, htb, zb, Hb⟩ := refStringQ kv (by omega)
      clear hAA
      have z2 : v.size + ta.size ≤ 100000 := by omega
      have z3 : v.size + ta.size + tb.size ≤ 100000 := by omega
      go_upto_region 5 with (fail)
      go_quiet ((first | (go_at_call 48; with_reducible exact Calls.quiet_of_same (Ha.out _)) | (go_at_call 48; with_reducible exact Calls.quiet_of_same (Hb.out _))))
      have hv2 : Hid ((v ++ ta ++ tb).data.toList = u0.data.toList ++ (A.take (k + 1)).flatMap atL) := by
        rw [Hid, append_list, append_list, hv.out, hta.out, htb.out, HT.out, HAt.out]; simp only [List.append_assoc]
      have zv2 : (v ++ ta ++ tb).size ≤ 1000 + 300 * (k + 1) := by rw [ByteArray.size_append, ByteArray.size_append]; omega
      have hbr2 := below_drewN hbr nq
      clear Ha Hb hta htb za zb x0 x1 s0 s1 c0 c1 c2 c3 c4 c5 c6 z2 z3 bBr
      generalize v ++ ta ++ tb = v2 at *
      go_wp2_with fail
      go_roundw
      case rel => exact ⟨k + 1, v2, by omega, by go_num, rfl, hv2, zv2, hbr2⟩
      case measure => simp [intOf]; omega
    · obtain rfl : k = A.length := by omega
      have hte : A.take A.length = A := List.take_of_length_le (Nat.le_refl _)
      rw [hte] at hv
      clear hte
      have z2 : v.size + t5.size ≤ 100000 := by omega
      go_wp2_with fail
      refine (H5.out wr).mono ?_
      rintro e w8 ⟨rfl, rfl⟩
      have hR : Hid ((v ++ t5).data.toList = R) := by
        rw [Hid, append_list, hv.out, hu0.out, ht5.out, HL.out]
      go_wp2_with fail
      go_ret
      exact ⟨_, rfl, hR, step2 hb1 hbr⟩
set_option maxRecDepth 100000 in
set_option maxHeartbeats 4000000 in
theorem refEncode_any (e : En) (va vx : Value) (w : World) (ha : AtRow w va e.attrs) (hx : ExRow w vx e.exts) (hok : EnOk e) (hs : SmallE e) :
    Calls Tryz.prog 77 #[.agg #[.int .i64 e.kind, .string e.path, va, .string e.target, .int .i64 e.size, .string e.digest, vx]] w (HeadP (if chkE e = 0 then bodyL e else []) (chkE e) w) := by
  have HK := Lib.hid (show ∀ W, Below w.heap.size w W → Calls Tryz.prog 75 #[.agg #[.int .i64 e.kind, .string e.path, va, .string e.target, .int .i64 e.size, .string e.digest, vx]] W (IntP (chkE e) W) from fun W hW => refCheck_any e va vx W (ha.below hW) (hx.below hW) hok)
  have hhl := small_head hs
  have HH := Lib.hid (show ∀ W, Below w.heap.size w W → Calls Tryz.prog 114 #[.agg #[.int .i64 e.kind, .string e.path, va, .string e.target, .int .i64 e.size, .string e.digest, vx]] W fun e' w' => ∃ t : ByteArray, e' = .returned (.string t) ∧ Hid (t.data.toList = headL e) ∧ t.size ≤ 12000 ∧ Hid (Below W.heap.size W w') from
    fun W hW => (refHead0_any e va vx W (ha.below hW) hs).mono fun e' w' ⟨t, h1, h2, h3⟩ => ⟨t, h1, h2, by have h4 := hhl; rw [← h2.out] at h4; exact h4, h3⟩)
  have HL : Hid (bodyL e = strL (headL e) ++ numL e.size ++ strL e.digest.data.toList ++ numL e.exts.length ++ e.exts.flatMap exL) := rfl
  obtain ⟨a1, m1, rfl⟩ := ha.form
  obtain ⟨a2, m2, rfl⟩ := hx.form
  have hHX := hx.2
  have HX := Lib.hid hHX
  obtain ⟨_, _, sdg, sX, _, _⟩ := hs
  obtain ⟨z0, z1⟩ := hok.size
  have HXO := Lib.hid hok.exts.2
  clear ha hx hok hhl hHX
  obtain ⟨ce, hce⟩ : ∃ ce, chkE e = ce := ⟨_, rfl⟩
  rw [hce] at HK ⊢
  have Hce := Lib.hid hce; clear hce
  have HLn := Lib.hid (show ce ≠ 0 → (if ce = 0 then bodyL e else []) = [] from fun h => if_neg h)
  have HLy := Lib.hid (show ce = 0 → (if ce = 0 then bodyL e else []) = bodyL e from fun h => if_pos h)
  generalize (if ce = 0 then bodyL e else []) = L at *
  generalize headL e = hl at *
  generalize bodyL e = bl at *
  generalize e.kind = kd at *
  generalize e.path = pt at *
  generalize e.attrs = A at *
  generalize e.target = tg at *
  generalize e.size = sz at *
  generalize e.digest = dg at *
  generalize e.exts = X at *
  obtain ⟨hb0, bB⟩ := box1'' w [.int .i64 kd, .string pt, .slice a1 A.length m1, .string tg, .int .i64 sz, .string dg, .slice a2 X.length m2] 55
  change Below _ _ (w.alloc (.cells #[.int .i64 kd, .string pt, .slice a1 A.length m1, .string tg, .int .i64 sz, .string dg, .slice a2 X.length m2] 55)) at hb0
  change Box (w.alloc (.cells #[.int .i64 kd, .string pt, .slice a1 A.length m1, .string tg, .int .i64 sz, .string dg, .slice a2 X.length m2] 55)) _ _ _ at bB
  go_enter Tryz.func77, Tryz.ntmps77
  go_upto_region 1 with (fail)
  obtain ⟨W0, hW0⟩ : ∃ W0, w.alloc (.cells #[.int .i64 kd, .string pt, .slice a1 A.length m1, .string tg, .int .i64 sz, .string dg, .slice a2 X.length m2] 55) = W0 := ⟨_, rfl⟩
  change Code.wp _ _ _ _ (w.alloc (.cells #[.int .i64 kd, .string pt, .slice a1 A.length m1, .string tg, .int .i64 sz, .string dg, .slice a2 X.length m2] 55))
  rw [hW0] at hb0 bB ⊢
  clear hW0
  obtain ⟨c0, c1, c2, c3, c4, c5, c6⟩ := bB.cells7
  go_wp2_with fail
  refine (HK.out W0 hb0).mono ?_
  rintro e2 W1 ⟨rfl, hb⟩
  have hb1 := step2 hb0 hb
  have bB1 := bB.below hb
  clear hb0 bB hb c0 c1 c2 c3 c4 c5 c6 HK
  by_cases hc : ce = 0
  case neg =>
    have q1 : (ce != 0) = true := by rw [bne_iff_ne]; exact hc
    have HL0 := Lib.hid (HLn.out hc)
    clear hc HLn HLy
    go_wp2_with fail
    go_ret2
    exact ⟨_, rfl, by rw [Hid, HL0.out], hb1⟩
  have HL0 := Lib.hid (HLy.out hc)
  clear HLn HLy
  subst hc
  obtain ⟨t2, ht2, zt2, H2⟩ := refNumberQ sz z0 z1
  obtain ⟨t3, ht3, zt3, H3⟩ := refStringQ dg (by omega)
  obtain ⟨t4, ht4, zt4, H4⟩ := refNumberQ (X.length : Int) (by omega) (by omega)
  have hbd : Below w.heap.size w W1.drew := below_drew0 hb1
  have bBd := bB1.drewN' 1
  change Box W1.drew _ _ _ at bBd
  obtain ⟨c0, c1, c2, c3, c4, c5, c6⟩ := bB1.cells7
  have hcat := Lib.hid (show ∀ (a b : ByteArray), a.size + b.size ≤ 1000000 → ∃ c : ByteArray, Hid (c.data.toList = a.data.toList ++ b.data.toList) ∧ c.size ≤ a.size + b.size ∧ ∀ W : World, (Op.stringOp .add a b).run Tryz.prog W = .ok (.string c) W from fun a b h =>
    ⟨a ++ b, append_list a b, by rw [ByteArray.size_append]; exact Nat.le_refl _, fun W => run_string_add_sum W a b (by omega)⟩)
  go_upto_region 4 with (fail)
  go_cut [5] from 13 to 28 (fun v wc => ∃ u : ByteArray, v = .string u ∧ Hid (u.data.toList = strL hl ++ numL sz ++ strL dg.data.toList ++ numL X.length) ∧ u.size ≤ 13000 ∧ Below w.heap.size w wc ∧ Box wc w.heap.size [.int .i64 kd, .string pt, .slice a1 A.length m1, .string tg, .int .i64 sz, .string dg, .slice a2 X.length m2] 55)
  case first =>
    clear HX HXO
    go_region_held3 (fun w' => w'.cell? ⟨w.heap.size, 0, none⟩ = some (.int .i64 kd) ∧ w'.cell? ⟨w.heap.size, 1, none⟩ = some (.string pt) ∧ w'.cell? ⟨w.heap.size, 2, none⟩ = some (.slice a1 A.length m1) ∧ w'.cell? ⟨w.heap.size, 3, none⟩ = some (.string tg) ∧ w'.cell? ⟨w.heap.size, 4, none⟩ = some (.int .i64 sz) ∧ w'.cell? ⟨w.heap.size, 5, none⟩ = some (.string dg) ∧ w'.cell? ⟨w.heap.size, 6, none⟩ = some (.slice a2 X.length m2))
      (first | with_reducible exact ⟨c0, c1, c2, c3, c4, c5, c6⟩ | with_reducible exact Box.cells7 bBd | with_reducible exact Box.cells7 bB2)
      (first
        | (go_at_call 114; (with_reducible refine (HH.out _ hbd).mono ?_); rintro e2 W2 ⟨t0, rfl, ht0, zt0, hb⟩; have hb2 := step2 hbd hb.out; have bB2 := bBd.below hb.out; obtain ⟨t1, ht1, zt1, H1⟩ := refStringQ t0 (by omega); obtain ⟨x2, hx2, zx2, r2⟩ := hcat.out t1 t2 (by omega); obtain ⟨x3, hx3, zx3, r3⟩ := hcat.out x2 t3 (by omega); obtain ⟨x4, hx4, zx4, r4⟩ := hcat.out x3 t4 (by omega))
        | (go_at_call 48; (with_reducible refine (H1.out _).mono ?_); rintro e3 W3 ⟨rfl, rfl⟩)
        | (go_at_call 48; (with_reducible refine (H3.out _).mono ?_); rintro e3 W3 ⟨rfl, rfl⟩)
        | (go_at_call 76; (with_reducible refine (H2.out _).mono ?_); rintro e3 W3 ⟨rfl, rfl⟩)
        | (go_at_call 76; (with_reducible refine (H4.out _).mono ?_); rintro e3 W3 ⟨rfl, rfl⟩))
    all_goals
      go_wp2_with fail
      go_meet
      case rel => exact ⟨x4, rfl, by rw [Hid, hx4.out, hx3.out, hx2.out, ht1.out, ht0.out, ht2.out, ht3.out, ht4.out], by omega, hb2, bB2⟩
  case rest =>
    obtain ⟨u0, rfl, hu0, zu0, hb2, bB2⟩ := hcut
    clear hb1 bB1 hbd bBd c0 c1 c2 c3 c4 c5 c6 H2 H3 H4 HH hcat ht2 ht3 ht4 zt2 zt3 zt4
    obtain ⟨W2, rfl⟩ : ∃ W2, W2 = wc := ⟨_, rfl⟩
    have hbW : w.heap.size < W2.heap.size := bB2.lt
    go_upto_block 0 with (fail)
    go_wp2_with fail
    go_loopw [5, 6, 7] (fun u i _ wr => ∃ (k : Nat) (v : ByteArray), k ≤ X.length ∧ i = .int .i64 k ∧ u = .string v ∧ Hid (v.data.toList = u0.data.toList ++ (X.take k).flatMap exL) ∧ v.size ≤ 13000 + 100 * k ∧ Below W2.heap.size W2 wr) (fun _ i _ _ => X.length - (intOf i).toNat)
    case atStart => exact ⟨0, u0, by omega, rfl, rfl, by rw [Hid]; simp, by omega, below_refl _⟩
    case round =>
      obtain ⟨k, v, hk, rfl, rfl, hv, zv, hbr⟩ := hrel
      have bBr := bB2.below hbr
      obtain ⟨c0, c1, c2, c3, c4, c5, c6⟩ := bBr.cells7
      by_cases hlt : k < X.length
      · rcases HX.out with ⟨rfl, _⟩ | ⟨hpos, b, o, cc, ev, _, _, hb, hXX⟩
        · exact absurd hlt (Nat.not_lt_zero _)
        cases ev
        have hXX : ExAt w b o X := hXX
        obtain ⟨x0, x1, x2⟩ := exCells (show ExAt wr b o X from hXX.below (step2 hb2 hbr) hb) hlt
        obtain ⟨i1, i2, i3⟩ := HXO.out k
        have HT := Lib.hid (take_flatX X k hlt)
        have HE : Hid (exL (exAt X k) = numL (exAt X k).s ++ numL (exAt X k).o ++ numL (exAt X k).l) := rfl
        obtain ⟨hbX, bF⟩ := box1'' wr [.int .i64 (exAt X k).s, .int .i64 (exAt X k).o, .int .i64 (exAt X k).l] 101
        generalize (exAt X k).s = xs at *
        generalize (exAt X k).o = xo at *
        generalize (exAt X k).l = xl at *
        change Below _ _ (wr.alloc (.cells #[.int .i64 xs, .int .i64 xo, .int .i64 xl] 101)) at hbX
        change Box (wr.alloc (.cells #[.int .i64 xs, .int .i64 xo, .int .i64 xl] 101)) _ _ _ at bF
        obtain ⟨ta, hta, za, Ha⟩ := refNumberQ xs i1.1 i1.2
        obtain ⟨tb, htb, zb, Hb⟩ := refNumberQ xo i2.1 i2.2
        obtain ⟨tc, htc, zc, Hc⟩ := refNumberQ xl i3.1 i3.2
        have g2 : v.size + ta.size ≤ 100000 := by omega
        have g3 : v.size + ta.size + tb.size ≤ 100000 := by omega
        have g4 : v.size + ta.size + tb.size + tc.size ≤ 100000 := by omega
        clear hXX
        go_upto_region 9 with (fail)
        have hbr1 := step2 hbr hbX
        obtain ⟨W3, hW3⟩ : ∃ W3, wr.alloc (.cells #[.int .i64 xs, .int .i64 xo, .int .i64 xl] 101) = W3 := ⟨_, rfl⟩
        change Code.wp _ _ _ _ (wr.alloc (.cells #[.int .i64 xs, .int .i64 xo, .int .i64 xl] 101))
        rw [hW3] at hbX bF hbr1 ⊢
        clear hW3 x0 x1 x2 c0 c1 c2 c3 c4 c5 c6 bBr
        have x0 : W3.cell? ⟨wr.heap.size, 0, none⟩ = some (.int .i64 xs) := bF.cell 0
        have x1 : W3.cell? ⟨wr.heap.size, 1, none⟩ = some (.int .i64 xo) := bF.cell 1
        have x2 : W3.cell? ⟨wr.heap.size, 2, none⟩ = some (.int .i64 xl) := bF.cell 2
        go_quiet ((first | (go_at_call 76; with_reducible exact Calls.quiet_of_same (Ha.out _)) | (go_at_call 76; with_reducible exact Calls.quiet_of_same (Hb.out _)) | (go_at_call 76; with_reducible exact Calls.quiet_of_same (Hc.out _))))
        have hv2 : Hid ((v ++ ta ++ tb ++ tc).data.toList = u0.data.toList ++ (X.take (k + 1)).flatMap exL) := by
          rw [Hid, append_list, append_list, append_list, hv.out, hta.out, htb.out, htc.out, HT.out, HE.out]; simp only [List.append_assoc]
        have zv2 : (v ++ ta ++ tb ++ tc).size ≤ 13000 + 100 * (k + 1) := by rw [ByteArray.size_append, ByteArray.size_append, ByteArray.size_append]; omega
        have hbr2 := below_drewN hbr1 nq
        clear Ha Hb Hc hta htb htc za zb zc x0 x1 x2 i1 i2 i3 g2 g3 g4
        generalize v ++ ta ++ tb ++ tc = v2 at *
        go_wp2_with fail
        go_roundw
        case rel => exact ⟨k + 1, v2, by omega, by go_num, rfl, hv2, zv2, hbr2⟩
        case measure => simp [intOf]; omega
      · obtain rfl : k = X.length := by omega
        have hte : X.take X.length = X := List.take_of_length_le (Nat.le_refl _)
        rw [hte] at hv
        clear hte
        go_wp2_with fail
        go_ret2
        exact ⟨_, rfl, by rw [Hid, HL0.out, hv.out, hu0.out, HL.out], step2 hb2 hbr⟩
end Go.Proofs.YtjlfjchcmkkebaaGreatDoor
