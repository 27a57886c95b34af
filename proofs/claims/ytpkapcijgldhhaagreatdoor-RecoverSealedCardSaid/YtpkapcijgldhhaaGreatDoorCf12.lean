/-
  The bounds of an entry that is valid. Plain.
  The reference's encoding of an entry, whatever its sizes.
  The reference's check of a session, whatever its sizes.
-/
import Derived.Test.YtpkapcijgldhhaaGreatDoorCf01
import Derived.Test.YtpkapcijgldhhaaGreatDoorCf02
import Derived.Test.YtpkapcijgldhhaaGreatDoorCf09
import Derived.Test.YtpkapcijgldhhaaGreatDoorCf10
import Derived.Test.YtpkapcijgldhhaaGreatDoorCf11
import Derived.Test.YtpkapcijgldhhaaGreatDoorCf03
import Derived.Test.YtpkapcijgldhhaaGreatDoorCf19
import Derived.Test.YtpkapcijgldhhaaGreatDoorCf04
import Derived.Test.YtpkapcijgldhhaaGreatDoorCf05
import Derived.Test.YtpkapcijgldhhaaGreatDoorCf06
import Derived.Test.YtpkapcijgldhhaaGreatDoorCf07
import Derived.Test.YtpkapcijgldhhaaGreatDoorCe27
import Derived.Test.YtpkapcijgldhhaaGreatDoorCe13
namespace Go.Proofs.YtpkapcijgldhhaaGreatDoor
/-- as SmallE, extents up to 65536 -/
def MidE (e : En) : Prop := e.path.size ≤ 300 ∧ e.target.size ≤ 300 ∧ e.digest.size ≤ 100 ∧ e.exts.length ≤ 65536 ∧ SmallA e.attrs
theorem chkE_tgt {e : En} (h : chkE e = 0) : targetB e.kind e.target.data.toList = true := by
  obtain ⟨h1, h2, _⟩ := chkE_rest h
  have hk := chkE_kind h
  unfold chkE at h
  rw [if_neg (by omega), if_pos h1] at h
  split at h
  · cases h
  split at h
  · cases h
  · rename_i h3
    cases ht : targetB e.kind e.target.data.toList with
    | true => rfl
    | false => exact absurd (Or.inr ht) h3
theorem mid_of {e : En} (hc : chkE e = 0) : MidE e := by
  obtain ⟨r1, r2, r3⟩ := chkE_rest hc
  obtain ⟨x1, x2, x3⟩ := chkE_exts hc
  have hp : e.path.size ≤ 200 := by
    unfold pathE at r1
    split at r1
    · cases r1
    · rename_i h; have : e.path.data.toList.length = e.path.size := rfl; omega
  have ha : SmallA e.attrs := by
    unfold attrsE at r2
    split at r2
    · cases r2
    · rename_i h16
      refine ⟨by omega, fun i hi => ?_⟩
      have h1 := firstE_all r2 i hi
      unfold attrE at h1
      have h2 : attrOne (atAt e.attrs i).key (atAt e.attrs i).value = 0 := by
        by_cases h : attrOne (atAt e.attrs i).key (atAt e.attrs i).value = 0
        · exact h
        · rw [if_neg h] at h1; exact absurd h1 h
      unfold attrOne at h2
      split at h2
      · cases h2
      · rename_i hk
        split at h2
        · cases h2
        · have hk : keyB (atAt e.attrs i).key.data.toList = true := by simpa using hk
          unfold keyB at hk
          simp only [Bool.and_eq_true, decide_eq_true_eq] at hk
          have h3 : (atAt e.attrs i).key.data.toList.length = (atAt e.attrs i).key.size := rfl
          omega
  have ht : e.target.size ≤ 200 := by
    have h := chkE_tgt hc
    have hz : e.target.data.toList.length = e.target.size := rfl
    unfold targetB at h
    split at h
    · simp only [Bool.and_eq_true, decide_eq_true_eq] at h; omega
    · split at h
      · unfold dateB at h
        simp only [Bool.and_eq_true, decide_eq_true_eq] at h
        omega
      · rw [List.isEmpty_iff] at h
        rw [h] at hz; simp at hz; omega
  have hd : e.digest.size ≤ 32 := by
    have h1 : sizeE e.kind e.size e.digest.size = 0 := by
      unfold contE at r3
      by_cases h : sizeE e.kind e.size e.digest.size = 0
      · exact h
      · rw [if_neg h] at r3; exact absurd r3 h
    have key : ∀ M D : Nat, (if e.size < 0 ∨ (M : Int) < e.size then (2 : Int) else if e.digest.size ≠ D then 1 else 0) = 0 → e.digest.size = D := fun M D h => by
      split at h
      · cases h
      · split at h
        · cases h
        · rename_i h2; simpa using h2
    by_cases hk1 : e.kind = 1
    · have := key 65536 32 (by simpa [sizeE, hk1] using h1)
      omega
    · have := key 0 0 (by simpa [sizeE, hk1] using h1)
      omega
  exact ⟨by omega, by omega, by omega, x1, ha⟩
end Go.Proofs.YtpkapcijgldhhaaGreatDoor

namespace Go.Proofs.YtpkapcijgldhhaaGreatDoor
open Go.RowKit Go.Shelf
/-- the entry without its extents -/
def eX (e : En) : En := ⟨e.kind, e.path, e.attrs, e.target, e.size, e.digest, []⟩
theorem eX_small {e : En} (h : MidE e) : SmallE (eX e) := ⟨h.1, h.2.1, h.2.2.1, Nat.zero_le _, h.2.2.2.2⟩
theorem mid_head {e : En} (h : MidE e) : (headL e).length ≤ 12000 := by
  have h1 : (headL (eX e)).length ≤ 12000 := small_head (eX_small h)
  exact h1
theorem refHead0_mid (e : En) (va vx : Value) (w : World) (ha : AtRow w va e.attrs) (hs : MidE e) :
    Calls Tryz.prog 85 #[.agg #[.int .i64 e.kind, .string e.path, va, .string e.target, .int .i64 e.size, .string e.digest, vx]] w (StrP (headL e) w) := refHead0_any (eX e) va vx w ha (eX_small hs)
set_option maxRecDepth 100000 in
set_option maxHeartbeats 4000000 in
theorem refEncode_mid (e : En) (va vx : Value) (w : World) (ha : AtRow w va e.attrs) (hx : ExRow w vx e.exts) (hok : EnBig e) (hsz : -9223372036854775808 ≤ e.size ∧ e.size ≤ 9223372036854775807) (hs : MidE e) :
    Calls Tryz.prog 53 #[.agg #[.int .i64 e.kind, .string e.path, va, .string e.target, .int .i64 e.size, .string e.digest, vx]] w (HeadP (if chkE e = 0 then bodyL e else []) (chkE e) w) := by
  have HK := Lib.hid (show ∀ W, Below w.heap.size w W → Calls Tryz.prog 81 #[.agg #[.int .i64 e.kind, .string e.path, va, .string e.target, .int .i64 e.size, .string e.digest, vx]] W (IntP (chkE e) W) from fun W hW => refCheck_big e va vx W (ha.below hW) (hx.below hW) hok)
  have hhl := mid_head hs
  have HH := Lib.hid (show ∀ W, Below w.heap.size w W → Calls Tryz.prog 85 #[.agg #[.int .i64 e.kind, .string e.path, va, .string e.target, .int .i64 e.size, .string e.digest, vx]] W fun e' w' => ∃ t : ByteArray, e' = .returned (.string t) ∧ Hid (t.data.toList = headL e) ∧ t.size ≤ 12000 ∧ Hid (Below W.heap.size W w') from
    fun W hW => (refHead0_mid e va vx W (ha.below hW) hs).mono fun e' w' ⟨t, h1, h2, h3⟩ => ⟨t, h1, h2, by have h4 := hhl; rw [← h2.out] at h4; exact h4, h3⟩)
  have HL : Hid (bodyL e = strL (headL e) ++ numL e.size ++ strL e.digest.data.toList ++ numL e.exts.length ++ e.exts.flatMap exL) := rfl
  obtain ⟨a1, m1, rfl⟩ := ha.form
  obtain ⟨a2, m2, rfl⟩ := hx.form
  have hHX := hx.2
  have HX := Lib.hid hHX
  obtain ⟨_, _, sdg, sX, _, _⟩ := hs
  obtain ⟨z0, z1⟩ := hsz
  have HXO := Lib.hid hok.exts.2
  clear ha hx hok hhl hHX
  obtain ⟨ce, hce⟩ : ∃ ce, chkE e = ce := ⟨_, rfl⟩
  rw [hce] at HK ⊢
  have Hce := Lib.hid hce; clear hce
  have HLn := Lib.hid (show ce ≠ 0 → (if ce = 0 then bodyL e else []) = [] from fun h => if_neg h)
  have HLy := Lib.hid (show ce = 0 → (if ce = 0 then bodyL e else []) = bodyL e from fun h => if_pos h)
  generalize (if ce = 0 then bodyL e else []) = L at *
  generalize headL e = hl at *
  generalize bodyL e = bl at *
  generalize e.kind = kd at *
  generalize e.path = pt at *
  generalize e.attrs = A at *
  generalize e.target = tg at *
  generalize e.size = sz at *
  generalize e.digest = dg at *
  generalize e.exts = X at *
  obtain ⟨hb0, bB⟩ := box1'' w [.int .i64 kd, .string pt, .slice a1 A.length m1, .string tg, .int .i64 sz, .string dg, .slice a2 X.length m2] 109
  change Below _ _ (w.alloc (.cells #[.int .i64 kd, .string pt, .slice a1 A.length m1, .string tg, .int .i64 sz, .string dg, .slice a2 X.length m2] 109)) at hb0
  change Box (w.alloc (.cells #[.int .i64 kd, .string pt, .slice a1 A.length m1, .string tg, .int .i64 sz, .string dg, .slice a2 X.length m2] 109)) _ _ _ at bB
  go_enter Tryz.func53, Tryz.ntmps53
  go_upto_region 1 with (fail)
  obtain ⟨W0, hW0⟩ : ∃ W0, w.alloc (.cells #[.int .i64 kd, .string pt, .slice a1 A.length m1, .string tg, .int .i64 sz, .string dg, .slice a2 X.length m2] 109) = W0 := ⟨_, rfl⟩
  change Code.wp _ _ _ _ (w.alloc (.cells #[.int .i64 kd, .string pt, .slice a1 A.length m1, .string tg, .int .i64 sz, .string dg, .slice a2 X.length m2] 109))
  rw [hW0] at hb0 bB ⊢
  clear hW0
  obtain ⟨c0, c1, c2, c3, c4, c5, c6⟩ := bB.cells7
  go_wp2_with fail
  refine (HK.out W0 hb0).mono ?_
  rintro e2 W1 ⟨rfl, hb⟩
  have hb1 := step2 hb0 hb
  have bB1 := bB.below hb
  clear hb0 bB hb c0 c1 c2 c3 c4 c5 c6 HK
  by_cases hc : ce = 0
  case neg =>
    have q1 : (ce != 0) = true := by rw [bne_iff_ne]; exact hc
    have HL0 := Lib.hid (HLn.out hc)
    clear hc HLn HLy
    go_wp2_with fail
    go_ret2
    exact ⟨_, rfl, by rw [Hid, HL0.out], hb1⟩
  have HL0 := Lib.hid (HLy.out hc)
  clear HLn HLy
  subst hc
  obtain ⟨t2, ht2, zt2, H2⟩ := refNumberQ sz z0 z1
  obtain ⟨t3, ht3, zt3, H3⟩ := refStringQ dg (by omega)
  obtain ⟨t4, ht4, zt4, H4⟩ := refNumberQ (X.length : Int) (by omega) (by omega)
  have hbd : Below w.heap.size w W1.drew := below_drew0 hb1
  have bBd := bB1.drewN' 1
  change Box W1.drew _ _ _ at bBd
  obtain ⟨c0, c1, c2, c3, c4, c5, c6⟩ := bB1.cells7
  have hcat := Lib.hid (show ∀ (a b : ByteArray), a.size + b.size ≤ 1000000 → ∃ c : ByteArray, Hid (c.data.toList = a.data.toList ++ b.data.toList) ∧ c.size ≤ a.size + b.size ∧ ∀ W : World, (Op.stringOp .add a b).run Tryz.prog W = .ok (.string c) W from fun a b h =>
    ⟨a ++ b, append_list a b, by rw [ByteArray.size_append]; exact Nat.le_refl _, fun W => run_string_add_sum W a b (by omega)⟩)
  go_upto_region 4 with (fail)
  go_cut [5] from 13 to 28 (fun v wc => ∃ u : ByteArray, v = .string u ∧ Hid (u.data.toList = strL hl ++ numL sz ++ strL dg.data.toList ++ numL X.length) ∧ u.size ≤ 13000 ∧ Below w.heap.size w wc ∧ Box wc w.heap.size [.int .i64 kd, .string pt, .slice a1 A.length m1, .string tg, .int .i64 sz, .string dg, .slice a2 X.length m2] 109)
  case first =>
    clear HX HXO
    go_region_held3 (fun w' => w'.cell? ⟨w.heap.size, 0, none⟩ = some (.int .i64 kd) ∧ w'.cell? ⟨w.heap.size, 1, none⟩ = some (.string pt) ∧ w'.cell? ⟨w.heap.size, 2, none⟩ = some (.slice a1 A.length m1) ∧ w'.cell? ⟨w.heap.size, 3, none⟩ = some (.string tg) ∧ w'.cell? ⟨w.heap.size, 4, none⟩ = some (.int .i64 sz) ∧ w'.cell? ⟨w.heap.size, 5, none⟩ = some (.string dg) ∧ w'.cell? ⟨w.heap.size, 6, none⟩ = some (.slice a2 X.length m2))
      (first | with_reducible exact ⟨c0, c1, c2, c3, c4, c5, c6⟩ | with_reducible exact Box.cells7 bBd | with_reducible exact Box.cells7 bB2)
      (first
        | (go_at_call 85; (with_reducible refine (HH.out _ hbd).mono ?_); rintro e2 W2 ⟨t0, rfl, ht0, zt0, hb⟩; have hb2 := step2 hbd hb.out; have bB2 := bBd.below hb.out; obtain ⟨t1, ht1, zt1, H1⟩ := refStringQ t0 (by omega); obtain ⟨x2, hx2, zx2, r2⟩ := hcat.out t1 t2 (by omega); obtain ⟨x3, hx3, zx3, r3⟩ := hcat.out x2 t3 (by omega); obtain ⟨x4, hx4, zx4, r4⟩ := hcat.out x3 t4 (by omega))
        | (go_at_call 30; (with_reducible refine (H1.out _).mono ?_); rintro e3 W3 ⟨rfl, rfl⟩)
        | (go_at_call 30; (with_reducible refine (H3.out _).mono ?_); rintro e3 W3 ⟨rfl, rfl⟩)
        | (go_at_call 51; (with_reducible refine (H2.out _).mono ?_); rintro e3 W3 ⟨rfl, rfl⟩)
        | (go_at_call 51; (with_reducible refine (H4.out _).mono ?_); rintro e3 W3 ⟨rfl, rfl⟩))
    all_goals
      go_wp2_with fail
      go_meet
      case rel => exact ⟨x4, rfl, by rw [Hid, hx4.out, hx3.out, hx2.out, ht1.out, ht0.out, ht2.out, ht3.out, ht4.out], by omega, hb2, bB2⟩
  case rest =>
    obtain ⟨u0, rfl, hu0, zu0, hb2, bB2⟩ := hcut
    clear hb1 bB1 hbd bBd c0 c1 c2 c3 c4 c5 c6 H2 H3 H4 HH hcat ht2 ht3 ht4 zt2 zt3 zt4
    obtain ⟨W2, rfl⟩ : ∃ W2, W2 = wc := ⟨_, rfl⟩
    have hbW : w.heap.size < W2.heap.size := bB2.lt
    go_upto_block 0 with (fail)
    go_wp2_with fail
    go_loopw [5, 6, 7] (fun u i _ wr => ∃ (k : Nat) (v : ByteArray), k ≤ X.length ∧ i = .int .i64 k ∧ u = .string v ∧ Hid (v.data.toList = u0.data.toList ++ (X.take k).flatMap exL) ∧ v.size ≤ 13000 + 100 * k ∧ Below W2.heap.size W2 wr) (fun _ i _ _ => X.length - (intOf i).toNat)
    case atStart => exact ⟨0, u0, by omega, rfl, rfl, by rw [Hid]; simp, by omega, below_refl _⟩
    case round =>
      obtain ⟨k, v, hk, rfl, rfl, hv, zv, hbr⟩ := hrel
      have bBr := bB2.below hbr
      obtain ⟨c0, c1, c2, c3, c4, c5, c6⟩ := bBr.cells7
      by_cases hlt : k < X.length
      · rcases HX.out with ⟨rfl, _⟩ | ⟨hpos, b, o, cc, ev, _, _, hb, hXX⟩
        · exact absurd hlt (Nat.not_lt_zero _)
        cases ev
        have hXX : ExAt w b o X := hXX
        obtain ⟨x0, x1, x2⟩ := exCells (show ExAt wr b o X from hXX.below (step2 hb2 hbr) hb) hlt
        obtain ⟨i1, i2, i3⟩ := HXO.out k
        have HT := Lib.hid (take_flatX X k hlt)
        have HE : Hid (exL (exAt X k) = numL (exAt X k).s ++ numL (exAt X k).o ++ numL (exAt X k).l) := rfl
        obtain ⟨hbX, bF⟩ := box1'' wr [.int .i64 (exAt X k).s, .int .i64 (exAt X k).o, .int .i64 (exAt X k).l] 34
        generalize (exAt X k).s = xs at *
        generalize (exAt X k).o = xo at *
        generalize (exAt X k).l = xl at *
        change Below _ _ (wr.alloc (.cells #[.int .i64 xs, .int .i64 xo, .int .i64 xl] 34)) at hbX
        change Box (wr.alloc (.cells #[.int .i64 xs, .int .i64 xo, .int .i64 xl] 34)) _ _ _ at bF
        obtain ⟨ta, hta, za, Ha⟩ := refNumberQ xs i1.1 i1.2
        obtain ⟨tb, htb, zb, Hb⟩ := refNumberQ xo i2.1 i2.2
        obtain ⟨tc, htc, zc, Hc⟩ := refNumberQ xl i3.1 i3.2
        have g2 : v.size + ta.size ≤ 10000000 := by omega
        have g3 : v.size + ta.size + tb.size ≤ 10000000 := by omega
        have g4 : v.size + ta.size + tb.size + tc.size ≤ 10000000 := by omega
        clear hXX
        go_upto_region 9 with (fail)
        have hbr1 := step2 hbr hbX
        obtain ⟨W3, hW3⟩ : ∃ W3, wr.alloc (.cells #[.int .i64 xs, .int .i64 xo, .int .i64 xl] 34) = W3 := ⟨_, rfl⟩
        change Code.wp _ _ _ _ (wr.alloc (.cells #[.int .i64 xs, .int .i64 xo, .int .i64 xl] 34))
        rw [hW3] at hbX bF hbr1 ⊢
        clear hW3 x0 x1 x2 c0 c1 c2 c3 c4 c5 c6 bBr
        have x0 : W3.cell? ⟨wr.heap.size, 0, none⟩ = some (.int .i64 xs) := bF.cell 0
        have x1 : W3.cell? ⟨wr.heap.size, 1, none⟩ = some (.int .i64 xo) := bF.cell 1
        have x2 : W3.cell? ⟨wr.heap.size, 2, none⟩ = some (.int .i64 xl) := bF.cell 2
        go_quiet ((first | (go_at_call 51; with_reducible exact Calls.quiet_of_same (Ha.out _)) | (go_at_call 51; with_reducible exact Calls.quiet_of_same (Hb.out _)) | (go_at_call 51; with_reducible exact Calls.quiet_of_same (Hc.out _))))
        have hv2 : Hid ((v ++ ta ++ tb ++ tc).data.toList = u0.data.toList ++ (X.take (k + 1)).flatMap exL) := by
          rw [Hid, append_list, append_list, append_list, hv.out, hta.out, htb.out, htc.out, HT.out, HE.out]; simp only [List.append_assoc]
        have zv2 : (v ++ ta ++ tb ++ tc).size ≤ 13000 + 100 * (k + 1) := by rw [ByteArray.size_append, ByteArray.size_append, ByteArray.size_append]; omega
        have hbr2 := below_drewN hbr1 nq
        clear Ha Hb Hc hta htb htc za zb zc x0 x1 x2 i1 i2 i3 g2 g3 g4
        generalize v ++ ta ++ tb ++ tc = v2 at *
        go_wp2_with fail
        go_roundw
        case rel => exact ⟨k + 1, v2, by omega, by go_num, rfl, hv2, zv2, hbr2⟩
        case measure => simp [intOf]; omega
      · obtain rfl : k = X.length := by omega
        have hte : X.take X.length = X := List.take_of_length_le (Nat.le_refl _)
        rw [hte] at hv
        clear hte
        go_wp2_with fail
        go_ret2
        exact ⟨_, rfl, by rw [Hid, HL0.out, hv.out, hu0.out, HL.out], step2 hb2 hbr⟩
set_option maxRecDepth 100000 in
set_option maxHeartbeats 4000000 in
theorem refEncode_bad (e : En) (va vx : Value) (w : World) (ha : AtRow w va e.attrs) (hx : ExRow w vx e.exts) (hok : EnBig e) (hsz : -9223372036854775808 ≤ e.size ∧ e.size ≤ 9223372036854775807) (hs : chkE e ≠ 0) :
    Calls Tryz.prog 53 #[.agg #[.int .i64 e.kind, .string e.path, va, .string e.target, .int .i64 e.size, .string e.digest, vx]] w (HeadP (if chkE e = 0 then bodyL e else []) (chkE e) w) := by
  have hs0 := Lib.hid hs
  have HK := Lib.hid (show ∀ W, Below w.heap.size w W → Calls Tryz.prog 81 #[.agg #[.int .i64 e.kind, .string e.path, va, .string e.target, .int .i64 e.size, .string e.digest, vx]] W (IntP (chkE e) W) from fun W hW => refCheck_big e va vx W (ha.below hW) (hx.below hW) hok)
  obtain ⟨a1, m1, rfl⟩ := ha.form
  obtain ⟨a2, m2, rfl⟩ := hx.form
  have hHX := hx.2
  have HX := Lib.hid hHX
  obtain ⟨z0, z1⟩ := hsz
  have HXO := Lib.hid hok.exts.2
  clear ha hx hok hHX
  obtain ⟨ce, hce⟩ : ∃ ce, chkE e = ce := ⟨_, rfl⟩
  rw [hce] at HK ⊢
  have Hce := Lib.hid hce; clear hce
  have HLn := Lib.hid (show ce ≠ 0 → (if ce = 0 then bodyL e else []) = [] from fun h => if_neg h)
  have HLy := Lib.hid (show ce = 0 → (if ce = 0 then bodyL e else []) = bodyL e from fun h => if_pos h)
  generalize (if ce = 0 then bodyL e else []) = L at *
  generalize bodyL e = bl at *
  generalize e.kind = kd at *
  generalize e.path = pt at *
  generalize e.attrs = A at *
  generalize e.target = tg at *
  generalize e.size = sz at *
  generalize e.digest = dg at *
  generalize e.exts = X at *
  obtain ⟨hb0, bB⟩ := box1'' w [.int .i64 kd, .string pt, .slice a1 A.length m1, .string tg, .int .i64 sz, .string dg, .slice a2 X.length m2] 109
  change Below _ _ (w.alloc (.cells #[.int .i64 kd, .string pt, .slice a1 A.length m1, .string tg, .int .i64 sz, .string dg, .slice a2 X.length m2] 109)) at hb0
  change Box (w.alloc (.cells #[.int .i64 kd, .string pt, .slice a1 A.length m1, .string tg, .int .i64 sz, .string dg, .slice a2 X.length m2] 109)) _ _ _ at bB
  go_enter Tryz.func53, Tryz.ntmps53
  go_upto_region 1 with (fail)
  obtain ⟨W0, hW0⟩ : ∃ W0, w.alloc (.cells #[.int .i64 kd, .string pt, .slice a1 A.length m1, .string tg, .int .i64 sz, .string dg, .slice a2 X.length m2] 109) = W0 := ⟨_, rfl⟩
  change Code.wp _ _ _ _ (w.alloc (.cells #[.int .i64 kd, .string pt, .slice a1 A.length m1, .string tg, .int .i64 sz, .string dg, .slice a2 X.length m2] 109))
  rw [hW0] at hb0 bB ⊢
  clear hW0
  obtain ⟨c0, c1, c2, c3, c4, c5, c6⟩ := bB.cells7
  go_wp2_with fail
  refine (HK.out W0 hb0).mono ?_
  rintro e2 W1 ⟨rfl, hb⟩
  have hb1 := step2 hb0 hb
  have bB1 := bB.below hb
  clear hb0 bB hb c0 c1 c2 c3 c4 c5 c6 HK
  have hc : ce ≠ 0 := by rw [← Hce.out] ; exact hs0.out
  · skip
    have q1 : (ce != 0) = true := by rw [bne_iff_ne]; exact hc
    have HL0 := Lib.hid (HLn.out hc)
    clear hc HLn HLy
    go_wp2_with fail
    go_ret2
    exact ⟨_, rfl, by rw [Hid, HL0.out], hb1⟩
theorem refEncode_big (e : En) (va vx : Value) (w : World) (ha : AtRow w va e.attrs) (hx : ExRow w vx e.exts) (hok : EnBig e) (hsz : -9223372036854775808 ≤ e.size ∧ e.size ≤ 9223372036854775807) :
    Calls Tryz.prog 53 #[.agg #[.int .i64 e.kind, .string e.path, va, .string e.target, .int .i64 e.size, .string e.digest, vx]] w (HeadP (if chkE e = 0 then bodyL e else []) (chkE e) w) := by
  by_cases hc : chkE e = 0
  · exact refEncode_mid e va vx w ha hx hok hsz (mid_of hc)
  · exact refEncode_bad e va vx w ha hx hok hsz hc
end Go.Proofs.YtpkapcijgldhhaaGreatDoor

namespace Go.Proofs.YtpkapcijgldhhaaGreatDoor
open Go.RowKit Go.Shelf
/-- the bounds of a session that came in -/
structure SeBig (s : Se) : Prop where
  number : -9223372036854775808 ≤ s.number ∧ s.number ≤ 9223372036854775807
  date : -9223372036854775808 ≤ s.date ∧ s.date ≤ 9223372036854775807
  prev : s.prev.size ≤ 9223372036854775807
  stream : s.stream.size ≤ 9223372036854775807
  sl : s.sl.size ≤ 9223372036854775807
  count : s.entries.length ≤ 9223372036854775807
  ents : ∀ i, i < s.entries.length → EnBig (enAt s.entries i)
set_option maxRecDepth 100000 in
set_option maxHeartbeats 4000000 in
theorem rcheck40_near (s : Se) (a : Option Addr) (c : Nat) (w : World) (ok : SeBig s) (hst : s.stream.size ≤ 14680064) (hr : EnRow w (.slice a s.entries.length c) s.entries) :
    Calls Tryz.prog 48 #[.agg #[.int .i64 s.number, .int .i64 s.date, .string s.prev, .slice a s.entries.length c, .string s.stream, .string s.sl]] w (IntP (chkS (fieldsE s.number s.date s.prev.size) s.entries.length (entsE s.entries) s.sl.size) w) := by
  have HX := Lib.hid (show ∀ W, Below w.heap.size w W → EnRow W (.slice a s.entries.length c) s.entries from fun W hW => hr.below hW)
  have HO := Lib.hid ok.ents
  have hp := ok.prev
  have hsl := ok.sl
  have hN := ok.count
  clear hr ok
  generalize s.number = n at *
  generalize s.date = d at *
  generalize s.prev = p at *
  generalize s.stream = st at *
  generalize s.sl = sl at *
  generalize s.entries = X at *
  obtain ⟨hb0, bB⟩ := box1'' w [.int .i64 n, .int .i64 d, .string p, .slice a X.length c, .string st, .string sl] 53
  change Below _ _ (w.alloc (.cells #[.int .i64 n, .int .i64 d, .string p, .slice a X.length c, .string st, .string sl] 53)) at hb0
  change Box (w.alloc (.cells #[.int .i64 n, .int .i64 d, .string p, .slice a X.length c, .string st, .string sl] 53)) _ _ _ at bB
  have hC := Lib.hid (fields_cases n d p.size)
  have HE : Hid (entsE X = firstE (fun i => chkE (enAt X i)) X.length) := rfl
  generalize fieldsE n d p.size = f at *
  rcases hC.out with ⟨he, hc⟩ | ⟨g1, g2, g3, g4, hc⟩
  · subst he
    rw [chkS_f (by decide)]
    have HC := Lib.hid hc
    clear hC hc HE
    rcases HC.out with k1 | ⟨k1, k2⟩ | ⟨k1, k2, k3⟩ | ⟨k1, k2, k3, k4⟩
    all_goals
      clear HC
      go_enter Tryz.func48, Tryz.ntmps48
      go_wp2_with fail
      go_ret
      exact ⟨rfl, hb0⟩
  have HC := Lib.hid hc
  clear hC hc
  have hz : f = 1 ∧ p.size ≠ 0 ∧ p.size ≠ 32 ∨ f = 0 ∧ (p.size = 0 ∨ p.size = 32) := by
    rcases HC.out with ⟨he, h1, h2⟩ | ⟨he, h1⟩ | ⟨he, h1⟩
    · exact .inl ⟨he, h1, h2⟩
    · exact .inr ⟨he, .inl h1⟩
    · exact .inr ⟨he, .inr h1⟩
  clear HC
  rcases hz with ⟨rfl, h1, h2⟩ | ⟨rfl, hz⟩
  · rw [chkS_f (by decide)]
    have p1 : ((p.size : Int) == 0) = false := by rw [beq_eq_false_iff_ne]; omega
    have p2 : ((p.size : Int) != 0) = true := by rw [bne_iff_ne]; omega
    have q1 : ((p.size : Int) == 32) = false := by rw [beq_eq_false_iff_ne]; omega
    have q2 : ((p.size : Int) != 32) = true := by rw [bne_iff_ne]; omega
    clear h1 h2
    go_enter Tryz.func48, Tryz.ntmps48
    go_wp2_with fail
    go_ret
    exact ⟨rfl, hb0⟩
  have HZ := Lib.hid hz; clear hz
  have HN4 := Lib.hid (show 400 < X.length → chkS 0 X.length (entsE X) sl.size = 6 from fun h => chkS_n h)
  have HB := Lib.hid (show ¬ 400 < X.length → ∀ k, k < X.length → firstE (fun i => chkE (enAt X i)) k = 0 → chkE (enAt X k) ≠ 0 → chkS 0 X.length (entsE X) sl.size = chkE (enAt X k) from fun h4 k hk h0 hc => by
    have := errE_ne hk h0 hc
    rw [this]; exact chkS_e h4 hc)
  have HL := Lib.hid (show ¬ 400 < X.length → entsE X = 0 → chkS 0 X.length (entsE X) sl.size = if 2000 < sl.size then 6 else 0 from fun h4 h => by rw [h]; exact chkS_l h4)
  generalize chkS 0 X.length (entsE X) sl.size = R at *
  go_enter Tryz.func48, Tryz.ntmps48
  go_upto_region 1 with (fail)
  obtain ⟨W0, hW0⟩ : ∃ W0, w.alloc (.cells #[.int .i64 n, .int .i64 d, .string p, .slice a X.length c, .string st, .string sl] 53) = W0 := ⟨_, rfl⟩
  change Code.wp _ _ _ _ (w.alloc (.cells #[.int .i64 n, .int .i64 d, .string p, .slice a X.length c, .string st, .string sl] 53))
  rw [hW0] at hb0 bB ⊢
  clear hW0
  obtain ⟨c0, c1, c2, c3, c4, c5⟩ := bB.cells6
  go_upto_region 3 with (fail)
  go_cut [32] from 23 (fun v wc => W0 = wc ∧ v = .bool false)
  case first =>
    rcases HZ.out with h1 | h1
    · have p1 : ((p.size : Int) == 0) = true := by rw [beq_iff_eq]; omega
      have p2 : ((p.size : Int) != 0) = false := by rw [bne_eq_false_iff_eq]; omega
      clear h1
      go_wp2_with fail
      go_meet
      exact ⟨rfl, rfl⟩
    · have p1 : ((p.size : Int) == 0) = false := by rw [beq_eq_false_iff_ne]; omega
      have p2 : ((p.size : Int) != 0) = true := by rw [bne_iff_ne]; omega
      have q1 : ((p.size : Int) == 32) = true := by rw [beq_iff_eq]; omega
      have q2 : ((p.size : Int) != 32) = false := by rw [bne_eq_false_iff_eq]; omega
      clear h1
      go_wp2_with fail
      go_meet
      exact ⟨rfl, rfl⟩
  obtain ⟨rfl, rfl⟩ := hcut
  clear g1 g2 g3 g4 HZ
  by_cases h4 : 400 < X.length
  · have HR := Lib.hid (HN4.out h4)
    go_wp2_with fail
    go_ret
    exact ⟨ret_int HR.out.symm, hb0⟩
  replace HB := Lib.hid (HB.out h4)
  replace HL := Lib.hid (HL.out h4)
  clear HN4
  go_upto_block 0 with (fail)
  go_wp2_with fail
  go_loopw [3, 4] (fun i _ wr => ∃ k : Nat, k ≤ X.length ∧ i = .int .i64 k ∧ Hid (firstE (fun i => chkE (enAt X i)) k = 0) ∧ Below w.heap.size w wr ∧ Box wr w.heap.size [.int .i64 n, .int .i64 d, .string p, .slice a X.length c, .string st, .string sl] 53) (fun i _ _ => X.length - (intOf i).toNat)
  case atStart => exact ⟨0, by omega, rfl, rfl, hb0, bB⟩
  case round =>
    obtain ⟨k, hk, rfl, hE, kb, bR⟩ := hrel
    clear hb0 bB c0 c1 c2 c3 c4 c5
    obtain ⟨c0, c1, c2, c3, c4, c5⟩ := bR.cells6
    by_cases hlt : k < X.length
    · obtain ⟨b, o, a1, m1, a2, m2, rfl, hA, hXx, x0, x1, x2, x3, x4, x5, x6⟩ := (HX.out _ kb).at' hlt
      have HG := Lib.hid (refCheck_big (enAt X k) _ _ wr hA hXx (HO.out k hlt))
      have HN := Lib.hid (HB.out k hlt hE.out)
      have HY := Lib.hid (show chkE (enAt X k) = 0 → firstE (fun i => chkE (enAt X i)) (k + 1) = 0 from fun h => firstE_next hE.out h)
      clear hA hXx
      obtain ⟨ce, hce⟩ : ∃ ce, chkE (enAt X k) = ce := ⟨_, rfl⟩
      rw [hce] at HG HN HY
      clear hce
      generalize enAt X k = ee at *
      go_wp2_with fail
      refine HG.out.mono ?_
      rintro e w2 ⟨rfl, hb⟩
      have kb2 := step2 kb hb
      have bR2 := bR.below hb
      clear kb bR hb c0 c1 c2 c3 c4 c5 x0 x1 x2 x3 x4 x5 x6 HG
      by_cases h0 : ce = 0
      · have HN2 := Lib.hid (HY.out h0)
        subst h0
        go_wp2_with fail
        go_roundw
        case rel => exact ⟨k + 1, by omega, by go_num, HN2, kb2, bR2⟩
        case measure => simp [intOf]; omega
      · have HR := Lib.hid (HN.out h0)
        obtain ⟨q1, q2⟩ := neq0 h0
        have H0 := Lib.hid h0; clear h0
        go_wp2_with fail
        go_ret
        exact ⟨ret_int HR.out.symm, kb2⟩
    · obtain rfl : k = X.length := by omega
      have HR := Lib.hid (HL.out (HE.out.trans hE.out))
      by_cases h5 : 2000 < sl.size
      · rw [if_pos h5] at HR
        go_wp2_with fail
        go_ret
        exact ⟨ret_int HR.out.symm, kb⟩
      · rw [if_neg h5] at HR
        go_wp2_with fail
        go_ret
        exact ⟨ret_int HR.out.symm, kb⟩
set_option maxRecDepth 100000 in
set_option maxHeartbeats 4000000 in
theorem rcheck40_far (s : Se) (a : Option Addr) (c : Nat) (w : World) (ok : SeBig s) (hst : 14680064 < s.stream.size) (hr : EnRow w (.slice a s.entries.length c) s.entries) :
    Calls Tryz.prog 48 #[.agg #[.int .i64 s.number, .int .i64 s.date, .string s.prev, .slice a s.entries.length c, .string s.stream, .string s.sl]] w (IntP (chkS (fieldsE s.number s.date s.prev.size) 401 (entsE s.entries) s.sl.size) w) := by
  have HX := Lib.hid (show ∀ W, Below w.heap.size w W → EnRow W (.slice a s.entries.length c) s.entries from fun W hW => hr.below hW)
  have HO := Lib.hid ok.ents
  have hp := ok.prev
  have hsl := ok.sl
  have hN := ok.count
  clear hr ok
  generalize s.number = n at *
  generalize s.date = d at *
  generalize s.prev = p at *
  generalize s.stream = st at *
  generalize s.sl = sl at *
  generalize s.entries = X at *
  obtain ⟨hb0, bB⟩ := box1'' w [.int .i64 n, .int .i64 d, .string p, .slice a X.length c, .string st, .string sl] 53
  change Below _ _ (w.alloc (.cells #[.int .i64 n, .int .i64 d, .string p, .slice a X.length c, .string st, .string sl] 53)) at hb0
  change Box (w.alloc (.cells #[.int .i64 n, .int .i64 d, .string p, .slice a X.length c, .string st, .string sl] 53)) _ _ _ at bB
  have hC := Lib.hid (fields_cases n d p.size)
  have HE : Hid (entsE X = firstE (fun i => chkE (enAt X i)) X.length) := rfl
  generalize fieldsE n d p.size = f at *
  rcases hC.out with ⟨he, hc⟩ | ⟨g1, g2, g3, g4, hc⟩
  · subst he
    rw [chkS_f (by decide)]
    have HC := Lib.hid hc
    clear hC hc HE
    rcases HC.out with k1 | ⟨k1, k2⟩ | ⟨k1, k2, k3⟩ | ⟨k1, k2, k3, k4⟩
    all_goals
      clear HC
      go_enter Tryz.func48, Tryz.ntmps48
      go_wp2_with fail
      go_ret
      exact ⟨rfl, hb0⟩
  have HC := Lib.hid hc
  clear hC hc
  have hz : f = 1 ∧ p.size ≠ 0 ∧ p.size ≠ 32 ∨ f = 0 ∧ (p.size = 0 ∨ p.size = 32) := by
    rcases HC.out with ⟨he, h1, h2⟩ | ⟨he, h1⟩ | ⟨he, h1⟩
    · exact .inl ⟨he, h1, h2⟩
    · exact .inr ⟨he, .inl h1⟩
    · exact .inr ⟨he, .inr h1⟩
  clear HC
  rcases hz with ⟨rfl, h1, h2⟩ | ⟨rfl, hz⟩
  · rw [chkS_f (by decide)]
    have p1 : ((p.size : Int) == 0) = false := by rw [beq_eq_false_iff_ne]; omega
    have p2 : ((p.size : Int) != 0) = true := by rw [bne_iff_ne]; omega
    have q1 : ((p.size : Int) == 32) = false := by rw [beq_eq_false_iff_ne]; omega
    have q2 : ((p.size : Int) != 32) = true := by rw [bne_iff_ne]; omega
    clear h1 h2
    go_enter Tryz.func48, Tryz.ntmps48
    go_wp2_with fail
    go_ret
    exact ⟨rfl, hb0⟩
  have HZ := Lib.hid hz; clear hz
  have HN4 := Lib.hid (show chkS 0 401 (entsE X) sl.size = 6 from chkS_n (by decide))
  generalize chkS 0 401 (entsE X) sl.size = R at *
  go_enter Tryz.func48, Tryz.ntmps48
  go_upto_region 1 with (fail)
  obtain ⟨W0, hW0⟩ : ∃ W0, w.alloc (.cells #[.int .i64 n, .int .i64 d, .string p, .slice a X.length c, .string st, .string sl] 53) = W0 := ⟨_, rfl⟩
  change Code.wp _ _ _ _ (w.alloc (.cells #[.int .i64 n, .int .i64 d, .string p, .slice a X.length c, .string st, .string sl] 53))
  rw [hW0] at hb0 bB ⊢
  clear hW0
  obtain ⟨c0, c1, c2, c3, c4, c5⟩ := bB.cells6
  go_upto_region 3 with (fail)
  go_cut [32] from 23 (fun v wc => W0 = wc ∧ v = .bool false)
  case first =>
    rcases HZ.out with h1 | h1
    · have p1 : ((p.size : Int) == 0) = true := by rw [beq_iff_eq]; omega
      have p2 : ((p.size : Int) != 0) = false := by rw [bne_eq_false_iff_eq]; omega
      clear h1
      go_wp2_with fail
      go_meet
      exact ⟨rfl, rfl⟩
    · have p1 : ((p.size : Int) == 0) = false := by rw [beq_eq_false_iff_ne]; omega
      have p2 : ((p.size : Int) != 0) = true := by rw [bne_iff_ne]; omega
      have q1 : ((p.size : Int) == 32) = true := by rw [beq_iff_eq]; omega
      have q2 : ((p.size : Int) != 32) = false := by rw [bne_eq_false_iff_eq]; omega
      clear h1
      go_wp2_with fail
      go_meet
      exact ⟨rfl, rfl⟩
  obtain ⟨rfl, rfl⟩ := hcut
  clear g1 g2 g3 g4 HZ
  have HR := HN4
  go_wp2_with fail
  go_ret
  exact ⟨ret_int HR.out.symm, hb0⟩
end Go.Proofs.YtpkapcijgldhhaaGreatDoor
