/-
  Chapter 47: the law Keys, walked out of the contracts.
-/
import Derived.Test.YtadhbnleahipaaaGreatDoorLawSucc
import Derived.Test.YtadhbnleahipaaaGreatDoorMa
import Derived.Deep.QuietTactic
import Derived.BigQuiet
import Derived.StillTailTactics
namespace Go.Proofs.YtadhbnleahipaaaGreatDoor
open Go.RowKit
theorem takeL {P : Program} {l : List Oper} {Q : Exit → Act → World → Prop} {md : Region.Mode} {S : World → Prop} {i : Nat} {oi : Oper} {v : Value} {fuel : Nat} {listed : Array Bool} {a : Act} {w : World} (hi : l[i]? = some oi)
    (hs : Region.noSelect l.toArray = true) (hf : Region.free md l.toArray listed i = true) (hr : (Region.ready md l.toArray listed).contains i = true)
    (hQ : ∀ c a w, Q (.panic c) (a.put oi.dst v) w → Q (.panic c) a w) (hy : YieldsIf P l.toArray S oi v a) (hS : S w)
    (h : wpAnyH P md l.toArray Q S fuel (listed.setIfInBounds i true) (a.put oi.dst v) w) : wpAnyH P md l.toArray Q S (fuel + 1) listed a w :=
  wpAnyH_take (by simpa using hi) hs hf hr hQ hy hS h
theorem readyL {P : Program} {l : List Oper} {Q : Exit → Act → World → Prop} {md : Region.Mode} {S : World → Prop} {fuel : Nat} {listed : Array Bool} {a : Act} {w : World} {i : Nat} {o : Oper} {rs : List Nat} (ho : l[i]? = some o)
    (h : ∀ K' : Act → World → Prop, Shut (∀ a w, S w → (S w → wpAnyH P md l.toArray Q S fuel (listed.setIfInBounds i true) a w) → K' a w) → if Region.wanted o (yielded l.toArray a.tmps) = true then Oper.wp P o a w K' Q else K' (a.put o.dst undef) w)
    (hs : AllReadyH P md l.toArray Q S fuel listed a w rs) : AllReadyH P md l.toArray Q S fuel listed a w (i :: rs) := AllReadyH.cons (by simpa using ho) h hs
def strB : ByteArray := ⟨#[115, 116, 114, 97, 110, 103, 101, 114]⟩
theorem keys_finA {wc wb w1 : World} {sc : Cu} (kb3 : Below w1.heap.size w1 wc) (hb9 : Below wc.drew.heap.size wc.drew wb) :
    BoxC (wb.alloc (.cells #[.string sc.root, .string sc.media, .int .i64 sc.fr, .int .i64 sc.un, .string sc.sig] 29)) wb.heap.size sc ∧
    Below w1.heap.size w1 (wb.alloc (.cells #[.string sc.root, .string sc.media, .int .i64 sc.fr, .int .i64 sc.un, .string sc.sig] 29)) := by
  have h := step2 (below_drew0 kb3) hb9
  exact ⟨BoxC.new wb sc, h.alloc h.size _⟩
theorem keys_finB5 {wc wb w1 : World} {sc : Cu} (kb3 : Below w1.heap.size w1 wc) (hb9 : Below (wc.alloc (.cells #[.string ⟨#[]⟩, .string ⟨#[]⟩, .int .i64 0, .int .i64 0, .string ⟨#[]⟩] 29)).drew.heap.size (wc.alloc (.cells #[.string ⟨#[]⟩, .string ⟨#[]⟩, .int .i64 0, .int .i64 0, .string ⟨#[]⟩] 29)).drew wb) :
    BoxC (((((wb.setCell ⟨wc.heap.size, 0, none⟩ (.string sc.root)).setCell ⟨wc.heap.size, 1, none⟩ (.string sc.media)).setCell ⟨wc.heap.size, 2, none⟩ (.int .i64 sc.fr)).setCell ⟨wc.heap.size, 3, none⟩ (.int .i64 sc.un)).setCell ⟨wc.heap.size, 4, none⟩ (.string sc.sig)) wc.heap.size sc ∧
    Below w1.heap.size w1 (((((wb.setCell ⟨wc.heap.size, 0, none⟩ (.string sc.root)).setCell ⟨wc.heap.size, 1, none⟩ (.string sc.media)).setCell ⟨wc.heap.size, 2, none⟩ (.int .i64 sc.fr)).setCell ⟨wc.heap.size, 3, none⟩ (.int .i64 sc.un)).setCell ⟨wc.heap.size, 4, none⟩ (.string sc.sig)) := by
  have h := step2 (below_drew0 (kb3.alloc kb3.size _)) hb9
  have hz : BoxC (wc.alloc (.cells #[.string ⟨#[]⟩, .string ⟨#[]⟩, .int .i64 0, .int .i64 0, .string ⟨#[]⟩] 29)).drew wc.heap.size cu0 := BoxC.new wc cu0
  exact ⟨(hz.below hb9).put sc, below_putC h kb3.size sc⟩
theorem signK_ok {b : Cu} {s : List UInt8} {k : Int} (hb : CuOk b) (he : b.e = 0) (hk : 0 ≤ k ∧ k < 2) : CuOk (signC b s 1 k) := by
  rw [sign1_c s he hk]
  exact ⟨hb.root, hb.media, Nat.le_trans (treeSign1_len s b.d k) (by decide), hb.fr, hb.un⟩
theorem two_own (w : World) (c y : Cu) {base : Nat} (hb : base ≤ w.heap.size) : (World.drew (World.alloc w (.cells #[.string c.root, .string c.media, .int .i64 c.fr, .int .i64 c.un, .string c.sig, .string y.root, .string y.media, .int .i64 y.fr, .int .i64 y.un, .string y.sig] 29))).ownsRow base 29 5 (.slice (some ⟨w.heap.size, 0, none⟩) 2 2) 2 (c.vals ++ y.vals) :=
  ⟨rfl, .inr ⟨w.heap.size, 2, _, rfl, hb, heap_alloc_new w _, Nat.le_refl _, by decide, rfl, rfl⟩⟩
theorem str_inj (s t : ByteArray) (h : s.data.toList = t.data.toList) : s = t := by
  cases s with | mk a => cases t with | mk b => cases a; cases b; simp at h; subst h; rfl
set_option maxRecDepth 100000 in
set_option maxHeartbeats 40000000 in
theorem keys1 (b o cap : Nat) (T : List Tm) (used : Bool) (w : World) (he : Env w) (h0 : 0 < T.length) (h4 : T.length ≤ 3) (hb : b < w.heap.size) (hT : TmAt w b o T) (hok : ∀ i, TmOk (tmAt T i)) (hr : TmRow w (.slice (some ⟨b, o, none⟩) T.length cap) T) :
    Calls Tryz.prog 10 #[.slice (some ⟨b, o, none⟩) T.length cap, .bool used] w (TrueP w) := by
  have HF := Lib.hid (show ∀ W, Below w.heap.size w W → Calls Tryz.prog 12 #[] W (TrueP W) from fun W hW => awake47_any W (he.below hW))
  have HC := Lib.hid (show ∀ W, Below w.heap.size w W → ∀ k, k < T.length → _ from fun W hW k hk => tmCells (hT.below hW hb) hk)
  have HC1 := Lib.hid (chain_any _ T w hr (by omega) hok)
  have HE := Lib.hid he
  have HOK := Lib.hid (chainV_ok hok)
  have hlC := chainV_length T
  have HTO := Lib.hid hok
  obtain ⟨x1, x2⟩ := neq0 (show ¬ (T.length : Int) = 0 by omega)
  have hne : T ≠ [] := by intro h; rw [h] at h0; exact absurd h0 (Nat.lt_irrefl _)
  clear hr hok he
  go_enter Tryz.func10, Tryz.ntmps10
  go_wp2_with fail
  refine HC1.out.mono ?_
  rintro e w1 ⟨u, rfl, hown, hb1⟩
  clear HC1
  have HX := Lib.hid (show ∀ W, Below w1.heap.size w1 W → Calls Tryz.prog 17 #[u] W (ErrP (checkV (chainV T)) W) from fun W hW => check_any u _ W (HE.out.below (step2 hb1 hW)) ((cuRow_own hown).below hW) (by omega) HOK.out)
  obtain ⟨g, gcap, rfl, hg1, hg2⟩ : ∃ g gcap, u = .slice (some ⟨g, 0, none⟩) T.length gcap ∧ T.length ≤ gcap ∧ gcap ≤ maxLen := by
    rcases own_form hown with ⟨_, h⟩ | ⟨g, gcap, h1, h2, h3⟩
    · rw [h] at hlC; simp at hlC; omega
    · exact ⟨g, gcap, by rw [h1, hlC], by omega, h3⟩
  have hat : CuAt w1 g 0 (chainV T) ∧ g < w1.heap.size := by
    rcases (cuRow_own hown).2 with ⟨h, _⟩ | ⟨_, g', o', cap', h2, _, _, h3, h5⟩
    · rw [h] at hlC; simp at hlC; omega
    · simp only [Value.slice.injEq, Option.some.injEq, Addr.mk.injEq] at h2
      obtain ⟨⟨rfl, rfl, _⟩, _, _⟩ := h2
      exact ⟨h5, h3⟩
  obtain ⟨hat, hg⟩ := hat
  have HA := Lib.hid (show ∀ W, Below w1.heap.size w1 W → ∀ k, k < T.length → _ from fun W hW k hk => cuCells (hat.below hW hg) (i := k) (by rw [hlC]; exact hk))
  have hn1 : (T.length : Int) - 1 = ((T.length - 1 : Nat) : Int) := by omega
  obtain ⟨c0, c1, c2, c3⟩ := HC.out _ hb1 (T.length - 1) (by omega)
  have htl := Lib.hid (rfl : tmAt T (T.length - 1) = tmAt T (T.length - 1))
  have HAll := Lib.hid (show ∀ W, Below w1.heap.size w1 W → CuAt W g 0 (chainV T) from fun W hW => hat.below hW hg)
  clear hown hat
  generalize hlast : tmAt T (T.length - 1) = tm at *
  have bB0 := BoxT.new w1 tm
  have kb0 : Below w1.heap.size w1 (w1.alloc (.cells tm.vals.toArray 43)) := (below_refl w1).alloc (Nat.le_refl _) _
  obtain ⟨W1, hW1⟩ : ∃ W1, w1.alloc (.cells tm.vals.toArray 43) = W1 := ⟨_, rfl⟩
  rw [hW1] at bB0 kb0
  go_upto_region 4 with (fail)
  go_upto_region 5 with (fail)
  change Code.wp _ _ _ _ (w1.alloc (.cells tm.vals.toArray 43))
  rw [hW1]
  clear hW1 c0 c1 c2 c3
  have HW := Lib.hid (show ∀ W, Below w1.heap.size w1 W → Below w.heap.size w W from fun W hW => step2 hb1 hW)
  have hbs := hb1.size
  have HT := Lib.hid (show ∀ W, Below W1.heap.size W1 W → W.cell? ⟨w1.heap.size, 0, none⟩ = some (.int .i64 tm.fr) ∧ W.cell? ⟨w1.heap.size, 1, none⟩ = some (.int .i64 tm.un) from fun W hW =>
    ⟨(hW.cell (p := ⟨w1.heap.size, 0, none⟩) (Array.getElem?_eq_some_iff.1 bB0).1).trans (bB0.cell 0), (hW.cell (p := ⟨w1.heap.size, 1, none⟩) (Array.getElem?_eq_some_iff.1 bB0).1).trans (bB0.cell 1)⟩)
  by_cases hq : checkV (chainV T) = 0
  case neg =>
    obtain ⟨x3, x4⟩ := neq0 hq
    clear HC HA HOK HTO HT hne x1 x2
    generalize checkV (chainV T) = q at *
    go_wp2_with fail
    refine (HX.out _ kb0).mono ?_
    rintro e w2 ⟨rfl, hb2⟩
    have hb2 := step2 kb0 hb2
    go_wp2_with fail
    refine (HF.out _ (HW.out _ hb2)).mono ?_
    rintro e w9 ⟨rfl, hb9⟩
    go_wp2_with fail
    go_ret
    exact ⟨rfl, step2 (HW.out _ hb2) hb9⟩
  have HQ := Lib.hid hq
  rw [hq] at HX
  clear hq
  by_cases hdt : tm.un ≤ tm.fr
  · clear HC HA HOK HTO hne
    go_wp2_with fail
    refine (HX.out _ kb0).mono ?_
    rintro e w2 ⟨rfl, hb2⟩
    obtain ⟨t0, t1⟩ := HT.out _ hb2
    have hb2 := step2 kb0 hb2
    go_wp2_with fail
    refine (HF.out _ (HW.out _ hb2)).mono ?_
    rintro e w9 ⟨rfl, hb9⟩
    go_wp2_with fail
    go_ret
    exact ⟨rfl, step2 (HW.out _ hb2) hb9⟩
  go_wp2_with fail
  refine (HX.out _ kb0).mono ?_
  rintro e w2 ⟨rfl, hb2⟩
  have kb2 := step2 kb0 hb2
  obtain ⟨t0, t1⟩ := HT.out _ hb2
  have HU := Lib.hid (show ∀ W, Below w2.heap.size w2 W → W.cell? ⟨w1.heap.size, 0, none⟩ = some (.int .i64 tm.fr) ∧ W.cell? ⟨w1.heap.size, 1, none⟩ = some (.int .i64 tm.un) from fun W hW => HT.out _ (step2 hb2 hW))
  clear HT hb2 bB0 kb0 HX
  obtain ⟨a0, _⟩ := HA.out _ kb2 0 h0
  rw [Nat.zero_mul, Nat.add_zero] at a0
  generalize hr0 : (cuAt (chainV T) 0).root = r0 at *
  have hd9 : 0 ≤ tm.fr ∧ tm.fr ≤ tm.un ∧ tm.un ≤ 1000000000 := by
    have := valid_dates HQ.out (i := T.length - 1) (by rw [hlC]; omega)
    have e := (chainC_fields (tmAt T (T.length - 1)) (T.length - 1)).2.2
    rw [chainV_at (show T.length - 1 < T.length by omega), e.1, e.2, hlast] at this
    exact this
  go_upto_region 7 with (fail)
  go_region_held3 (fun W => W.cell? ⟨g, 0, none⟩ = some (.string r0) ∧ W.cell? ⟨w1.heap.size, 0, none⟩ = some (.int .i64 tm.fr) ∧ W.cell? ⟨w1.heap.size, 1, none⟩ = some (.int .i64 tm.un))
    (first | exact ⟨a0, t0, t1⟩ | exact ⟨alloc_old_cell _ a0, alloc_old_cell _ t0, alloc_old_cell _ t1⟩) (fail)
  have hwr : IntKind.i64.wrap (tm.fr + 1) = tm.fr + 1 := IntWalk.i64_in _ (by omega)
  rw [hwr]
  change Exit.then _ _ _ _ (w2.alloc (.cells (Cu.vals (bareX r0 (tm.fr + 1) tm.un)).toArray 29)).drew
  have bX0 : BoxC (w2.alloc (.cells (Cu.vals (bareX r0 (tm.fr + 1) tm.un)).toArray 29)).drew w2.heap.size (bareX r0 (tm.fr + 1) tm.un) := BoxC.new w2 (bareX r0 (tm.fr + 1) tm.un)
  have kX0 : Below w2.heap.size w2 (w2.alloc (.cells (Cu.vals (bareX r0 (tm.fr + 1) tm.un)).toArray 29)).drew := below_drew0 ((below_refl w2).alloc (Nat.le_refl _) _)
  generalize (w2.alloc (.cells (Cu.vals (bareX r0 (tm.fr + 1) tm.un)).toArray 29)).drew = W3 at *
  have kX1 : Below w1.heap.size w1 W3 := step2 kb2 kX0
  clear hwr a0 t0 t1
  cases used with
  | false =>
    have hXe : (bareX r0 (tm.fr + 1) tm.un).e = 0 := by
      rw [← hr0]; exact bareX_e (chain_root16 (i := 0) h0) (by omega)
    have hXok : CuOk (bareX r0 (tm.fr + 1) tm.un) := by
      have h16 : r0.size = 16 := by rw [← hr0]; exact chain_root16 (i := 0) h0
      exact ⟨by show r0.size ≤ _; omega, Nat.zero_le _, Nat.zero_le _, by show _ ≤ tm.fr + 1 ∧ tm.fr + 1 ≤ _; omega, by show _ ≤ tm.un ∧ tm.un ≤ _; omega⟩
    have HST := Lib.hid (fun (hne : rootL strB.data.toList 1 ≠ (cuAt (chainV T) (T.length - 1)).root.data.toList) => (keys_stranger strB.data.toList HQ.out h0 (by rw [hlast]; omega) hne).2)
    rw [hr0, hlast] at HST
    have HSG := Lib.hid (show ∀ W, Below w1.heap.size w1 W → Calls Tryz.prog 21 #[.agg #[.string r0, .string ⟨#[]⟩, .int .i64 (tm.fr + 1), .int .i64 tm.un, .string ⟨#[]⟩], .string ⟨#[115, 116, 114, 97, 110, 103, 101, 114]⟩, .int .i64 1, .int .i64 0] W (SigP (signC (bareX r0 (tm.fr + 1) tm.un) strB.data.toList 1 0) 0 W) from fun W hW => by
      have := cuSign_any (bareX r0 (tm.fr + 1) tm.un) strB 1 0 W (HE.out.below (HW.out W hW)) hXok (by decide) (by decide) (by decide)
      rw [sign1_e hXe ⟨by decide, by decide⟩] at this; exact this)
    have HRT := Lib.hid (show ∀ W, Below w1.heap.size w1 W → Calls Tryz.prog 23 #[.string ⟨#[115, 116, 114, 97, 110, 103, 101, 114]⟩, .int .i64 1] W (RootP (rootL strB.data.toList 1) 0 W) from fun W hW =>
      root_any strB 1 W (HE.out.below (HW.out W hW)) (by decide) (by decide))
    have HYM := Lib.hid (signK_ok (s := strB.data.toList) hXok hXe (show (0 : Int) ≤ 0 ∧ (0 : Int) < 2 by decide))
    generalize hys : signC (bareX r0 (tm.fr + 1) tm.un) strB.data.toList 1 0 = y at *
    obtain ⟨b0, b1, b2, b3, b4, f0, f1, f2, f3, f4⟩ := boxC_facts bX0
    have e0 : (bareX r0 (tm.fr + 1) tm.un).root = r0 := rfl
    have e1 : (bareX r0 (tm.fr + 1) tm.un).media = ⟨#[]⟩ := rfl
    have e2 : (bareX r0 (tm.fr + 1) tm.un).fr = tm.fr + 1 := rfl
    have e3 : (bareX r0 (tm.fr + 1) tm.un).un = tm.un := rfl
    have e4 : (bareX r0 (tm.fr + 1) tm.un).sig = ⟨#[]⟩ := rfl
    rw [e0] at b0
    rw [e1] at b1
    rw [e2] at b2
    rw [e3] at b3
    rw [e4] at b4
    clear e0 e1 e2 e3 e4 hXok hXe
    go_wp2_with fail
    refine (HSG.out _ kX1).mono ?_
    rintro e w4 ⟨rfl, hb4⟩
    have kX4 := step2 kX1 hb4
    clear b0 b1 b2 b3 b4 f0 f1 f2 f3 f4 bX0 kX0
    rw [Cu.vals_arr y]
    have bY := BoxC.new w4 y
    have kY : Below w4.heap.size w4 (w4.alloc (.cells y.vals.toArray 29)) := (below_refl w4).alloc (Nat.le_refl _) _
    have hY := Lib.hid (show y = y from rfl)
    generalize hWY : w4.alloc (.cells y.vals.toArray 29) = WY at *
    have kY1 := step2 kX4 kY
    go_upto_region 12 with (fail)
    change Code.wp _ _ _ _ (w4.alloc (.cells y.vals.toArray 29))
    rw [hWY]
    clear hWY
    go_wp2_with fail
    refine (HRT.out _ kY1).mono ?_
    rintro e w5 ⟨rt, rfl, hrt, hb5⟩
    have k5 := step2 kY1 hb5
    have bY5 := bY.below hb5
    have hw45 := step2 kY hb5
    obtain ⟨l0, _⟩ := HA.out _ k5 (T.length - 1) (by omega)
    rw [Nat.zero_add] at l0
    have HLA := Lib.hid (show ∀ W, Below w1.heap.size w1 W → W.cell? ⟨g, (T.length - 1) * 5, none⟩ = some (.string (cuAt (chainV T) (T.length - 1)).root) from fun W hW => by
      obtain ⟨l0, _⟩ := HA.out _ hW (T.length - 1) (by omega)
      rw [Nat.zero_add] at l0; exact l0)
    have hwn : IntKind.i64.wrap ((T.length : Int) - 1) = ((T.length - 1 : Nat) : Int) := by rw [IntWalk.i64_in _ (by omega)]; exact hn1
    have hm1 : T.length - 1 + 1 = T.length := by omega
    generalize T.length - 1 = m at *
    have hix0 : (0 : Int) ≤ (m : Int) := by omega
    have hix2 : (m : Int) < (T.length : Int) := by omega
    have hix3 : (m : Int) ≤ (T.length : Int) := by omega
    have hix4 : m < T.length := by omega
    have hwm : IntKind.i64.wrap (m : Int) = (m : Int) := IntWalk.i64_in _ (by omega)
    have hm1 := Lib.hid hm1
    by_cases heq : rt = (cuAt (chainV T) (m)).root
    · subst heq
      generalize (cuAt (chainV T) (m)).root = rl at *
      have hr1 : (rl.toList == rl.toList) = true := by simp
      have kd5 := below_drew0 k5
      have hS5 := HLA.out _ kd5
      have HFd := Lib.hid (HF.out _ (HW.out _ kd5))
      clear HST HA HC HRT HSG hrt HAll HOK HTO HE HYM hY HQ HF bY bY5 hT hm1
      go_upto_region 13 with (fail)
      refine wp_region_held_drew (S := fun W => W.cell? ⟨g, m * 5, none⟩ = some (.string rl)) (by kernel_rfl) (hS5) (fun hHeld => ?_)
      refine takeL (i := 0) (v := ?_) rfl (by kernel_rfl) (by kernel_rfl) (by kernel_rfl) (fun _ _ _ h => h) (Or.inl ⟨by rfl, ?_⟩) (by assumption) ?_
      rotate_left
      · intro W hSw
        (try dsimp only at hSw)
        go_simp
        first | done | with_reducible rfl
      try simp only [Act.put, List.setIfInBounds_toArray, List.set_cons_zero, List.set_cons_succ]
      refine takeL (i := 1) (v := ?_) rfl (by kernel_rfl) (by kernel_rfl) (by kernel_rfl) (fun _ _ _ h => h) (Or.inl ⟨by rfl, ?_⟩) (by assumption) ?_
      rotate_left
      · intro W hSw
        (try dsimp only at hSw)
        go_simp
        first | done | with_reducible rfl
      try simp only [Act.put, List.setIfInBounds_toArray, List.set_cons_zero, List.set_cons_succ]
      refine takeL (i := 2) (v := ?_) rfl (by kernel_rfl) (by kernel_rfl) (by kernel_rfl) (fun _ _ _ h => h) (Or.inl ⟨by rfl, ?_⟩) (by assumption) ?_
      rotate_left
      · intro W hSw
        (try dsimp only at hSw)
        go_simp
        first | done | with_reducible rfl
      try simp only [Act.put, List.setIfInBounds_toArray, List.set_cons_zero, List.set_cons_succ]
      refine takeL (i := 3) (v := ?_) rfl (by kernel_rfl) (by kernel_rfl) (by kernel_rfl) (fun _ _ _ h => h) (Or.inl ⟨by rfl, ?_⟩) (by assumption) ?_
      rotate_left
      · intro W hSw
        (try dsimp only at hSw)
        go_simp
        first | done | with_reducible rfl
      try simp only [Act.put, List.setIfInBounds_toArray, List.set_cons_zero, List.set_cons_succ]
      refine takeL (i := 4) (v := ?_) rfl (by kernel_rfl) (by kernel_rfl) (by kernel_rfl) (fun _ _ _ h => h) (Or.inl ⟨by rfl, ?_⟩) (by assumption) ?_
      rotate_left
      · intro W hSw
        (try dsimp only at hSw)
        go_simp
        first | done | with_reducible rfl
      try simp only [Act.put, List.setIfInBounds_toArray, List.set_cons_zero, List.set_cons_succ]
      refine takeL (i := 5) (v := ?_) rfl (by kernel_rfl) (by kernel_rfl) (by kernel_rfl) (fun _ _ _ h => h) (Or.inl ⟨by rfl, ?_⟩) (by assumption) ?_
      rotate_left
      · intro W hSw
        (try dsimp only at hSw)
        go_simp
        first | done | with_reducible rfl
      try simp only [Act.put, List.setIfInBounds_toArray, List.set_cons_zero, List.set_cons_succ]
      refine takeL (i := 6) (v := ?_) rfl (by kernel_rfl) (by kernel_rfl) (by kernel_rfl) (fun _ _ _ h => h) (Or.inl ⟨by rfl, ?_⟩) (by assumption) ?_
      rotate_left
      · intro W hSw
        (try dsimp only at hSw)
        go_simp
        first | done | with_reducible rfl
      try simp only [Act.put, List.setIfInBounds_toArray, List.set_cons_zero, List.set_cons_succ]
      refine takeL (i := 7) (v := ?_) rfl (by kernel_rfl) (by kernel_rfl) (by kernel_rfl) (fun _ _ _ h => h) (Or.inl ⟨by rfl, ?_⟩) (by assumption) ?_
      rotate_left
      · intro W hSw
        (try dsimp only at hSw)
        go_simp
        first | done | with_reducible rfl
      try simp only [Act.put, List.setIfInBounds_toArray, List.set_cons_zero, List.set_cons_succ]
      refine takeL (i := 8) (v := ?_) rfl (by kernel_rfl) (by kernel_rfl) (by kernel_rfl) (fun _ _ _ h => h) (Or.inl ⟨by rfl, ?_⟩) (by assumption) ?_
      rotate_left
      · intro W hSw
        (try dsimp only at hSw)
        go_simp
        first | done | with_reducible rfl
      try simp only [Act.put, List.setIfInBounds_toArray, List.set_cons_zero, List.set_cons_succ]
      refine takeL (i := 9) (v := ?_) rfl (by kernel_rfl) (by kernel_rfl) (by kernel_rfl) (fun _ _ _ h => h) (Or.inl ⟨by rfl, ?_⟩) (by assumption) ?_
      rotate_left
      · intro W hSw
        (try dsimp only at hSw)
        go_simp
        first | done | with_reducible rfl
      try simp only [Act.put, List.setIfInBounds_toArray, List.set_cons_zero, List.set_cons_succ]
      refine takeL (i := 10) (v := ?_) rfl (by kernel_rfl) (by kernel_rfl) (by kernel_rfl) (fun _ _ _ h => h) (Or.inl ⟨by rfl, ?_⟩) (by assumption) ?_
      rotate_left
      · intro W hSw
        (try dsimp only at hSw)
        go_simp
        first | done | with_reducible rfl
      try simp only [Act.put, List.setIfInBounds_toArray, List.set_cons_zero, List.set_cons_succ]
      refine takeL (i := 11) (v := ?_) rfl (by kernel_rfl) (by kernel_rfl) (by kernel_rfl) (fun _ _ _ h => h) (Or.inl ⟨by rfl, ?_⟩) (by assumption) ?_
      rotate_left
      · intro W hSw
        (try dsimp only at hSw)
        go_simp
        first | done | with_reducible rfl
      try simp only [Act.put, List.setIfInBounds_toArray, List.set_cons_zero, List.set_cons_succ]
      refine takeL (i := 12) (v := ?_) rfl (by kernel_rfl) (by kernel_rfl) (by kernel_rfl) (fun _ _ _ h => h) (Or.inl ⟨by rfl, ?_⟩) (by assumption) ?_
      rotate_left
      · intro W hSw
        (try dsimp only at hSw)
        go_simp
        first | done | with_reducible rfl
      try simp only [Act.put, List.setIfInBounds_toArray, List.set_cons_zero, List.set_cons_succ]
      refine takeL (i := 13) (v := undef) rfl (by kernel_rfl) (by kernel_rfl) (by kernel_rfl) (fun _ _ _ h => h) (Or.inr ⟨by rfl, rfl⟩) (by assumption) ?_
      try simp only [Act.put, List.setIfInBounds_toArray, List.set_cons_zero, List.set_cons_succ]
      refine takeL (i := 14) (v := undef) rfl (by kernel_rfl) (by kernel_rfl) (by kernel_rfl) (fun _ _ _ h => h) (Or.inr ⟨by rfl, rfl⟩) (by assumption) ?_
      try simp only [Act.put, List.setIfInBounds_toArray, List.set_cons_zero, List.set_cons_succ]
      refine takeL (i := 15) (v := undef) rfl (by kernel_rfl) (by kernel_rfl) (by kernel_rfl) (fun _ _ _ h => h) (Or.inr ⟨by rfl, rfl⟩) (by assumption) ?_
      try simp only [Act.put, List.setIfInBounds_toArray, List.set_cons_zero, List.set_cons_succ]
      refine takeL (i := 16) (v := undef) rfl (by kernel_rfl) (by kernel_rfl) (by kernel_rfl) (fun _ _ _ h => h) (Or.inr ⟨by rfl, rfl⟩) (by assumption) ?_
      try simp only [Act.put, List.setIfInBounds_toArray, List.set_cons_zero, List.set_cons_succ]
      refine takeL (i := 17) (v := undef) rfl (by kernel_rfl) (by kernel_rfl) (by kernel_rfl) (fun _ _ _ h => h) (Or.inr ⟨by rfl, rfl⟩) (by assumption) ?_
      try simp only [Act.put, List.setIfInBounds_toArray, List.set_cons_zero, List.set_cons_succ]
      refine takeL (i := 18) (v := undef) rfl (by kernel_rfl) (by kernel_rfl) (by kernel_rfl) (fun _ _ _ h => h) (Or.inr ⟨by rfl, rfl⟩) (by assumption) ?_
      try simp only [Act.put, List.setIfInBounds_toArray, List.set_cons_zero, List.set_cons_succ]
      refine takeL (i := 19) (v := undef) rfl (by kernel_rfl) (by kernel_rfl) (by kernel_rfl) (fun _ _ _ h => h) (Or.inr ⟨by rfl, rfl⟩) (by assumption) ?_
      try simp only [Act.put, List.setIfInBounds_toArray, List.set_cons_zero, List.set_cons_succ]
      refine takeL (i := 20) (v := undef) rfl (by kernel_rfl) (by kernel_rfl) (by kernel_rfl) (fun _ _ _ h => h) (Or.inr ⟨by rfl, rfl⟩) (by assumption) ?_
      try simp only [Act.put, List.setIfInBounds_toArray, List.set_cons_zero, List.set_cons_succ]
      refine takeL (i := 21) (v := ?_) rfl (by kernel_rfl) (by kernel_rfl) (by kernel_rfl) (fun _ _ _ h => h) (Or.inl ⟨by rfl, ?_⟩) (by assumption) ?_
      rotate_left
      · intro W hSw
        (try dsimp only at hSw)
        go_simp
        first | done | with_reducible rfl
      try simp only [Act.put, List.setIfInBounds_toArray, List.set_cons_zero, List.set_cons_succ]
      refine takeL (i := 22) (v := ?_) rfl (by kernel_rfl) (by kernel_rfl) (by kernel_rfl) (fun _ _ _ h => h) (Or.inl ⟨by rfl, ?_⟩) (by assumption) ?_
      rotate_left
      · intro W hSw
        (try dsimp only at hSw)
        go_simp
        first | done | with_reducible rfl
      try simp only [Act.put, List.setIfInBounds_toArray, List.set_cons_zero, List.set_cons_succ]
      refine takeL (i := 23) (v := ?_) rfl (by kernel_rfl) (by kernel_rfl) (by kernel_rfl) (fun _ _ _ h => h) (Or.inl ⟨by rfl, ?_⟩) (by assumption) ?_
      rotate_left
      · intro W hSw
        (try dsimp only at hSw)
        go_simp
        first | done | with_reducible rfl
      try simp only [Act.put, List.setIfInBounds_toArray, List.set_cons_zero, List.set_cons_succ]
      refine wpAnyH_ready (rs := [24]) (by kernel_rfl) (by simp) ?_
      refine readyL rfl (fun K hK => ?_) AllReadyH.nil
      rw [if_pos (by rfl)]
      go_simp
      go_at_call 12
      refine HFd.out.mono ?_
      rintro e w9 ⟨rfl, hb9⟩
      have k9 := step2 kd5 hb9
      dsimp only
      refine hK.out _ _ (HLA.out _ k9) (fun hHeld => ?_)
      clear hK K
      try simp only [Act.put, List.setIfInBounds_toArray, List.set_cons_zero, List.set_cons_succ]
      refine takeL (i := 25) (v := ?_) rfl (by kernel_rfl) (by kernel_rfl) (by kernel_rfl) (fun _ _ _ h => h) (Or.inl ⟨by rfl, ?_⟩) (by assumption) ?_
      rotate_left
      · intro W hSw
        (try dsimp only at hSw)
        go_simp
        first | done | with_reducible rfl
      try simp only [Act.put, List.setIfInBounds_toArray, List.set_cons_zero, List.set_cons_succ]
      refine takeL (i := 26) (v := ?_) rfl (by kernel_rfl) (by kernel_rfl) (by kernel_rfl) (fun _ _ _ h => h) (Or.inl ⟨by rfl, ?_⟩) (by assumption) ?_
      rotate_left
      · intro W hSw
        (try dsimp only at hSw)
        go_simp
        first | done | with_reducible rfl
      try simp only [Act.put, List.setIfInBounds_toArray, List.set_cons_zero, List.set_cons_succ]
      refine wpAnyH_done (by kernel_rfl) ?_ _
      go_wp2_with fail
      go_ret
      exact ⟨rfl, HW.out _ k9⟩
    · have hst := HST.out (fun h => heq (str_inj _ _ (hrt.out.trans h)))
      obtain ⟨rl, hrl⟩ : ∃ rl, (cuAt (chainV T) m).root = rl := ⟨_, rfl⟩
      rw [hrl] at heq
      have HLB := Lib.hid (show ∀ W, Below w1.heap.size w1 W → W.cell? ⟨g, m * 5, none⟩ = some (.string rl) from fun W hW => by rw [← hrl]; exact HLA.out W hW)
      rw [hrl] at l0
      have hr1 : (rt.toList == rl.toList) = false := by rw [beq_lists]; exact beq_eq_false_iff_ne.2 (fun h => heq (str_inj _ _ h))
      have hym := HYM.out
      have HN := Lib.hid (show ∀ W : World, Below w5.heap.size w5 W → ∀ (j : Nat) (u : Value), ((chainV T).flatMap Cu.vals)[j]? = some u → W.cell? ((⟨g, 0, none⟩ : Addr).add j) = some u from fun W hW => cu_news (HAll.out _ (step2 k5 hW)))
      have hOK := Lib.hid (cusOk_snoc HOK.out hym)
      have hlT : ((chainV T).flatMap Cu.vals).length = T.length * 5 := by rw [cvals_len, hlC]
      have kwW := Lib.hid (show ∀ W : World, Below w5.heap.size w5 W → Below w.heap.size w W from fun W hW => HW.out W (step2 k5 hW))
      have hbL := bY5.lt
      have HS0 := Lib.hid (show ∀ W : World, Below w5.heap.size w5 W → W.cell? ⟨g, m * 5, none⟩ = some (.string rl) ∧ W.cell? ⟨w4.heap.size, 0, none⟩ = some (.string y.root) ∧ W.cell? ⟨w4.heap.size, 1, none⟩ = some (.string y.media) ∧ W.cell? ⟨w4.heap.size, 2, none⟩ = some (.int .i64 y.fr) ∧ W.cell? ⟨w4.heap.size, 3, none⟩ = some (.int .i64 y.un) ∧ W.cell? ⟨w4.heap.size, 4, none⟩ = some (.string y.sig) from fun W hW => ⟨HLB.out W (step2 k5 hW), (bY5.below hW).cell 0, (bY5.below hW).cell 1, (bY5.below hW).cell 2, (bY5.below hW).cell 3, (bY5.below hW).cell 4⟩)
      have HCK := Lib.hid (show ∀ (W : World) (v : Value), Below w5.heap.size w5 W → W.ownsRow w5.heap.size 29 5 v (T.length + 1) ((chainV T).flatMap Cu.vals ++ y.vals) → Calls Tryz.prog 17 #[v] W (ErrP 17 W) from fun W v hW ho => by
        have hl1 : (chainV T ++ [y]).length = T.length + 1 := by rw [List.length_append, hlC]; rfl
        have := check_any v (chainV T ++ [y]) W (HE.out.below (kwW.out W hW)) (cuRow_own (base := w5.heap.size) (by unfold OwnCus; rw [hl1, List.flatMap_append]; simpa using ho)) (by omega) hOK.out
        rw [hst] at this
        exact this)
      have hone := Lib.hid (cu_one (T := chainV T))
      generalize (chainV T).flatMap Cu.vals = news at *
      clear HST HA HC HRT HSG hrt hst HAll HOK hOK hlC HQ HTO HLA hrl hym HYM HE
      obtain ⟨i0, hi, hz0, hz1, hz2⟩ := info_parts infoCu
      have kd : Below w5.heap.size w5 w5.drew := below_drew0 (below_refl _)
      have kE : Below w5.heap.size w5 (World.drew (World.alloc w5 (.cells #[] 29))) := below_drew0 ((below_refl _).alloc (Nat.le_refl _) _)
      have kY : Below w5.heap.size w5 (w5.alloc (.cells #[.string y.root, .string y.media, .int .i64 y.fr, .int .i64 y.un, .string y.sig] 29)).drew := below_drew0 ((below_refl _).alloc (Nat.le_refl _) _)
      have kEY : Below w5.heap.size w5 (World.drew (World.alloc (World.alloc w5 (.cells #[] 29)) (.cells #[.string y.root, .string y.media, .int .i64 y.fr, .int .i64 y.un, .string y.sig] 29))) := below_drew0 (((below_refl _).alloc (Nat.le_refl _) _).alloc ((below_refl w5).alloc (Nat.le_refl _) _).size _)
      have kYE : Below w5.heap.size w5 (World.drew (World.alloc (World.alloc w5 (.cells #[.string y.root, .string y.media, .int .i64 y.fr, .int .i64 y.un, .string y.sig] 29)) (.cells #[] 29))) := below_drew0 (((below_refl _).alloc (Nat.le_refl _) _).alloc ((below_refl w5).alloc (Nat.le_refl _) _).size _)
      have s0 := HS0.out _ kd
      have sE := HS0.out _ kE
      have sY := HS0.out _ kY
      have sEY := HS0.out _ kEY
      have sYE := HS0.out _ kYE
      have oE : (World.drew (World.alloc w5 (.cells #[] 29))).ownsRow w5.heap.size 29 5 (.slice (some ⟨w5.heap.size, 0, none⟩) 0 0) 0 [] := World.ownsRow_made w5 #[] 0 (Nat.le_refl _) (by decide) rfl
      have oEY : (World.drew (World.alloc (World.alloc w5 (.cells #[] 29)) (.cells #[.string y.root, .string y.media, .int .i64 y.fr, .int .i64 y.un, .string y.sig] 29))).ownsRow w5.heap.size 29 5 (.slice (some ⟨w5.heap.size, 0, none⟩) 0 0) 0 [] := World.ownsRow.alloc (World.ownsRow_made w5 #[] 0 (Nat.le_refl _) (by decide) rfl) _
      have oYE : (World.drew (World.alloc (World.alloc w5 (.cells #[.string y.root, .string y.media, .int .i64 y.fr, .int .i64 y.un, .string y.sig] 29)) (.cells #[] 29))).ownsRow w5.heap.size 29 5 (.slice (some ⟨w5.heap.size + 1, 0, none⟩) 0 0) 0 [] := by
        have := World.ownsRow_made (base := w5.heap.size) (e := 29) (size := 5) (w5.alloc (.cells #[.string y.root, .string y.media, .int .i64 y.fr, .int .i64 y.un, .string y.sig] 29)) #[] 0 ((below_refl w5).alloc (Nat.le_refl _) _).size (by decide) rfl
        rw [World.size_alloc] at this; exact this
      have bEY : BoxC (World.drew (World.alloc (World.alloc w5 (.cells #[] 29)) (.cells #[.string y.root, .string y.media, .int .i64 y.fr, .int .i64 y.un, .string y.sig] 29))) (w5.heap.size + 1) y := by
        have := BoxC.new (w5.alloc (.cells #[] 29)) y
        rw [World.size_alloc] at this; exact this
      have bYE : BoxC (World.drew (World.alloc (World.alloc w5 (.cells #[.string y.root, .string y.media, .int .i64 y.fr, .int .i64 y.un, .string y.sig] 29)) (.cells #[] 29))) w5.heap.size y := BoxC.alloc (BoxC.new w5 y) _
      have nE := HN.out _ kE
      have nEY := HN.out _ kEY
      have nYE := HN.out _ kYE
      have zE := kE.size
      have zEY := kEY.size
      have zYE := kYE.size
      go_upto_region 13 with (fail)
      go_region_held3 (fun W => W.cell? ⟨g, m * 5, none⟩ = some (.string rl) ∧ W.cell? ⟨w4.heap.size, 0, none⟩ = some (.string y.root) ∧ W.cell? ⟨w4.heap.size, 1, none⟩ = some (.string y.media) ∧ W.cell? ⟨w4.heap.size, 2, none⟩ = some (.int .i64 y.fr) ∧ W.cell? ⟨w4.heap.size, 3, none⟩ = some (.int .i64 y.un) ∧ W.cell? ⟨w4.heap.size, 4, none⟩ = some (.string y.sig))
        (with_reducible assumption)
        (first
          | ((with_reducible show if Region.wanted _ _ = true then Oper.wp _ _ _ ((World.drew (World.alloc w5 (.cells #[] 29)))) _ _ else _); refine step_append_gd (by rfl) (.tmp 124) (.tmp 125) 22 rfl w5.heap.size 29 i0 (.agg #[.string ⟨#[]⟩, .string ⟨#[]⟩, .int .i64 0, .int .i64 0, .string ⟨#[]⟩]) 5 64 Tryz.underlying22 hi hz0 hz1 hz2 rfl (by decide) _ 0 [] (by simp [Act.eval]) oE ⟨g, 0, none⟩ T.length gcap news (by simp [Act.eval]) hlT nE hone.out (by unfold maxLen; omega) (by omega) (by omega) ?_; intro v7 w7 own7 hg7 hni; clear hni; have k7 := below_grownBy kE oE hg7 zE; have z7 := k7.size; have s7 := HS0.out _ k7; have k7b := k7.alloc z7 (.cells #[.string y.root, .string y.media, .int .i64 y.fr, .int .i64 y.un, .string y.sig] 29); have s7b := HS0.out _ k7b; have own7b := World.ownsRow.alloc own7 (.cells #[.string y.root, .string y.media, .int .i64 y.fr, .int .i64 y.un, .string y.sig] 29); have b7 := BoxC.new w7 y; have n7 := box_news b7; have z7b := k7b.size)
          | ((with_reducible show if Region.wanted _ _ = true then Oper.wp _ _ _ ((World.drew (World.alloc (World.alloc w5 (.cells #[] 29)) (.cells #[.string y.root, .string y.media, .int .i64 y.fr, .int .i64 y.un, .string y.sig] 29)))) _ _ else _); refine step_append_gd (by rfl) (.tmp 124) (.tmp 125) 22 rfl w5.heap.size 29 i0 (.agg #[.string ⟨#[]⟩, .string ⟨#[]⟩, .int .i64 0, .int .i64 0, .string ⟨#[]⟩]) 5 64 Tryz.underlying22 hi hz0 hz1 hz2 rfl (by decide) _ 0 [] (by simp [Act.eval]) oEY ⟨g, 0, none⟩ T.length gcap news (by simp [Act.eval]) hlT nEY hone.out (by unfold maxLen; omega) (by omega) (by omega) ?_; intro v7 w7 own7 hg7 hni; clear hni; have k7 := below_grownBy kEY oEY hg7 zEY; have z7 := k7.size; have s7 := HS0.out _ k7; have b7 : BoxC w7 (w5.heap.size + 1) y := (hg7.block _ bEY.lt (own_ne (by omega))).trans bEY; have n7c := box_news b7)
          | ((with_reducible show if Region.wanted _ _ = true then Oper.wp _ _ _ ((World.drew (World.alloc (World.alloc w5 (.cells #[.string y.root, .string y.media, .int .i64 y.fr, .int .i64 y.un, .string y.sig] 29)) (.cells #[] 29)))) _ _ else _); refine step_append_gd (by rfl) (.tmp 124) (.tmp 125) 22 rfl w5.heap.size 29 i0 (.agg #[.string ⟨#[]⟩, .string ⟨#[]⟩, .int .i64 0, .int .i64 0, .string ⟨#[]⟩]) 5 64 Tryz.underlying22 hi hz0 hz1 hz2 rfl (by decide) _ 0 [] (by simp [Act.eval]) oYE ⟨g, 0, none⟩ T.length gcap news (by simp [Act.eval]) hlT nYE hone.out (by unfold maxLen; omega) (by omega) (by omega) ?_; intro v7 w7 own7 hg7 hni; clear hni; have k7 := below_grownBy kYE oYE hg7 zYE; have z7 := k7.size; have s7 := HS0.out _ k7; have b7 : BoxC w7 w5.heap.size y := (hg7.block _ bYE.lt (own_ne (by omega))).trans bYE; have n7d := box_news b7)
          | ((with_reducible show if Region.wanted _ _ = true then Oper.wp _ _ _ (World.alloc w7 (.cells #[.string y.root, .string y.media, .int .i64 y.fr, .int .i64 y.un, .string y.sig] 29)) _ _ else _); refine step_append_gd (by rfl) (.tmp 126) (.tmp 128) 22 rfl w5.heap.size 29 i0 (.agg #[.string ⟨#[]⟩, .string ⟨#[]⟩, .int .i64 0, .int .i64 0, .string ⟨#[]⟩]) 5 64 Tryz.underlying22 hi hz0 hz1 hz2 rfl (by decide) _ _ _ (by simp [Act.eval]) own7b ⟨w7.heap.size, 0, none⟩ 1 1 y.vals (by simp [Act.eval]) rfl n7 (cu_one1 y) (by unfold maxLen; omega) (by omega) (by omega) ?_; intro v8 w8 own8 hg8 hni; clear hni; have k8 := below_grownBy k7b own7b hg8 z7b; have s8 := HS0.out _ k8; have HC8 := Lib.hid (HCK.out w8 v8 k8 (by simpa using own8)))
          | ((with_reducible show if Region.wanted _ _ = true then Oper.wp _ _ _ (w7) _ _ else _); refine step_append_gd (by rfl) (.tmp 126) (.tmp 128) 22 rfl w5.heap.size 29 i0 (.agg #[.string ⟨#[]⟩, .string ⟨#[]⟩, .int .i64 0, .int .i64 0, .string ⟨#[]⟩]) 5 64 Tryz.underlying22 hi hz0 hz1 hz2 rfl (by decide) _ _ _ (by simp [Act.eval]) own7 ⟨w5.heap.size + 1, 0, none⟩ 1 1 y.vals (by simp [Act.eval]) rfl n7c (cu_one1 y) (by unfold maxLen; omega) (by omega) (by omega) ?_; intro v8 w8 own8 hg8 hni; clear hni; have k8 := below_grownBy k7 own7 hg8 z7; have s8 := HS0.out _ k8; have HC8 := Lib.hid (HCK.out w8 v8 k8 (by simpa using own8)))
          | ((with_reducible show if Region.wanted _ _ = true then Oper.wp _ _ _ (w7) _ _ else _); refine step_append_gd (by rfl) (.tmp 126) (.tmp 128) 22 rfl w5.heap.size 29 i0 (.agg #[.string ⟨#[]⟩, .string ⟨#[]⟩, .int .i64 0, .int .i64 0, .string ⟨#[]⟩]) 5 64 Tryz.underlying22 hi hz0 hz1 hz2 rfl (by decide) _ _ _ (by simp [Act.eval]) own7 ⟨w5.heap.size, 0, none⟩ 1 1 y.vals (by simp [Act.eval]) rfl n7d (cu_one1 y) (by unfold maxLen; omega) (by omega) (by omega) ?_; intro v8 w8 own8 hg8 hni; clear hni; have k8 := below_grownBy k7 own7 hg8 z7; have s8 := HS0.out _ k8; have HC8 := Lib.hid (HCK.out w8 v8 k8 (by simpa using own8)))
          | (go_at_call 17; refine HC8.out.mono ?_; rintro e w9 ⟨rfl, hb9⟩; have k9 := step2 k8 hb9; have s9 := HS0.out _ k9; have HF9 := Lib.hid (HF.out _ (kwW.out _ k9)))
          | (go_at_call 12; refine HF9.out.mono ?_; rintro e w10 ⟨rfl, hb10⟩; have k10 := step2 k9 hb10; have s10 := HS0.out _ k10))
      all_goals
        have kF := kwW.out _ k10
        clear HN HS0 kwW HF9 HC8 k10 k9 k8
        go_wp2_with fail
        go_ret
        exact ⟨rfl, kF⟩
  | true =>
    have hke := keys_e HQ.out h0 (by rw [hlast]; omega)
    have hkk := valid_key_in HQ.out h0
    have HKU := Lib.hid (fun hl => keys_used HQ.out h0 hl hke)
    have hcd := valid_dates HQ.out (i := 0) (by rw [hlC]; exact h0)
    have hc0 := HOK.out 0
    have hfe : (cuAt (chainV T) 0).fr = (tmAt T 0).fr ∧ (cuAt (chainV T) 0).un = (tmAt T 0).un := by
      rw [chainV_at h0]; exact (chainC_fields (tmAt T 0) 0).2.2
    have h16 : (cuAt (chainV T) 0).root.size = 16 := chain_root16 (i := 0) h0
    have HG := Lib.hid (show ∀ W, Below w1.heap.size w1 W → W.cell? ⟨g, 0, none⟩ = some (.string (cuAt (chainV T) 0).root) ∧ W.cell? ⟨g, 1, none⟩ = some (.string (cuAt (chainV T) 0).media) ∧ W.cell? ⟨g, 2, none⟩ = some (.int .i64 (cuAt (chainV T) 0).fr) ∧ W.cell? ⟨g, 3, none⟩ = some (.int .i64 (cuAt (chainV T) 0).un) ∧ W.cell? ⟨g, 4, none⟩ = some (.string (cuAt (chainV T) 0).sig) from fun W hW => by
      have := HA.out W hW 0 h0
      simpa using this)
    have HKY := Lib.hid (show ∀ W, Below w1.heap.size w1 W → W.cell? ⟨b, o + 3, none⟩ = some (.int .i64 (tmAt T 0).key) from fun W hW => by
      have := (HC.out W (HW.out W hW) 0 h0).2.2.2
      simpa using this)
    rw [← hfe.1, ← hfe.2] at HKU
    rw [← hfe.1] at hke
    have hBo : CuOk (bareX (cuAt (chainV T) 0).root ((cuAt (chainV T) 0).fr + 1) ((cuAt (chainV T) 0).fr + 1)) :=
      ⟨by show (cuAt (chainV T) 0).root.size ≤ _; omega, Nat.zero_le _, Nat.zero_le _, by show _ ≤ (cuAt (chainV T) 0).fr + 1 ∧ (cuAt (chainV T) 0).fr + 1 ≤ _; omega, by show _ ≤ (cuAt (chainV T) 0).fr + 1 ∧ (cuAt (chainV T) 0).fr + 1 ≤ _; omega⟩
    have hyk : CuOk (signC (bareX (cuAt (chainV T) 0).root ((cuAt (chainV T) 0).fr + 1) ((cuAt (chainV T) 0).fr + 1)) (seedL 0) 1 (tmAt T 0).key) := signK_ok hBo hke hkk
    have HSB := Lib.hid (show ∀ (W : World) (s1 : ByteArray), Below w1.heap.size w1 W → s1.data.toList = seedL 0 → Calls Tryz.prog 21 #[.agg #[.string (cuAt (chainV T) 0).root, .string ⟨#[]⟩, .int .i64 ((cuAt (chainV T) 0).fr + 1), .int .i64 ((cuAt (chainV T) 0).fr + 1), .string ⟨#[]⟩], .string s1, .int .i64 1, .int .i64 (tmAt T 0).key] W (SigP (signC (bareX (cuAt (chainV T) 0).root ((cuAt (chainV T) 0).fr + 1) ((cuAt (chainV T) 0).fr + 1)) (seedL 0) 1 (tmAt T 0).key) 0 W) from fun W s1 hW hs => by
      have hz : s1.size = (seedL 0).length := by rw [← hs]; simp
      have := cuSign_any (bareX (cuAt (chainV T) 0).root ((cuAt (chainV T) 0).fr + 1) ((cuAt (chainV T) 0).fr + 1)) s1 1 (tmAt T 0).key W (HE.out.below (HW.out W hW)) hBo (by rw [hz, seedL, List.length_append]; have h3 : lKeeper.length = 7 := rfl; have h4 := numL_len30 (i := 0) (by decide) (by decide); omega) (by decide) (by omega)
      rw [sign1_e hke hkk, hs] at this; exact this)
    generalize (tmAt T 0).key = ky at *
    have hseed : Hid (seedL 0 = seedL 0) := rfl
    generalize cuAt (chainV T) 0 = c0 at *
    generalize hys : signC (bareX c0.root (c0.fr + 1) (c0.fr + 1)) (seedL 0) 1 ky = y at *
    have HSC := Lib.hid (show ∀ (W : World) (s1 : ByteArray), Below w1.heap.size w1 W → s1.data.toList = seedL 0 → Calls Tryz.prog 21 #[.agg #[.string c0.root, .string ⟨#[]⟩, .int .i64 (c0.fr + 1), .int .i64 (c0.fr + 1), .string ⟨#[]⟩], .string s1, .int .i64 1, .int .i64 ky]
        W (fun e w' => e = .returned (.tuple #[.agg #[.string y.root, .string y.media, .int .i64 y.fr, .int .i64 y.un, .string y.sig], .int .i64 0]) ∧ Hid (Below W.heap.size W w') ∧ (∀ j, W3.heap.size < W.heap.size → w'.cell? ⟨W3.heap.size, j, none⟩ = W.cell? ⟨W3.heap.size, j, none⟩) ∧ (∀ j, W3.heap.size < W.heap.size → w'.frozen? ⟨W3.heap.size, j, none⟩ = W.frozen? ⟨W3.heap.size, j, none⟩)) from
      fun W s1 hW hs1 => (HSB.out W s1 hW hs1).mono fun e w' ⟨h1, h2⟩ => ⟨h1, h2, fun j hj => h2.cell (p := ⟨W3.heap.size, j, none⟩) hj, fun j hj => h2.frozen (p := ⟨W3.heap.size, j, none⟩) hj⟩)
    have HS := Lib.hid (show ∀ W, Calls Tryz.prog 24 #[.int .i64 0] W (StrS (seedL 0) W) from fun W => seed_any 0 W (by decide) (by decide))
    have hw0 : IntKind.i64.wrap (c0.fr + 1) = c0.fr + 1 := IntWalk.i64_in _ (by omega)
    have kd3 : Below w1.heap.size w1 W3.drew := below_drew0 kX1
    have kA3 : Below w1.heap.size w1 (World.drew (World.alloc W3 (.cells #[.string ⟨#[]⟩, .string ⟨#[]⟩, .int .i64 0, .int .i64 0, .string ⟨#[]⟩] 29))) := below_drew0 (kX1.alloc kX1.size _)
    have HSK := Lib.hid (show ∀ W, Below w1.heap.size w1 W → W.cell? ⟨g, 0, none⟩ = some (.string c0.root) ∧ W.cell? ⟨g, 2, none⟩ = some (.int .i64 c0.fr) ∧ W.cell? ⟨b, o + 3, none⟩ = some (.int .i64 ky) from fun W hW => ⟨(HG.out W hW).1, (HG.out W hW).2.2.1, HKY.out W hW⟩)
    have HCK := Lib.hid (show ∀ (W : World) (v : Value), Below w1.heap.size w1 W → c0.fr < c0.un → W.ownsRow w1.heap.size 29 5 v 2 (c0.vals ++ y.vals) → Calls Tryz.prog 17 #[v] W (ErrP 17 W) from fun W v hW hl ho => by
      have hok2 : CusOk [c0, y] := cusOk_of fun c hc => by
        simp only [List.mem_cons, List.not_mem_nil, or_false] at hc
        rcases hc with rfl | rfl
        · exact hc0
        · exact hyk
      have := check_any v [c0, y] W (HE.out.below (HW.out W hW)) (cuRow_own (base := w1.heap.size) (by unfold OwnCus; simpa using ho)) (by show 2 ≤ 1000000; decide) hok2
      rw [show checkV [c0, y] = 17 from HKU.out hl] at this
      exact this)
    have hz9 := kX1.size
    clear HKU HSB HA HC HU HOK HTO hlC hT HQ hke hkk hBo hyk hcd hfe h16 hc0 hn1 htl hseed hys HKY bX0 kX0 kb2 hb1 hr0 hd9
    go_upto_region 9 with (fail)
    go_cut [8, 9] from 53 to 76 (fun v8 v9 wc => ∃ D, v8 = .pointer (some ⟨D, 0, none⟩) ∧ v9 = .int .i64 0 ∧ BoxC wc D y ∧ Below w1.heap.size w1 wc)
    case first =>
      go_region_held3 (fun W => W.cell? ⟨g, 0, none⟩ = some (.string c0.root) ∧ W.cell? ⟨g, 2, none⟩ = some (.int .i64 c0.fr) ∧ W.cell? ⟨b, o + 3, none⟩ = some (.int .i64 ky))
        ((refine HSK.out _ ?_; first | with_reducible exact kd3 | with_reducible exact kA3 | with_reducible exact step2 kd3 hb9.out | with_reducible exact step2 kA3 hb9.out | with_reducible exact below_put5 (step2 kA3 hb9.out) hz9 y | with_reducible exact (step2 kd3 hb9.out).alloc (step2 kd3 hb9.out).size _))
        (first | (go_at_call 24; refine (HS.out _).mono ?_; rintro e wa ⟨s1, rfl, hs1, rfl⟩) | (go_at_call 21; refine (HSC.out _ s1 (by first | with_reducible exact kd3 | with_reducible exact kA3) hs1.out).mono ?_; rintro e wb ⟨rfl, hb9, z0, y0⟩))
      · clear z0 y0
        go_wp2_with fail
        go_meet
        case rel => exact ⟨_, rfl, rfl, by with_reducible exact keys_finA kX1 hb9.out⟩
      · clear z0 y0
        go_wp2_with fail
        go_meet
        case rel => exact ⟨_, rfl, rfl, by with_reducible exact keys_finB5 kX1 hb9.out⟩
      · clear z0 y0
        go_wp2_with fail
        go_meet
        case rel => exact ⟨_, rfl, rfl, by with_reducible exact keys_finB5 kX1 hb9.out⟩
    case rest =>
      obtain ⟨D, rfl, rfl, bD, k9⟩ := hcut
      clear HSC HS hw0 kd3 kA3 HSK
      have kd9 := below_drew0 k9
      obtain ⟨g0, g1, g2, g3, g4⟩ := HG.out _ kd9
      by_cases hle : c0.un ≤ c0.fr
      · have HFd := Lib.hid (HF.out _ (HW.out _ kd9))
        clear HCK bD
        go_upto_region 10 with (fail)
        refine wp_region_held_drew (S := fun W => W.cell? ⟨g, 2, none⟩ = some (.int .i64 c0.fr) ∧ W.cell? ⟨g, 3, none⟩ = some (.int .i64 c0.un)) (by kernel_rfl) (⟨g2, g3⟩) (fun hHeld => ?_)
        refine takeL (i := 0) (v := ?_) rfl (by kernel_rfl) (by kernel_rfl) (by kernel_rfl) (fun _ _ _ h => h) (Or.inl ⟨by rfl, ?_⟩) (by assumption) ?_
        rotate_left
        · intro W hSw
          (try dsimp only at hSw)
          go_simp
          first | done | with_reducible rfl
        try simp only [Act.put, List.setIfInBounds_toArray, List.set_cons_zero, List.set_cons_succ]
        refine takeL (i := 1) (v := ?_) rfl (by kernel_rfl) (by kernel_rfl) (by kernel_rfl) (fun _ _ _ h => h) (Or.inl ⟨by rfl, ?_⟩) (by assumption) ?_
        rotate_left
        · intro W hSw
          (try dsimp only at hSw)
          go_simp
          first | done | with_reducible rfl
        try simp only [Act.put, List.setIfInBounds_toArray, List.set_cons_zero, List.set_cons_succ]
        refine takeL (i := 2) (v := ?_) rfl (by kernel_rfl) (by kernel_rfl) (by kernel_rfl) (fun _ _ _ h => h) (Or.inl ⟨by rfl, ?_⟩) (by assumption) ?_
        rotate_left
        · intro W hSw
          (try dsimp only at hSw)
          go_simp
          first | done | with_reducible rfl
        try simp only [Act.put, List.setIfInBounds_toArray, List.set_cons_zero, List.set_cons_succ]
        refine takeL (i := 3) (v := ?_) rfl (by kernel_rfl) (by kernel_rfl) (by kernel_rfl) (fun _ _ _ h => h) (Or.inl ⟨by rfl, ?_⟩) (by assumption) ?_
        rotate_left
        · intro W hSw
          (try dsimp only at hSw)
          go_simp
          first | done | with_reducible rfl
        try simp only [Act.put, List.setIfInBounds_toArray, List.set_cons_zero, List.set_cons_succ]
        refine takeL (i := 4) (v := ?_) rfl (by kernel_rfl) (by kernel_rfl) (by kernel_rfl) (fun _ _ _ h => h) (Or.inl ⟨by rfl, ?_⟩) (by assumption) ?_
        rotate_left
        · intro W hSw
          (try dsimp only at hSw)
          go_simp
          first | done | with_reducible rfl
        try simp only [Act.put, List.setIfInBounds_toArray, List.set_cons_zero, List.set_cons_succ]
        refine takeL (i := 5) (v := ?_) rfl (by kernel_rfl) (by kernel_rfl) (by kernel_rfl) (fun _ _ _ h => h) (Or.inl ⟨by rfl, ?_⟩) (by assumption) ?_
        rotate_left
        · intro W hSw
          (try dsimp only at hSw)
          go_simp
          first | done | with_reducible rfl
        try simp only [Act.put, List.setIfInBounds_toArray, List.set_cons_zero, List.set_cons_succ]
        refine takeL (i := 6) (v := ?_) rfl (by kernel_rfl) (by kernel_rfl) (by kernel_rfl) (fun _ _ _ h => h) (Or.inl ⟨by rfl, ?_⟩) (by assumption) ?_
        rotate_left
        · intro W hSw
          (try dsimp only at hSw)
          go_simp
          first | done | with_reducible rfl
        try simp only [Act.put, List.setIfInBounds_toArray, List.set_cons_zero, List.set_cons_succ]
        refine takeL (i := 7) (v := ?_) rfl (by kernel_rfl) (by kernel_rfl) (by kernel_rfl) (fun _ _ _ h => h) (Or.inl ⟨by rfl, ?_⟩) (by assumption) ?_
        rotate_left
        · intro W hSw
          (try dsimp only at hSw)
          go_simp
          first | done | with_reducible rfl
        try simp only [Act.put, List.setIfInBounds_toArray, List.set_cons_zero, List.set_cons_succ]
        refine takeL (i := 8) (v := ?_) rfl (by kernel_rfl) (by kernel_rfl) (by kernel_rfl) (fun _ _ _ h => h) (Or.inl ⟨by rfl, ?_⟩) (by assumption) ?_
        rotate_left
        · intro W hSw
          (try dsimp only at hSw)
          go_simp
          first | done | with_reducible rfl
        try simp only [Act.put, List.setIfInBounds_toArray, List.set_cons_zero, List.set_cons_succ]
        refine takeL (i := 9) (v := ?_) rfl (by kernel_rfl) (by kernel_rfl) (by kernel_rfl) (fun _ _ _ h => h) (Or.inl ⟨by rfl, ?_⟩) (by assumption) ?_
        rotate_left
        · intro W hSw
          (try dsimp only at hSw)
          go_simp
          first | done | with_reducible rfl
        try simp only [Act.put, List.setIfInBounds_toArray, List.set_cons_zero, List.set_cons_succ]
        refine takeL (i := 10) (v := ?_) rfl (by kernel_rfl) (by kernel_rfl) (by kernel_rfl) (fun _ _ _ h => h) (Or.inl ⟨by rfl, ?_⟩) (by assumption) ?_
        rotate_left
        · intro W hSw
          (try dsimp only at hSw)
          go_simp
          first | done | with_reducible rfl
        try simp only [Act.put, List.setIfInBounds_toArray, List.set_cons_zero, List.set_cons_succ]
        refine takeL (i := 11) (v := ?_) rfl (by kernel_rfl) (by kernel_rfl) (by kernel_rfl) (fun _ _ _ h => h) (Or.inl ⟨by rfl, ?_⟩) (by assumption) ?_
        rotate_left
        · intro W hSw
          (try dsimp only at hSw)
          go_simp
          first | done | with_reducible rfl
        try simp only [Act.put, List.setIfInBounds_toArray, List.set_cons_zero, List.set_cons_succ]
        refine takeL (i := 12) (v := ?_) rfl (by kernel_rfl) (by kernel_rfl) (by kernel_rfl) (fun _ _ _ h => h) (Or.inl ⟨by rfl, ?_⟩) (by assumption) ?_
        rotate_left
        · intro W hSw
          (try dsimp only at hSw)
          go_simp
          first | done | with_reducible rfl
        try simp only [Act.put, List.setIfInBounds_toArray, List.set_cons_zero, List.set_cons_succ]
        refine takeL (i := 13) (v := undef) rfl (by kernel_rfl) (by kernel_rfl) (by kernel_rfl) (fun _ _ _ h => h) (Or.inr ⟨by rfl, rfl⟩) (by assumption) ?_
        try simp only [Act.put, List.setIfInBounds_toArray, List.set_cons_zero, List.set_cons_succ]
        refine takeL (i := 14) (v := undef) rfl (by kernel_rfl) (by kernel_rfl) (by kernel_rfl) (fun _ _ _ h => h) (Or.inr ⟨by rfl, rfl⟩) (by assumption) ?_
        try simp only [Act.put, List.setIfInBounds_toArray, List.set_cons_zero, List.set_cons_succ]
        refine takeL (i := 15) (v := undef) rfl (by kernel_rfl) (by kernel_rfl) (by kernel_rfl) (fun _ _ _ h => h) (Or.inr ⟨by rfl, rfl⟩) (by assumption) ?_
        try simp only [Act.put, List.setIfInBounds_toArray, List.set_cons_zero, List.set_cons_succ]
        refine takeL (i := 16) (v := undef) rfl (by kernel_rfl) (by kernel_rfl) (by kernel_rfl) (fun _ _ _ h => h) (Or.inr ⟨by rfl, rfl⟩) (by assumption) ?_
        try simp only [Act.put, List.setIfInBounds_toArray, List.set_cons_zero, List.set_cons_succ]
        refine takeL (i := 17) (v := undef) rfl (by kernel_rfl) (by kernel_rfl) (by kernel_rfl) (fun _ _ _ h => h) (Or.inr ⟨by rfl, rfl⟩) (by assumption) ?_
        try simp only [Act.put, List.setIfInBounds_toArray, List.set_cons_zero, List.set_cons_succ]
        refine takeL (i := 18) (v := undef) rfl (by kernel_rfl) (by kernel_rfl) (by kernel_rfl) (fun _ _ _ h => h) (Or.inr ⟨by rfl, rfl⟩) (by assumption) ?_
        try simp only [Act.put, List.setIfInBounds_toArray, List.set_cons_zero, List.set_cons_succ]
        refine takeL (i := 19) (v := undef) rfl (by kernel_rfl) (by kernel_rfl) (by kernel_rfl) (fun _ _ _ h => h) (Or.inr ⟨by rfl, rfl⟩) (by assumption) ?_
        try simp only [Act.put, List.setIfInBounds_toArray, List.set_cons_zero, List.set_cons_succ]
        refine takeL (i := 20) (v := ?_) rfl (by kernel_rfl) (by kernel_rfl) (by kernel_rfl) (fun _ _ _ h => h) (Or.inl ⟨by rfl, ?_⟩) (by assumption) ?_
        rotate_left
        · intro W hSw
          (try dsimp only at hSw)
          go_simp
          first | done | with_reducible rfl
        try simp only [Act.put, List.setIfInBounds_toArray, List.set_cons_zero, List.set_cons_succ]
        refine takeL (i := 21) (v := ?_) rfl (by kernel_rfl) (by kernel_rfl) (by kernel_rfl) (fun _ _ _ h => h) (Or.inl ⟨by rfl, ?_⟩) (by assumption) ?_
        rotate_left
        · intro W hSw
          (try dsimp only at hSw)
          go_simp
          first | done | with_reducible rfl
        try simp only [Act.put, List.setIfInBounds_toArray, List.set_cons_zero, List.set_cons_succ]
        refine takeL (i := 22) (v := ?_) rfl (by kernel_rfl) (by kernel_rfl) (by kernel_rfl) (fun _ _ _ h => h) (Or.inl ⟨by rfl, ?_⟩) (by assumption) ?_
        rotate_left
        · intro W hSw
          (try dsimp only at hSw)
          go_simp
          first | done | with_reducible rfl
        try simp only [Act.put, List.setIfInBounds_toArray, List.set_cons_zero, List.set_cons_succ]
        refine wpAnyH_ready (rs := [23]) (by kernel_rfl) (by simp) ?_
        refine readyL rfl (fun K hK => ?_) AllReadyH.nil
        rw [if_pos (by rfl)]
        go_simp
        go_at_call 12
        refine HFd.out.mono ?_
        rintro e w10 ⟨rfl, hb9⟩
        have k10 := step2 kd9 hb9
        obtain ⟨_, _, q2, q3, _⟩ := HG.out _ k10
        dsimp only
        refine hK.out _ _ ⟨q2, q3⟩ (fun hHeld => ?_)
        clear hK K
        try simp only [Act.put, List.setIfInBounds_toArray, List.set_cons_zero, List.set_cons_succ]
        refine takeL (i := 24) (v := ?_) rfl (by kernel_rfl) (by kernel_rfl) (by kernel_rfl) (fun _ _ _ h => h) (Or.inl ⟨by rfl, ?_⟩) (by assumption) ?_
        rotate_left
        · intro W hSw
          (try dsimp only at hSw)
          go_simp
          first | done | with_reducible rfl
        try simp only [Act.put, List.setIfInBounds_toArray, List.set_cons_zero, List.set_cons_succ]
        refine takeL (i := 25) (v := ?_) rfl (by kernel_rfl) (by kernel_rfl) (by kernel_rfl) (fun _ _ _ h => h) (Or.inl ⟨by rfl, ?_⟩) (by assumption) ?_
        rotate_left
        · intro W hSw
          (try dsimp only at hSw)
          go_simp
          first | done | with_reducible rfl
        try simp only [Act.put, List.setIfInBounds_toArray, List.set_cons_zero, List.set_cons_succ]
        refine wpAnyH_done (by kernel_rfl) ?_ _
        go_wp2_with fail
        go_ret
        exact ⟨rfl, HW.out _ k10⟩
      · have hle2 := Lib.hid (show c0.fr < c0.un by omega)
        have kA : Below w1.heap.size w1 (World.drew (World.alloc wc (.cells #[.string c0.root, .string c0.media, .int .i64 c0.fr, .int .i64 c0.un, .string c0.sig, .string y.root, .string y.media, .int .i64 y.fr, .int .i64 y.un, .string y.sig] 29))) := below_drew0 (k9.alloc k9.size _)
        have HS0 := Lib.hid (show ∀ W, Below wc.heap.size wc W → W.cell? ⟨g, 0, none⟩ = some (.string c0.root) ∧ W.cell? ⟨g, 1, none⟩ = some (.string c0.media) ∧ W.cell? ⟨g, 2, none⟩ = some (.int .i64 c0.fr) ∧ W.cell? ⟨g, 3, none⟩ = some (.int .i64 c0.un) ∧ W.cell? ⟨g, 4, none⟩ = some (.string c0.sig) ∧ W.cell? ⟨D, 0, none⟩ = some (.string y.root) ∧ W.cell? ⟨D, 1, none⟩ = some (.string y.media) ∧ W.cell? ⟨D, 2, none⟩ = some (.int .i64 y.fr) ∧ W.cell? ⟨D, 3, none⟩ = some (.int .i64 y.un) ∧ W.cell? ⟨D, 4, none⟩ = some (.string y.sig) from fun W hW => by
          obtain ⟨g0, g1, g2, g3, g4⟩ := HG.out _ (step2 k9 hW)
          exact ⟨g0, g1, g2, g3, g4, (bD.below hW).cell 0, (bD.below hW).cell 1, (bD.below hW).cell 2, (bD.below hW).cell 3, (bD.below hW).cell 4⟩)
        have s0 := HS0.out _ (below_drew0 (below_refl wc))
        have kcA : Below wc.heap.size wc (World.drew (World.alloc wc (.cells #[.string c0.root, .string c0.media, .int .i64 c0.fr, .int .i64 c0.un, .string c0.sig, .string y.root, .string y.media, .int .i64 y.fr, .int .i64 y.un, .string y.sig] 29))) := below_drew0 ((below_refl wc).alloc (Nat.le_refl _) _)
        have sA := HS0.out _ kcA
        have HC8 := Lib.hid (HCK.out _ _ kA hle2.out (two_own wc c0 y k9.size))
        clear HCK
        go_upto_region 10 with (fail)
        go_region_held3 (fun W => W.cell? ⟨g, 0, none⟩ = some (.string c0.root) ∧ W.cell? ⟨g, 1, none⟩ = some (.string c0.media) ∧ W.cell? ⟨g, 2, none⟩ = some (.int .i64 c0.fr) ∧ W.cell? ⟨g, 3, none⟩ = some (.int .i64 c0.un) ∧ W.cell? ⟨g, 4, none⟩ = some (.string c0.sig) ∧ W.cell? ⟨D, 0, none⟩ = some (.string y.root) ∧ W.cell? ⟨D, 1, none⟩ = some (.string y.media) ∧ W.cell? ⟨D, 2, none⟩ = some (.int .i64 y.fr) ∧ W.cell? ⟨D, 3, none⟩ = some (.int .i64 y.un) ∧ W.cell? ⟨D, 4, none⟩ = some (.string y.sig))
          (with_reducible assumption)
          (first
            | (go_at_call 17; refine HC8.out.mono ?_; rintro e w9 ⟨rfl, hb9⟩; have k9b := step2 kcA hb9; have s9 := HS0.out _ k9b; have HF9 := Lib.hid (HF.out _ (HW.out _ (step2 k9 k9b))))
            | (go_at_call 12; refine HF9.out.mono ?_; rintro e w10 ⟨rfl, hb10⟩; have k10 := step2 k9b hb10; have s10 := HS0.out _ k10))
        all_goals
          have kF := HW.out _ (step2 k9 k10)
          clear HS0 HF9 HC8 k10 k9b
          go_wp2_with fail
          go_ret
          exact ⟨rfl, kF⟩
set_option maxHeartbeats 4000000 in
theorem lawKeys_any (v : Value) (T : List Tm) (used : Bool) (w : World) (he : Env w) (hr : TmRow w v T) (hok : ∀ i, TmOk (tmAt T i)) :
    Calls Tryz.prog 10 #[v, .bool used] w (TrueP w) := by
  have hmax := hr.1
  unfold maxLen at hmax
  by_cases hg : T.length = 0 ∨ 3 < T.length
  · have hv : ∃ a cap, v = .slice a T.length cap := by
      rcases hr.2 with ⟨rfl, a, cap, rfl, _⟩ | ⟨_, b, o, cap, rfl, _⟩
      · exact ⟨a, cap, rfl⟩
      · exact ⟨_, cap, rfl⟩
    obtain ⟨a, cap, rfl⟩ := hv
    have HF := Lib.hid (awake47_any w he)
    clear hr hok he
    generalize T.length = N at *
    by_cases q0 : N = 0
    · subst q0
      clear hg
      go_enter Tryz.func10, Tryz.ntmps10
      go_wp2_with fail
      refine HF.out.mono ?_
      rintro e w9 ⟨rfl, hb9⟩
      go_wp2_with fail
      go_ret
      exact ⟨rfl, hb9⟩
    obtain ⟨x1, x2⟩ := neq0 (show ¬ (N : Int) = 0 by omega)
    have q1 : 3 < N := by omega
    clear hg q0
    go_enter Tryz.func10, Tryz.ntmps10
    go_wp2_with fail
    refine HF.out.mono ?_
    rintro e w9 ⟨rfl, hb9⟩
    go_wp2_with fail
    go_ret
    exact ⟨rfl, hb9⟩
  · rcases hr.2 with ⟨rfl, a, cap, rfl, _⟩ | ⟨h0, b, o, cap, rfl, h5, h6, hb, hT⟩
    · exact absurd (.inl rfl) hg
    · exact keys1 b o cap T used w he h0 (by omega) hb hT hok hr
end Go.Proofs.YtadhbnleahipaaaGreatDoor
