/-
  Chapter 47: the law Translation, walked out of the contracts.
-/
import Derived.Test.YtadhbnleahipaaaGreatDoorLawKeeper
import Derived.Test.YtadhbnleahipaaaGreatDoorChainLaws
namespace Go.Proofs.YtadhbnleahipaaaGreatDoor
open Go.RowKit
/-! rows of terms of the call's own -/
def BoxT (W : World) (B : Nat) (c : Tm) : Prop := W.heap[B]? = some (.cells c.vals.toArray 43 (0, 0))
theorem BoxT.new (W : World) (c : Tm) : BoxT (W.alloc (.cells c.vals.toArray 43)) W.heap.size c := by
  show ((W.heap.push _))[W.heap.size]? = _
  rw [Array.getElem?_push_size]
theorem BoxT.cell {W : World} {B : Nat} {c : Tm} (h : BoxT W B c) (j : Nat) : W.cell? ⟨B, j, none⟩ = c.vals[j]? := by
  unfold World.cell?
  rw [show W.heap[B]? = _ from h]; simp
theorem BoxT.frozen {W : World} {B : Nat} {c : Tm} (h : BoxT W B c) (j : Nat) : W.frozen? ⟨B, j, none⟩ = false := by
  unfold World.frozen?
  rw [show W.heap[B]? = _ from h]; simp
theorem tvals_len (L : List Tm) : (L.flatMap Tm.vals).length = L.length * 4 := by
  induction L with
  | nil => rfl
  | cons c L ih => rw [List.flatMap_cons, List.length_append, ih, List.length_cons]; show 4 + _ = _; omega
def OwnTms (base : Nat) (w : World) (v : Value) (L : List Tm) : Prop := w.ownsRow base 43 4 v L.length (L.flatMap Tm.vals)
theorem tflat_get (L : List Tm) : ∀ i j v, i < L.length → (tmAt L i).vals[j]? = some v → (L.flatMap Tm.vals)[i * 4 + j]? = some v := by
  induction L with
  | nil => intro i j v h; exact absurd h (Nat.not_lt_zero _)
  | cons c L ih =>
    intro i j v hi hv
    rw [List.flatMap_cons]
    cases i with
    | zero =>
      have hj : j < 4 := by have := (List.getElem?_eq_some_iff.1 hv).1; simpa [Tm.vals] using this
      rw [List.getElem?_append_left (by show _ < 4; omega), Nat.zero_mul, Nat.zero_add]
      exact hv
    | succ i =>
      rw [List.getElem?_append_right (by show 4 ≤ _; omega), show (i + 1) * 4 + j - c.vals.length = i * 4 + j from by show (i + 1) * 4 + j - 4 = _; omega]
      exact ih i j v (by simpa using hi) hv
theorem OwnTms.cells' {base : Nat} {w : World} {v : Value} {L : List Tm} (h : OwnTms base w v L) {g cap : Nat} (hv : v = .slice (some ⟨g, 0, none⟩) L.length cap) (i : Nat) (u : Value) (hu : (L.flatMap Tm.vals)[i]? = some u) : w.cell? ⟨g, i, none⟩ = some u := by
  have := World.ownsRow.cells h (g := g) (by rw [hv]; rfl) i u hu
  rwa [Addr.add_mid, Nat.zero_add] at this
theorem tmRow_own {base : Nat} {w : World} {v : Value} {L : List Tm} (h : OwnTms base w v L) : TmRow w v L := by
  rcases h.2 with ⟨rfl, h0⟩ | ⟨g, cap, cur, rfl, _, hg, hl, hm, hcs, htk⟩
  · have : L = [] := List.eq_nil_of_length_eq_zero h0
    subst this; exact ⟨by decide, .inl ⟨rfl, none, 0, rfl, fun _ => rfl⟩⟩
  · by_cases h0 : 0 < L.length
    · refine ⟨Nat.le_trans hl hm, .inr ⟨h0, g, 0, cap, rfl, hl, hm, (Array.getElem?_eq_some_iff.1 hg).1, fun i hi j u hu => ?_⟩⟩
      have := OwnTms.cells' h rfl (i * 4 + j) u (tflat_get L i j u hi hu)
      rw [Nat.zero_add]; exact this
    · have : L = [] := List.eq_nil_of_length_eq_zero (by omega)
      subst this
      exact ⟨by decide, .inl ⟨rfl, _, cap, rfl, fun e => by cases e⟩⟩
theorem infoTm : (Tryz.prog.info? 43).map (fun i => (i.zero, i.size, i.bytes)) = some (some (.agg #[.int .i64 0, .int .i64 0, .bool false, .int .i64 0]), 4, 32) := by kernel_rfl
def accT (b : Int) (T : List Tm) (k : Nat) : List Tm := (List.range k).map fun i => shiftT b (tmAt T i)
theorem accT_succ (b : Int) (T : List Tm) (k : Nat) : accT b T (k + 1) = accT b T k ++ [shiftT b (tmAt T k)] := by rw [accT, List.range_succ, List.map_append]; rfl
theorem accT_all (b : Int) (T : List Tm) : accT b T T.length = movedT b T := by
  rw [accT, movedT]
  apply List.ext_getElem
  · simp
  · intro i h1 h2
    have h : i < T.length := by simpa using h1
    simp [tmAt, List.getD_eq_getElem?_getD, List.getElem?_eq_getElem h]
theorem movedT_ok {b : Int} (hb : 0 ≤ b ∧ b ≤ 65535) {T : List Tm} (hok : ∀ i, TmOk (tmAt T i)) (hT : ∀ i, i < T.length → TmIn (tmAt T i)) : ∀ i, TmOk (tmAt (movedT b T) i) := by
  intro i
  by_cases hi : i < T.length
  · rw [movedT_at hi]
    obtain ⟨h1, h2, h3, h4⟩ := hT i hi
    exact ⟨by show _ ≤ (tmAt T i).fr + b ∧ (tmAt T i).fr + b ≤ _; omega, by show _ ≤ (tmAt T i).un + b ∧ (tmAt T i).un + b ≤ _; omega, (hok i).key⟩
  · rw [tmAt, List.getD_eq_getElem?_getD, List.getElem?_eq_none (by rw [movedT_length]; omega)]
    exact ⟨by decide, by decide, by decide⟩
theorem TmRow.below' {n : Nat} {A B : World} {v : Value} {T : List Tm} (h : TmRow A v T) (hb : Below n A B) (hn : A.heap.size = n) : TmRow B v T := by
  refine ⟨h.1, ?_⟩
  rcases h.2 with h | ⟨h0, b, o, cap, rfl, h1, h2, h3, h4⟩
  · exact .inl h
  · refine .inr ⟨h0, b, o, cap, rfl, h1, h2, ?_, h4.below hb (by omega)⟩
    have := hb.size; omega
set_option maxRecDepth 100000 in
set_option maxHeartbeats 4000000 in
theorem trans1 (b o cap : Nat) (T : List Tm) (date y : Int) (w : World) (he : Env w) (h0 : 0 < T.length) (h4 : T.length ≤ 4) (hb : b < w.heap.size) (hT : TmAt w b o T) (hok : ∀ i, TmOk (tmAt T i)) (hr : TmRow w (.slice (some ⟨b, o, none⟩) T.length cap) T) (hd : 0 ≤ date ∧ date ≤ 999930000) (hy : 0 ≤ y ∧ y ≤ 65535) :
    Calls Tryz.prog 7 #[.slice (some ⟨b, o, none⟩) T.length cap, .int .i64 date, .int .u16 y] w (TrueP w) := by
  have HF := Lib.hid (show ∀ W, Below w.heap.size w W → Calls Tryz.prog 12 #[] W (TrueP W) from fun W hW => awake47_any W (he.below hW))
  have HC := Lib.hid (show ∀ W, Below w.heap.size w W → ∀ k, k < T.length → _ from fun W hW k hk => tmCells (hT.below hW hb) hk)
  have HE := Lib.hid he
  have HR := Lib.hid hr
  have HOK := Lib.hid hok
  clear hr hok he
  go_enter Tryz.func7, Tryz.ntmps7
  go_wp2_with fail
  go_loopw [7, 31] (fun v i wr => ∃ k : Nat, k ≤ T.length ∧ i = .int .i64 k ∧ wr.ownsRow w.heap.size 43 4 v k ((accT y T k).flatMap Tm.vals) ∧ Below w.heap.size w wr ∧ Hid (∀ j, j < k → TmIn (tmAt T j))) (fun _ i _ => T.length - (intOf i).toNat)
  case atStart => exact ⟨0, by omega, rfl, World.ownsRow_made w #[] 0 (Nat.le_refl _) (by decide) rfl, (below_refl _).alloc (Nat.le_refl _) _, fun j hj => absurd hj (Nat.not_lt_zero _)⟩
  case round =>
    obtain ⟨k, hk, rfl, hown, hbw, hin⟩ := hrel
    by_cases hlt : k < T.length
    · obtain ⟨c0, c1, c2, c3⟩ := HC.out _ hbw k hlt
      have HIN := Lib.hid (show TmIn (tmAt T k) → ∀ j, j < k + 1 → TmIn (tmAt T j) from fun h j hj => by
        by_cases e : j = k
        · subst e; exact h
        · exact hin.out j (by omega))
      have hti : Hid (TmIn (tmAt T k) ↔ (0 ≤ (tmAt T k).fr ∧ (tmAt T k).fr ≤ 999930000 ∧ 0 ≤ (tmAt T k).un ∧ (tmAt T k).un ≤ 999930000)) := Iff.rfl
      have hacc := Lib.hid (accT_succ y T k)
      generalize htm : tmAt T k = tm at *
      have bB0 := BoxT.new wr tm
      have kb0 : Below w.heap.size w (wr.alloc (.cells tm.vals.toArray 43)) := hbw.alloc hbw.size _
      have hown1 := hown.alloc (.cells tm.vals.toArray 43)
      obtain ⟨W1, hW1⟩ : ∃ W1, wr.alloc (.cells tm.vals.toArray 43) = W1 := ⟨_, rfl⟩
      rw [hW1] at bB0 kb0 hown1
      have hbs := hbw.size
      go_upto_region 7 with (fail)
      change Code.wp _ _ _ _ (wr.alloc (.cells tm.vals.toArray 43))
      rw [hW1]
      have hW1' := Lib.hid hW1
      have t0 : W1.cell? ⟨wr.heap.size, 0, none⟩ = some (.int .i64 tm.fr) := bB0.cell 0
      have t1 : W1.cell? ⟨wr.heap.size, 1, none⟩ = some (.int .i64 tm.un) := bB0.cell 1
      have t2 : W1.cell? ⟨wr.heap.size, 2, none⟩ = some (.bool tm.media) := bB0.cell 2
      have t3 : W1.cell? ⟨wr.heap.size, 3, none⟩ = some (.int .i64 tm.key) := bB0.cell 3
      have g0 := bB0.frozen 0
      have g1 := bB0.frozen 1
      clear hW1 c0 c1 c2 c3
      have hbad : ∀ (P : TmIn tm → False), True := fun _ => trivial
      clear hbad
      by_cases q1 : tm.fr < 0
      · clear HC HIN hti hacc HR
        go_wp2_with fail
        refine (HF.out _ kb0).mono ?_
        rintro e w9 ⟨rfl, hb9⟩
        go_wp2_with fail
        go_ret
        exact ⟨rfl, step2 kb0 hb9⟩
      by_cases q2 : tm.un < 0
      · clear HC HIN hti hacc HR
        go_wp2_with fail
        refine (HF.out _ kb0).mono ?_
        rintro e w9 ⟨rfl, hb9⟩
        go_wp2_with fail
        go_ret
        exact ⟨rfl, step2 kb0 hb9⟩
      by_cases q3 : 999930000 < tm.fr
      · clear HC HIN hti hacc HR
        go_wp2_with fail
        refine (HF.out _ kb0).mono ?_
        rintro e w9 ⟨rfl, hb9⟩
        go_wp2_with fail
        go_ret
        exact ⟨rfl, step2 kb0 hb9⟩
      by_cases q4 : 999930000 < tm.un
      · clear HC HIN hti hacc HR
        go_wp2_with fail
        refine (HF.out _ kb0).mono ?_
        rintro e w9 ⟨rfl, hb9⟩
        go_wp2_with fail
        go_ret
        exact ⟨rfl, step2 kb0 hb9⟩
      have hin2 := Lib.hid (HIN.out (hti.out.2 ⟨by omega, by omega, by omega, by omega⟩))
      go_upto_region 9 with (fail)
      go_upto_region 10 with (fail)
      have bB5 : BoxT ((W1.setCell ⟨wr.heap.size, 0, none⟩ (.int .i64 (tm.fr + y))).setCell ⟨wr.heap.size, 1, none⟩ (.int .i64 (tm.un + y))) wr.heap.size (shiftT y tm) := setCell_block _ (setCell_block _ bB0)
      have kb5 : Below wr.heap.size wr W1 := by rw [← hW1'.out]; exact (below_refl wr).alloc (Nat.le_refl _) _
      have kb6 := (kb5.setCell (p := ⟨wr.heap.size, 0, none⟩) (Nat.le_refl _) (.int .i64 (tm.fr + y))).setCell (p := ⟨wr.heap.size, 1, none⟩) (Nat.le_refl _) (.int .i64 (tm.un + y))
      obtain ⟨W5, hW5⟩ : ∃ W5, (W1.setCell ⟨wr.heap.size, 0, none⟩ (.int .i64 (tm.fr + y))).setCell ⟨wr.heap.size, 1, none⟩ (.int .i64 (tm.un + y)) = W5 := ⟨_, rfl⟩
      rw [hW5] at bB5 kb6
      have hown5 := owns_below hown kb6
      have hb5 := step2 hbw kb6
      change Code.wp _ _ _ _ ((W1.setCell ⟨wr.heap.size, 0, none⟩ (.int .i64 (tm.fr + y))).setCell ⟨wr.heap.size, 1, none⟩ (.int .i64 (tm.un + y)))
      rw [hW5]
      clear hW5 hW1' t0 t1 t2 t3 g0 g1 hti HIN hown1 kb5 hown
      have t0 : W5.cell? ⟨wr.heap.size, 0, none⟩ = some (.int .i64 (shiftT y tm).fr) := bB5.cell 0
      have t1 : W5.cell? ⟨wr.heap.size, 1, none⟩ = some (.int .i64 (shiftT y tm).un) := bB5.cell 1
      have t2 : W5.cell? ⟨wr.heap.size, 2, none⟩ = some (.bool (shiftT y tm).media) := bB5.cell 2
      have t3 : W5.cell? ⟨wr.heap.size, 3, none⟩ = some (.int .i64 (shiftT y tm).key) := bB5.cell 3
      generalize hsm : shiftT y tm = sm at *
      obtain ⟨i0, hi, hz0, hz1, hz2⟩ := info_parts infoTm
      go_wp2_with (at_builtin; refine wpList_append_own _ rfl _ _ 34 rfl w.heap.size 43 i0 (.agg #[.int .i64 0, .int .i64 0, .bool false, .int .i64 0]) 4 32 Tryz.underlying34 hi hz0 hz1 hz2 rfl (by decide) _ _ _ rfl (hown5.alloc _) ⟨W5.heap.size, 0, none⟩ 1 1 (Tm.vals sm) rfl rfl ?c1 ?c2 ?c3 ?c4 ?c5 ?_)
      case c1 => exact fun j u hu => hu
      case c2 => simp [Tm.vals, Value.oneCell']
      case c3 => unfold maxLen; omega
      case c4 => omega
      case c5 => have := hb5.size; simp; omega
      intro v' w2 hown2 hgrow2 _
      have hbw2 : Below w.heap.size w w2 := below_grownBy (hb5.alloc hb5.size _) (hown5.alloc _) hgrow2 (by have := hb5.size; simp; omega)
      have hown3 : w2.ownsRow w.heap.size 43 4 v' (k + 1) ((accT y T (k + 1)).flatMap Tm.vals) := by
        rw [hacc.out, List.flatMap_append]; simpa using hown2
      clear hown2 hgrow2 hown5 hi hz0 hz1 hz2
      go_wp2_with fail
      go_roundw
      case rel => exact ⟨k + 1, by omega, by go_num, hown3, hbw2, hin2⟩
      case measure => simp [intOf]; omega
    · obtain rfl : k = T.length := by omega
      have hown' : Hid (OwnTms w.heap.size wr u7 (movedT y T)) := by
        rw [Hid, OwnTms, movedT_length, ← accT_all]; exact hown
      have hMC := Lib.hid (moved_checkV hy hin.out)
      have hMK := Lib.hid (moved_keepV (date := date) hy hin.out)
      have hMO := Lib.hid (movedT_ok hy HOK.out hin.out)
      have hML := Lib.hid (movedT_length y T)
      have HC1 := Lib.hid (chain_any _ T wr (HR.out.below' hbw rfl) (by omega) HOK.out)
      have HC2 := Lib.hid (show ∀ W, Below wr.heap.size wr W → Calls Tryz.prog 20 #[u7] W (ChainP (chainV (movedT y T)) W) from fun W hW => chain_any u7 (movedT y T) W ((tmRow_own hown'.out).below' hW rfl) (by rw [hML.out]; omega) hMO.out)
      have hlA : (chainV T).length ≤ 4 := by rw [chainV_length]; exact h4
      have hlB : (chainV (movedT y T)).length ≤ 4 := by rw [chainV_length, hML.out]; exact h4
      have hOA := Lib.hid (chainV_ok HOK.out)
      have hOB := Lib.hid (chainV_ok hMO.out)
      clear HOK HC HR hown hown' hin hT hMO hML
      generalize chainV T = A at *
      generalize chainV (movedT y T) = M at *
      go_wp2_with fail
      refine HC1.out.mono ?_
      rintro e w1 ⟨a, rfl, howa, hb1⟩
      go_wp2_with fail
      refine (HC2.out _ hb1).mono ?_
      rintro e w2 ⟨m, rfl, howm, hb2⟩
      clear HC1 HC2
      have hra := (cuRow_own howa).below hb2
      have hrm := cuRow_own howm
      have hb3 := step2 hbw (step2 hb1 hb2)
      have HKA := Lib.hid (show ∀ W, Below w2.heap.size w2 W → Calls Tryz.prog 15 #[a, .int .i64 date] W (VerP (keepV A date) W) from fun W hW => keeper_any a A date W (HE.out.below (step2 hb3 hW)) (hra.below hW) (by omega) hOA.out)
      have HKB := Lib.hid (show ∀ W, Below w2.heap.size w2 W → Calls Tryz.prog 15 #[m, .int .i64 (date + y)] W (VerP (keepV A date) W) from fun W hW => by
        have := keeper_any m M (date + y) W (HE.out.below (step2 hb3 hW)) (hrm.below hW) (by omega) hOB.out
        rw [hMK.out] at this; exact this)
      have HXA := Lib.hid (show ∀ W, Below w2.heap.size w2 W → Calls Tryz.prog 17 #[a] W (ErrP (checkV A) W) from fun W hW => check_any a A W (HE.out.below (step2 hb3 hW)) (hra.below hW) (by omega) hOA.out)
      have HXB := Lib.hid (show ∀ W, Below w2.heap.size w2 W → Calls Tryz.prog 17 #[m] W (ErrP (checkV A) W) from fun W hW => by
        have := check_any m M W (HE.out.below (step2 hb3 hW)) (hrm.below hW) (by omega) hOB.out
        rw [hMC.out] at this; exact this)
      clear hra hrm howa howm hOA hOB hMC hMK
      go_wp2_with fail
      refine (HKA.out _ (below_refl _)).mono ?_
      rintro e w3 ⟨n, x, rfl, hv, hc1⟩
      go_wp2_with fail
      refine (HKB.out _ hc1).mono ?_
      rintro e w4 ⟨n2, x2, rfl, hv2, hc2⟩
      obtain ⟨rfl, rfl⟩ : n = n2 ∧ x = x2 := by have h := hv.out.symm.trans hv2.out; simpa using h
      have hc2 := step2 hc1 hc2
      go_wp2_with fail
      refine (HXA.out _ hc2).mono ?_
      rintro e w5 ⟨rfl, hc3⟩
      have hc3 := step2 hc2 hc3
      go_wp2_with fail
      refine (HXB.out _ hc3).mono ?_
      rintro e w6 ⟨rfl, hc4⟩
      have hc4 := step2 hb3 (step2 hc3 hc4)
      go_wp2_with fail
      refine (HF.out _ hc4).mono ?_
      rintro e w9 ⟨rfl, hb9⟩
      go_wp2_with fail
      go_ret
      exact ⟨rfl, step2 hc4 hb9⟩
set_option maxRecDepth 100000 in
set_option maxHeartbeats 4000000 in
theorem trans0 (a : Option Addr) (cap : Nat) (date y : Int) (w : World) (he : Env w) (hok : ∀ i, TmOk (tmAt [] i)) (hr : TmRow w (.slice a 0 cap) []) (hd : 0 ≤ date ∧ date ≤ 999930000) (hy : 0 ≤ y ∧ y ≤ 65535) :
    Calls Tryz.prog 7 #[.slice a 0 cap, .int .i64 date, .int .u16 y] w (TrueP w) := by
  have HF := Lib.hid (show ∀ W, Below w.heap.size w W → Calls Tryz.prog 12 #[] W (TrueP W) from fun W hW => awake47_any W (he.below hW))
  have HE := Lib.hid he
  have HR := Lib.hid hr
  have HOK := Lib.hid hok
  have hin : ∀ i, i < ([] : List Tm).length → TmIn (tmAt [] i) := fun i hi => absurd hi (Nat.not_lt_zero _)
  clear hr hok he
  go_enter Tryz.func7, Tryz.ntmps7
  have hown' : Hid (OwnTms w.heap.size (w.alloc (.cells #[] 43)) (.slice (some ⟨w.heap.size, 0, none⟩) 0 0) (movedT y [])) := World.ownsRow_made w #[] 0 (Nat.le_refl _) (by decide) rfl
  have hbw : Below w.heap.size w (w.alloc (.cells #[] 43)) := (below_refl _).alloc (Nat.le_refl _) _
  obtain ⟨W0, hW0⟩ : ∃ W0, w.alloc (.cells #[] 43) = W0 := ⟨_, rfl⟩
  rw [hW0] at hbw hown'
  go_upto_region 4 with (fail)
  clear hW0
  go_wp2_with fail
  refine wp_loop_rounds 1 ?_; rw [rounds_succ]
  have hMC := Lib.hid (moved_checkV (T := []) hy hin)
  have hMK := Lib.hid (moved_keepV (T := []) (date := date) hy hin)
  have hMO := Lib.hid (movedT_ok (T := []) hy HOK.out hin)
  have hML := Lib.hid (movedT_length y [])
  have HC1 := Lib.hid (chain_any _ [] W0 (HR.out.below' hbw rfl) (by decide) HOK.out)
  have HC2 := Lib.hid (show ∀ W, Below W0.heap.size W0 W → Calls Tryz.prog 20 #[.slice (some ⟨w.heap.size, 0, none⟩) 0 0] W (ChainP (chainV (movedT y [])) W) from fun W hW => chain_any _ (movedT y []) W ((tmRow_own hown'.out).below' hW rfl) (by rw [hML.out]; decide) hMO.out)
  have hlA : (chainV []).length ≤ 4 := by decide
  have hlB : (chainV (movedT y [])).length ≤ 4 := by rw [chainV_length, hML.out]; decide
  have hOA := Lib.hid (chainV_ok HOK.out)
  have hOB := Lib.hid (chainV_ok hMO.out)
  clear HOK HR hown' hMO hML
  generalize chainV [] = A at *
  generalize chainV (movedT y []) = M at *
  go_wp2_with fail
  refine HC1.out.mono ?_
  rintro e w1 ⟨a, rfl, howa, hb1⟩
  go_wp2_with fail
  refine (HC2.out _ hb1).mono ?_
  rintro e w2 ⟨m, rfl, howm, hb2⟩
  clear HC1 HC2
  have hra := (cuRow_own howa).below hb2
  have hrm := cuRow_own howm
  have hb3 := step2 hbw (step2 hb1 hb2)
  have HKA := Lib.hid (show ∀ W, Below w2.heap.size w2 W → Calls Tryz.prog 15 #[a, .int .i64 date] W (VerP (keepV A date) W) from fun W hW => keeper_any a A date W (HE.out.below (step2 hb3 hW)) (hra.below hW) (by omega) hOA.out)
  have HKB := Lib.hid (show ∀ W, Below w2.heap.size w2 W → Calls Tryz.prog 15 #[m, .int .i64 (date + y)] W (VerP (keepV A date) W) from fun W hW => by
    have := keeper_any m M (date + y) W (HE.out.below (step2 hb3 hW)) (hrm.below hW) (by omega) hOB.out
    rw [hMK.out] at this; exact this)
  have HXA := Lib.hid (show ∀ W, Below w2.heap.size w2 W → Calls Tryz.prog 17 #[a] W (ErrP (checkV A) W) from fun W hW => check_any a A W (HE.out.below (step2 hb3 hW)) (hra.below hW) (by omega) hOA.out)
  have HXB := Lib.hid (show ∀ W, Below w2.heap.size w2 W → Calls Tryz.prog 17 #[m] W (ErrP (checkV A) W) from fun W hW => by
    have := check_any m M W (HE.out.below (step2 hb3 hW)) (hrm.below hW) (by omega) hOB.out
    rw [hMC.out] at this; exact this)
  clear hra hrm howa howm hOA hOB hMC hMK
  go_wp2_with fail
  refine (HKA.out _ (below_refl _)).mono ?_
  rintro e w3 ⟨n, x, rfl, hv, hc1⟩
  go_wp2_with fail
  refine (HKB.out _ hc1).mono ?_
  rintro e w4 ⟨n2, x2, rfl, hv2, hc2⟩
  obtain ⟨rfl, rfl⟩ : n = n2 ∧ x = x2 := by have h := hv.out.symm.trans hv2.out; simpa using h
  have hc2 := step2 hc1 hc2
  go_wp2_with fail
  refine (HXA.out _ hc2).mono ?_
  rintro e w5 ⟨rfl, hc3⟩
  have hc3 := step2 hc2 hc3
  go_wp2_with fail
  refine (HXB.out _ hc3).mono ?_
  rintro e w6 ⟨rfl, hc4⟩
  have hc4 := step2 hb3 (step2 hc3 hc4)
  go_wp2_with fail
  refine (HF.out _ hc4).mono ?_
  rintro e w9 ⟨rfl, hb9⟩
  go_wp2_with fail
  go_ret
  exact ⟨rfl, step2 hc4 hb9⟩
set_option maxRecDepth 100000 in
set_option maxHeartbeats 4000000 in
theorem lawTrans_any (v : Value) (T : List Tm) (date y : Int) (w : World) (he : Env w) (hr : TmRow w v T) (hok : ∀ i, TmOk (tmAt T i)) (hd : -9223372036854775808 ≤ date ∧ date ≤ 9223372036854775807) (hy : 0 ≤ y ∧ y ≤ 65535) :
    Calls Tryz.prog 7 #[v, .int .i64 date, .int .u16 y] w (TrueP w) := by
  have hmax := hr.1
  unfold maxLen at hmax
  by_cases hg : 4 < T.length ∨ date < 0 ∨ 999930000 < date
  · have hv : ∃ a cap, v = .slice a T.length cap := by
      rcases hr.2 with ⟨rfl, a, cap, rfl, _⟩ | ⟨_, b, o, cap, rfl, _⟩
      · exact ⟨a, cap, rfl⟩
      · exact ⟨_, cap, rfl⟩
    obtain ⟨a, cap, rfl⟩ := hv
    have HF := Lib.hid (awake47_any w he)
    clear hr hok he
    generalize T.length = N at *
    by_cases q1 : 4 < N
    · clear hg
      go_enter Tryz.func7, Tryz.ntmps7
      go_wp2_with fail
      refine HF.out.mono ?_
      rintro e w9 ⟨rfl, hb9⟩
      go_wp2_with fail
      go_ret
      exact ⟨rfl, hb9⟩
    by_cases q2 : date < 0
    · clear hg
      go_enter Tryz.func7, Tryz.ntmps7
      go_wp2_with fail
      refine HF.out.mono ?_
      rintro e w9 ⟨rfl, hb9⟩
      go_wp2_with fail
      go_ret
      exact ⟨rfl, hb9⟩
    have q3 : 999930000 < date := by omega
    clear hg
    go_enter Tryz.func7, Tryz.ntmps7
    go_wp2_with fail
    refine HF.out.mono ?_
    rintro e w9 ⟨rfl, hb9⟩
    go_wp2_with fail
    go_ret
    exact ⟨rfl, hb9⟩
  · have hd2 : 0 ≤ date ∧ date ≤ 999930000 := by omega
    rcases hr.2 with ⟨rfl, a, cap, rfl, _⟩ | ⟨h0, b, o, cap, rfl, _, _, hb, hT⟩
    · exact trans0 a cap date y w he hok hr hd2 hy
    · exact trans1 b o cap T date y w he h0 (by omega) hb hT hok hr hd2 hy
end Go.Proofs.YtadhbnleahipaaaGreatDoor
