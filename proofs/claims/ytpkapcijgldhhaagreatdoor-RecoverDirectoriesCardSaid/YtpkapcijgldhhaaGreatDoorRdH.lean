/-
  The walk of the reference's decodeHead.
-/
import Derived.Test.YtpkapcijgldhhaaGreatDoorRdR
import Derived.Test.YtpkapcijgldhhaaGreatDoorDecW
import Derived.Deep.RegionLaw
import Derived.Deep.Cut
import Derived.Deep.CutRange
import Derived.Deep.CutBlock
import Derived.BigRegion
namespace Go.Proofs.YtpkapcijgldhhaaGreatDoor
open Go.RowKit Go.Shelf

def kindUp (l : List UInt8) : Nat → Int
  | 0 => 0
  | k + 1 => if nameL ((k : Int) + 1) = l then (k : Int) + 1 else kindUp l k
theorem kindUp6 (l : List UInt8) : kindUp l 6 = kindOf l := by
  by_cases h1 : l = nameL 1
  · subst h1; decide
  by_cases h2 : l = nameL 2
  · subst h2; decide
  by_cases h3 : l = nameL 3
  · subst h3; decide
  by_cases h4 : l = nameL 4
  · subst h4; decide
  by_cases h5 : l = nameL 5
  · subst h5; decide
  by_cases h6 : l = nameL 6
  · subst h6; decide
  have e : kindOf l = 0 := by unfold kindOf; rw [if_neg h1, if_neg h2, if_neg h3, if_neg h4, if_neg h5, if_neg h6]
  rw [e]
  show (if nameL 6 = l then (6 : Int) else if nameL 5 = l then 5 else if nameL 4 = l then 4 else if nameL 3 = l then 3 else if nameL 2 = l then 2 else if nameL 1 = l then 1 else 0) = 0
  rw [if_neg (Ne.symm h6), if_neg (Ne.symm h5), if_neg (Ne.symm h4), if_neg (Ne.symm h3), if_neg (Ne.symm h2), if_neg (Ne.symm h1)]
theorem hd2_next (l : List UInt8) (kd : Int) (r : Except Int (List UInt8 × Int)) : hd2 l kd r = hd3 l kd (stStr r) (stAt r >>= cnt 400 l) := by cases r <;> rfl
theorem hd3_next (l : List UInt8) (kd : Int) (p : List UInt8) (n : Int) (b : Int) : hd3 l kd p (.ok (n, b)) = hd4 l kd p (rowR (atR l) b n.toNat) := rfl
/-- how far a row of M has come -/
def RowSt {α : Type} (f : Int → Except Int (α × Int)) (b0 : Int) (M k : Nat) (A : List α) : Except Int Int → Prop
  | .ok b => rowR f b0 k = .ok (A, b)
  | .error x => rowR f b0 M = .error x
theorem rowSt_next {l : List UInt8} {b0 b : Int} {k M : Nat} {A : List At} {r5 r6 : Except Int (List UInt8 × Int)} (h : rowR (atR l) b0 k = .ok (A, b)) (hk : k < M) (h5 : txt l b = r5) (h6 : (stAt r5 >>= txt l) = r6) :
    RowSt (atR l) b0 M (k + 1) (A ++ [⟨bA' (stStr r5), bA' (stStr r6)⟩]) (stAt r6) := by
  rcases r5 with x | ⟨u, b5⟩
  · subst h6; exact rowR_stop h (atR_e1 h5) M hk
  · change txt l b5 = r6 at h6
    rcases r6 with x | ⟨v, b6⟩
    · exact rowR_stop h (atR_e2 h5 h6) M hk
    · exact rowR_next h (atR_o h5 h6)
theorem hd4_end {l : List UInt8} {kd : Int} {p : List UInt8} {b0 : Int} {M : Nat} {A : List At} {st : Except Int Int} (h : RowSt (atR l) b0 M M A st) : hd4 l kd p (rowR (atR l) b0 M) = hd5 l kd p A (st >>= txt l) := by
  cases st with
  | ok b => rw [show rowR (atR l) b0 M = .ok (A, b) from h]; rfl
  | error x => rw [show rowR (atR l) b0 M = .error x from h]; rfl
theorem rowSt_err {l : List UInt8} {b0 : Int} {M k : Nat} {A : List At} {x : Int} (h : RowSt (atR l) b0 M k A (.error x)) : RowSt (atR l) b0 M M A (.error x) := h
def RHeadQ (r : Except Int Hd) (w : World) (e : Ending) (w' : World) : Prop := match r with
  | .ok h => ∃ va, e = .returned (.tuple #[.agg #[.int .i64 h.kind, .string h.path, va, .string h.target, .int .i64 0, .string ⟨#[]⟩, .slice none 0 0], .int .i64 0]) ∧ OwnG w.heap.size 192 2 At.vals w' va h.attrs ∧ Below w.heap.size w w'
  | .error x => x ≠ 0 ∧ ∃ (k : Int) (p : ByteArray) (a : Option Addr) (m c : Nat) (t : ByteArray), e = .returned (.tuple #[.agg #[.int .i64 k, .string p, .slice a m c, .string t, .int .i64 0, .string ⟨#[]⟩, .slice none 0 0], .int .i64 x]) ∧ Below w.heap.size w w'
def h3 (w : World) (s : ByteArray) : World := ((w.alloc (.cells #[.int .i64 0, .string ⟨#[]⟩, .slice none 0 0, .string ⟨#[]⟩, .int .i64 0, .string ⟨#[]⟩, .slice none 0 0] 109)).alloc (.cells #[.string s, .int .i64 0, .int .i64 0] 233)).alloc (.cells #[.int .i64 0, .string ⟨#[]⟩, .slice none 0 0, .string ⟨#[]⟩, .int .i64 0, .string ⟨#[]⟩, .slice none 0 0] 109)
theorem h3_parts (w : World) (s : ByteArray) : Below w.heap.size w (h3 w s) ∧ Box (h3 w s) w.heap.size zeroE 109 ∧ Box (h3 w s) (w.heap.size + 1) [.string s, .int .i64 0, .int .i64 0] 233 ∧ Box (h3 w s) (w.heap.size + 2) zeroE 109 ∧ (h3 w s).heap.size = w.heap.size + 3 := by
  have a1 := Box.new w zeroE 109
  have s1 := size_one w (.cells zeroE.toArray 109)
  obtain ⟨W1, h1⟩ : ∃ W1, w.alloc (.cells zeroE.toArray 109) = W1 := ⟨_, rfl⟩
  have k1 : Below w.heap.size w W1 := h1 ▸ (below_refl w).alloc (Nat.le_refl _) _
  have a2 := Box.new W1 [.string s, .int .i64 0, .int .i64 0] 233
  have s2 := size_one W1 (.cells #[.string s, .int .i64 0, .int .i64 0] 233)
  obtain ⟨W2, h2⟩ : ∃ W2, W1.alloc (.cells #[.string s, .int .i64 0, .int .i64 0] 233) = W2 := ⟨_, rfl⟩
  have k2 : Below W1.heap.size W1 W2 := h2 ▸ (below_refl W1).alloc (Nat.le_refl _) _
  have a3 := Box.new W2 zeroE 109
  have s3 := size_one W2 (.cells zeroE.toArray 109)
  obtain ⟨W3, h3'⟩ : ∃ W3, W2.alloc (.cells zeroE.toArray 109) = W3 := ⟨_, rfl⟩
  have k3 : Below W2.heap.size W2 W3 := h3' ▸ (below_refl W2).alloc (Nat.le_refl _) _
  have e : h3 w s = W3 := by rw [← h3', ← h2, ← h1]; rfl
  rw [e]
  change Box (w.alloc (.cells zeroE.toArray 109)) _ _ _ at a1
  change Box (W1.alloc (.cells #[.string s, .int .i64 0, .int .i64 0] 233)) _ _ _ at a2
  change Box (W2.alloc (.cells zeroE.toArray 109)) _ _ _ at a3
  rw [h1] at a1 s1; rw [h2] at a2 s2; rw [h3'] at a3 s3
  have m1 : W1.heap.size = w.heap.size + 1 := by omega
  have m2 : W2.heap.size = w.heap.size + 2 := by omega
  rw [m1] at a2; rw [m2] at a3
  exact ⟨step2 (step2 k1 k2) k3, (a1.below k2).below k3, a2.below k3, a3, by omega⟩
theorem RSt.keepE {W W' : World} {R B : Nat} {s : ByteArray} {st : Except Int Int} (h : RSt W R s st) (hb : Below B W W') (hR : R < B) : RSt W' R s st := by
  cases st with
  | ok a => exact Box.below' h hb hR
  | error x => obtain ⟨h1, a, h2⟩ := h; exact ⟨h1, a, Box.below' h2 hb hR⟩
theorem RSt.setOther {W : World} {R E j : Nat} {s : ByteArray} {st : Except Int Int} (h : RSt W R s st) (hne : E ≠ R) (v : Value) : RSt (W.setCell ⟨E, j, none⟩ v) R s st := by
  cases st with
  | ok a => exact Box.setOther h hne v
  | error x => obtain ⟨h1, a, h2⟩ := h; exact ⟨h1, a, Box.setOther h2 hne v⟩
/-- the error's cell -/
def errOf : Except Int Int → Int
  | .ok _ => 0
  | .error x => x
theorem RSt.err {W : World} {R : Nat} {s : ByteArray} {st : Except Int Int} (h : RSt W R s st) : W.cell? ⟨R, 2, none⟩ = some (.int .i64 (errOf st)) ∧ W.frozen? ⟨R, 2, none⟩ = false := by
  cases st with
  | ok a => exact ⟨Box.cell h 2, Box.frozen h 2⟩
  | error x => obtain ⟨h1, a, h2⟩ := h; exact ⟨Box.cell h2 2, Box.frozen h2 2⟩
theorem resH {W : World} {D : Nat} {v0 v1 v2 v3 v4 v5 v6 : Value} (tmps : Array Value) (x : Int) (b : Box W D [v0, v1, v2, v3, v4, v5, v6] 109) (h2 : tmps[2]?.getD undef = .pointer (some ⟨D, 0, none⟩)) (h3 : tmps[3]?.getD undef = .int .i64 x) :
    (results Tryz.f191 tmps).run Tryz.prog W = .ok (.tuple #[.agg #[v0, v1, v2, v3, v4, v5, v6], .int .i64 x]) W := by
  have c0 : W.cell? ⟨D, 0, none⟩ = some v0 := b.cell 0
  have c1 : W.cell? ⟨D, 1, none⟩ = some v1 := b.cell 1
  have c2 : W.cell? ⟨D, 2, none⟩ = some v2 := b.cell 2
  have c3 : W.cell? ⟨D, 3, none⟩ = some v3 := b.cell 3
  have c4 : W.cell? ⟨D, 4, none⟩ = some v4 := b.cell 4
  have c5 : W.cell? ⟨D, 5, none⟩ = some v5 := b.cell 5
  have c6 : W.cell? ⟨D, 6, none⟩ = some v6 := b.cell 6
  simp [results, Tryz.results191, go_sem, h2, h3, c0, c1, c2, c3, c4, c5, c6]
set_option maxRecDepth 100000 in
set_option maxHeartbeats 2000000 in
theorem rhead_walk (s : ByteArray) (w : World) (hs : s.size ≤ 1000000) : Calls Tryz.prog 191 #[.string s] w (RHeadQ (headR s.data.toList) w) := by
  have HR := Lib.hid (headR_steps s.data.toList)
  go_enter Tryz.func191, Tryz.ntmps191
  go_upto_region 3 with (fail)
  obtain ⟨kb, bD, bR, bE, hsz⟩ := h3_parts w s
  change Code.wp _ _ _ _ (h3 w s)
  generalize h3 w s = W0 at *
  have KB := Lib.hid (show ∀ W W', Below w.heap.size w W → Keep (w.heap.size + 1) W W' → Below w.heap.size w W' from fun W W' h1 h2 => h1.trans (h2.1.mono (Nat.le_succ _)))
  have KD := Lib.hid (show ∀ W W', Box W w.heap.size zeroE 109 → Keep (w.heap.size + 1) W W' → Box W' w.heap.size zeroE 109 from fun W W' h1 h2 => h1.below' h2.1 (Nat.lt_succ_self _))
  have HC := Lib.hid (rtext_any s (w.heap.size + 1) (.ok 0) W0 bR hs)
  change Hid (Calls _ _ _ _ (TxtR (txt s.data.toList 0) _ _ _)) at HC
  have hszl : w.heap.size + 2 < W0.heap.size := by omega
  clear hsz bR
  generalize txt s.data.toList 0 = r1 at *
  go_wp2_with fail
  refine HC.out.mono ?_
  rintro e W1 ⟨rfl, hst1, hk1⟩
  have kb1 := KB.out _ _ kb hk1
  have bD1 := KD.out _ _ bD hk1
  have bE1 := bE.keep hk1 (by omega)
  have hsz1 : w.heap.size + 2 < W1.heap.size := Nat.lt_of_lt_of_le hszl hk1.1.size
  clear kb bD bE hk1 HC hszl
  unfold zeroE at bE1
  obtain ⟨u1, hu1⟩ : ∃ u1, stStr r1 = u1 := ⟨_, rfl⟩
  rw [hu1]
  have Hu1 := Lib.hid hu1; clear hu1
  go_wp2_with fail
  go_loopw [7] (fun i wr => ∃ k : Nat, k ≤ 6 ∧ i = .int .i64 ((k : Int) + 1) ∧ Below w.heap.size w wr ∧ RSt wr (w.heap.size + 1) s (stAt r1) ∧ Box wr w.heap.size zeroE 109 ∧
      Box wr (w.heap.size + 2) [.int .i64 (kindUp u1 k), .string ⟨#[]⟩, .slice none 0 0, .string ⟨#[]⟩, .int .i64 0, .string ⟨#[]⟩, .slice none 0 0] 109 ∧ w.heap.size + 2 < wr.heap.size) (fun i _ => 8 - (intOf i).toNat)
  case atStart => exact ⟨0, by omega, rfl, kb1, hst1, bD1, bE1, hsz1⟩
  case round =>
    obtain ⟨k, hk, rfl, kb2, hst2, bD2, bE2, hsz2⟩ := hrel
    clear kb1 hst1 bD1 bE1 hsz1
    by_cases hlt : k < 6
    · have e0 : wr.cell? ⟨w.heap.size + 2, 0, none⟩ = some (.int .i64 (kindUp u1 k)) := bE2.cell 0
      have f0 := bE2.frozen 0
      have hku := Lib.hid (show kindUp u1 (k + 1) = if nameL ((k : Int) + 1) = u1 then (k : Int) + 1 else kindUp u1 k from rfl)
      go_wp2_with fail
      refine (refName_any ((k : Int) + 1) wr).mono ?_
      rintro e w2 ⟨t, rfl, ht, rfl⟩
      by_cases hc : t.data.toList = u1
      · have q1 : (t.toList == (bA' u1).toList) = true := by rw [str_eq]; exact decide_eq_true hc
        have hv := Lib.hid (hku.out.trans (if_pos (ht.out.symm.trans hc)))
        clear hc
        go_wp2_with fail
        go_roundw
        case rel =>
          have bE3 := bE2.set (j := 0) (.int .i64 ((k : Int) + 1))
          simp only [List.set_cons_zero] at bE3
          exact ⟨k + 1, by omega, by go_num, kb2.setCell (p := ⟨w.heap.size + 2, 0, none⟩) (by show w.heap.size ≤ w.heap.size + 2; omega) _, hst2.setOther (by omega) _, bD2.setOther (by omega) _, by rw [hv.out]; exact bE3, by simpa using hsz2⟩
        case measure => simp [intOf]; omega
      · have q1 : (t.toList == (bA' u1).toList) = false := by rw [str_eq]; exact decide_eq_false hc
        have hv := Lib.hid (hku.out.trans (if_neg (fun h => hc (ht.out.trans h))))
        clear hc
        go_wp2_with fail
        go_roundw
        case rel => exact ⟨k + 1, by omega, by go_num, kb2, hst2, bD2, by rw [hv.out]; exact bE2, hsz2⟩
        case measure => simp [intOf]; omega
    · obtain rfl : k = 6 := by omega
      rw [kindUp6] at bE2
      obtain ⟨kd, hkd⟩ : ∃ kd, kindOf u1 = kd := ⟨_, rfl⟩
      rw [hkd] at bE2
      have Hkd := Lib.hid hkd; clear hkd
      go_upto_region 9 with (fail)
      have e0 : wr.cell? ⟨w.heap.size + 2, 0, none⟩ = some (.int .i64 kd) := bE2.cell 0
      go_cut [35] from 26 (fun v wc => wr = wc ∧ v = .bool (match r1 with | .ok _ => decide (kd = 0) | .error _ => false))
      case first =>
        obtain ⟨c2, -⟩ := hst2.err
        rcases r1 with x | ⟨u, b⟩
        · have hx : x ≠ 0 := hst2.1
          change wr.cell? _ = some (.int .i64 x) at c2
          have k1 : (x == 0) = false := by rw [beq_eq_false_iff_ne]; exact hx
          have Hx := Lib.hid hx; clear hx
          go_wp2_with fail
          go_meet
          exact ⟨rfl, rfl⟩
        · change wr.cell? _ = some (.int .i64 0) at c2
          by_cases hk0 : kd = 0
          · have k1 : (kd == 0) = true := by rw [beq_iff_eq]; exact hk0
            have Hk := Lib.hid hk0; clear hk0
            go_wp2_with fail
            go_meet
            exact ⟨rfl, congrArg Value.bool (decide_eq_true Hk.out).symm⟩
          · have k1 : (kd == 0) = false := by rw [beq_eq_false_iff_ne]; exact hk0
            have Hk := Lib.hid hk0; clear hk0
            go_wp2_with fail
            go_meet
            exact ⟨rfl, congrArg Value.bool (decide_eq_false Hk.out).symm⟩
      case rest =>
        obtain ⟨rfl, rfl⟩ := hcut
        clear e0
        go_upto_if 35 with (fail)
        go_cut [] from 26 (fun wc => ∃ st2, RSt wc (w.heap.size + 1) s st2 ∧ Box wc w.heap.size zeroE 109 ∧
          Box wc (w.heap.size + 2) [.int .i64 kd, .string ⟨#[]⟩, .slice none 0 0, .string ⟨#[]⟩, .int .i64 0, .string ⟨#[]⟩, .slice none 0 0] 109 ∧ Below w.heap.size w wc ∧ w.heap.size + 2 < wc.heap.size ∧ Hid (headR s.data.toList = hd2 s.data.toList kd (st2 >>= txt s.data.toList)))
        case first =>
          rcases r1 with x | ⟨u, b⟩
          · have HR2 : Hid (headR s.data.toList = hd2 s.data.toList kd ((.error x : Except Int Int) >>= txt s.data.toList)) := HR.out
            dsimp only
            go_wp2_with fail
            go_meet
            exact ⟨.error x, hst2, bD2, bE2, kb2, hsz2, HR2⟩
          · have hu : u = u1 := Hu1.out
            by_cases hk0 : kd = 0
            · have HR2 : Hid (headR s.data.toList = hd2 s.data.toList kd ((.error 3 : Except Int Int) >>= txt s.data.toList)) := by
                rw [Hid, HR.out]; show (if kindOf u = 0 then _ else _) = _; rw [hu, Hkd.out, if_pos hk0]; rfl
              have f2 : wr.cell? ⟨w.heap.size + 1, 2, none⟩ = some (.int .i64 0) := Box.cell hst2 2
              have f3 := Box.frozen hst2 2
              have bR3 : Box (wr.setCell ⟨w.heap.size + 1, 2, none⟩ (.int .i64 3)) (w.heap.size + 1) [.string s, .int .i64 b, .int .i64 3] 233 := Box.set (j := 2) hst2 (.int .i64 3)
              have Hk := Lib.hid hk0
              dsimp only
              rw [decide_eq_true hk0]
              clear hk0
              go_wp2_with fail
              go_meet
              exact ⟨.error 3, ⟨by decide, b, bR3⟩, bD2.setOther (by omega) _, bE2.setOther (by omega) _, kb2.setCell (p := ⟨w.heap.size + 1, 2, none⟩) (by show w.heap.size ≤ w.heap.size + 1; omega) _, by simpa using hsz2, HR2⟩
            · have HR2 : Hid (headR s.data.toList = hd2 s.data.toList kd ((.ok b : Except Int Int) >>= txt s.data.toList)) := by
                rw [Hid, HR.out]; show (if kindOf u = 0 then _ else hd2 _ (kindOf u) _) = _; rw [hu, Hkd.out, if_neg hk0]; rfl
              dsimp only
              rw [decide_eq_false hk0]
              have Hk := Lib.hid hk0; clear hk0
              go_wp2_with fail
              go_meet
              exact ⟨.ok b, hst2, bD2, bE2, kb2, hsz2, HR2⟩
        case rest =>
          obtain ⟨st2, hst3, bD3, bE3, kb3, hsz3, HR2⟩ := hcut
          clear hst2 bD2 bE2 kb2 hsz2 HR Hkd Hu1
          have HC := Lib.hid (rtext_any s (w.heap.size + 1) st2 wc hst3 hs)
          generalize (st2 >>= txt s.data.toList) = r3 at *
          clear hst3
          go_wp2_with fail
          refine HC.out.mono ?_
          rintro e W4 ⟨rfl, hst4, hk4⟩
          have kb4 := KB.out _ _ kb3 hk4
          have bD4 := KD.out _ _ bD3 hk4
          have bE4 := bE3.keep hk4 (by omega)
          have hsz4 : w.heap.size + 2 < W4.heap.size := Nat.lt_of_lt_of_le hsz3 hk4.1.size
          rw [hd2_next] at HR2
          generalize stStr r3 = p3 at *
          have e1 : W4.cell? ⟨w.heap.size + 2, 1, none⟩ = some (.string ⟨#[]⟩) := bE4.cell 1
          have f1 := bE4.frozen 1
          clear HC kb3 bD3 bE3 hk4 hsz3
          go_upto_region 12 with (fail)
          have hst5 := hst4.setOther (E := w.heap.size + 2) (j := 1) (by omega) (.string (bA' p3))
          have bD5 := bD4.setOther (E' := w.heap.size + 2) (j := 1) (by omega) (.string (bA' p3))
          have bE5 := bE4.set (j := 1) (.string (bA' p3))
          have kb5 := kb4.setCell (p := ⟨w.heap.size + 2, 1, none⟩) (by show w.heap.size ≤ w.heap.size + 2; omega) (.string (bA' p3))
          have hsz5 : w.heap.size + 2 < (W4.setCell ⟨w.heap.size + 2, 1, none⟩ (.string (bA' p3))).heap.size := by simpa using hsz4
          simp only [List.set_cons_zero, List.set_cons_succ] at bE5
          clear e1 f1 kb4 bD4 bE4 hsz4 hst4
          obtain ⟨W5, hW5⟩ : ∃ W5, W4.setCell ⟨w.heap.size + 2, 1, none⟩ (.string (bA' p3)) = W5 := ⟨_, rfl⟩
          change Code.wp _ _ _ _ (W4.setCell ⟨w.heap.size + 2, 1, none⟩ (.string (bA' p3)))
          rw [hW5] at hst5 bD5 bE5 kb5 hsz5 ⊢
          clear hW5
          have HC := Lib.hid (rcnt_any s (w.heap.size + 1) 400 (stAt r3) W5 hst5 hs)
          have H4 : Hid (∀ n b, (stAt r3 >>= cnt 400 s.data.toList) = .ok (n, b) → 0 ≤ n ∧ n ≤ 400) := Lib.hid fun n b h => by
            cases hs3 : stAt r3 with
            | error x => rw [hs3] at h; cases h
            | ok c => rw [hs3] at h; exact (cnt_ok_parts h).2
          generalize (stAt r3 >>= cnt 400 s.data.toList) = r4 at *
          clear hst5
          go_wp2_with fail
          refine HC.out.mono ?_
          rintro e W6 ⟨rfl, hst6, hk6⟩
          have kb6 := KB.out _ _ kb5 hk6
          have bD6 := KD.out _ _ bD5 hk6
          have bE6 := bE5.keep hk6 (by omega)
          have hsz6 : w.heap.size + 2 < W6.heap.size := Nat.lt_of_lt_of_le hsz5 hk6.1.size
          clear HC kb5 bD5 bE5 hk6 hsz5
          go_upto_block 2 with (fail)
          go_cut [9, 10] from 36 (fun v9 v10 wc => ∃ A ax cx st, RSt wc (w.heap.size + 1) s st ∧ Box wc w.heap.size zeroE 109 ∧
            Box wc (w.heap.size + 2) [.int .i64 kd, .string (bA' p3), .slice ax (List.length A) cx, .string ⟨#[]⟩, .int .i64 0, .string ⟨#[]⟩, .slice none 0 0] 109 ∧ Below w.heap.size w wc ∧
            OwnG (w.heap.size + 3) 192 2 At.vals wc (.slice ax A.length cx) A ∧ Hid (headR s.data.toList = hd5 s.data.toList kd p3 A (st >>= txt s.data.toList)))
          case first =>
            obtain ⟨i0, hi, hz0, hz1, hz2⟩ := info_parts infoAt
            have hown0 : OwnG (w.heap.size + 3) 192 2 At.vals W6 (.slice none 0 0) [] := World.ownsRow_nil _ _ _ _
            rcases r4 with x | ⟨n, b3⟩
            · have c2 : W6.cell? ⟨w.heap.size + 1, 2, none⟩ = some (.int .i64 x) := hst6.err.1
              have n0 : stNum (.error x) = 0 := rfl
              rw [n0]
              go_wp2_with fail
              refine wp_loop_rounds 1 ?_; rw [rounds_succ]
              go_wp2_with fail
              go_meet
              exact ⟨[], none, 0, .error x, hst6, bD6, bE6, kb6, hown0, HR2⟩
            obtain ⟨hn0, hn4⟩ := H4.out n b3 rfl
            obtain ⟨M, rfl⟩ := Int.eq_ofNat_of_zero_le hn0
            have HR4 : Hid (headR s.data.toList = hd4 s.data.toList kd p3 (rowR (atR s.data.toList) b3 M)) := by rw [Hid, HR2.out, hd3_next, Int.toNat_natCast]
            have n1 : stNum (.ok ((M : Int), b3)) = (M : Int) := rfl
            rw [n1]
            have hM : M ≤ 400 := by omega
            have hsz7 : w.heap.size + 3 ≤ W6.heap.size := hsz6
            clear HR2 H4 hn0 hn4
            go_wp2_with fail
            go_loopw [9, 10] (fun i _ wr => ∃ (k : Nat) (A : List At) (st : Except Int Int) (va : Value), k ≤ M ∧ i = .int .i64 k ∧ A.length = k ∧ Hid (RowSt (atR s.data.toList) b3 M k A st) ∧ RSt wr (w.heap.size + 1) s st ∧ Box wr w.heap.size zeroE 109 ∧
              Box wr (w.heap.size + 2) [.int .i64 kd, .string (bA' p3), va, .string ⟨#[]⟩, .int .i64 0, .string ⟨#[]⟩, .slice none 0 0] 109 ∧ Below w.heap.size w wr ∧ w.heap.size + 3 ≤ wr.heap.size ∧ OwnG (w.heap.size + 3) 192 2 At.vals wr va A) (fun i _ _ => M - (intOf i).toNat)
            case atStart => exact ⟨0, [], .ok b3, _, by omega, rfl, rfl, rfl, hst6, bD6, bE6, kb6, hsz7, hown0⟩
            case round =>
              obtain ⟨k, A, st, va, hk, rfl, rfl, hrow, hst8, bD8, bE8, kb8, hsz8, own8⟩ := hrel
              clear hst6 bD6 bE6 kb6 hsz7 hown0 hsz6
              obtain ⟨ax, cx, rfl⟩ := (OwnG.row (n := 2) (f := At.vals) (d := at0) (fun _ => rfl) own8).form
              by_cases hlt : A.length < M
              case neg =>
                obtain rfl : M = A.length := by omega
                have HR5 := Lib.hid (HR4.out.trans (hd4_end hrow.out))
                go_wp2_with fail
                go_meet
                exact ⟨A, ax, cx, st, hst8, bD8, bE8, kb8, own8, HR5⟩
              cases st with
              | error x =>
                have c2 : wr.cell? ⟨w.heap.size + 1, 2, none⟩ = some (.int .i64 x) := hst8.err.1
                have HR5 := Lib.hid (HR4.out.trans (hd4_end (rowSt_err hrow.out)))
                have hx : x ≠ 0 := hst8.1
                have k1 : (x == 0) = false := by rw [beq_eq_false_iff_ne]; exact hx
                have Hx := Lib.hid hx; clear hx
                go_wp2_with fail
                go_meet
                exact ⟨A, ax, cx, .error x, hst8, bD8, bE8, kb8, own8, HR5⟩
              | ok b =>
                have c2 : wr.cell? ⟨w.heap.size + 1, 2, none⟩ = some (.int .i64 0) := hst8.err.1
                have HC := Lib.hid (rtext_any s (w.heap.size + 1) (.ok b) wr hst8 hs)
                change Hid (Calls _ _ _ _ (TxtR (txt s.data.toList b) _ _ _)) at HC
                have HT := Lib.hid (fun r5 r6 h5 h6 => rowSt_next (r5 := r5) (r6 := r6) hrow.out hlt h5 h6)
                obtain ⟨r5, h5⟩ : ∃ r5, txt s.data.toList b = r5 := ⟨_, rfl⟩
                rw [h5] at HC
                have H5 := Lib.hid h5
                clear h5 hst8
                go_wp2_with fail
                refine HC.out.mono ?_
                rintro e W9 ⟨rfl, hst9, hk9⟩
                have kb9 := KB.out _ _ kb8 hk9
                have bD9 := KD.out _ _ bD8 hk9
                have bE9 := bE8.keep hk9 (by omega)
                have hsz9 : w.heap.size + 3 ≤ W9.heap.size := Nat.le_trans hsz8 hk9.1.size
                have own9 : OwnG (w.heap.size + 3) 192 2 At.vals W9 (.slice ax A.length cx) A := owns_keep own8 hk9 (by omega)
                clear HC kb8 bD8 bE8 hsz8 own8 hk9 c2
                obtain ⟨u5, hu5⟩ : ∃ u5, stStr r5 = u5 := ⟨_, rfl⟩
                rw [hu5]
                have Hu5 := Lib.hid hu5; clear hu5
                have hd9 : Below W9.heap.size W9 W9.drew := below_drew0 (below_refl W9)
                have HC := Lib.hid (rtext_any s (w.heap.size + 1) (stAt r5) W9.drew (hst9.keepE hd9 (by omega)) hs)
                obtain ⟨r6, h6⟩ : ∃ r6, (stAt r5 >>= txt s.data.toList) = r6 := ⟨_, rfl⟩
                rw [h6] at HC
                have HNX := Lib.hid (HT.out r5 r6 H5.out h6)
                rw [Hu5.out] at HNX
                clear h6 HT H5 Hu5
                obtain ⟨u6, hu6⟩ : ∃ u6, stStr r6 = u6 := ⟨_, rfl⟩
                rw [hu6] at HNX
                have e2 : W9.cell? ⟨w.heap.size + 2, 2, none⟩ = some (.slice ax A.length cx) := bE9.cell 2
                have bEd := bE9.below hd9
                have bDd := bD9.below hd9
                have ownd : OwnG (w.heap.size + 3) 192 2 At.vals W9.drew (.slice ax A.length cx) A := owns_below own9 hd9
                have kbd := step2 kb9 hd9
                have hszd : w.heap.size + 3 ≤ W9.drew.heap.size := Nat.le_trans hsz9 hd9.size
                have Hu6 := Lib.hid hu6
                clear hst9 bE9 bD9 own9 kb9 hsz9 hu6
                go_upto_region 17 with (fail)
                go_region_law (first
                  | (go_simp; go_at_call 190; refine HC.out.mono ?_; rintro e W10 ⟨rfl, hst10, hk10⟩; rw [Hu6.out]; have kb10 := KB.out _ _ kbd hk10; have bD10 := KD.out _ _ bDd hk10; have bE10 := bEd.keep hk10 (by omega); have own10 := owns_keep ownd hk10 (by omega); have hsz10 : w.heap.size + 3 ≤ W10.heap.size := Nat.le_trans hszd hk10.1.size; have e2b : W10.cell? ⟨w.heap.size + 2, 2, none⟩ = some (.slice ax A.length cx) := bE10.cell 2; have hEl := bE10.lt)
                  | (refine step_append_own rfl (.tmp 59) (.tmp 64) 106 rfl (w.heap.size + 3) 192 i0 (.agg #[.string ⟨#[]⟩, .string ⟨#[]⟩]) 2 32 Tryz.underlying106 hi hz0 hz1 hz2 rfl (by decide) _ _ _ (by simp [Act.eval]) (own10.alloc _) ⟨W10.heap.size, 0, none⟩ 1 1 [.string (bA' u5), .string (bA' u6)] (by simp [Act.eval]) rfl (fun j x h => cell_str2 W10 (bA' u5) (bA' u6) _ j x h) (fun u hu => by rw [List.mem_cons, List.mem_singleton] at hu; rcases hu with rfl | rfl <;> rfl) (by unfold maxLen; omega) (by omega) (by simp; omega) ?_; intro a4 c4 W11 own11 hg4; have bE11 := (bE10.below ((below_refl W10).alloc (Nat.le_refl _) _)).below' hg4.out (by omega); have e2c : W11.cell? ⟨w.heap.size + 2, 2, none⟩ = some (.slice ax A.length cx) := bE11.cell 2; have f2c := bE11.frozen 2))
                all_goals
                  have hba : Below W10.heap.size W10 (W10.alloc (.cells #[.string (bA' u5), .string (bA' u6)] 192)) := (below_refl W10).alloc (Nat.le_refl _) _
                  have hst11 := (hst10.keepE hba (by omega)).keepE hg4.out (by omega)
                  have kb11 := (kb10.alloc kb10.size (.cells #[.string (bA' u5), .string (bA' u6)] 192)).trans (hg4.out.mono (by omega))
                  have bD11 := (bD10.below hba).below' hg4.out (by omega)
                  have hsz11 : w.heap.size + 3 ≤ W11.heap.size := Nat.le_trans hsz10 (Nat.le_trans hba.size hg4.out.size)
                  have own12 : OwnG (w.heap.size + 3) 192 2 At.vals W11 (.slice a4 (A.length + 1) c4) (A ++ [⟨bA' u5, bA' u6⟩]) := by
                    rw [OwnG, List.length_append, List.flatMap_append]; exact own11
                  have hst12 := hst11.setOther (E := w.heap.size + 2) (j := 2) (by omega) (.slice a4 (A.length + 1) c4)
                  have kb12 := kb11.setCell (p := ⟨w.heap.size + 2, 2, none⟩) (show w.heap.size ≤ w.heap.size + 2 by omega) (.slice a4 (A.length + 1) c4)
                  have bD12 := bD11.setOther (j := 2) (E' := w.heap.size + 2) (by omega) (.slice a4 (A.length + 1) c4)
                  have bE12 := bE11.set (j := 2) (.slice a4 (A.length + 1) c4)
                  have own13 := owns_set own12 ⟨w.heap.size + 2, 2, none⟩ (.slice a4 (A.length + 1) c4) bE11 (by decide)
                  have hsz12 : w.heap.size + 3 ≤ (W11.setCell ⟨w.heap.size + 2, 2, none⟩ (.slice a4 (A.length + 1) c4)).heap.size := by simpa using hsz11
                  simp only [List.set_cons_zero, List.set_cons_succ] at bE12
                  clear hst10 kb10 bD10 bE10 own10 hsz10 e2b hEl own11 hg4 bE11 e2c f2c hba hst11 kb11 bD11 hsz11 own12 bDd bEd ownd kbd hszd HC hrow Hu6 e2
                  simp only [Exit.inBlock, Exit.then]
                  go_wp2_with fail
                  go_roundw
                  case rel => exact ⟨A.length + 1, A ++ [At.mk (bA' u5) (bA' u6)], stAt r6, _, by omega, by go_num, by simp, HNX, hst12, bD12, bE12, kb12, hsz12, own13⟩
                  case measure => simp [intOf]; omega
          case rest =>
            obtain ⟨A, ax, cx, st, hst7, bD7, bE7, kb7, own7, HR3⟩ := hcut
            clear hst6 kb6 bD6 bE6 hsz6 HR2 H4
            have HC := Lib.hid (rtext_any s (w.heap.size + 1) st wc hst7 hs)
            generalize (st >>= txt s.data.toList) = r7 at *
            have hsz7 : w.heap.size + 2 < wc.heap.size := bE7.lt
            clear hst7
            go_wp2_with fail
            refine HC.out.mono ?_
            rintro e W8 ⟨rfl, hst8, hk8⟩
            have kb8 := KB.out _ _ kb7 hk8
            have bD8 := KD.out _ _ bD7 hk8
            have bE8 := bE7.keep hk8 (by omega)
            have own8 : OwnG (w.heap.size + 3) 192 2 At.vals W8 (.slice ax A.length cx) A := owns_keep own7 hk8 (by omega)
            obtain ⟨tg, htg⟩ : ∃ tg, stStr r7 = tg := ⟨_, rfl⟩
            rw [htg]
            have Htg := Lib.hid htg
            have e3 : W8.cell? ⟨w.heap.size + 2, 3, none⟩ = some (.string ⟨#[]⟩) := bE8.cell 3
            have f3 := bE8.frozen 3
            clear HC kb7 bD7 bE7 own7 hk8 hsz7 htg
            go_upto_region 19 with (fail)
            have hst9 := hst8.setOther (E := w.heap.size + 2) (j := 3) (by omega) (.string (bA' tg))
            have bD9 := bD8.setOther (E' := w.heap.size + 2) (j := 3) (by omega) (.string (bA' tg))
            have bE9 := bE8.set (j := 3) (.string (bA' tg))
            have kb9 := kb8.setCell (p := ⟨w.heap.size + 2, 3, none⟩) (by show w.heap.size ≤ w.heap.size + 2; omega) (.string (bA' tg))
            have own9 := owns_set own8 ⟨w.heap.size + 2, 3, none⟩ (.string (bA' tg)) bE8 (by decide)
            simp only [List.set_cons_zero, List.set_cons_succ] at bE9
            clear e3 f3 kb8 bD8 bE8 own8 hst8
            obtain ⟨W9, hW9⟩ : ∃ W9, W8.setCell ⟨w.heap.size + 2, 3, none⟩ (.string (bA' tg)) = W9 := ⟨_, rfl⟩
            change Code.wp _ _ _ _ (W8.setCell ⟨w.heap.size + 2, 3, none⟩ (.string (bA' tg)))
            rw [hW9] at hst9 bD9 bE9 kb9 own9 ⊢
            clear hW9
            have q0 : W9.cell? ⟨w.heap.size + 2, 0, none⟩ = some (.int .i64 kd) := bE9.cell 0
            have q1 : W9.cell? ⟨w.heap.size + 2, 1, none⟩ = some (.string (bA' p3)) := bE9.cell 1
            have q2 : W9.cell? ⟨w.heap.size + 2, 2, none⟩ = some (.slice ax A.length cx) := bE9.cell 2
            have q3 : W9.cell? ⟨w.heap.size + 2, 3, none⟩ = some (.string (bA' tg)) := bE9.cell 3
            have q4 : W9.cell? ⟨w.heap.size + 2, 4, none⟩ = some (.int .i64 0) := bE9.cell 4
            have q5 : W9.cell? ⟨w.heap.size + 2, 5, none⟩ = some (.string ⟨#[]⟩) := bE9.cell 5
            have q6 : W9.cell? ⟨w.heap.size + 2, 6, none⟩ = some (.slice none 0 0) := bE9.cell 6
            have bE := bE9
            have bD := bD9
            have kb := kb9
            have own := own9
            clear bE9 bD9 kb9 own9
            unfold zeroE at bD
            rcases r7 with x | ⟨u, f⟩
            · have HRF : Hid (headR s.data.toList = .error x) := HR3
              have hx : x ≠ 0 := hst9.1
              have c2 : W9.cell? ⟨w.heap.size + 1, 2, none⟩ = some (.int .i64 x) := hst9.err.1
              have k1 : (x == 0) = false := by rw [beq_eq_false_iff_ne]; exact hx
              have Hx := Lib.hid hx; clear hx
              go_upto_region 21 with (fail)
              have r0 : W9.cell? ⟨w.heap.size + 2, 0, none⟩ = some (.int .i64 kd) := bE.cell 0
              have r1 : W9.cell? ⟨w.heap.size + 2, 1, none⟩ = some (.string (bA' p3)) := bE.cell 1
              have r2 : W9.cell? ⟨w.heap.size + 2, 2, none⟩ = some (.slice ax A.length cx) := bE.cell 2
              have r3 : W9.cell? ⟨w.heap.size + 2, 3, none⟩ = some (.string (bA' tg)) := bE.cell 3
              have r4 : W9.cell? ⟨w.heap.size + 2, 4, none⟩ = some (.int .i64 0) := bE.cell 4
              have r5 : W9.cell? ⟨w.heap.size + 2, 5, none⟩ = some (.string ⟨#[]⟩) := bE.cell 5
              have r6 : W9.cell? ⟨w.heap.size + 2, 6, none⟩ = some (.slice none 0 0) := bE.cell 6
              have s0 : W9.cell? ⟨w.heap.size, 0, none⟩ = some (.int .i64 0) := bD.cell 0
              have s1 : W9.cell? ⟨w.heap.size, 1, none⟩ = some (.string ⟨#[]⟩) := bD.cell 1
              have s2 : W9.cell? ⟨w.heap.size, 2, none⟩ = some (.slice none 0 0) := bD.cell 2
              have s3 : W9.cell? ⟨w.heap.size, 3, none⟩ = some (.string ⟨#[]⟩) := bD.cell 3
              have s4 : W9.cell? ⟨w.heap.size, 4, none⟩ = some (.int .i64 0) := bD.cell 4
              have s5 : W9.cell? ⟨w.heap.size, 5, none⟩ = some (.string ⟨#[]⟩) := bD.cell 5
              have s6 : W9.cell? ⟨w.heap.size, 6, none⟩ = some (.slice none 0 0) := bD.cell 6
              have y0 := bD.frozen 0
              have y1 := bD.frozen 1
              have y2 := bD.frozen 2
              have y3 := bD.frozen 3
              have y4 := bD.frozen 4
              have y5 := bD.frozen 5
              have y6 := bD.frozen 6
              go_region
              go_wp2_with fail
              have z := (bD.set7 (.int .i64 kd) (.string (bA' p3)) (.slice ax A.length cx) (.string (bA' tg)) (.int .i64 0) (.string ⟨#[]⟩) (.slice none 0 0)).drew
              have kz := below_drew0 (below_set7 kb (Nat.le_refl _) (.int .i64 kd) (.string (bA' p3)) (.slice ax A.length cx) (.string (bA' tg)) (.int .i64 0) (.string ⟨#[]⟩) (.slice none 0 0))
              have oz := owns_drew (owns_set7 own bD (by decide) (.int .i64 kd) (.string (bA' p3)) (.slice ax A.length cx) (.string (bA' tg)) (.int .i64 0) (.string ⟨#[]⟩) (.slice none 0 0))
              refine bodyPost_ret (v := .tuple #[.agg #[.int .i64 kd, .string (bA' p3), .slice ax A.length cx, .string (bA' tg), .int .i64 0, .string ⟨#[]⟩, .slice none 0 0], .int .i64 x]) (resH _ _ z rfl rfl) rfl ?_
              rw [HRF.out]
              exact ⟨Hx.out, _, _, _, _, _, _, rfl, kz⟩
            have HR4 : Hid (headR s.data.toList = if f = (s.size : Int) then .ok ⟨kd, bA' p3, A, bA' u⟩ else .error 3) := HR3
            have hut : u = tg := Htg.out
            subst hut
            have c2 : W9.cell? ⟨w.heap.size + 1, 2, none⟩ = some (.int .i64 0) := Box.cell hst9 2
            have c1 : W9.cell? ⟨w.heap.size + 1, 1, none⟩ = some (.int .i64 f) := Box.cell hst9 1
            have hRf := Box.frozen hst9 2
            by_cases hf : f = (s.size : Int)
            · have HRF : Hid (headR s.data.toList = .ok ⟨kd, bA' p3, A, bA' u⟩) := by rw [Hid, HR4.out, if_pos hf]
              have k1 : (f == (s.size : Int)) = true := by rw [beq_iff_eq]; exact hf
              have k2 : (f != (s.size : Int)) = false := by rw [bne_eq_false_iff_eq]; exact hf
              have Hf := Lib.hid hf; clear hf
              go_upto_region 21 with (fail)
              have r0 : W9.cell? ⟨w.heap.size + 2, 0, none⟩ = some (.int .i64 kd) := bE.cell 0
              have r1 : W9.cell? ⟨w.heap.size + 2, 1, none⟩ = some (.string (bA' p3)) := bE.cell 1
              have r2 : W9.cell? ⟨w.heap.size + 2, 2, none⟩ = some (.slice ax A.length cx) := bE.cell 2
              have r3 : W9.cell? ⟨w.heap.size + 2, 3, none⟩ = some (.string (bA' u)) := bE.cell 3
              have r4 : W9.cell? ⟨w.heap.size + 2, 4, none⟩ = some (.int .i64 0) := bE.cell 4
              have r5 : W9.cell? ⟨w.heap.size + 2, 5, none⟩ = some (.string ⟨#[]⟩) := bE.cell 5
              have r6 : W9.cell? ⟨w.heap.size + 2, 6, none⟩ = some (.slice none 0 0) := bE.cell 6
              have s0 : W9.cell? ⟨w.heap.size, 0, none⟩ = some (.int .i64 0) := bD.cell 0
              have s1 : W9.cell? ⟨w.heap.size, 1, none⟩ = some (.string ⟨#[]⟩) := bD.cell 1
              have s2 : W9.cell? ⟨w.heap.size, 2, none⟩ = some (.slice none 0 0) := bD.cell 2
              have s3 : W9.cell? ⟨w.heap.size, 3, none⟩ = some (.string ⟨#[]⟩) := bD.cell 3
              have s4 : W9.cell? ⟨w.heap.size, 4, none⟩ = some (.int .i64 0) := bD.cell 4
              have s5 : W9.cell? ⟨w.heap.size, 5, none⟩ = some (.string ⟨#[]⟩) := bD.cell 5
              have s6 : W9.cell? ⟨w.heap.size, 6, none⟩ = some (.slice none 0 0) := bD.cell 6
              have y0 := bD.frozen 0
              have y1 := bD.frozen 1
              have y2 := bD.frozen 2
              have y3 := bD.frozen 3
              have y4 := bD.frozen 4
              have y5 := bD.frozen 5
              have y6 := bD.frozen 6
              go_region
              go_wp2_with fail
              have z := (bD.set7 (.int .i64 kd) (.string (bA' p3)) (.slice ax A.length cx) (.string (bA' u)) (.int .i64 0) (.string ⟨#[]⟩) (.slice none 0 0)).drew
              have kz := below_drew0 (below_set7 kb (Nat.le_refl _) (.int .i64 kd) (.string (bA' p3)) (.slice ax A.length cx) (.string (bA' u)) (.int .i64 0) (.string ⟨#[]⟩) (.slice none 0 0))
              have oz := owns_drew (owns_set7 own bD (by decide) (.int .i64 kd) (.string (bA' p3)) (.slice ax A.length cx) (.string (bA' u)) (.int .i64 0) (.string ⟨#[]⟩) (.slice none 0 0))
              refine bodyPost_ret (v := .tuple #[.agg #[.int .i64 kd, .string (bA' p3), .slice ax A.length cx, .string (bA' u), .int .i64 0, .string ⟨#[]⟩, .slice none 0 0], .int .i64 0]) (resH _ _ z rfl rfl) rfl ?_
              rw [HRF.out]
              exact ⟨_, rfl, owns_mono oz (by omega), kz⟩
            · have HRF : Hid (headR s.data.toList = .error 3) := by rw [Hid, HR4.out, if_neg hf]
              have k1 : (f == (s.size : Int)) = false := by rw [beq_eq_false_iff_ne]; exact hf
              have k2 : (f != (s.size : Int)) = true := by rw [bne_iff_ne]; exact hf
              have Hf := Lib.hid hf; clear hf
              go_upto_region 21 with (fail)
              have bR' : Box (W9.setCell ⟨w.heap.size + 1, 2, none⟩ (.int .i64 3)) (w.heap.size + 1) [.string s, .int .i64 f, .int .i64 3] 233 := Box.set (j := 2) hst9 (.int .i64 3)
              have bE' := bE.setOther (E' := w.heap.size + 1) (j := 2) (by omega) (.int .i64 3)
              have bD' := bD.setOther (E' := w.heap.size + 1) (j := 2) (by omega) (.int .i64 3)
              have kb' := kb.setCell (p := ⟨w.heap.size + 1, 2, none⟩) (show w.heap.size ≤ w.heap.size + 1 by omega) (.int .i64 3)
              have own' := owns_set own ⟨w.heap.size + 1, 2, none⟩ (.int .i64 3) hst9 (by decide)
              clear c1 c2 hRf q0 q1 q2 q3 q4 q5 q6 bE bD kb own hst9
              obtain ⟨W10, hW10⟩ : ∃ W10, W9.setCell ⟨w.heap.size + 1, 2, none⟩ (.int .i64 3) = W10 := ⟨_, rfl⟩
              change Code.wp _ _ _ _ (W9.setCell ⟨w.heap.size + 1, 2, none⟩ (.int .i64 3))
              rw [hW10] at bR' bE' bD' kb' own' ⊢
              clear hW10
              have bE := bE'
              have bD := bD'
              have kb := kb'
              have own := own'
              have c2 : W10.cell? ⟨w.heap.size + 1, 2, none⟩ = some (.int .i64 3) := bR'.cell 2
              clear bE' bD' kb' own'
              have r0 : W10.cell? ⟨w.heap.size + 2, 0, none⟩ = some (.int .i64 kd) := bE.cell 0
              have r1 : W10.cell? ⟨w.heap.size + 2, 1, none⟩ = some (.string (bA' p3)) := bE.cell 1
              have r2 : W10.cell? ⟨w.heap.size + 2, 2, none⟩ = some (.slice ax A.length cx) := bE.cell 2
              have r3 : W10.cell? ⟨w.heap.size + 2, 3, none⟩ = some (.string (bA' u)) := bE.cell 3
              have r4 : W10.cell? ⟨w.heap.size + 2, 4, none⟩ = some (.int .i64 0) := bE.cell 4
              have r5 : W10.cell? ⟨w.heap.size + 2, 5, none⟩ = some (.string ⟨#[]⟩) := bE.cell 5
              have r6 : W10.cell? ⟨w.heap.size + 2, 6, none⟩ = some (.slice none 0 0) := bE.cell 6
              have s0 : W10.cell? ⟨w.heap.size, 0, none⟩ = some (.int .i64 0) := bD.cell 0
              have s1 : W10.cell? ⟨w.heap.size, 1, none⟩ = some (.string ⟨#[]⟩) := bD.cell 1
              have s2 : W10.cell? ⟨w.heap.size, 2, none⟩ = some (.slice none 0 0) := bD.cell 2
              have s3 : W10.cell? ⟨w.heap.size, 3, none⟩ = some (.string ⟨#[]⟩) := bD.cell 3
              have s4 : W10.cell? ⟨w.heap.size, 4, none⟩ = some (.int .i64 0) := bD.cell 4
              have s5 : W10.cell? ⟨w.heap.size, 5, none⟩ = some (.string ⟨#[]⟩) := bD.cell 5
              have s6 : W10.cell? ⟨w.heap.size, 6, none⟩ = some (.slice none 0 0) := bD.cell 6
              have y0 := bD.frozen 0
              have y1 := bD.frozen 1
              have y2 := bD.frozen 2
              have y3 := bD.frozen 3
              have y4 := bD.frozen 4
              have y5 := bD.frozen 5
              have y6 := bD.frozen 6
              go_region
              go_wp2_with fail
              have z := (bD.set7 (.int .i64 kd) (.string (bA' p3)) (.slice ax A.length cx) (.string (bA' u)) (.int .i64 0) (.string ⟨#[]⟩) (.slice none 0 0)).drew
              have kz := below_drew0 (below_set7 kb (Nat.le_refl _) (.int .i64 kd) (.string (bA' p3)) (.slice ax A.length cx) (.string (bA' u)) (.int .i64 0) (.string ⟨#[]⟩) (.slice none 0 0))
              have oz := owns_drew (owns_set7 own bD (by decide) (.int .i64 kd) (.string (bA' p3)) (.slice ax A.length cx) (.string (bA' u)) (.int .i64 0) (.string ⟨#[]⟩) (.slice none 0 0))
              refine bodyPost_ret (v := .tuple #[.agg #[.int .i64 kd, .string (bA' p3), .slice ax A.length cx, .string (bA' u), .int .i64 0, .string ⟨#[]⟩, .slice none 0 0], .int .i64 3]) (resH _ _ z rfl rfl) rfl ?_
              rw [HRF.out]
              exact ⟨by decide, _, _, _, _, _, _, rfl, kz⟩
end Go.Proofs.YtpkapcijgldhhaaGreatDoor
