/-
  The walk of the reference's Decode.
-/
import Derived.Test.YtpkapcijgldhhaaGreatDoorRdH
import Derived.Test.YtpkapcijgldhhaaGreatDoorRChk
import Derived.Test.YtpkapcijgldhhaaGreatDoorEntMore
namespace Go.Proofs.YtpkapcijgldhhaaGreatDoor
open Go.RowKit Go.Shelf

theorem decA_decR (s : ByteArray) (a : Int) : decA s a = dc1 s.data.toList (txt s.data.toList a) := by
  rw [← decR_steps, decA]
  split
  · rename_i h
    have h2 : txt s.data.toList a = .error 1 := by
      unfold txt
      rw [rdStr_arg (by have hl : s.data.toList.length = s.size := rfl; omega)]
      rfl
    rw [decR_steps, h2]; rfl
  · rfl
theorem dc3_next (l : List UInt8) (x : Hd) (r : Except Int (Int × Int)) : dc3 l x r = dc4 l x (stNum r) (stAt r >>= txt l) := by cases r <;> rfl
theorem dc4_next (l : List UInt8) (x : Hd) (z : Int) (r : Except Int (List UInt8 × Int)) : dc4 l x z r = dc5 l x z (stStr r) (stAt r >>= cnt 65536 l) := by cases r <;> rfl
theorem rowEx_next {l : List UInt8} {b0 b : Int} {k M : Nat} {X : List Ex} {r5 r6 r7 : Except Int (Int × Int)} (h : rowR (exR l) b0 k = .ok (X, b)) (hk : k < M) (h5 : nmb l b = r5) (h6 : (stAt r5 >>= nmb l) = r6) (h7 : (stAt r6 >>= nmb l) = r7) :
    RowSt (exR l) b0 M (k + 1) (X ++ [⟨stNum r5, stNum r6, stNum r7⟩]) (stAt r7) := by
  rcases r5 with x | ⟨u, b5⟩
  · subst h6; subst h7; exact rowR_stop h (exR_e1 h5) M hk
  · change nmb l b5 = r6 at h6
    rcases r6 with x | ⟨v, b6⟩
    · subst h7; exact rowR_stop h (exR_e2 h5 h6) M hk
    · change nmb l b6 = r7 at h7
      rcases r7 with x | ⟨t, b7⟩
      · exact rowR_stop h (exR_e3 h5 h6 h7) M hk
      · exact rowR_next h (exR_o h5 h6 h7)
/-- what stands behind the row of extents -/
def dcE (x : Hd) (z : Int) (g : List UInt8) (X : List Ex) : Except Int Int → Except Int (En × Int)
  | .ok b => dc7 (enOf x z g X) b
  | .error e => .error e
theorem dc6_end {l : List UInt8} {x : Hd} {z : Int} {g : List UInt8} {b0 : Int} {M : Nat} {X : List Ex} {st : Except Int Int} (h : RowSt (exR l) b0 M M X st) : dc6 x z g (rowR (exR l) b0 M) = dcE x z g X st := by
  cases st with
  | ok b => rw [show rowR (exR l) b0 M = .ok (X, b) from h]; rfl
  | error x => rw [show rowR (exR l) b0 M = .error x from h]; rfl
theorem rowStE_err {l : List UInt8} {b0 : Int} {M k : Nat} {X : List Ex} {x : Int} (h : RowSt (exR l) b0 M k X (.error x)) : RowSt (exR l) b0 M M X (.error x) := h
theorem resD {W : World} {D : Nat} {v0 v1 v2 v3 v4 v5 v6 : Value} (tmps : Array Value) (n x : Int) (b : Box W D [v0, v1, v2, v3, v4, v5, v6] 109) (h4 : tmps[4]?.getD undef = .pointer (some ⟨D, 0, none⟩)) (h5 : tmps[5]?.getD undef = .int .i64 n) (h6 : tmps[6]?.getD undef = .int .i64 x) :
    (results Tryz.f154 tmps).run Tryz.prog W = .ok (.tuple #[.agg #[v0, v1, v2, v3, v4, v5, v6], .int .i64 n, .int .i64 x]) W := by
  have c0 : W.cell? ⟨D, 0, none⟩ = some v0 := b.cell 0
  have c1 : W.cell? ⟨D, 1, none⟩ = some v1 := b.cell 1
  have c2 : W.cell? ⟨D, 2, none⟩ = some v2 := b.cell 2
  have c3 : W.cell? ⟨D, 3, none⟩ = some v3 := b.cell 3
  have c4 : W.cell? ⟨D, 4, none⟩ = some v4 := b.cell 4
  have c5 : W.cell? ⟨D, 5, none⟩ = some v5 := b.cell 5
  have c6 : W.cell? ⟨D, 6, none⟩ = some v6 := b.cell 6
  simp [results, Tryz.results154, go_sem, h4, h5, h6, c0, c1, c2, c3, c4, c5, c6]
theorem box1' (w : World) (c1 : List Value) (T1 : TypeId) : Below w.heap.size w (w.alloc (.cells c1.toArray T1)) ∧ Box (w.alloc (.cells c1.toArray T1)) w.heap.size c1 T1 :=
  ⟨(below_refl w).alloc (Nat.le_refl _) _, Box.new w c1 T1⟩
theorem boxes2' (w : World) (c1 c2 : List Value) (T1 T2 : TypeId) :
    Below w.heap.size w ((w.alloc (.cells c1.toArray T1)).alloc (.cells c2.toArray T2)) ∧ Box ((w.alloc (.cells c1.toArray T1)).alloc (.cells c2.toArray T2)) w.heap.size c1 T1 ∧ Box ((w.alloc (.cells c1.toArray T1)).alloc (.cells c2.toArray T2)) (w.heap.size + 1) c2 T2 := by
  have h1 := Box.new w c1 T1
  have s1 := size_one w (.cells c1.toArray T1)
  have k1 : Below w.heap.size w (w.alloc (.cells c1.toArray T1)) := (below_refl w).alloc (Nat.le_refl _) _
  have h2 := Box.new (w.alloc (.cells c1.toArray T1)) c2 T2
  have k2 : Below (w.alloc (.cells c1.toArray T1)).heap.size (w.alloc (.cells c1.toArray T1)) ((w.alloc (.cells c1.toArray T1)).alloc (.cells c2.toArray T2)) := (below_refl _).alloc (Nat.le_refl _) _
  rw [s1] at h2
  exact ⟨step2 k1 k2, h1.below k2, h2⟩
theorem owns_setB {w : World} {base : Nat} {e : TypeId} {size m c n : Nat} {ax : Option Addr} {xs : List Value} (h : w.ownsRow base e size (.slice ax m c) n xs) {F : Nat} (hp : ∀ p, ax = some p → p.block < F) (j : Nat) (v : Value) : (w.setCell ⟨F, j, none⟩ v).ownsRow base e size (.slice ax m c) n xs := by
  refine ⟨h.1, h.2.imp id fun ⟨g, cap, cur, e1, e2, hg, r⟩ => ⟨g, cap, cur, e1, e2, ?_, r⟩⟩
  have hne : F ≠ g := by
    cases e1
    have := hp _ rfl
    simp only at this
    omega
  simp only [World.setCell, Array.getElem?_modify]
  rw [if_neg hne]; exact hg
theorem Box.froz7 {W : World} {D : Nat} {cs : List Value} {T : TypeId} (h : Box W D cs T) : W.frozen? ⟨D, 0, none⟩ = false ∧ W.frozen? ⟨D, 1, none⟩ = false ∧ W.frozen? ⟨D, 2, none⟩ = false ∧ W.frozen? ⟨D, 3, none⟩ = false ∧ W.frozen? ⟨D, 4, none⟩ = false ∧ W.frozen? ⟨D, 5, none⟩ = false ∧ W.frozen? ⟨D, 6, none⟩ = false :=
  ⟨h.frozen 0, h.frozen 1, h.frozen 2, h.frozen 3, h.frozen 4, h.frozen 5, h.frozen 6⟩
/-- the state behind the head: an error, or a head that is read -/
def AftH (s : ByteArray) (a : Int) (base E : Nat) (st : Except Int Int) (W : World) : Prop :=
  (∃ x k p ax m cx t, st = .error x ∧ decA s a = .error x ∧ Box W E [.int .i64 k, .string p, .slice ax m cx, .string t, .int .i64 0, .string ⟨#[]⟩, .slice none 0 0] 109) ∨
  (∃ b h y ax cx, st = .ok b ∧ headR h = .ok y ∧ h.length ≤ 1000000 ∧ decA s a = dc3 s.data.toList y (nmb s.data.toList b) ∧ Box W E [.int .i64 y.kind, .string y.path, .slice ax (List.length y.attrs) cx, .string y.target, .int .i64 0, .string ⟨#[]⟩, .slice none 0 0] 109 ∧
    OwnG base 192 2 At.vals W (.slice ax y.attrs.length cx) y.attrs)
set_option maxRecDepth 100000 in
set_option maxHeartbeats 4000000 in
theorem rdecode_walk (s : ByteArray) (a : Int) (w : World) (hs : s.size ≤ 1000000) (_hal : -9223372036854775808 ≤ a) (_hau : a ≤ 9223372036854775807) : Calls Tryz.prog 154 #[.string s, .int .i64 a] w (DecQ (decA s a) w) := by
  have HR := Lib.hid (decA_decR s a)
  have bbx := boxes2' w zeroE [.string s, .int .i64 a, .int .i64 0] 109 233
  obtain ⟨kb0, bD, bR⟩ := bbx
  change Below _ _ ((w.alloc (.cells #[.int .i64 0, .string ⟨#[]⟩, .slice none 0 0, .string ⟨#[]⟩, .int .i64 0, .string ⟨#[]⟩, .slice none 0 0] 109)).alloc (.cells #[.string s, .int .i64 a, .int .i64 0] 233)) at kb0
  change Box ((w.alloc (.cells #[.int .i64 0, .string ⟨#[]⟩, .slice none 0 0, .string ⟨#[]⟩, .int .i64 0, .string ⟨#[]⟩, .slice none 0 0] 109)).alloc (.cells #[.string s, .int .i64 a, .int .i64 0] 233)) _ _ _ at bD bR
  go_enter Tryz.func154, Tryz.ntmps154
  go_upto_region 2 with (fail)
  obtain ⟨W0, hW0⟩ : ∃ W0, (w.alloc (.cells #[.int .i64 0, .string ⟨#[]⟩, .slice none 0 0, .string ⟨#[]⟩, .int .i64 0, .string ⟨#[]⟩, .slice none 0 0] 109)).alloc (.cells #[.string s, .int .i64 a, .int .i64 0] 233) = W0 := ⟨_, rfl⟩
  change Code.wp _ _ _ _ ((w.alloc (.cells #[.int .i64 0, .string ⟨#[]⟩, .slice none 0 0, .string ⟨#[]⟩, .int .i64 0, .string ⟨#[]⟩, .slice none 0 0] 109)).alloc (.cells #[.string s, .int .i64 a, .int .i64 0] 233))
  rw [hW0] at kb0 bD bR ⊢
  clear hW0
  have KB := Lib.hid (show ∀ W W', Below w.heap.size w W → Keep (w.heap.size + 1) W W' → Below w.heap.size w W' from fun W W' h1 h2 => h1.trans (h2.1.mono (Nat.le_succ _)))
  have KD := Lib.hid (show ∀ W W', Box W w.heap.size zeroE 109 → Keep (w.heap.size + 1) W W' → Box W' w.heap.size zeroE 109 from fun W W' h1 h2 => h1.below' h2.1 (Nat.lt_succ_self _))
  have HC := Lib.hid (rtext_any s (w.heap.size + 1) (.ok a) W0 bR hs)
  change Hid (Calls _ _ _ _ (TxtR (txt s.data.toList a) _ _ _)) at HC
  have H1 : Hid (∀ h b, txt s.data.toList a = .ok (h, b) → h.length ≤ 1000000) := Lib.hid fun h b hx => by
    have q := txt_len hx
    have q2 : s.data.toList.length = s.size := rfl
    omega
  have hsz0 : w.heap.size + 1 < W0.heap.size := bR.lt
  clear bR
  generalize txt s.data.toList a = r1 at *
  go_wp2_with fail
  refine HC.out.mono ?_
  rintro e W1 ⟨rfl, hst1, hk1⟩
  have kb1 := KB.out _ _ kb0 hk1
  have bD1 := KD.out _ _ bD hk1
  have hsz1 : w.heap.size + 1 < W1.heap.size := Nat.lt_of_lt_of_le hsz0 hk1.1.size
  clear kb0 bD hk1 HC hsz0
  obtain ⟨u1, hu1⟩ : ∃ u1, stStr r1 = u1 := ⟨_, rfl⟩
  rw [hu1]
  have Hu1 := Lib.hid hu1; clear hu1
  obtain ⟨hb2, bE⟩ := box1' W1 zeroE 109
  change Below _ _ (W1.alloc (.cells #[.int .i64 0, .string ⟨#[]⟩, .slice none 0 0, .string ⟨#[]⟩, .int .i64 0, .string ⟨#[]⟩, .slice none 0 0] 109)) at hb2
  change Box (W1.alloc (.cells #[.int .i64 0, .string ⟨#[]⟩, .slice none 0 0, .string ⟨#[]⟩, .int .i64 0, .string ⟨#[]⟩, .slice none 0 0] 109)) _ _ _ at bE
  go_upto_region 4 with (fail)
  have kb2 := step2 kb1 hb2
  have bD2 := bD1.below hb2
  have hst2 := hst1.keepE hb2 hsz1
  obtain ⟨W2, hW2⟩ : ∃ W2, W1.alloc (.cells #[.int .i64 0, .string ⟨#[]⟩, .slice none 0 0, .string ⟨#[]⟩, .int .i64 0, .string ⟨#[]⟩, .slice none 0 0] 109) = W2 := ⟨_, rfl⟩
  change Code.wp _ _ _ _ (W1.alloc (.cells #[.int .i64 0, .string ⟨#[]⟩, .slice none 0 0, .string ⟨#[]⟩, .int .i64 0, .string ⟨#[]⟩, .slice none 0 0] 109))
  rw [hW2] at kb2 bD2 hst2 bE hb2 ⊢
  have hEr : w.heap.size + 1 < W1.heap.size := hsz1
  clear hW2 hst1 kb1 bD1 hsz1 hb2
  generalize W1.heap.size = E at *
  unfold zeroE at bE
  obtain ⟨c2, -⟩ := hst2.err
  obtain ⟨eb, heb⟩ : ∃ eb, (errOf (stAt r1) == 0) = eb := ⟨_, rfl⟩
  go_upto_if 25 with (fail)
  have Heb := Lib.hid heb; clear heb
  go_cut [10, 11] from 21 (fun _ _ wc => ∃ st, RSt wc (w.heap.size + 1) s st ∧ Box wc w.heap.size zeroE 109 ∧ Below w.heap.size w wc ∧ Hid (AftH s a (E + 1) E st wc))
  case first =>
    rcases r1 with x | ⟨h, b⟩
    · have hx : x ≠ 0 := hst2.1
      have hebf : eb = false := by rw [← Heb.out]; show (x == 0) = false; rw [beq_eq_false_iff_ne]; exact hx
      have HA : Hid (AftH s a (E + 1) E (.error x) W2) := Lib.hid (Or.inl ⟨x, 0, ⟨#[]⟩, none, 0, 0, ⟨#[]⟩, rfl, HR.out, bE⟩)
      subst hebf
      clear hx
      go_wp2_with fail
      go_meet
      exact ⟨.error x, hst2, bD2, kb2, HA⟩
    · have hebt : eb = true := by rw [← Heb.out]; rfl
      subst hebt
      have hu : u1 = h := Hu1.out.symm
      subst hu
      have hlen := H1.out u1 b rfl
      have HH := rhead_walk (bA' u1) W2 hlen
      rw [bA'_list] at HH
      have HR2 : Hid (decA s a = dc2 s.data.toList b (headR u1)) := HR.out
      have hl1 := Lib.hid hlen
      have bR2 : Box W2 (w.heap.size + 1) [.string s, .int .i64 b, .int .i64 0] 233 := hst2
      clear hlen H1 Hu1 HR c2
      rcases hx : headR u1 with x | y
      · rw [hx] at HH
        replace HH := Lib.hid HH
        have HR3 : Hid (decA s a = .error x) := by rw [Hid, HR2.out, hx]; rfl
        clear hx
        go_wp2_with fail
        refine HH.out.mono ?_
        rintro e W3 ⟨hx0, k, p, ax, m, cx, t, rfl, hb3⟩
        have Hx0 := Lib.hid hx0; clear hx0
        have kb3 := step2 kb2 hb3
        have bD3 := bD2.below hb3
        have bR3 := bR2.below hb3
        have bE3 := bE.below hb3
        obtain ⟨hb4, bF⟩ := box1' W3 [.int .i64 k, .string p, .slice ax m cx, .string t, .int .i64 0, .string ⟨#[]⟩, .slice none 0 0] 109
        change Below _ _ (W3.alloc (.cells #[.int .i64 k, .string p, .slice ax m cx, .string t, .int .i64 0, .string ⟨#[]⟩, .slice none 0 0] 109)) at hb4
        change Box (W3.alloc (.cells #[.int .i64 k, .string p, .slice ax m cx, .string t, .int .i64 0, .string ⟨#[]⟩, .slice none 0 0] 109)) _ _ _ at bF
        clear HH kb2 bD2 bR2 bE hb3 hst2
        go_upto_region 6 with (fail)
        have kb4 := step2 kb3 hb4
        have bD4 := bD3.below hb4
        have bR4 := bR3.below hb4
        have bE4 := bE3.below hb4
        have hEF : E < W3.heap.size := bE3.lt
        obtain ⟨W4, hW4⟩ : ∃ W4, W3.alloc (.cells #[.int .i64 k, .string p, .slice ax m cx, .string t, .int .i64 0, .string ⟨#[]⟩, .slice none 0 0] 109) = W4 := ⟨_, rfl⟩
        change Code.wp _ _ _ _ (W3.alloc (.cells #[.int .i64 k, .string p, .slice ax m cx, .string t, .int .i64 0, .string ⟨#[]⟩, .slice none 0 0] 109))
        rw [hW4] at kb4 bD4 bR4 bE4 bF ⊢
        clear hW4 kb3 bD3 bR3 bE3 hb4
        generalize W3.heap.size = F at *
        obtain ⟨c0, c1, c2, c3, c4, c5, c6⟩ := bF.cells7
        obtain ⟨e0, e1, e2, e3, e4, e5, e6⟩ := bE4.cells7
        obtain ⟨y0, y1, y2, y3, y4, y5, y6⟩ := bE4.froz7
        have r2 : W4.cell? ⟨w.heap.size + 1, 2, none⟩ = some (.int .i64 0) := bR4.cell 2
        have g2 := bR4.frozen 2
        go_wp2_with fail
        go_meet
        have bE5 := (bE4.set7 (.int .i64 k) (.string p) (.slice ax m cx) (.string t) (.int .i64 0) (.string ⟨#[]⟩) (.slice none 0 0)).setOther (j := 2) (E' := w.heap.size + 1) (by omega) (.int .i64 x)
        have bR5 := (bR4.other7 (E := E) (by omega) (.int .i64 k) (.string p) (.slice ax m cx) (.string t) (.int .i64 0) (.string ⟨#[]⟩) (.slice none 0 0)).set (j := 2) (.int .i64 x)
        have bD5 := (bD4.other7 (E := E) (by omega) (.int .i64 k) (.string p) (.slice ax m cx) (.string t) (.int .i64 0) (.string ⟨#[]⟩) (.slice none 0 0)).setOther (j := 2) (E' := w.heap.size + 1) (by omega) (.int .i64 x)
        have kb5 := (below_set7 kb4 (show w.heap.size ≤ E by omega) (.int .i64 k) (.string p) (.slice ax m cx) (.string t) (.int .i64 0) (.string ⟨#[]⟩) (.slice none 0 0)).setCell (p := ⟨w.heap.size + 1, 2, none⟩) (show w.heap.size ≤ w.heap.size + 1 by omega) (.int .i64 x)
        exact ⟨.error x, ⟨Hx0.out, b, bR5⟩, bD5, kb5, Lib.hid (Or.inl ⟨x, k, p, ax, m, cx, t, rfl, HR3.out, bE5⟩)⟩
      · rw [hx] at HH
        replace HH := Lib.hid HH
        have HR3 : Hid (decA s a = dc3 s.data.toList y (nmb s.data.toList b)) := by rw [Hid, HR2.out, hx]; rfl
        have Hx := Lib.hid hx
        clear hx
        go_wp2_with fail
        refine HH.out.mono ?_
        rintro e W3 ⟨va, rfl, hA, hb3⟩
        obtain ⟨ax, cx, rfl⟩ := (OwnG.row (n := 2) (f := At.vals) (d := at0) (fun _ => rfl) hA).form
        have hE2 : E + 1 ≤ W2.heap.size := bE.lt
        have kb3 := step2 kb2 hb3
        have bD3 := bD2.below hb3
        have bR3 := bR2.below hb3
        have bE3 := bE.below hb3
        obtain ⟨hb4, bF⟩ := box1' W3 [.int .i64 y.kind, .string y.path, .slice ax y.attrs.length cx, .string y.target, .int .i64 0, .string ⟨#[]⟩, .slice none 0 0] 109
        change Below _ _ (W3.alloc (.cells #[.int .i64 y.kind, .string y.path, .slice ax y.attrs.length cx, .string y.target, .int .i64 0, .string ⟨#[]⟩, .slice none 0 0] 109)) at hb4
        change Box (W3.alloc (.cells #[.int .i64 y.kind, .string y.path, .slice ax y.attrs.length cx, .string y.target, .int .i64 0, .string ⟨#[]⟩, .slice none 0 0] 109)) _ _ _ at bF
        clear HH kb2 bD2 bR2 bE hb3 hst2
        go_upto_region 6 with (fail)
        have kb4 := step2 kb3 hb4
        have bD4 := bD3.below hb4
        have bR4 := bR3.below hb4
        have bE4 := bE3.below hb4
        have own4 := owns_mono (owns_below hA hb4) hE2
        have hEF : E < W3.heap.size := bE3.lt
        obtain ⟨W4, hW4⟩ : ∃ W4, W3.alloc (.cells #[.int .i64 y.kind, .string y.path, .slice ax y.attrs.length cx, .string y.target, .int .i64 0, .string ⟨#[]⟩, .slice none 0 0] 109) = W4 := ⟨_, rfl⟩
        change Code.wp _ _ _ _ (W3.alloc (.cells #[.int .i64 y.kind, .string y.path, .slice ax y.attrs.length cx, .string y.target, .int .i64 0, .string ⟨#[]⟩, .slice none 0 0] 109))
        rw [hW4] at kb4 bD4 bR4 bE4 bF own4 ⊢
        clear hW4 kb3 bD3 bR3 bE3 hb4 hA hE2
        generalize W3.heap.size = F at *
        obtain ⟨c0, c1, c2, c3, c4, c5, c6⟩ := bF.cells7
        obtain ⟨e0, e1, e2, e3, e4, e5, e6⟩ := bE4.cells7
        obtain ⟨y0, y1, y2, y3, y4, y5, y6⟩ := bE4.froz7
        have r2 : W4.cell? ⟨w.heap.size + 1, 2, none⟩ = some (.int .i64 0) := bR4.cell 2
        have g2 := bR4.frozen 2
        go_wp2_with fail
        go_meet
        have bE5 := (bE4.set7 (.int .i64 y.kind) (.string y.path) (.slice ax y.attrs.length cx) (.string y.target) (.int .i64 0) (.string ⟨#[]⟩) (.slice none 0 0)).setOther (j := 2) (E' := w.heap.size + 1) (by omega) (.int .i64 0)
        have bR5 := (bR4.other7 (E := E) (by omega) (.int .i64 y.kind) (.string y.path) (.slice ax y.attrs.length cx) (.string y.target) (.int .i64 0) (.string ⟨#[]⟩) (.slice none 0 0)).set (j := 2) (.int .i64 0)
        have bD5 := (bD4.other7 (E := E) (by omega) (.int .i64 y.kind) (.string y.path) (.slice ax y.attrs.length cx) (.string y.target) (.int .i64 0) (.string ⟨#[]⟩) (.slice none 0 0)).setOther (j := 2) (E' := w.heap.size + 1) (by omega) (.int .i64 0)
        have kb5 := (below_set7 kb4 (show w.heap.size ≤ E by omega) (.int .i64 y.kind) (.string y.path) (.slice ax y.attrs.length cx) (.string y.target) (.int .i64 0) (.string ⟨#[]⟩) (.slice none 0 0)).setCell (p := ⟨w.heap.size + 1, 2, none⟩) (show w.heap.size ≤ w.heap.size + 1 by omega) (.int .i64 0)
        have own5 := owns_set (owns_set7 own4 bE4 (by decide) (.int .i64 y.kind) (.string y.path) (.slice ax y.attrs.length cx) (.string y.target) (.int .i64 0) (.string ⟨#[]⟩) (.slice none 0 0)) ⟨w.heap.size + 1, 2, none⟩ (.int .i64 0) (bR4.other7 (E := E) (by omega) (.int .i64 y.kind) (.string y.path) (.slice ax y.attrs.length cx) (.string y.target) (.int .i64 0) (.string ⟨#[]⟩) (.slice none 0 0)) (by decide)
        exact ⟨.ok b, bR5, bD5, kb5, Lib.hid (Or.inr ⟨b, u1, y, ax, cx, rfl, Hx.out, hl1.out, HR3.out, bE5, own5⟩)⟩
  case rest =>
    obtain ⟨st, hst3, bD3, kb3, HA⟩ := hcut
    clear hst2 kb2 bD2 bE c2 Heb HR H1 Hu1
    rcases HA.out with h | h
    · clear HA
      obtain ⟨x, k, p, ax, m, cx, t, rfl, hdec, bE3⟩ := h
      have HRx := Lib.hid hdec; clear hdec
      have HC := Lib.hid (rnum_any s (w.heap.size + 1) (.error x) wc hst3 hs)
      change Hid (Calls _ _ _ _ (NumR (.error x) _ _ _)) at HC
      go_wp2_with fail
      refine HC.out.mono ?_
      rintro e W4 ⟨rfl, hst4, hk4⟩
      have kb4 := KB.out _ _ kb3 hk4
      have bD4 := KD.out _ _ bD3 hk4
      have bE4 := bE3.keep hk4 hEr
      have e4 : W4.cell? ⟨E, 4, none⟩ = some (.int .i64 0) := bE4.cell 4
      have y4 := bE4.frozen 4
      clear HC kb3 bD3 bE3 hk4 hst3
      go_upto_region 9 with (fail)
      have hst5 := hst4.setOther (E := E) (j := 4) (by omega) (.int .i64 (stNum (.error x)))
      have bD5 := bD4.setOther (E' := E) (j := 4) (by omega) (.int .i64 (stNum (.error x)))
      have bE5 := bE4.set (j := 4) (.int .i64 (stNum (.error x)))
      have kb5 := kb4.setCell (p := ⟨E, 4, none⟩) (show w.heap.size ≤ E by omega) (.int .i64 (stNum (.error x)))
      simp only [List.set_cons_zero, List.set_cons_succ] at bE5
      obtain ⟨W5, hW5⟩ : ∃ W5, W4.setCell ⟨E, 4, none⟩ (.int .i64 (stNum (.error x))) = W5 := ⟨_, rfl⟩
      change Code.wp _ _ _ _ (W4.setCell ⟨E, 4, none⟩ (.int .i64 (stNum (.error x))))
      rw [hW5] at hst5 bD5 bE5 kb5 ⊢
      clear hW5 e4 y4 hst4 kb4 bD4 bE4
      have HC := Lib.hid (rtext_any s (w.heap.size + 1) (.error x) W5 hst5 hs)
      change Hid (Calls _ _ _ _ (TxtR (.error x) _ _ _)) at HC
      go_wp2_with fail
      refine HC.out.mono ?_
      rintro e W6 ⟨rfl, hst6, hk6⟩
      have kb6 := KB.out _ _ kb5 hk6
      have bD6 := KD.out _ _ bD5 hk6
      have bE6 := bE5.keep hk6 hEr
      have e5 : W6.cell? ⟨E, 5, none⟩ = some (.string ⟨#[]⟩) := bE6.cell 5
      have y5 := bE6.frozen 5
      clear HC kb5 bD5 bE5 hk6 hst5
      go_upto_region 10 with (fail)
      have hst7 := hst6.setOther (E := E) (j := 5) (by omega) (.string (bA' (stStr (.error x))))
      have bD7 := bD6.setOther (E' := E) (j := 5) (by omega) (.string (bA' (stStr (.error x))))
      have kb7 := kb6.setCell (p := ⟨E, 5, none⟩) (show w.heap.size ≤ E by omega) (.string (bA' (stStr (.error x))))
      obtain ⟨W7, hW7⟩ : ∃ W7, W6.setCell ⟨E, 5, none⟩ (.string (bA' (stStr (.error x)))) = W7 := ⟨_, rfl⟩
      change Code.wp _ _ _ _ (W6.setCell ⟨E, 5, none⟩ (.string (bA' (stStr (.error x)))))
      rw [hW7] at hst7 bD7 kb7 ⊢
      clear hW7 e5 y5 hst6 kb6 bD6 bE6
      have HC := Lib.hid (rcnt_any s (w.heap.size + 1) 65536 (.error x) W7 hst7 hs)
      change Hid (Calls _ _ _ _ (NumR (.error x) _ _ _)) at HC
      go_wp2_with fail
      refine HC.out.mono ?_
      rintro e W8 ⟨rfl, hst8, hk8⟩
      have kb8 := KB.out _ _ kb7 hk8
      have bD8 := KD.out _ _ bD7 hk8
      have r2 : W8.cell? ⟨w.heap.size + 1, 2, none⟩ = some (.int .i64 x) := hst8.err.1
      have hx : x ≠ 0 := hst8.1
      have q1 : (x == 0) = false := by rw [beq_eq_false_iff_ne]; exact hx
      have q2 : (x != 0) = true := by rw [bne_iff_ne]; exact hx
      have n0 : stNum (.error x) = 0 := rfl
      rw [n0]
      clear HC kb7 bD7 hk8 hst7 hx n0
      go_wp2_with fail
      refine wp_loop_rounds 1 ?_; rw [rounds_succ]
      go_upto_region 22 with (fail)

      unfold zeroE at bD8
      obtain ⟨d0, d1, d2, d3, d4, d5, d6⟩ := Box.cells7 bD8
      obtain ⟨z0, z1, z2, z3, z4, z5, z6⟩ := Box.froz7 bD8
      go_region
      go_wp2_with fail
      have zz := (Box.set7 bD8 (.int .i64 0) (.string ⟨#[]⟩) (.slice none 0 0) (.string ⟨#[]⟩) (.int .i64 0) (.string ⟨#[]⟩) (.slice none 0 0)).drew
      have kz := below_drew0 (below_set7 kb8 (Nat.le_refl _) (.int .i64 0) (.string ⟨#[]⟩) (.slice none 0 0) (.string ⟨#[]⟩) (.int .i64 0) (.string ⟨#[]⟩) (.slice none 0 0))
      refine bodyPost_ret (v := .tuple #[.agg #[.int .i64 0, .string ⟨#[]⟩, .slice none 0 0, .string ⟨#[]⟩, .int .i64 0, .string ⟨#[]⟩, .slice none 0 0], .int .i64 0, .int .i64 x]) (resD _ _ _ zz rfl rfl rfl) rfl ?_
      rw [HRx.out]
      exact ⟨rfl, kz⟩
    · clear HA
      obtain ⟨b, h, y, ax, cx, rfl, hh, hhl, hdec, bE3, own3⟩ := h
      have HR3 := Lib.hid hdec; clear hdec
      have HK1 := Lib.hid hh; clear hh
      have HL1 := Lib.hid hhl; clear hhl
      have HC := Lib.hid (rnum_any s (w.heap.size + 1) (.ok b) wc hst3 hs)
      change Hid (Calls _ _ _ _ (NumR (nmb s.data.toList b) _ _ _)) at HC
      obtain ⟨r3, hr3⟩ : ∃ r3, nmb s.data.toList b = r3 := ⟨_, rfl⟩
      rw [hr3] at HC
      rw [hr3, Hid, dc3_next] at HR3
      replace HR3 := Lib.hid HR3
      have HK2 := Lib.hid hr3; clear hr3
      clear hst3
      go_wp2_with fail
      refine HC.out.mono ?_
      rintro e W4 ⟨rfl, hst4, hk4⟩
      have kb4 := KB.out _ _ kb3 hk4
      have bD4 := KD.out _ _ bD3 hk4
      have bE4 := bE3.keep hk4 hEr
      have own4 := owns_keep own3 hk4 (by omega)
      obtain ⟨z, hz⟩ : ∃ z, stNum r3 = z := ⟨_, rfl⟩
      rw [hz]
      rw [hz] at HR3
      have Hz := Lib.hid hz; clear hz
      have e4 : W4.cell? ⟨E, 4, none⟩ = some (.int .i64 0) := bE4.cell 4
      have y4 := bE4.frozen 4
      clear HC kb3 bD3 bE3 hk4 own3
      go_upto_region 9 with (fail)
      have hst5 := hst4.setOther (E := E) (j := 4) (by omega) (.int .i64 z)
      have bD5 := bD4.setOther (E' := E) (j := 4) (by omega) (.int .i64 z)
      have bE5 := bE4.set (j := 4) (.int .i64 z)
      have kb5 := kb4.setCell (p := ⟨E, 4, none⟩) (show w.heap.size ≤ E by omega) (.int .i64 z)
      have own5 := owns_set own4 ⟨E, 4, none⟩ (.int .i64 z) bE4 (by decide)
      simp only [List.set_cons_zero, List.set_cons_succ] at bE5
      obtain ⟨W5, hW5⟩ : ∃ W5, W4.setCell ⟨E, 4, none⟩ (.int .i64 z) = W5 := ⟨_, rfl⟩
      change Code.wp _ _ _ _ (W4.setCell ⟨E, 4, none⟩ (.int .i64 z))
      rw [hW5] at hst5 bD5 bE5 kb5 own5 ⊢
      clear hW5 e4 y4 hst4 kb4 bD4 bE4 own4
      have HC := Lib.hid (rtext_any s (w.heap.size + 1) (stAt r3) W5 hst5 hs)
      obtain ⟨r4, hr4⟩ : ∃ r4, (stAt r3 >>= txt s.data.toList) = r4 := ⟨_, rfl⟩
      rw [hr4] at HC
      rw [hr4, Hid, dc4_next] at HR3
      replace HR3 := Lib.hid HR3
      have HK3 := Lib.hid hr4; clear hr4
      clear hst5
      go_wp2_with fail
      refine HC.out.mono ?_
      rintro e W6 ⟨rfl, hst6, hk6⟩
      have kb6 := KB.out _ _ kb5 hk6
      have bD6 := KD.out _ _ bD5 hk6
      have bE6 := bE5.keep hk6 hEr
      have own6 := owns_keep own5 hk6 (by omega)
      obtain ⟨g, hg⟩ : ∃ g, stStr r4 = g := ⟨_, rfl⟩
      rw [hg]
      rw [hg] at HR3
      have Hg := Lib.hid hg; clear hg
      have e5 : W6.cell? ⟨E, 5, none⟩ = some (.string ⟨#[]⟩) := bE6.cell 5
      have y5 := bE6.frozen 5
      clear HC kb5 bD5 bE5 hk6 own5
      go_upto_region 10 with (fail)
      have hst7 := hst6.setOther (E := E) (j := 5) (by omega) (.string (bA' g))
      have bD7 := bD6.setOther (E' := E) (j := 5) (by omega) (.string (bA' g))
      have bE7 := bE6.set (j := 5) (.string (bA' g))
      have kb7 := kb6.setCell (p := ⟨E, 5, none⟩) (show w.heap.size ≤ E by omega) (.string (bA' g))
      have own7 := owns_set own6 ⟨E, 5, none⟩ (.string (bA' g)) bE6 (by decide)
      simp only [List.set_cons_zero, List.set_cons_succ] at bE7
      obtain ⟨W7, hW7⟩ : ∃ W7, W6.setCell ⟨E, 5, none⟩ (.string (bA' g)) = W7 := ⟨_, rfl⟩
      change Code.wp _ _ _ _ (W6.setCell ⟨E, 5, none⟩ (.string (bA' g)))
      rw [hW7] at hst7 bD7 bE7 kb7 own7 ⊢
      clear hW7 e5 y5 hst6 kb6 bD6 bE6 own6
      have HC := Lib.hid (rcnt_any s (w.heap.size + 1) 65536 (stAt r4) W7 hst7 hs)
      obtain ⟨r5, hr5⟩ : ∃ r5, (stAt r4 >>= cnt 65536 s.data.toList) = r5 := ⟨_, rfl⟩
      rw [hr5] at HC HR3
      have HOK : Hid (∀ n b4 X f, r5 = .ok (n, b4) → (0 ≤ n ∧ n ≤ 65536) ∧ (rowR (exR s.data.toList) b4 n.toNat = .ok (X, f) → EnOk (enOf y z g X))) := Lib.hid fun n b4 X f he => by
        subst he
        rcases r4 with x4 | ⟨g', b3⟩
        · cases hr5
        · change cnt 65536 s.data.toList b3 = _ at hr5
          obtain ⟨q1, q2, q3⟩ := cnt_ok_parts hr5
          have hg : g' = g := Hg.out
          subst hg
          refine ⟨⟨q2, q3⟩, fun hX => ?_⟩
          rcases r3 with x3 | ⟨z', b2⟩
          · cases HK3.out
          · have hz : z' = z := Hz.out
            subst hz
            have h4 : txt s.data.toList b2 = .ok (g', b3) := HK3.out
            have q := txt_len h4
            have q5 : s.data.toList.length = s.size := rfl
            exact dec_small HK1.out HL1.out HK2.out (by omega) hr5 (by omega) hX
      clear hst7 hr5 HK1 HL1 HK2 HK3 Hz Hg
      go_wp2_with fail
      refine HC.out.mono ?_
      rintro e W8 ⟨rfl, hst8, hk8⟩
      have kb8 := KB.out _ _ kb7 hk8
      have bD8 := KD.out _ _ bD7 hk8
      have bE8 := bE7.keep hk8 hEr
      have own8 := owns_keep own7 hk8 (by omega)
      clear HC kb7 bD7 bE7 hk8 own7
      go_upto_block 0 with (fail)
      go_cut [13, 14] from 44 (fun _ _ wc => ∃ X vx st, RSt wc (w.heap.size + 1) s st ∧ Box wc w.heap.size zeroE 109 ∧ Box wc E [.int .i64 y.kind, .string y.path, .slice ax y.attrs.length cx, .string y.target, .int .i64 z, .string (bA' g), vx] 109 ∧ Below w.heap.size w wc ∧
        OwnG (E + 1) 192 2 At.vals wc (.slice ax y.attrs.length cx) y.attrs ∧ OwnG (E + 1) 34 3 Ex.vals wc vx X ∧ Hid (decA s a = dcE y z g X st) ∧ Hid (∀ f, st = .ok f → EnOk (enOf y z g X)))
      case first =>
        obtain ⟨i0, hi, hz0, hz1, hz2⟩ := info_parts infoEx
        have hN8 : E + 1 ≤ W8.heap.size := bE8.lt
        rcases r5 with x | ⟨n, b4⟩
        · have r2 : W8.cell? ⟨w.heap.size + 1, 2, none⟩ = some (.int .i64 x) := hst8.err.1
          have n0 : stNum (.error x) = 0 := rfl
          rw [n0]
          have HR4 : Hid (decA s a = dcE y z g [] (.error x)) := HR3
          have hown0 : OwnG (E + 1) 34 3 Ex.vals W8 (.slice none 0 0) [] := World.ownsRow_nil _ _ _ _
          go_wp2_with fail
          refine wp_loop_rounds 1 ?_; rw [rounds_succ]
          go_wp2_with fail
          go_meet
          exact ⟨[], _, .error x, hst8, bD8, bE8, kb8, own8, hown0, HR4, fun f hf => by cases hf⟩
        obtain ⟨M, rfl⟩ := Int.eq_ofNat_of_zero_le (HOK.out n b4 [] b4 rfl).1.1
        have hM : M ≤ 65536 := by have := (HOK.out M b4 [] b4 rfl).1.2; omega
        have HR4 : Hid (decA s a = dc6 y z g (rowR (exR s.data.toList) b4 M)) := by rw [Hid, HR3.out]; show dc6 y z g (rowR (exR s.data.toList) b4 ((M : Int)).toNat) = _; rw [Int.toNat_natCast]
        have HK : Hid (∀ X f, rowR (exR s.data.toList) b4 M = .ok (X, f) → EnOk (enOf y z g X)) := Lib.hid fun X f hX => (HOK.out M b4 X f rfl).2 (by rw [Int.toNat_natCast]; exact hX)
        have n1 : stNum (.ok ((M : Int), b4)) = (M : Int) := rfl
        rw [n1]
        have hax := owns_lt own8
        obtain ⟨N, hN⟩ : ∃ N, W8.heap.size = N := ⟨_, rfl⟩
        rw [hN] at hax hN8
        have hown0 : OwnG N 34 3 Ex.vals W8 (.slice none 0 0) [] := World.ownsRow_nil _ _ _ _
        have hNs : N ≤ W8.heap.size := by omega
        clear HR3 HOK n1 hN
        go_wp2_with fail
        go_loopw [13, 14] (fun i _ wr => ∃ (k : Nat) (X : List Ex) (st : Except Int Int) (vx : Value), k ≤ M ∧ i = .int .i64 k ∧ X.length = k ∧ Hid (RowSt (exR s.data.toList) b4 M k X st) ∧ RSt wr (w.heap.size + 1) s st ∧ Box wr w.heap.size zeroE 109 ∧
          Box wr E [.int .i64 y.kind, .string y.path, .slice ax y.attrs.length cx, .string y.target, .int .i64 z, .string (bA' g), vx] 109 ∧ Below w.heap.size w wr ∧ N ≤ wr.heap.size ∧ OwnG (E + 1) 192 2 At.vals wr (.slice ax y.attrs.length cx) y.attrs ∧ OwnG N 34 3 Ex.vals wr vx X) (fun i _ _ => M - (intOf i).toNat)
        case atStart => exact ⟨0, [], .ok b4, _, by omega, rfl, rfl, rfl, hst8, bD8, bE8, kb8, hNs, own8, hown0⟩
        case round =>
          obtain ⟨k, X, st, vx, hk, rfl, rfl, hrow, hst9, bD9, bE9, kb9, hNr, ownA, ownX⟩ := hrel
          clear hst8 bD8 bE8 kb8 hNs own8 hown0
          obtain ⟨xx, xc, rfl⟩ := (OwnG.row (n := 3) (f := Ex.vals) (d := ex0) (fun _ => rfl) ownX).form
          by_cases hlt : X.length < M
          case neg =>
            obtain rfl : M = X.length := by omega
            have HR5 := Lib.hid (HR4.out.trans (dc6_end hrow.out))
            have HK5 : Hid (∀ f, st = .ok f → EnOk (enOf y z g X)) := Lib.hid fun f hf => by subst hf; exact HK.out X f hrow.out
            go_wp2_with fail
            go_meet
            exact ⟨X, _, st, hst9, bD9, bE9, kb9, ownA, owns_mono ownX (by omega), HR5, HK5⟩
          cases st with
          | error x =>
            have r2 : wr.cell? ⟨w.heap.size + 1, 2, none⟩ = some (.int .i64 x) := hst9.err.1
            have HR5 := Lib.hid (HR4.out.trans (dc6_end (rowStE_err hrow.out)))
            have hx : x ≠ 0 := hst9.1
            have q1 : (x == 0) = false := by rw [beq_eq_false_iff_ne]; exact hx
            clear hx
            go_wp2_with fail
            go_meet
            exact ⟨X, _, .error x, hst9, bD9, bE9, kb9, ownA, owns_mono ownX (by omega), HR5, fun f hf => by cases hf⟩
          | ok b =>
            have r2 : wr.cell? ⟨w.heap.size + 1, 2, none⟩ = some (.int .i64 0) := hst9.err.1
            have HT := Lib.hid (fun q5 q6 q7 h5 h6 h7 => rowEx_next (r5 := q5) (r6 := q6) (r7 := q7) hrow.out hlt h5 h6 h7)
            obtain ⟨hb0, bF⟩ := box1' wr [.int .i64 0, .int .i64 0, .int .i64 0] 34
            change Below _ _ (wr.alloc (.cells #[.int .i64 0, .int .i64 0, .int .i64 0] 34)) at hb0
            change Box (wr.alloc (.cells #[.int .i64 0, .int .i64 0, .int .i64 0] 34)) _ _ _ at bF
            have hEw : E < wr.heap.size := bE9.lt
            have hXF := owns_lt ownX
            go_upto_region 15 with (fail)
            have hst10 := hst9.keepE hb0 (by omega)
            have bD10 := bD9.below hb0
            have bE10 := bE9.below hb0
            have kb10 := step2 kb9 hb0
            have ownA10 := owns_below ownA hb0
            have ownX10 : OwnG N 34 3 Ex.vals (wr.alloc (.cells #[.int .i64 0, .int .i64 0, .int .i64 0] 34)) (.slice xx X.length xc) X := owns_below ownX hb0
            obtain ⟨W10, hW10⟩ : ∃ W10, wr.alloc (.cells #[.int .i64 0, .int .i64 0, .int .i64 0] 34) = W10 := ⟨_, rfl⟩
            change Code.wp _ _ _ _ (wr.alloc (.cells #[.int .i64 0, .int .i64 0, .int .i64 0] 34))
            rw [hW10] at hst10 bD10 bE10 kb10 ownA10 ownX10 bF ⊢
            clear hW10 hst9 bD9 bE9 kb9 ownA ownX hb0 r2
            generalize wr.heap.size = F at *
            have HC := Lib.hid (rnum_any s (w.heap.size + 1) (.ok b : Except Int Int) W10 hst10 hs)
            obtain ⟨q5, hq5⟩ : ∃ q5, ((.ok b : Except Int Int) >>= nmb s.data.toList) = q5 := ⟨_, rfl⟩
            rw [hq5] at HC
            have Hq5 := Lib.hid hq5; clear hq5
            clear hst10
            go_wp2_with fail
            refine HC.out.mono ?_
            rintro e W11 ⟨rfl, hst11, hk11⟩
            have kb11 := KB.out _ _ kb10 hk11
            have bD11 := KD.out _ _ bD10 hk11
            have bE11 := bE10.keep hk11 hEr
            have bF11 := bF.keep hk11 (by omega)
            have ownA11 := owns_keep ownA10 hk11 (by omega)
            have ownX11 : OwnG N 34 3 Ex.vals W11 (.slice xx X.length xc) X := owns_keep ownX10 hk11 (by omega)
            obtain ⟨uq5, huq5⟩ : ∃ uq5, stNum q5 = uq5 := ⟨_, rfl⟩
            rw [huq5]
            have Huq5 := Lib.hid huq5; clear huq5
            have x0 : W11.cell? ⟨F, 0, none⟩ = some (.int .i64 0) := bF11.cell 0
            have y0 := bF11.frozen 0
            clear HC kb10 bD10 bE10 bF hk11 ownA10 ownX10
            go_upto_region 16 with (fail)
            have hst12 := hst11.setOther (E := F) (j := 0) (by omega) (.int .i64 uq5)
            have bD12 := bD11.setOther (E' := F) (j := 0) (by omega) (.int .i64 uq5)
            have bE12 := bE11.setOther (E' := F) (j := 0) (by omega) (.int .i64 uq5)
            have bF := bF11.set (j := 0) (.int .i64 uq5)
            have kb12 := kb11.setCell (p := ⟨F, 0, none⟩) (show w.heap.size ≤ F by omega) (.int .i64 uq5)
            have ownA12 := owns_set ownA11 ⟨F, 0, none⟩ (.int .i64 uq5) bF11 (by decide)
            have ownX12 : OwnG N 34 3 Ex.vals (W11.setCell ⟨F, 0, none⟩ (.int .i64 uq5)) (.slice xx X.length xc) X := owns_setB ownX11 hXF 0 (.int .i64 uq5)
            simp only [List.set_cons_zero] at bF
            obtain ⟨W12, hW12⟩ : ∃ W12, W11.setCell ⟨F, 0, none⟩ (.int .i64 uq5) = W12 := ⟨_, rfl⟩
            change Code.wp _ _ _ _ (W11.setCell ⟨F, 0, none⟩ (.int .i64 uq5))
            rw [hW12] at hst12 bD12 bE12 bF kb12 ownA12 ownX12 ⊢
            clear hW12 hst11 bD11 bE11 bF11 kb11 ownA11 ownX11 x0 y0

            have HC := Lib.hid (rnum_any s (w.heap.size + 1) (stAt q5) W12 hst12 hs)
            obtain ⟨q6, hq6⟩ : ∃ q6, ((stAt q5) >>= nmb s.data.toList) = q6 := ⟨_, rfl⟩
            rw [hq6] at HC
            have Hq6 := Lib.hid hq6; clear hq6
            clear hst12
            go_wp2_with fail
            refine HC.out.mono ?_
            rintro e W13 ⟨rfl, hst13, hk13⟩
            have kb13 := KB.out _ _ kb12 hk13
            have bD13 := KD.out _ _ bD12 hk13
            have bE13 := bE12.keep hk13 hEr
            have bF13 := bF.keep hk13 (by omega)
            have ownA13 := owns_keep ownA12 hk13 (by omega)
            have ownX13 : OwnG N 34 3 Ex.vals W13 (.slice xx X.length xc) X := owns_keep ownX12 hk13 (by omega)
            obtain ⟨uq6, huq6⟩ : ∃ uq6, stNum q6 = uq6 := ⟨_, rfl⟩
            rw [huq6]
            have Huq6 := Lib.hid huq6; clear huq6
            have x0 : W13.cell? ⟨F, 1, none⟩ = some (.int .i64 0) := bF13.cell 1
            have y0 := bF13.frozen 1
            clear HC kb12 bD12 bE12 bF hk13 ownA12 ownX12
            go_upto_region 17 with (fail)
            have hst14 := hst13.setOther (E := F) (j := 1) (by omega) (.int .i64 uq6)
            have bD14 := bD13.setOther (E' := F) (j := 1) (by omega) (.int .i64 uq6)
            have bE14 := bE13.setOther (E' := F) (j := 1) (by omega) (.int .i64 uq6)
            have bF := bF13.set (j := 1) (.int .i64 uq6)
            have kb14 := kb13.setCell (p := ⟨F, 1, none⟩) (show w.heap.size ≤ F by omega) (.int .i64 uq6)
            have ownA14 := owns_set ownA13 ⟨F, 1, none⟩ (.int .i64 uq6) bF13 (by decide)
            have ownX14 : OwnG N 34 3 Ex.vals (W13.setCell ⟨F, 1, none⟩ (.int .i64 uq6)) (.slice xx X.length xc) X := owns_setB ownX13 hXF 1 (.int .i64 uq6)
            simp only [List.set_cons_zero, List.set_cons_succ] at bF
            obtain ⟨W14, hW14⟩ : ∃ W14, W13.setCell ⟨F, 1, none⟩ (.int .i64 uq6) = W14 := ⟨_, rfl⟩
            change Code.wp _ _ _ _ (W13.setCell ⟨F, 1, none⟩ (.int .i64 uq6))
            rw [hW14] at hst14 bD14 bE14 bF kb14 ownA14 ownX14 ⊢
            clear hW14 hst13 bD13 bE13 bF13 kb13 ownA13 ownX13 x0 y0

            have HC := Lib.hid (rnum_any s (w.heap.size + 1) (stAt q6) W14 hst14 hs)
            obtain ⟨q7, hq7⟩ : ∃ q7, ((stAt q6) >>= nmb s.data.toList) = q7 := ⟨_, rfl⟩
            rw [hq7] at HC
            have Hq7 := Lib.hid hq7; clear hq7
            clear hst14
            go_wp2_with fail
            refine HC.out.mono ?_
            rintro e W15 ⟨rfl, hst15, hk15⟩
            have kb15 := KB.out _ _ kb14 hk15
            have bD15 := KD.out _ _ bD14 hk15
            have bE15 := bE14.keep hk15 hEr
            have bF15 := bF.keep hk15 (by omega)
            have ownA15 := owns_keep ownA14 hk15 (by omega)
            have ownX15 : OwnG N 34 3 Ex.vals W15 (.slice xx X.length xc) X := owns_keep ownX14 hk15 (by omega)
            obtain ⟨uq7, huq7⟩ : ∃ uq7, stNum q7 = uq7 := ⟨_, rfl⟩
            rw [huq7]
            have Huq7 := Lib.hid huq7; clear huq7
            have x0 : W15.cell? ⟨F, 2, none⟩ = some (.int .i64 0) := bF15.cell 2
            have y0 := bF15.frozen 2
            clear HC kb14 bD14 bE14 bF hk15 ownA14 ownX14
            go_upto_region 18 with (fail)
            have hst16 := hst15.setOther (E := F) (j := 2) (by omega) (.int .i64 uq7)
            have bD16 := bD15.setOther (E' := F) (j := 2) (by omega) (.int .i64 uq7)
            have bE16 := bE15.setOther (E' := F) (j := 2) (by omega) (.int .i64 uq7)
            have bF := bF15.set (j := 2) (.int .i64 uq7)
            have kb16 := kb15.setCell (p := ⟨F, 2, none⟩) (show w.heap.size ≤ F by omega) (.int .i64 uq7)
            have ownA16 := owns_set ownA15 ⟨F, 2, none⟩ (.int .i64 uq7) bF15 (by decide)
            have ownX16 : OwnG N 34 3 Ex.vals (W15.setCell ⟨F, 2, none⟩ (.int .i64 uq7)) (.slice xx X.length xc) X := owns_setB ownX15 hXF 2 (.int .i64 uq7)
            simp only [List.set_cons_zero, List.set_cons_succ] at bF
            obtain ⟨W16, hW16⟩ : ∃ W16, W15.setCell ⟨F, 2, none⟩ (.int .i64 uq7) = W16 := ⟨_, rfl⟩
            change Code.wp _ _ _ _ (W15.setCell ⟨F, 2, none⟩ (.int .i64 uq7))
            rw [hW16] at hst16 bD16 bE16 bF kb16 ownA16 ownX16 ⊢
            clear hW16 hst15 bD15 bE15 bF15 kb15 ownA15 ownX15 x0 y0

            have HNX := Lib.hid (HT.out q5 q6 q7 Hq5.out Hq6.out Hq7.out)
            rw [Huq5.out, Huq6.out, Huq7.out] at HNX
            have e6 : W16.cell? ⟨E, 6, none⟩ = some (.slice xx X.length xc) := bE16.cell 6
            have x0 : W16.cell? ⟨F, 0, none⟩ = some (.int .i64 uq5) := bF.cell 0
            have x1 : W16.cell? ⟨F, 1, none⟩ = some (.int .i64 uq6) := bF.cell 1
            have x2 : W16.cell? ⟨F, 2, none⟩ = some (.int .i64 uq7) := bF.cell 2
            have hF16 : F < W16.heap.size := bF.lt
            clear HT Hq5 Hq6 Hq7 Huq5 Huq6 Huq7 hrow
            go_wp2_with (at_builtin; refine wpList_append_own _ rfl _ _ 107 rfl N 34 i0 (.agg #[.int .i64 0, .int .i64 0, .int .i64 0]) 3 24 Tryz.underlying107 hi hz0 hz1 hz2 rfl (by decide) _ _ _ rfl (ownX16.alloc _) ⟨W16.heap.size, 0, none⟩ 1 1 [.int .i64 uq5, .int .i64 uq6, .int .i64 uq7] rfl rfl ?c1 ?c2 ?c3 ?c4 ?c5 ?_)
            case c1 => exact fun j u hu => cell_int3 W16 uq5 uq6 uq7 _ j u hu
            case c2 => simp [Value.oneCell']
            case c3 => unfold maxLen; omega
            case c4 => omega
            case c5 => simp; omega
            intro v' w2 hown2 hgrow2 _
            have hg2 : Below N (W16.alloc (.cells #[.int .i64 uq5, .int .i64 uq6, .int .i64 uq7] 34)) w2 := below_grownBy (Below.refl _ _) (ownX16.alloc _) hgrow2 (by simp; omega)
            obtain ⟨a4, c4, rfl⟩ := own_form hown2
            have hba : Below W16.heap.size W16 (W16.alloc (.cells #[.int .i64 uq5, .int .i64 uq6, .int .i64 uq7] 34)) := (below_refl W16).alloc (Nat.le_refl _) _
            have hst17 := (hst16.keepE hba (by omega)).keepE hg2 (by omega)
            have bD17 := (bD16.below hba).below' hg2 (by omega)
            have bE17 := (bE16.below hba).below' hg2 (by omega)
            have kb17 := (kb16.alloc kb16.size (.cells #[.int .i64 uq5, .int .i64 uq6, .int .i64 uq7] 34)).trans (hg2.mono (by omega))
            have ownA17 := owns_belowN (owns_below ownA16 hba) hax hg2
            have hN17 : N ≤ w2.heap.size := Nat.le_trans (Nat.le_trans (by omega) hba.size) hg2.size
            have ownX17 : OwnG N 34 3 Ex.vals w2 (.slice a4 (X.length + 1) c4) (X ++ [⟨uq5, uq6, uq7⟩]) := by
              rw [OwnG, List.length_append, List.flatMap_append]; exact hown2
            have e7 : w2.cell? ⟨E, 6, none⟩ = some (.slice xx X.length xc) := bE17.cell 6
            have y7 := bE17.frozen 6
            have hst18 := hst17.setOther (E := E) (j := 6) (by omega) (.slice a4 (X.length + 1) c4)
            have bD18 := bD17.setOther (E' := E) (j := 6) (by omega) (.slice a4 (X.length + 1) c4)
            have bE18 := bE17.set (j := 6) (.slice a4 (X.length + 1) c4)
            have kb18 := kb17.setCell (p := ⟨E, 6, none⟩) (show w.heap.size ≤ E by omega) (.slice a4 (X.length + 1) c4)
            have ownA18 := owns_set ownA17 ⟨E, 6, none⟩ (.slice a4 (X.length + 1) c4) bE17 (by decide)
            have ownX18 := owns_set ownX17 ⟨E, 6, none⟩ (.slice a4 (X.length + 1) c4) bE17 (by decide)
            have hN18 : N ≤ (w2.setCell ⟨E, 6, none⟩ (.slice a4 (X.length + 1) c4)).heap.size := by simpa using hN17
            simp only [List.set_cons_zero, List.set_cons_succ] at bE18
            clear hown2 hgrow2 hg2 hba hst17 bD17 bE17 kb17 ownA17 hN17 ownX17 e6 x0 x1 x2 hF16 hst16 bD16 bE16 bF kb16 ownA16 ownX16
            go_wp2_with fail
            go_roundw
            case rel => exact ⟨X.length + 1, X ++ [Ex.mk uq5 uq6 uq7], stAt q7, _, by omega, by go_num, by simp, HNX, hst18, bD18, bE18, kb18, hN18, ownA18, ownX18⟩
            case measure => simp [intOf]; omega
      case rest =>
        obtain ⟨X, vx, st, hst9, bD9, bE9, kb9, ownA, ownX, HR4, HK⟩ := hcut
        clear hst8 kb8 bD8 bE8 own8 HR3 HOK
        obtain ⟨xx, xc, rfl⟩ := (OwnG.row (n := 3) (f := Ex.vals) (d := ex0) (fun _ => rfl) ownX).form
        rcases st with x | f
        · have HRx : Hid (decA s a = .error x) := HR4
          have r2 : wc.cell? ⟨w.heap.size + 1, 2, none⟩ = some (.int .i64 x) := hst9.err.1
          have hx : x ≠ 0 := hst9.1
          have q1 : (x == 0) = false := by rw [beq_eq_false_iff_ne]; exact hx
          have q2 : (x != 0) = true := by rw [bne_iff_ne]; exact hx
          clear hx
          go_upto_region 22 with (fail)
          unfold zeroE at bD9
          obtain ⟨d0, d1, d2, d3, d4, d5, d6⟩ := Box.cells7 bD9
          obtain ⟨z0, z1, z2, z3, z4, z5, z6⟩ := Box.froz7 bD9
          go_region
          go_wp2_with fail
          have zz := (Box.set7 bD9 (.int .i64 0) (.string ⟨#[]⟩) (.slice none 0 0) (.string ⟨#[]⟩) (.int .i64 0) (.string ⟨#[]⟩) (.slice none 0 0)).drew
          have kz := below_drew0 (below_set7 kb9 (Nat.le_refl _) (.int .i64 0) (.string ⟨#[]⟩) (.slice none 0 0) (.string ⟨#[]⟩) (.int .i64 0) (.string ⟨#[]⟩) (.slice none 0 0))
          refine bodyPost_ret (v := .tuple #[.agg #[.int .i64 0, .string ⟨#[]⟩, .slice none 0 0, .string ⟨#[]⟩, .int .i64 0, .string ⟨#[]⟩, .slice none 0 0], .int .i64 0, .int .i64 x]) (resD _ _ _ zz rfl rfl rfl) rfl ?_
          rw [HRx.out]
          exact ⟨rfl, kz⟩

        have hok := HK.out f rfl
        have HR5 : Hid (decA s a = dc7 (enOf y z g X) f) := HR4
        have r2 : wc.cell? ⟨w.heap.size + 1, 2, none⟩ = some (.int .i64 0) := hst9.err.1
        have r1 : wc.cell? ⟨w.heap.size + 1, 1, none⟩ = some (.int .i64 f) := Box.cell hst9 1
        have bR9 : Box wc (w.heap.size + 1) [.string s, .int .i64 f, .int .i64 0] 233 := hst9
        have HCk := Lib.hid (refCheck_any (enOf y z g X) (.slice ax y.attrs.length cx) (.slice xx X.length xc) wc (OwnG.row (n := 2) (f := At.vals) (d := at0) (fun _ => rfl) ownA) (OwnG.row (n := 3) (f := Ex.vals) (d := ex0) (fun _ => rfl) ownX) hok)
        change Hid (Calls _ _ #[.agg #[.int .i64 y.kind, .string y.path, .slice ax y.attrs.length cx, .string y.target, .int .i64 z, .string (bA' g), .slice xx X.length xc]] _ _) at HCk
        obtain ⟨e0, e1, e2, e3, e4, e5, e6⟩ := bE9.cells7
        clear hok HK hst9
        go_wp2_with fail
        refine HCk.out.mono ?_
        rintro e W10 ⟨rfl, hb10⟩
        have kb10 := step2 kb9 hb10
        have bD10 := bD9.below hb10
        have bE10 := bE9.below hb10
        have bR10 := bR9.below hb10
        have ownA10 := owns_below ownA hb10
        have ownX10 := owns_below ownX hb10
        clear HCk kb9 bD9 bE9 bR9 hb10 ownA ownX r1 r2 e0 e1 e2 e3 e4 e5 e6
        have r2 : W10.cell? ⟨w.heap.size + 1, 2, none⟩ = some (.int .i64 0) := bR10.cell 2
        have y2 := bR10.frozen 2
        obtain ⟨ce, hce⟩ : ∃ ce, chkE (enOf y z g X) = ce := ⟨_, rfl⟩
        rw [hce]
        have Hce := Lib.hid hce; clear hce
        go_upto_region 21 with (fail)
        have bE11 := bE10.setOther (E' := w.heap.size + 1) (j := 2) (by omega) (.int .i64 ce)
        have bD11 := bD10.setOther (E' := w.heap.size + 1) (j := 2) (by omega) (.int .i64 ce)
        have bR11 := bR10.set (j := 2) (.int .i64 ce)
        have kb11 := kb10.setCell (p := ⟨w.heap.size + 1, 2, none⟩) (show w.heap.size ≤ w.heap.size + 1 by omega) (.int .i64 ce)
        have ownA11 := owns_set ownA10 ⟨w.heap.size + 1, 2, none⟩ (.int .i64 ce) bR10 (by decide)
        have ownX11 := owns_set ownX10 ⟨w.heap.size + 1, 2, none⟩ (.int .i64 ce) bR10 (by decide)
        simp only [List.set_cons_zero, List.set_cons_succ] at bR11
        obtain ⟨W11, hW11⟩ : ∃ W11, W10.setCell ⟨w.heap.size + 1, 2, none⟩ (.int .i64 ce) = W11 := ⟨_, rfl⟩
        change Code.wp _ _ _ _ (W10.setCell ⟨w.heap.size + 1, 2, none⟩ (.int .i64 ce))
        rw [hW11] at bE11 bD11 bR11 kb11 ownA11 ownX11 ⊢
        clear hW11 r2 y2 bE10 bD10 bR10 kb10 ownA10 ownX10
        have r2 : W11.cell? ⟨w.heap.size + 1, 2, none⟩ = some (.int .i64 ce) := bR11.cell 2
        by_cases hc0 : ce = 0
        case neg =>
          have HRx : Hid (decA s a = .error ce) := by rw [Hid, HR5.out, dc7, Hce.out, if_neg hc0]
          have q1 : (ce == 0) = false := by rw [beq_eq_false_iff_ne]; exact hc0
          have q2 : (ce != 0) = true := by rw [bne_iff_ne]; exact hc0
          clear hc0
          go_upto_region 22 with (fail)
          unfold zeroE at bD11
          obtain ⟨d0, d1, d2, d3, d4, d5, d6⟩ := Box.cells7 bD11
          obtain ⟨z0, z1, z2, z3, z4, z5, z6⟩ := Box.froz7 bD11
          go_region
          go_wp2_with fail
          have zz := (Box.set7 bD11 (.int .i64 0) (.string ⟨#[]⟩) (.slice none 0 0) (.string ⟨#[]⟩) (.int .i64 0) (.string ⟨#[]⟩) (.slice none 0 0)).drew
          have kz := below_drew0 (below_set7 kb11 (Nat.le_refl _) (.int .i64 0) (.string ⟨#[]⟩) (.slice none 0 0) (.string ⟨#[]⟩) (.int .i64 0) (.string ⟨#[]⟩) (.slice none 0 0))
          refine bodyPost_ret (v := .tuple #[.agg #[.int .i64 0, .string ⟨#[]⟩, .slice none 0 0, .string ⟨#[]⟩, .int .i64 0, .string ⟨#[]⟩, .slice none 0 0], .int .i64 0, .int .i64 ce]) (resD _ _ _ zz rfl rfl rfl) rfl ?_
          rw [HRx.out]
          exact ⟨rfl, kz⟩

        subst hc0
        have HRk : Hid (decA s a = .ok (enOf y z g X, f)) := by rw [Hid, HR5.out, dc7, if_pos Hce.out]
        have r1 : W11.cell? ⟨w.heap.size + 1, 1, none⟩ = some (.int .i64 f) := bR11.cell 1
        obtain ⟨e0, e1, e2, e3, e4, e5, e6⟩ := bE11.cells7
        unfold zeroE at bD11
        obtain ⟨d0, d1, d2, d3, d4, d5, d6⟩ := Box.cells7 bD11
        obtain ⟨z0, z1, z2, z3, z4, z5, z6⟩ := Box.froz7 bD11
        go_upto_region 23 with (fail)
        go_region
        go_wp2_with fail
        have zz := (Box.set7 bD11 (.int .i64 y.kind) (.string y.path) (.slice ax y.attrs.length cx) (.string y.target) (.int .i64 z) (.string (bA' g)) (.slice xx X.length xc)).drew
        have kz := below_drew0 (below_set7 kb11 (Nat.le_refl _) (.int .i64 y.kind) (.string y.path) (.slice ax y.attrs.length cx) (.string y.target) (.int .i64 z) (.string (bA' g)) (.slice xx X.length xc))
        have oA := owns_drew (owns_set7 ownA11 bD11 (by decide) (.int .i64 y.kind) (.string y.path) (.slice ax y.attrs.length cx) (.string y.target) (.int .i64 z) (.string (bA' g)) (.slice xx X.length xc))
        have oX := owns_drew (owns_set7 ownX11 bD11 (by decide) (.int .i64 y.kind) (.string y.path) (.slice ax y.attrs.length cx) (.string y.target) (.int .i64 z) (.string (bA' g)) (.slice xx X.length xc))
        refine bodyPost_ret (v := .tuple #[.agg #[.int .i64 y.kind, .string y.path, .slice ax y.attrs.length cx, .string y.target, .int .i64 z, .string (bA' g), .slice xx X.length xc], .int .i64 f, .int .i64 0]) (resD _ _ _ zz rfl rfl rfl) rfl ?_
        rw [HRk.out]
        exact ⟨_, _, rfl, owns_mono oA (by omega), owns_mono oX (by omega), kz⟩
end Go.Proofs.YtpkapcijgldhhaaGreatDoor
