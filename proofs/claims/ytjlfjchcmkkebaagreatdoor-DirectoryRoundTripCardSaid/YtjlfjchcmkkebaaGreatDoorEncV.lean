/-
  The walk of entry.Encode.
-/
import Derived.Test.YtjlfjchcmkkebaaGreatDoorEncW
namespace Go.Proofs.YtjlfjchcmkkebaaGreatDoor
open Go.RowKit Go.Shelf

set_option maxRecDepth 100000 in
set_option maxHeartbeats 4000000 in
theorem encode_bad (kd : Int) (pt tg dg : ByteArray) (sz : Int) (va vx : Value) (w : World) (c : Int) (hc : c ≠ 0)
    (HK : Hid (∀ W, Below w.heap.size w W → Calls Tryz.prog 108 #[.agg #[.int .i64 kd, .string pt, va, .string tg, .int .i64 sz, .string dg, vx]] W (HeadP [] c W))) :
    Calls Tryz.prog 72 #[.agg #[.int .i64 kd, .string pt, va, .string tg, .int .i64 sz, .string dg, vx]] w (HeadP [] c w) := by
  have hb0 : Below w.heap.size w (w.alloc (.cells #[.int .i64 kd, .string pt, va, .string tg, .int .i64 sz, .string dg, vx] 55)) := (below_refl _).alloc (Nat.le_refl _) _
  obtain ⟨q1, q2⟩ := neq0 hc
  have Hc := Lib.hid hc; clear hc
  go_enter Tryz.func72, Tryz.ntmps72
  go_wp2_with fail
  refine (HK.out _ hb0).mono ?_
  rintro e w2 ⟨t, rfl, ht, hb2⟩
  go_wp2_with fail
  go_ret2
  exact ⟨⟨#[]⟩, rfl, rfl, step2 hb0 hb2⟩
theorem take_flatX (X : List Ex) (k : Nat) (h : k < X.length) : (X.take (k + 1)).flatMap exL = (X.take k).flatMap exL ++ exL (exAt X k) := by
  rw [List.take_succ_eq_append_getElem h, List.flatMap_append, exAt_get h]; simp
abbrev BldF (B : Nat) (l : List UInt8) (w : World) : Prop := Lib.IsBuilderF 82 5 B B (Lib.byteCells l) w
theorem bldF_below {B : Nat} {l : List UInt8} {W W' : World} (h : BldF B l W) (hb : Below W.heap.size W W') : BldF B l W' := by
  have one : ∀ {p : Value}, Lib.BuilderAtF 82 5 B B p (Lib.byteCells l) W → Lib.BuilderAtF 82 5 B B p (Lib.byteCells l) W' := by
    intro p h
    have hlt := h.lt
    obtain ⟨hB, v, hv, hown, hne⟩ := h
    exact ⟨hB, v, (hb.block B hlt).trans hv, hown.kept (row := none) ⟨hb.os, hb.tape, hb.output, hb.size, fun k hk _ => hb.block k hk⟩ (Classical.em _), hne⟩
  exact h.elim (fun x => .inl (one x)) (fun x => .inr (one x))
theorem writeF_at (B : Nat) (l : List UInt8) (s : ByteArray) (w : World) (h : Hid (BldF B l w)) (hlen : l.length + s.size ≤ 140737488355328) (hBw : B ≤ w.heap.size) :
    Calls Tryz.prog 52 #[.pointer (some ⟨B, 0, none⟩), .string s] w fun e w' => e = .returned (.tuple #[.int .i64 s.size, .nilIface]) ∧ Hid (BldF B (l ++ s.data.toList) w') ∧ Below B w w' ∧ Hid (Lib.OthersKept 5 (some B) w w') := by
  refine (Any.Builder_WriteString_k Tryz.lays166 Tryz.Builder_Extra_166 B B _ s w h.out (by rw [Lib.byteCells_length]; exact hlen) hBw).mono ?_
  rintro e w' ⟨rfl, h1, hb, ho⟩
  refine ⟨rfl, ?_, hb, ho⟩
  rw [Lib.strCells_eq, ← Lib.byteCells_append] at h1
  exact Or.inr h1
theorem others_cell {w w' : World} {B b j : Nat} {cs : Array Value} {T : TypeId} {fz : Nat × Nat} (h : Lib.OthersKept 5 (some B) w w') (hb : w.heap[b]? = some (.cells cs T fz)) (hne : b ≠ B) (hT : T ≠ 5) : w'.cell? ⟨b, j, none⟩ = cs[j]? := by
  have := h b _ hb (fun e => hne (Option.some.inj e)) (fun c f e => hT (by cases e; rfl))
  unfold World.cell?
  rw [this]; simp
set_option maxRecDepth 100000 in
set_option maxHeartbeats 4000000 in
theorem encode1 (kd : Int) (pt tg dg : ByteArray) (sz : Int) (X : List Ex) (b o xc : Nat) (va : Value) (w : World) (he : Env w) (hX0 : 0 < X.length) (hX : X.length ≤ 100000) (hb : b < w.heap.size) (hXA : ExAt w b o X) (hl : List UInt8) (hhl : hl.length ≤ 20000) (hdg : dg.size ≤ 1000) (hsz : 0 ≤ sz ∧ sz ≤ 65536)
    (hin : ∀ i, i < X.length → ExIn (exAt X i))
    (HK : Hid (∀ W, Below w.heap.size w W → Calls Tryz.prog 108 #[.agg #[.int .i64 kd, .string pt, va, .string tg, .int .i64 sz, .string dg, .slice (some ⟨b, o, none⟩) X.length xc]] W (HeadP hl 0 W))) :
    Calls Tryz.prog 72 #[.agg #[.int .i64 kd, .string pt, va, .string tg, .int .i64 sz, .string dg, .slice (some ⟨b, o, none⟩) X.length xc]] w (HeadP (strL hl ++ numL sz ++ strL dg.data.toList ++ numL X.length ++ X.flatMap exL) 0 w) := by
  have hb0 : Below w.heap.size w (w.alloc (.cells #[.int .i64 kd, .string pt, va, .string tg, .int .i64 sz, .string dg, .slice (some ⟨b, o, none⟩) X.length xc] 55)) := (below_refl _).alloc (Nat.le_refl _) _
  have HE := Lib.hid (show ∀ W, Below w.heap.size w W → Env W from fun W hW => he.below hW)
  have HXA := Lib.hid (show ∀ W, Below w.heap.size w W → ExAt W b o X from fun W hW => hXA.below hW hb)
  have HIN := Lib.hid hin
  clear he hXA hin
  go_enter Tryz.func72, Tryz.ntmps72
  go_wp2_with fail
  refine (HK.out _ hb0).mono ?_
  rintro e w2 ⟨hd, rfl, hhd, hb2⟩
  have HC := Lib.hid (fun j => box_cells hb2 j)
  have hb3 := step2 hb0 hb2
  have hwl : w.heap.size < w2.heap.size := by have := hb2.size; simp at this; omega
  have hhs : hd.size ≤ 20000 := by rw [← toList_size, hhd.out]; exact hhl
  clear HK hb0 hb2
  go_upto_region 5 with (fail)
  have HB0 : Hid (Bld w2.heap.size [] (w2.alloc (.cells #[.pointer none, .slice none 0 0] 82))) := Lib.fresh_isBuilder 82 5 w2
  have hb4 : Below w.heap.size w (w2.alloc (.cells #[.pointer none, .slice none 0 0] 82)) := hb3.alloc hb3.size _
  have hk4 : Below w2.heap.size w2 (w2.alloc (.cells #[.pointer none, .slice none 0 0] 82)) := (below_refl w2).alloc (Nat.le_refl _) _
  have hs4 := size_one w2 (.cells #[.pointer none, .slice none 0 0] 82)
  generalize hB : w2.heap.size = B at *
  obtain ⟨w4, hw4⟩ : ∃ w4, w2.alloc (.cells #[.pointer none, .slice none 0 0] 82) = w4 := ⟨_, rfl⟩
  change Code.wp _ _ _ _ (w2.alloc (.cells #[.pointer none, .slice none 0 0] 82))
  rw [hw4] at HB0 hb4 hk4 hs4 ⊢
  have HC4 := Lib.hid (show ∀ W, Below B w4 W → ∀ j, W.cell? ⟨w.heap.size, j, none⟩ = #[Value.int .i64 kd, .string pt, va, .string tg, .int .i64 sz, .string dg, .slice (some ⟨b, o, none⟩) X.length xc][j]? from fun W hW j => by
    rw [hW.cell (p := ⟨w.heap.size, j, none⟩) hwl, hk4.cell (p := ⟨w.heap.size, j, none⟩) hwl]; exact HC.out j)
  have hlt4 : B < w4.heap.size := by omega
  have HBe := Lib.hid hB
  clear hw4 hs4 HC hk4 hb3 hB
  have hBw : w.heap.size ≤ B := Nat.le_of_lt hwl
  have HEB := Lib.hid (show ∀ W, Below B w4 W → Env W from fun W hW => HE.out W (hb4.trans (hW.mono hBw)))
  have HXB := Lib.hid (show ∀ W, Below B w4 W → ExAt W b o X from fun W hW => HXA.out W (hb4.trans (hW.mono hBw)))
  have bd0 : Below w4.heap.size w4 w4.drew := below_drew0 (below_refl w4)
  have bM := Lib.hid (show ∀ W, Below w4.heap.size w4 W → Below B w4 W from fun W hW => hW.mono (Nat.le_of_lt hlt4))
  have SK := Lib.hid (show ∀ W, Below B w4 W → W.cell? ⟨w.heap.size, 4, none⟩ = some (.int .i64 sz) ∧ W.cell? ⟨w.heap.size, 5, none⟩ = some (.string dg) ∧ W.cell? ⟨w.heap.size, 6, none⟩ = some (.slice (some ⟨b, o, none⟩) X.length xc) from fun W hW => ⟨HC4.out _ hW 4, HC4.out _ hW 5, HC4.out _ hW 6⟩)
  have bS := Lib.hid (show ∀ W W', Below w4.heap.size w4 W → Below W.heap.size W W' → Below w4.heap.size w4 W' from fun W W' h1 h2 => step2 h1 h2)
  have bW := Lib.hid (show ∀ W W', Below w4.heap.size w4 W → Below B W W' → Below B w4 W' from fun W W' h1 h2 => (bM.out W h1).trans h2)
  have H1 := Lib.hid (show ∀ W, Below w4.heap.size w4 W → Calls Tryz.prog 43 #[.string hd] W fun e w' => ∃ t : ByteArray, e = .returned (.string t) ∧ Hid (t.data.toList = strL hl ∧ t.size ≤ 21000) ∧ t.size ≤ 21000 ∧ Hid (Below W.heap.size W w') from fun W hW =>
    (string_any hd W (HEB.out W (bM.out W hW)) (by omega)).mono fun e w' ⟨t, h1, h2, h3⟩ => ⟨t, h1, by
      have e1 : t.data.toList = strL hl := by rw [h2.out, hhd.out]
      have e2 : t.size ≤ 21000 := by rw [← toList_size, e1]; have := strL_len30 hhl (by decide); omega
      exact ⟨⟨e1, e2⟩, e2, h3⟩⟩)
  have H2 := Lib.hid (show ∀ (n : Int) W, (-9223372036854775808 ≤ n ∧ n ≤ 9223372036854775807) → Below w4.heap.size w4 W → Calls Tryz.prog 71 #[.int .i64 n] W fun e w' => ∃ t : ByteArray, e = .returned (.string t) ∧ Hid (t.data.toList = numL n) ∧ t.size ≤ 30 ∧ Hid (Below W.heap.size W w') from fun n W hn hW =>
    (number_any n W (HEB.out W (bM.out W hW)) hn.1 hn.2).mono fun e w' ⟨t, h1, h2, h3⟩ => ⟨t, h1, h2, by
      rw [← toList_size, h2.out, numL_length]; have := itoa_len hn.1 hn.2; omega, h3⟩)
  have H3 := Lib.hid (show ∀ W, Below w4.heap.size w4 W → Calls Tryz.prog 43 #[.string dg] W fun e w' => ∃ t : ByteArray, e = .returned (.string t) ∧ Hid (t.data.toList = strL dg.data.toList) ∧ t.size ≤ 1100 ∧ Hid (Below W.heap.size W w') from fun W hW =>
    (string_any dg W (HEB.out W (bM.out W hW)) (by omega)).mono fun e w' ⟨t, h1, h2, h3⟩ => ⟨t, h1, h2, by
      rw [← toList_size, h2.out]; have := strL_len30 (l := dg.data.toList) (n := 1000) (by rw [toList_size]; exact hdg) (by decide); omega, h3⟩)
  have HWs := Lib.hid (show ∀ (W : World) (t : ByteArray), Below w4.heap.size w4 W → t.size ≤ 100000 → Calls Tryz.prog 52 #[.pointer (some ⟨B, 0, none⟩), .string t] W fun e w' =>
      e = .returned (.tuple #[.int .i64 t.size, .nilIface]) ∧ Hid (Bld B t.data.toList w') ∧ Hid (Below B W w') from fun W t hW ht =>
    (writeString_at B [] t W (isBuilder_below HB0.out hW) (by simp; omega) (Nat.le_trans (Nat.le_of_lt hlt4) hW.size)).mono fun e w' ⟨h1, h2, h3⟩ => ⟨h1, h2, h3⟩)
  have hszb : -9223372036854775808 ≤ sz ∧ sz ≤ 9223372036854775807 := by omega
  have hXb : -9223372036854775808 ≤ (X.length : Int) ∧ (X.length : Int) ≤ 9223372036854775807 := by omega
  have hcat := Lib.hid (show ∀ (a b : ByteArray), a.size + b.size ≤ 1000000 → ∃ c : ByteArray, Hid (c.data.toList = a.data.toList ++ b.data.toList) ∧ c.size ≤ a.size + b.size ∧ ∀ W : World, (Op.stringOp .add a b).run Tryz.prog W = .ok (.string c) W from fun a b h =>
    ⟨a ++ b, append_list a b, by rw [ByteArray.size_append]; exact Nat.le_refl _, fun W => run_string_add_sum W a b (by omega)⟩)
  go_cut [] from 17 to 32 (fun wc => Hid (Bld B (strL hl ++ numL sz ++ strL dg.data.toList ++ numL X.length) wc) ∧ Below B w4 wc)
  case first =>
    clear HE HXA HC4 HEB HXB HIN hX0 hX hb hsz
    go_region_held3 (fun W => W.cell? ⟨w.heap.size, 4, none⟩ = some (.int .i64 sz) ∧ W.cell? ⟨w.heap.size, 5, none⟩ = some (.string dg) ∧ W.cell? ⟨w.heap.size, 6, none⟩ = some (.slice (some ⟨b, o, none⟩) X.length xc))
      (first
        | with_reducible exact SK.out _ (bM.out _ bd0)
        | with_reducible exact SK.out _ (bM.out _ p1)
        | with_reducible exact SK.out _ (bM.out _ p2)
        | with_reducible exact SK.out _ (bM.out _ p3)
        | with_reducible exact SK.out _ (bM.out _ p4)
        | with_reducible exact SK.out _ p5)
      (first
        | (go_at_call 43; refine (H1.out _ bd0).mono ?_; rintro e wa ⟨t1, rfl, ht1, hs1, hb1⟩; have p1 := bS.out _ _ bd0 hb1.out)
        | (go_at_call 71; refine (H2.out sz _ hszb p1).mono ?_; rintro e wb ⟨t2, rfl, ht2, hs2, hb2⟩; have p2 := bS.out _ _ p1 hb2.out; obtain ⟨c2, hc2, z2, r2⟩ := hcat.out t1 t2 (by omega))
        | (go_at_call 43; refine (H3.out _ p2).mono ?_; rintro e wc ⟨t3, rfl, ht3, hs3, hb3⟩; have p3 := bS.out _ _ p2 hb3.out; obtain ⟨c3, hc3, z3, r3⟩ := hcat.out c2 t3 (by omega))
        | (go_at_call 71; refine (H2.out (X.length : Int) _ hXb p3).mono ?_; rintro e wd ⟨t4, rfl, ht4, hs4, hb4⟩; have p4 := bS.out _ _ p3 hb4.out; obtain ⟨c4, hc4, z4, r4⟩ := hcat.out c3 t4 (by omega))
        | (go_at_call 52; refine (HWs.out _ c4 p4 (by omega)).mono ?_; rintro e wf ⟨rfl, hB1, hbf⟩; have p5 := bW.out _ _ p4 hbf.out))
    all_goals
      go_wp2_with fail
      go_meet
      case rel => exact ⟨by rw [Hid, ← ht1.out.1, ← ht2.out, ← ht3.out, ← ht4.out, ← hc2.out, ← hc3.out, ← hc4.out]; exact hB1.out, p5⟩
  case rest =>
    obtain ⟨hB1, kb1⟩ := hcut
    have hl0 : (strL hl ++ numL sz ++ strL dg.data.toList ++ numL X.length).length ≤ 30000 := by
      simp only [List.length_append]
      have g1 := strL_len30 hhl (by decide)
      have g2 := strL_len30 (l := dg.data.toList) (n := 1000) (by rw [toList_size]; exact hdg) (by decide)
      have g3 : (numL sz).length ≤ 30 := by rw [numL_length]; have := itoa_len (n := sz) (by omega) (by omega); omega
      have g4 : (numL (X.length : Int)).length ≤ 30 := by rw [numL_length]; have := itoa_len (n := (X.length : Int)) (by omega) (by omega); omega
      omega
    generalize strL hl ++ numL sz ++ strL dg.data.toList ++ numL X.length = L1 at *
    clear H1 H2 H3 HWs bd0 bM bS bW SK
    have c6 : wc.cell? ⟨w.heap.size, 6, none⟩ = some (.slice (some ⟨b, o, none⟩) X.length xc) := HC4.out _ kb1 6
    go_wp2_with fail
    go_loopw [36] (fun i wr => ∃ k : Nat, k ≤ X.length ∧ i = .int .i64 k ∧ Hid (BldF B (L1 ++ (X.take k).flatMap exL) wr) ∧ Hid (((X.take k).flatMap exL).length ≤ k * 90) ∧ Below B w4 wr) (fun i _ => X.length - (intOf i).toNat)
    case atStart => exact ⟨0, by omega, rfl, by rw [Hid]; simpa using Lib.IsBuilderF.of hB1.out, by rw [Hid]; simp, kb1⟩
    case round =>
      obtain ⟨k, hk, rfl, hBk, hlk, kbr⟩ := hrel
      have hbr : B ≤ wr.heap.size := Nat.le_trans (Nat.le_of_lt hlt4) kbr.size
      by_cases hlt : k < X.length
      · obtain ⟨x0, x1, x2⟩ := exCells (HXB.out _ kbr) hlt
        obtain ⟨i1, i2, i3⟩ := HIN.out k hlt
        have hbX : Below wr.heap.size wr (wr.alloc (.cells #[.int .i64 (exAt X k).s, .int .i64 (exAt X k).o, .int .i64 (exAt X k).l] 101)) := (below_refl wr).alloc (Nat.le_refl _) _
        have hC := alloc_new_cell wr #[.int .i64 (exAt X k).s, .int .i64 (exAt X k).o, .int .i64 (exAt X k).l] 101
        have hs1 := size_one wr (.cells #[.int .i64 (exAt X k).s, .int .i64 (exAt X k).o, .int .i64 (exAt X k).l] 101)
        have HT := Lib.hid (take_flatX X k hlt)
        have HL : Hid (exL (exAt X k) = numL (exAt X k).s ++ numL (exAt X k).o ++ numL (exAt X k).l) := rfl
        have hlk2 := hlk.out
        have hbl : Hid (BldF B (L1 ++ (X.take k).flatMap exL) wr) := hBk
        generalize (exAt X k).s = xs at *
        generalize (exAt X k).o = xo at *
        generalize (exAt X k).l = xl at *
        go_upto_region 9 with (fail)
        obtain ⟨W1, hW1⟩ : ∃ W1, wr.alloc (.cells #[.int .i64 xs, .int .i64 xo, .int .i64 xl] 101) = W1 := ⟨_, rfl⟩
        change Code.wp _ _ _ _ (wr.alloc (.cells #[.int .i64 xs, .int .i64 xo, .int .i64 xl] 101))
        rw [hW1] at hbX hC hs1 ⊢
        have hX1 : W1.heap[wr.heap.size]? = some (.cells #[.int .i64 xs, .int .i64 xo, .int .i64 xl] 101 (0, 0)) := by rw [← hW1]; exact heap_alloc_new wr _
        have hne : wr.heap.size ≠ B := by have := kbr.size; omega
        clear hW1 x0 x1 x2
        have hltr : wr.heap.size < W1.heap.size := by omega
        clear hs1
        have kW1 : Below B w4 W1 := kbr.trans (hbX.mono hbr)
        have bM := Lib.hid (show ∀ W, Below W1.heap.size W1 W → Below B w4 W from fun W hW => kW1.trans (hW.mono (Nat.le_trans hbr (Nat.le_of_lt hltr))))
        have SK := Lib.hid (show ∀ W, Below W1.heap.size W1 W → W.cell? ⟨wr.heap.size, 0, none⟩ = some (.int .i64 xs) ∧ W.cell? ⟨wr.heap.size, 1, none⟩ = some (.int .i64 xo) ∧ W.cell? ⟨wr.heap.size, 2, none⟩ = some (.int .i64 xl) from fun W hW =>
          ⟨(hW.cell (p := ⟨wr.heap.size, 0, none⟩) hltr).trans (hC 0), (hW.cell (p := ⟨wr.heap.size, 1, none⟩) hltr).trans (hC 1), (hW.cell (p := ⟨wr.heap.size, 2, none⟩) hltr).trans (hC 2)⟩)
        have bS := Lib.hid (show ∀ W W', Below W1.heap.size W1 W → Below W.heap.size W W' → Below W1.heap.size W1 W' from fun W W' h1 h2 => step2 h1 h2)
        have bd0 : Below W1.heap.size W1 W1.drew := below_drew0 (below_refl W1)
        have H2 := Lib.hid (show ∀ (n : Int) W, (-2147483648 ≤ n ∧ n ≤ 2147483647) → Below W1.heap.size W1 W → Calls Tryz.prog 71 #[.int .i64 n] W fun e w' => ∃ t : ByteArray, e = .returned (.string t) ∧ Hid (t.data.toList = numL n) ∧ t.size ≤ 30 ∧ Hid (Below W.heap.size W w') from fun n W hn hW =>
          (number_any n W (HEB.out W (bM.out W hW)) (by omega) (by omega)).mono fun e w' ⟨t, h1, h2, h3⟩ => ⟨t, h1, h2, by
            rw [← toList_size, h2.out, numL_length]; have := itoa_len (n := n) (by omega) (by omega); omega, h3⟩)
        have HWs := Lib.hid (show ∀ (W : World) (t : ByteArray), Below W1.heap.size W1 W → t.size ≤ 90 → Calls Tryz.prog 52 #[.pointer (some ⟨B, 0, none⟩), .string t] W fun e w' =>
            e = .returned (.tuple #[.int .i64 t.size, .nilIface]) ∧ Hid (BldF B (L1 ++ (X.take k).flatMap exL ++ t.data.toList) w' ∧ Below B w4 w') ∧ (w'.cell? ⟨wr.heap.size, 0, none⟩ = some (.int .i64 xs) ∧ w'.cell? ⟨wr.heap.size, 1, none⟩ = some (.int .i64 xo) ∧ w'.cell? ⟨wr.heap.size, 2, none⟩ = some (.int .i64 xl)) from fun W t hW ht =>
          (writeF_at B _ t W (bldF_below (bldF_below hbl.out hbX) hW) (by rw [List.length_append]; omega) (Nat.le_trans (Nat.le_trans hbr (Nat.le_of_lt hltr)) hW.size)).mono fun e w' ⟨h1, h2, h3, h4⟩ => ⟨h1, ⟨h2.out, (bM.out W hW).trans h3⟩, others_cell h4.out ((hW.block _ hltr).trans hX1) hne (by decide), others_cell h4.out ((hW.block _ hltr).trans hX1) hne (by decide), others_cell h4.out ((hW.block _ hltr).trans hX1) hne (by decide)⟩)
        clear hbX hC kW1 hbl hX1 hne
        go_region_held3 (fun W => W.cell? ⟨wr.heap.size, 0, none⟩ = some (.int .i64 xs) ∧ W.cell? ⟨wr.heap.size, 1, none⟩ = some (.int .i64 xo) ∧ W.cell? ⟨wr.heap.size, 2, none⟩ = some (.int .i64 xl))
          (first
            | with_reducible exact SK.out _ bd0
            | with_reducible exact SK.out _ p1
            | with_reducible exact SK.out _ p2
            | with_reducible exact SK.out _ p3
            | with_reducible exact p4)
          (first
            | (go_at_call 71; refine (H2.out xs _ i1 bd0).mono ?_; rintro e wb ⟨t1, rfl, ht1, hs1, hb1⟩; have p1 := bS.out _ _ bd0 hb1.out)
            | (go_at_call 71; refine (H2.out xo _ i2 p1).mono ?_; rintro e wb2 ⟨t2, rfl, ht2, hs2, hb2⟩; have p2 := bS.out _ _ p1 hb2.out; obtain ⟨c2, hc2, z2, r2⟩ := hcat.out t1 t2 (by omega))
            | (go_at_call 71; refine (H2.out xl _ i3 p2).mono ?_; rintro e wb3 ⟨t3, rfl, ht3, hs3, hb3⟩; have p3 := bS.out _ _ p2 hb3.out; obtain ⟨c3, hc3, z3, r3⟩ := hcat.out c2 t3 (by omega))
            | (go_at_call 52; refine (HWs.out _ c3 p3 (by omega)).mono ?_; rintro e wf ⟨rfl, hB1, p4⟩))
        have hE : Hid (c3.data.toList = exL (exAt X k)) := by rw [Hid, hc3.out, hc2.out, ht1.out, ht2.out, ht3.out, HL.out]
        have hEl : c3.size ≤ 90 := by omega
        have hflat : Hid ((X.take (k + 1)).flatMap exL = (X.take k).flatMap exL ++ c3.data.toList) := by rw [Hid, HT.out, hE.out]
        have hB2 := hB1.out.1
        have kb2 := hB1.out.2
        go_wp2_with fail
        go_roundw
        case rel => exact ⟨k + 1, by omega, by go_num, by rw [Hid, hflat.out, ← List.append_assoc]; exact hB2, by rw [Hid, hflat.out, List.length_append, toList_size]; omega, kb2⟩
        case measure => simp [intOf]; omega
      · have htk : X.take k = X := List.take_of_length_le (by omega)
        rw [htk] at hBk
        clear htk
        go_wp2_with fail
        refine (Any.Builder_String_any_k Tryz.lays169 Tryz.Builder_Extra_169 B B (L1 ++ X.flatMap exL) _ hBk.out hbr).mono ?_
        rintro e w10 ⟨rfl, _, hb10, _⟩
        go_wp2_with fail
        go_ret2
        exact ⟨_, rfl, by rw [Hid]; try simp, (hb4.trans (kbr.mono hBw)).trans (hb10.mono hBw)⟩
set_option maxRecDepth 100000 in
set_option maxHeartbeats 4000000 in
theorem encode0 (kd : Int) (pt tg dg : ByteArray) (sz : Int) (xa : Option Addr) (xc : Nat) (va : Value) (w : World) (he : Env w) (hl : List UInt8) (hhl : hl.length ≤ 20000) (hdg : dg.size ≤ 1000) (hsz : 0 ≤ sz ∧ sz ≤ 65536)
    (HK : Hid (∀ W, Below w.heap.size w W → Calls Tryz.prog 108 #[.agg #[.int .i64 kd, .string pt, va, .string tg, .int .i64 sz, .string dg, .slice xa 0 xc]] W (HeadP hl 0 W))) :
    Calls Tryz.prog 72 #[.agg #[.int .i64 kd, .string pt, va, .string tg, .int .i64 sz, .string dg, .slice xa 0 xc]] w (HeadP (strL hl ++ numL sz ++ strL dg.data.toList ++ numL 0) 0 w) := by
  have hb0 : Below w.heap.size w (w.alloc (.cells #[.int .i64 kd, .string pt, va, .string tg, .int .i64 sz, .string dg, .slice xa 0 xc] 55)) := (below_refl _).alloc (Nat.le_refl _) _
  have HE := Lib.hid (show ∀ W, Below w.heap.size w W → Env W from fun W hW => he.below hW)
  clear he
  go_enter Tryz.func72, Tryz.ntmps72
  go_wp2_with fail
  refine (HK.out _ hb0).mono ?_
  rintro e w2 ⟨hd, rfl, hhd, hb2⟩
  have HC := Lib.hid (fun j => box_cells hb2 j)
  have hb3 := step2 hb0 hb2
  have hwl : w.heap.size < w2.heap.size := by have := hb2.size; simp at this; omega
  have hhs : hd.size ≤ 20000 := by rw [← toList_size, hhd.out]; exact hhl
  clear HK hb0 hb2
  go_upto_region 5 with (fail)
  have HB0 : Hid (Bld w2.heap.size [] (w2.alloc (.cells #[.pointer none, .slice none 0 0] 82))) := Lib.fresh_isBuilder 82 5 w2
  have hb4 : Below w.heap.size w (w2.alloc (.cells #[.pointer none, .slice none 0 0] 82)) := hb3.alloc hb3.size _
  have hk4 : Below w2.heap.size w2 (w2.alloc (.cells #[.pointer none, .slice none 0 0] 82)) := (below_refl w2).alloc (Nat.le_refl _) _
  have hs4 := size_one w2 (.cells #[.pointer none, .slice none 0 0] 82)
  generalize hB : w2.heap.size = B at *
  obtain ⟨w4, hw4⟩ : ∃ w4, w2.alloc (.cells #[.pointer none, .slice none 0 0] 82) = w4 := ⟨_, rfl⟩
  change Code.wp _ _ _ _ (w2.alloc (.cells #[.pointer none, .slice none 0 0] 82))
  rw [hw4] at HB0 hb4 hk4 hs4 ⊢
  have HC4 := Lib.hid (show ∀ W, Below B w4 W → ∀ j, W.cell? ⟨w.heap.size, j, none⟩ = #[Value.int .i64 kd, .string pt, va, .string tg, .int .i64 sz, .string dg, .slice xa 0 xc][j]? from fun W hW j => by
    rw [hW.cell (p := ⟨w.heap.size, j, none⟩) hwl, hk4.cell (p := ⟨w.heap.size, j, none⟩) hwl]; exact HC.out j)
  have hlt4 : B < w4.heap.size := by omega
  have HBe := Lib.hid hB
  clear hw4 hs4 HC hk4 hb3 hB
  have hBw : w.heap.size ≤ B := Nat.le_of_lt hwl
  have HEB := Lib.hid (show ∀ W, Below B w4 W → Env W from fun W hW => HE.out W (hb4.trans (hW.mono hBw)))
  have bd0 : Below w4.heap.size w4 w4.drew := below_drew0 (below_refl w4)
  have bM := Lib.hid (show ∀ W, Below w4.heap.size w4 W → Below B w4 W from fun W hW => hW.mono (Nat.le_of_lt hlt4))
  have SK := Lib.hid (show ∀ W, Below B w4 W → W.cell? ⟨w.heap.size, 4, none⟩ = some (.int .i64 sz) ∧ W.cell? ⟨w.heap.size, 5, none⟩ = some (.string dg) ∧ W.cell? ⟨w.heap.size, 6, none⟩ = some (.slice xa 0 xc) from fun W hW => ⟨HC4.out _ hW 4, HC4.out _ hW 5, HC4.out _ hW 6⟩)
  have bS := Lib.hid (show ∀ W W', Below w4.heap.size w4 W → Below W.heap.size W W' → Below w4.heap.size w4 W' from fun W W' h1 h2 => step2 h1 h2)
  have bW := Lib.hid (show ∀ W W', Below w4.heap.size w4 W → Below B W W' → Below B w4 W' from fun W W' h1 h2 => (bM.out W h1).trans h2)
  have H1 := Lib.hid (show ∀ W, Below w4.heap.size w4 W → Calls Tryz.prog 43 #[.string hd] W fun e w' => ∃ t : ByteArray, e = .returned (.string t) ∧ Hid (t.data.toList = strL hl ∧ t.size ≤ 21000) ∧ t.size ≤ 21000 ∧ Hid (Below W.heap.size W w') from fun W hW =>
    (string_any hd W (HEB.out W (bM.out W hW)) (by omega)).mono fun e w' ⟨t, h1, h2, h3⟩ => ⟨t, h1, by
      have e1 : t.data.toList = strL hl := by rw [h2.out, hhd.out]
      have e2 : t.size ≤ 21000 := by rw [← toList_size, e1]; have := strL_len30 hhl (by decide); omega
      exact ⟨⟨e1, e2⟩, e2, h3⟩⟩)
  have H2 := Lib.hid (show ∀ (n : Int) W, (-9223372036854775808 ≤ n ∧ n ≤ 9223372036854775807) → Below w4.heap.size w4 W → Calls Tryz.prog 71 #[.int .i64 n] W fun e w' => ∃ t : ByteArray, e = .returned (.string t) ∧ Hid (t.data.toList = numL n) ∧ t.size ≤ 30 ∧ Hid (Below W.heap.size W w') from fun n W hn hW =>
    (number_any n W (HEB.out W (bM.out W hW)) hn.1 hn.2).mono fun e w' ⟨t, h1, h2, h3⟩ => ⟨t, h1, h2, by
      rw [← toList_size, h2.out, numL_length]; have := itoa_len hn.1 hn.2; omega, h3⟩)
  have H3 := Lib.hid (show ∀ W, Below w4.heap.size w4 W → Calls Tryz.prog 43 #[.string dg] W fun e w' => ∃ t : ByteArray, e = .returned (.string t) ∧ Hid (t.data.toList = strL dg.data.toList) ∧ t.size ≤ 1100 ∧ Hid (Below W.heap.size W w') from fun W hW =>
    (string_any dg W (HEB.out W (bM.out W hW)) (by omega)).mono fun e w' ⟨t, h1, h2, h3⟩ => ⟨t, h1, h2, by
      rw [← toList_size, h2.out]; have := strL_len30 (l := dg.data.toList) (n := 1000) (by rw [toList_size]; exact hdg) (by decide); omega, h3⟩)
  have HWs := Lib.hid (show ∀ (W : World) (t : ByteArray), Below w4.heap.size w4 W → t.size ≤ 100000 → Calls Tryz.prog 52 #[.pointer (some ⟨B, 0, none⟩), .string t] W fun e w' =>
      e = .returned (.tuple #[.int .i64 t.size, .nilIface]) ∧ Hid (Bld B t.data.toList w') ∧ Hid (Below B W w') from fun W t hW ht =>
    (writeString_at B [] t W (isBuilder_below HB0.out hW) (by simp; omega) (Nat.le_trans (Nat.le_of_lt hlt4) hW.size)).mono fun e w' ⟨h1, h2, h3⟩ => ⟨h1, h2, h3⟩)
  have hszb : -9223372036854775808 ≤ sz ∧ sz ≤ 9223372036854775807 := by omega
  have hXb : -9223372036854775808 ≤ (0 : Int) ∧ (0 : Int) ≤ 9223372036854775807 := by omega
  have hcat := Lib.hid (show ∀ (a b : ByteArray), a.size + b.size ≤ 1000000 → ∃ c : ByteArray, Hid (c.data.toList = a.data.toList ++ b.data.toList) ∧ c.size ≤ a.size + b.size ∧ ∀ W : World, (Op.stringOp .add a b).run Tryz.prog W = .ok (.string c) W from fun a b h =>
    ⟨a ++ b, append_list a b, by rw [ByteArray.size_append]; exact Nat.le_refl _, fun W => run_string_add_sum W a b (by omega)⟩)
  go_cut [] from 17 to 32 (fun wc => Hid (Bld B (strL hl ++ numL sz ++ strL dg.data.toList ++ numL 0) wc) ∧ Below B w4 wc)
  case first =>
    clear HE HC4 HEB hsz
    go_region_held3 (fun W => W.cell? ⟨w.heap.size, 4, none⟩ = some (.int .i64 sz) ∧ W.cell? ⟨w.heap.size, 5, none⟩ = some (.string dg) ∧ W.cell? ⟨w.heap.size, 6, none⟩ = some (.slice xa 0 xc))
      (first
        | with_reducible exact SK.out _ (bM.out _ bd0)
        | with_reducible exact SK.out _ (bM.out _ p1)
        | with_reducible exact SK.out _ (bM.out _ p2)
        | with_reducible exact SK.out _ (bM.out _ p3)
        | with_reducible exact SK.out _ (bM.out _ p4)
        | with_reducible exact SK.out _ p5)
      (first
        | (go_at_call 43; refine (H1.out _ bd0).mono ?_; rintro e wa ⟨t1, rfl, ht1, hs1, hb1⟩; have p1 := bS.out _ _ bd0 hb1.out)
        | (go_at_call 71; refine (H2.out sz _ hszb p1).mono ?_; rintro e wb ⟨t2, rfl, ht2, hs2, hb2⟩; have p2 := bS.out _ _ p1 hb2.out; obtain ⟨c2, hc2, z2, r2⟩ := hcat.out t1 t2 (by omega))
        | (go_at_call 43; refine (H3.out _ p2).mono ?_; rintro e wc ⟨t3, rfl, ht3, hs3, hb3⟩; have p3 := bS.out _ _ p2 hb3.out; obtain ⟨c3, hc3, z3, r3⟩ := hcat.out c2 t3 (by omega))
        | (go_at_call 71; refine (H2.out 0 _ hXb p3).mono ?_; rintro e wd ⟨t4, rfl, ht4, hs4, hb4⟩; have p4 := bS.out _ _ p3 hb4.out; obtain ⟨c4, hc4, z4, r4⟩ := hcat.out c3 t4 (by omega))
        | (go_at_call 52; refine (HWs.out _ c4 p4 (by omega)).mono ?_; rintro e wf ⟨rfl, hB1, hbf⟩; have p5 := bW.out _ _ p4 hbf.out))
    all_goals
      go_wp2_with fail
      go_meet
      case rel => exact ⟨by rw [Hid, ← ht1.out.1, ← ht2.out, ← ht3.out, ← ht4.out, ← hc2.out, ← hc3.out, ← hc4.out]; exact hB1.out, p5⟩
  case rest =>
    obtain ⟨hB1, kb1⟩ := hcut
    generalize strL hl ++ numL sz ++ strL dg.data.toList ++ numL 0 = L1 at *
    clear H1 H2 H3 HWs bd0 bM bS bW SK
    have c6 : wc.cell? ⟨w.heap.size, 6, none⟩ = some (.slice xa 0 xc) := HC4.out _ kb1 6
    have hbc : B ≤ wc.heap.size := Nat.le_trans (Nat.le_of_lt hlt4) kb1.size
    go_upto_block 0 with (fail)
    go_wp2_with fail
    refine wp_loop_rounds 1 ?_; rw [rounds_succ]
    go_wp2_with fail
    refine (Tryz.Builder_String_any B B L1 _ hB1.out hbc).mono ?_
    rintro e w10 ⟨rfl, hb10⟩
    go_wp2_with fail
    go_ret2
    exact ⟨_, rfl, rfl, (hb4.trans (kb1.mono hBw)).trans (hb10.mono hBw)⟩
theorem pathE_len {l : List UInt8} (h : pathE l = 0) : l.length ≤ 200 := by
  unfold pathE at h
  split at h
  · cases h
  · omega
theorem dateB_len {l : List UInt8} (h : dateB l = true) : l.length ≤ 10 := by
  unfold dateB at h
  simp only [Bool.and_eq_true, decide_eq_true_eq] at h
  exact h.1.1.1.2
theorem targetB_len {k : Int} {l : List UInt8} (h : targetB k l = true) : l.length ≤ 200 := by
  unfold targetB at h
  split at h
  · simp only [Bool.and_eq_true, decide_eq_true_eq] at h; exact h.2
  · split at h
    · have := dateB_len h; omega
    · rw [List.isEmpty_iff] at h; rw [h]; exact Nat.zero_le _
theorem chkE_target {e : En} (h : chkE e = 0) : targetB e.kind e.target.data.toList = true := by
  obtain ⟨h1, h2, _⟩ := chkE_rest h
  have hk := chkE_kind h
  unfold chkE at h
  rw [if_neg (by omega), if_pos h1] at h
  split at h
  · cases h
  · split at h
    · cases h
    · rename_i hn
      cases ht : targetB e.kind e.target.data.toList
      · exact absurd (.inr ht) hn
      · rfl
theorem attrsE_at {A : List At} (h : attrsE A = 0) (i : Nat) (hi : i < A.length) : (atAt A i).key.size ≤ 32 ∧ (atAt A i).value.size ≤ 64 := by
  unfold attrsE at h
  split at h
  · cases h
  have h2 := firstE_all h i hi
  unfold attrE at h2
  split at h2
  · rename_i h3
    unfold attrOne at h3
    split at h3
    · cases h3
    rename_i hk
    split at h3
    · cases h3
    rename_i hv
    have hk2 : keyB (atAt A i).key.data.toList = true := by simpa using hk
    rw [keyB_of] at hk2
    simp only [Bool.and_eq_true, decide_eq_true_eq] at hk2
    exact ⟨hk2.1.2, by omega⟩
  · rename_i h3; exact absurd h2 h3
theorem flat_len : ∀ (A : List At), (∀ a ∈ A, a.key.size ≤ 32 ∧ a.value.size ≤ 64) → (A.flatMap atL).length ≤ A.length * 200
  | [], _ => by simp
  | a :: A, h => by
    obtain ⟨h1, h2⟩ := h a (by simp)
    have ih := flat_len A (fun b hb => h b (by simp [hb]))
    rw [List.flatMap_cons, List.length_append, List.length_cons, atL, List.length_append]
    have g1 := strL_len30 (l := a.key.data.toList) (n := 32) h1 (by decide)
    have g2 := strL_len30 (l := a.value.data.toList) (n := 64) h2 (by decide)
    omega
theorem contE_digest {kd sz : Int} {d : Nat} {X : List Ex} (h : contE kd sz d X = 0) : d ≤ 32 := by
  unfold contE at h
  split at h
  · rename_i hs
    unfold sizeE at hs
    by_cases q : sz < 0 ∨ (if kd = 1 then 65536 else 0) < sz
    · rw [if_pos q] at hs; exact absurd hs (by decide)
    rw [if_neg q] at hs
    by_cases r : d ≠ (if kd = 1 then 32 else 0)
    · rw [if_pos r] at hs; exact absurd hs (by decide)
    by_cases hk : kd = 1
    · rw [if_pos hk] at r; omega
    · rw [if_neg hk] at r; omega
  · rename_i hs; exact absurd h hs
theorem nameL_len (k : Int) : (nameL k).length ≤ 10 := by
  unfold nameL
  repeat' split
  all_goals decide
theorem headL_len {e : En} (hc : chkE e = 0) : (headL e).length ≤ 20000 ∧ e.path.size ≤ 1000 ∧ e.target.size ≤ 1000 ∧ e.attrs.length ≤ 16 ∧ (∀ i, (atAt e.attrs i).key.size ≤ 100 ∧ (atAt e.attrs i).value.size ≤ 100) ∧ e.digest.size ≤ 1000 := by
  obtain ⟨h1, h2, h3⟩ := chkE_rest hc
  have hp := pathE_len h1
  have ht := targetB_len (chkE_target hc)
  rw [toList_size] at hp ht
  have ha := attrsE_len h2
  have hd := contE_digest h3
  have hf := flat_len e.attrs (fun a ha => by
    obtain ⟨i, hi, rfl⟩ := List.getElem_of_mem ha
    have := attrsE_at h2 i hi
    rwa [atAt_get hi] at this)
  refine ⟨?_, by omega, by omega, ha, fun i => ?_, by omega⟩
  · unfold headL
    simp only [List.length_append]
    have g1 := strL_len30 (nameL_len e.kind) (by decide)
    have g2 := strL_len30 (l := e.path.data.toList) (n := 200) hp (by decide)
    have g3 : (numL (e.attrs.length : Int)).length ≤ 30 := by rw [numL_length]; have := itoa_len (n := (e.attrs.length : Int)) (by omega) (by omega); omega
    have g4 := strL_len30 (l := e.target.data.toList) (n := 200) ht (by decide)
    omega
  · by_cases hi : i < e.attrs.length
    · have := attrsE_at h2 i hi; omega
    · rw [atAt, List.getD_eq_getElem?_getD, List.getElem?_eq_none (by omega)]
      exact ⟨by decide, by decide⟩
theorem head_any (e : En) (va vx : Value) (w : World) (he : Env w) (hm : HasMax w) (ha : AtRow w va e.attrs) (hx : ExRow w vx e.exts) (hok : EnOk e) :
    Calls Tryz.prog 108 #[.agg #[.int .i64 e.kind, .string e.path, va, .string e.target, .int .i64 e.size, .string e.digest, vx]] w (HeadP (if chkE e = 0 then headL e else []) (chkE e) w) := by
  have HK := Lib.hid (show ∀ W, Below w.heap.size w W → Calls Tryz.prog 60 #[.agg #[.int .i64 e.kind, .string e.path, va, .string e.target, .int .i64 e.size, .string e.digest, vx]] W (IntP (chkE e) W) from
    fun W hW => check_any e va vx W (he.below hW) (hm.below hW) (ha.below hW) (hx.below hW) hok)
  by_cases hc : chkE e = 0
  · rw [if_pos hc]
    rw [hc] at HK ⊢
    obtain ⟨h1, h2, h3, h4, h5, _⟩ := headL_len hc
    obtain ⟨m, hmk, hm6⟩ := en_kind (chkE_kind hc)
    unfold headL
    rw [hmk] at HK ⊢
    rcases ha.2 with ⟨hA, a, cap, rfl, _⟩ | ⟨h0, b, o, cap, rfl, _, _, hb, hA⟩
    · rw [hA]
      have := head0 m e.path e.target e.digest e.size a cap vx w he hm6 h2 h3 HK
      simpa using this
    · exact head1 m e.path e.target e.digest e.size e.attrs b o cap vx w he hm6 h0 h4 hb hA h2 h3 h5 HK
  · rw [if_neg hc]
    exact head_bad e.kind e.path e.target e.digest e.size va vx w _ hc HK
theorem encode_any (e : En) (va vx : Value) (w : World) (he : Env w) (hm : HasMax w) (ha : AtRow w va e.attrs) (hx : ExRow w vx e.exts) (hok : EnOk e) :
    Calls Tryz.prog 72 #[.agg #[.int .i64 e.kind, .string e.path, va, .string e.target, .int .i64 e.size, .string e.digest, vx]] w (HeadP (if chkE e = 0 then bodyL e else []) (chkE e) w) := by
  have HK := Lib.hid (show ∀ W, Below w.heap.size w W → Calls Tryz.prog 108 #[.agg #[.int .i64 e.kind, .string e.path, va, .string e.target, .int .i64 e.size, .string e.digest, vx]] W (HeadP (if chkE e = 0 then headL e else []) (chkE e) W) from
    fun W hW => head_any e va vx W (he.below hW) (hm.below hW) (ha.below hW) (hx.below hW) hok)
  by_cases hc : chkE e = 0
  · rw [if_pos hc]
    rw [if_pos hc] at HK
    rw [hc] at HK ⊢
    obtain ⟨h1, _, _, _, _, h6⟩ := headL_len hc
    obtain ⟨x1, x2, x3⟩ := chkE_exts hc
    unfold bodyL
    rcases hx.2 with ⟨hX, a, cap, rfl, _⟩ | ⟨h0, b, o, cap, rfl, _, _, hb, hX⟩
    · rw [hX]
      have := encode0 e.kind e.path e.target e.digest e.size a cap va w he (headL e) h1 h6 x3 HK
      simpa using this
    · exact encode1 e.kind e.path e.target e.digest e.size e.exts b o cap va w he h0 (by omega) hb hX (headL e) h1 h6 x3 (fun i hi => x2 _ (by rw [exAt_get hi]; exact List.getElem_mem hi)) HK
  · rw [if_neg hc]
    rw [if_neg hc] at HK
    exact encode_bad e.kind e.path e.target e.digest e.size va vx w _ hc HK
end Go.Proofs.YtjlfjchcmkkebaaGreatDoor
