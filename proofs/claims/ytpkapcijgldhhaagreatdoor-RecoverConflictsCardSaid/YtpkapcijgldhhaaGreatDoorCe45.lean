/-
  Chapter 45: the law of blocks and ranges, walked out of the contracts.
  What the reach of a card says of the data among its arguments: strings, slices and structs, however deep.
  Chapter 45: a session of any size among the arguments, opened with the bound that the reach gives its extents; slices of booleans; a layout.
  The reference's spare blocks of a stripe.
-/
import Derived.Test.YtpkapcijgldhhaaGreatDoorCe44
import Derived.Test.YtpkapcijgldhhaaGreatDoorCe33
import Derived.Test.YtpkapcijgldhhaaGreatDoorCe07
import Derived.Test.YtpkapcijgldhhaaGreatDoorCe24
import Derived.Test.YtpkapcijgldhhaaGreatDoorCe20
import Derived.Test.YtpkapcijgldhhaaGreatDoorCe27
import Derived.Test.YtpkapcijgldhhaaGreatDoorCe40
import Derived.Test.YtpkapcijgldhhaaGreatDoorCe42
namespace Go.Proofs.YtpkapcijgldhhaaGreatDoor
open Go.RowKit Go.Shelf
def erS : Except Int (List UInt8) → ByteArray
  | .ok t => bA' t
  | .error _ => ⟨#[]⟩
def erE : Except Int (List UInt8) → Int
  | .ok _ => 0
  | .error x => x
theorem EraQ.form {r : Except Int (List UInt8)} {w w' : World} {e : Ending} (h : EraQ r w e w') : e = .returned (.tuple #[.string (erS r), .int .i64 (erE r)]) ∧ Below w.heap.size w w' := by
  cases r <;> exact h
set_option maxRecDepth 100000 in
set_option maxHeartbeats 4000000 in
theorem lawBlk45_any (ar : Int) (v : Value) (F : List Fr) (a0 a1 s st n : Int) (w : World) (he : Env w) (hm : HasMax w) (hr : FrRow w v F) (hz : ∀ i, i < F.length → (frAt F i).payload.size ≤ 9223372036854775807) (hl : LayWf F) (ha : wf64 a1) :
    Calls Tryz.prog 4 #[.agg #[.int .u32 ar, v], .agg #[.int .i64 a0, .int .i64 a1], .agg #[.int .i64 s, .int .i64 st, .int .i64 n]] w (TrueP w) := by
  have HA := Lib.hid (show ∀ W, Below w.heap.size w W → _ from fun W hW => alive45_any W (he.below hW) (hm.below hW))
  have HG := Lib.hid (show ∀ W, Below w.heap.size w W → _ from fun W hW => great45_any ar v F W (hr.below hW) hz)
  have H1 := Lib.hid (show ∀ W, Below w.heap.size w W → SmallF F → Calls _ _ _ _ _ from fun W hW hF => (block_any ar v F a0 a1 W (hr.below hW) hF hl ha).mono fun _ _ h => h.form)
  have H2 := Lib.hid (show ∀ W, Below w.heap.size w W → SmallF F → Calls _ _ _ _ _ from fun W hW hF => (blockR_any ar v F a0 a1 W (hr.below hW) hF ha).mono fun _ _ h => h.form)
  have H3 := Lib.hid (show ∀ W, Below w.heap.size w W → SmallF F → Calls _ _ _ _ _ from fun W hW hF => (bytes_any ar v F s st n W (hr.below hW) hF hl).mono fun _ _ h => h.form)
  have H4 := Lib.hid (show ∀ W, Below w.heap.size w W → SmallF F → Calls _ _ _ _ _ from fun W hW hF => (bytesR_any ar v F s st n W (hr.below hW) hF).mono fun _ _ h => h.form)
  clear he hm hr hz hl ha
  generalize erS (blkR F a0 a1) = bs at *
  generalize erE (blkR F a0 a1) = be at *
  generalize erS (bytR F s st n) = ts at *
  generalize erE (bytR F s st n) = te at *
  obtain ⟨k1, b1⟩ := boxr w [.int .u32 ar, v] 25
  obtain ⟨k2, b2⟩ := boxr (w.alloc (.cells [.int .u32 ar, v].toArray 25)) [.int .i64 a0, .int .i64 a1] 32
  obtain ⟨k3, b3⟩ := boxr ((w.alloc (.cells [.int .u32 ar, v].toArray 25)).alloc (.cells [.int .i64 a0, .int .i64 a1].toArray 32)) [.int .i64 s, .int .i64 st, .int .i64 n] 34
  have kb0 := step2 (step2 k1 k2) k3
  replace b1 := (b1.below k2).below k3
  replace b2 := b2.below k3
  simp only [World.size_alloc] at b2 b3
  clear k1 k2 k3
  go_enter Tryz.func4, Tryz.ntmps4
  go_upto_region 1 with (fail)
  change Code.wp _ _ _ _ (((w.alloc (.cells [.int .u32 ar, v].toArray 25)).alloc (.cells [.int .i64 a0, .int .i64 a1].toArray 32)).alloc (.cells [.int .i64 s, .int .i64 st, .int .i64 n].toArray 34))
  generalize ((w.alloc (.cells [.int .u32 ar, v].toArray 25)).alloc (.cells [.int .i64 a0, .int .i64 a1].toArray 32)).alloc (.cells [.int .i64 s, .int .i64 st, .int .i64 n].toArray 34) = W0 at *
  go_wp2_with fail
  refine (HA.out _ kb0).mono ?_
  rintro e w1 ⟨rfl, hb1⟩
  replace kb0 := step2 kb0 hb1
  replace b1 := b1.below hb1
  replace b2 := b2.below hb1
  replace b3 := b3.below hb1
  obtain ⟨c0, c1⟩ := b1.cells2
  clear HA hb1
  go_wp2_with fail
  refine (HG.out _ kb0).mono ?_
  rintro e w2 ⟨g, rfl, hg, hb2⟩
  replace kb0 := step2 kb0 hb2
  replace b1 := b1.below hb2
  replace b2 := b2.below hb2
  replace b3 := b3.below hb2
  clear HG c0 c1 hb2
  obtain ⟨c0, c1⟩ := b1.cells2
  obtain ⟨d0, d1⟩ := b2.cells2
  obtain ⟨x0, x1, x2⟩ : w2.cell? ⟨w.heap.size + 1 + 1, 0, none⟩ = some (.int .i64 s) ∧ w2.cell? ⟨w.heap.size + 1 + 1, 1, none⟩ = some (.int .i64 st) ∧ w2.cell? ⟨w.heap.size + 1 + 1, 2, none⟩ = some (.int .i64 n) := ⟨b3.cell 0, b3.cell 1, b3.cell 2⟩
  rcases hg.out with rfl | ⟨rfl, hF⟩
  · clear H1 H2 H3 H4 hg
    go_wp2_with fail
    go_ret
    exact ⟨rfl, kb0⟩
  have HF := Lib.hid hF
  clear hg hF
  by_cases q : 2000 < n ∧ n ≤ 65536 ∧ s ≠ 0
  · obtain ⟨q1, q2, q3⟩ := q
    have y : (s != 0) = true := bne_iff_ne.2 q3
    clear H1 H2 H3 H4 q3
    go_wp2_with fail
    go_ret
    exact ⟨rfl, kb0⟩
  by_cases q1 : 2000 < n
  · by_cases q2 : n ≤ 65536
    · have q3 : s = 0 := Classical.byContradiction fun h => q ⟨q1, q2, h⟩
      have y : (s != 0) = false := by rw [q3]; rfl
      clear q q3
      go_wp2_with fail
      refine (H1.out _ kb0 HF.out).mono ?_
      rintro e w3 ⟨rfl, hb3⟩
      replace kb0 := step2 kb0 hb3
      replace b1 := b1.below hb3
      replace b2 := b2.below hb3
      replace b3 := b3.below hb3
      clear H1 hb3 c0 c1 d0 d1 x0 x1 x2
      obtain ⟨c0, c1⟩ := b1.cells2
      obtain ⟨d0, d1⟩ := b2.cells2
      go_wp2_with fail
      refine (H2.out _ kb0 HF.out).mono ?_
      rintro e w4 ⟨rfl, hb4⟩
      replace kb0 := step2 kb0 hb4
      replace b1 := b1.below hb4
      replace b3 := b3.below hb4
      clear H2 hb4 c0 c1 d0 d1 b2
      obtain ⟨c0, c1⟩ := b1.cells2
      obtain ⟨x0, x1, x2⟩ : w4.cell? ⟨w.heap.size + 1 + 1, 0, none⟩ = some (.int .i64 s) ∧ w4.cell? ⟨w.heap.size + 1 + 1, 1, none⟩ = some (.int .i64 st) ∧ w4.cell? ⟨w.heap.size + 1 + 1, 2, none⟩ = some (.int .i64 n) := ⟨b3.cell 0, b3.cell 1, b3.cell 2⟩
      go_wp2_with fail
      refine (H3.out _ kb0 HF.out).mono ?_
      rintro e w5 ⟨rfl, hb5⟩
      replace kb0 := step2 kb0 hb5
      replace b1 := b1.below hb5
      replace b3 := b3.below hb5
      clear H3 hb5 c0 c1 x0 x1 x2
      obtain ⟨c0, c1⟩ := b1.cells2
      obtain ⟨x0, x1, x2⟩ : w5.cell? ⟨w.heap.size + 1 + 1, 0, none⟩ = some (.int .i64 s) ∧ w5.cell? ⟨w.heap.size + 1 + 1, 1, none⟩ = some (.int .i64 st) ∧ w5.cell? ⟨w.heap.size + 1 + 1, 2, none⟩ = some (.int .i64 n) := ⟨b3.cell 0, b3.cell 1, b3.cell 2⟩
      go_wp2_with fail
      refine (H4.out _ kb0 HF.out).mono ?_
      rintro e w6 ⟨rfl, hb6⟩
      replace kb0 := step2 kb0 hb6
      clear H4 hb6 c0 c1 x0 x1 x2 b1 b3
      go_wp2_with fail
      go_ret
      exact ⟨rfl, kb0⟩
    · clear q
      go_wp2_with fail
      refine (H1.out _ kb0 HF.out).mono ?_
      rintro e w3 ⟨rfl, hb3⟩
      replace kb0 := step2 kb0 hb3
      replace b1 := b1.below hb3
      replace b2 := b2.below hb3
      replace b3 := b3.below hb3
      clear H1 hb3 c0 c1 d0 d1 x0 x1 x2
      obtain ⟨c0, c1⟩ := b1.cells2
      obtain ⟨d0, d1⟩ := b2.cells2
      go_wp2_with fail
      refine (H2.out _ kb0 HF.out).mono ?_
      rintro e w4 ⟨rfl, hb4⟩
      replace kb0 := step2 kb0 hb4
      replace b1 := b1.below hb4
      replace b3 := b3.below hb4
      clear H2 hb4 c0 c1 d0 d1 b2
      obtain ⟨c0, c1⟩ := b1.cells2
      obtain ⟨x0, x1, x2⟩ : w4.cell? ⟨w.heap.size + 1 + 1, 0, none⟩ = some (.int .i64 s) ∧ w4.cell? ⟨w.heap.size + 1 + 1, 1, none⟩ = some (.int .i64 st) ∧ w4.cell? ⟨w.heap.size + 1 + 1, 2, none⟩ = some (.int .i64 n) := ⟨b3.cell 0, b3.cell 1, b3.cell 2⟩
      go_wp2_with fail
      refine (H3.out _ kb0 HF.out).mono ?_
      rintro e w5 ⟨rfl, hb5⟩
      replace kb0 := step2 kb0 hb5
      replace b1 := b1.below hb5
      replace b3 := b3.below hb5
      clear H3 hb5 c0 c1 x0 x1 x2
      obtain ⟨c0, c1⟩ := b1.cells2
      obtain ⟨x0, x1, x2⟩ : w5.cell? ⟨w.heap.size + 1 + 1, 0, none⟩ = some (.int .i64 s) ∧ w5.cell? ⟨w.heap.size + 1 + 1, 1, none⟩ = some (.int .i64 st) ∧ w5.cell? ⟨w.heap.size + 1 + 1, 2, none⟩ = some (.int .i64 n) := ⟨b3.cell 0, b3.cell 1, b3.cell 2⟩
      go_wp2_with fail
      refine (H4.out _ kb0 HF.out).mono ?_
      rintro e w6 ⟨rfl, hb6⟩
      replace kb0 := step2 kb0 hb6
      clear H4 hb6 c0 c1 x0 x1 x2 b1 b3
      go_wp2_with fail
      go_ret
      exact ⟨rfl, kb0⟩
  · clear q
    go_wp2_with fail
    refine (H1.out _ kb0 HF.out).mono ?_
    rintro e w3 ⟨rfl, hb3⟩
    replace kb0 := step2 kb0 hb3
    replace b1 := b1.below hb3
    replace b2 := b2.below hb3
    replace b3 := b3.below hb3
    clear H1 hb3 c0 c1 d0 d1 x0 x1 x2
    obtain ⟨c0, c1⟩ := b1.cells2
    obtain ⟨d0, d1⟩ := b2.cells2
    go_wp2_with fail
    refine (H2.out _ kb0 HF.out).mono ?_
    rintro e w4 ⟨rfl, hb4⟩
    replace kb0 := step2 kb0 hb4
    replace b1 := b1.below hb4
    replace b3 := b3.below hb4
    clear H2 hb4 c0 c1 d0 d1 b2
    obtain ⟨c0, c1⟩ := b1.cells2
    obtain ⟨x0, x1, x2⟩ : w4.cell? ⟨w.heap.size + 1 + 1, 0, none⟩ = some (.int .i64 s) ∧ w4.cell? ⟨w.heap.size + 1 + 1, 1, none⟩ = some (.int .i64 st) ∧ w4.cell? ⟨w.heap.size + 1 + 1, 2, none⟩ = some (.int .i64 n) := ⟨b3.cell 0, b3.cell 1, b3.cell 2⟩
    go_wp2_with fail
    refine (H3.out _ kb0 HF.out).mono ?_
    rintro e w5 ⟨rfl, hb5⟩
    replace kb0 := step2 kb0 hb5
    replace b1 := b1.below hb5
    replace b3 := b3.below hb5
    clear H3 hb5 c0 c1 x0 x1 x2
    obtain ⟨c0, c1⟩ := b1.cells2
    obtain ⟨x0, x1, x2⟩ : w5.cell? ⟨w.heap.size + 1 + 1, 0, none⟩ = some (.int .i64 s) ∧ w5.cell? ⟨w.heap.size + 1 + 1, 1, none⟩ = some (.int .i64 st) ∧ w5.cell? ⟨w.heap.size + 1 + 1, 2, none⟩ = some (.int .i64 n) := ⟨b3.cell 0, b3.cell 1, b3.cell 2⟩
    go_wp2_with fail
    refine (H4.out _ kb0 HF.out).mono ?_
    rintro e w6 ⟨rfl, hb6⟩
    replace kb0 := step2 kb0 hb6
    clear H4 hb6 c0 c1 x0 x1 x2 b1 b3
    go_wp2_with fail
    go_ret
    exact ⟨rfl, kb0⟩
theorem lawBlk45_card (ar : Int) (v : Value) (F : List Fr) (a0 a1 s st n : Int) (w : World) (he : Env w) (hm : HasMax w) (hr : FrRow w v F) (hz : ∀ i, i < F.length → (frAt F i).payload.size ≤ 9223372036854775807) (hl : LayWf F) (_h0 : wf64 a0) (h1 : wf64 a1) (_h2 : wf64 s) (_h3 : wf64 st) (_h4 : wf64 n) :
    Calls Tryz.prog 4 #[.agg #[.int .u32 ar, v], .agg #[.int .i64 a0, .int .i64 a1], .agg #[.int .i64 s, .int .i64 st, .int .i64 n]] w (TrueP w) :=
  lawBlk45_any ar v F a0 a1 s st n w he hm hr hz hl h1
end Go.Proofs.YtpkapcijgldhhaaGreatDoor

namespace Go.Proofs.YtpkapcijgldhhaaGreatDoor
open Go.RowKit
section
variable {H : Type} {P : Program}
/-- each weight of a datum is within the reach -/
def Wt (P : Program) (t : TypeId) (d : DataW H) : Prop := ∀ n ∈ d.weights P t, n ≤ reachBytes
theorem Wt.each {ts : List TypeId} {ds : List (DataW H)} (h : (DataW.weightsEach P ts ds).all (· ≤ reachBytes) = true) {j : Nat} {t : TypeId} {d : DataW H} (ht : ts[j]? = some t) (hd : ds[j]? = some d) : Wt P t d := fun n hn => by
  have := List.all_eq_true.1 h n (DataW.weights_mem_each ht hd n hn)
  simpa using this
theorem Wt.string {t : TypeId} {b : List UInt8} (h : Wt P t (.lit (.string b) : DataW H)) : b.length ≤ reachBytes := h b.length (by simp [DataW.weights])
theorem Wt.agg {t : TypeId} {fs : Array Field} {parts : List (DataW H)} (h : Wt P t (.agg parts)) (hu : P.underlying t = some (.struct fs)) {j : Nat} {tj : TypeId} {d : DataW H} (ht : (fs.toList.map (·.type))[j]? = some tj) (hd : parts[j]? = some d) : Wt P tj d := fun n hn =>
  h n (by simp only [DataW.weights, hu]; exact DataW.weights_mem_each ht hd n hn)
theorem weightsAll_mem {e : TypeId} : ∀ {ds : List (DataW H)} {d : DataW H}, d ∈ ds → ∀ n ∈ d.weights P e, n ∈ DataW.weightsAll P e ds
  | x :: r, d, hd, n, hn => by
    simp only [DataW.weightsAll, List.mem_append]
    rcases List.mem_cons.1 hd with rfl | hd
    · exact .inl hn
    · exact .inr (weightsAll_mem hd n hn)
theorem Wt.slice {t e : TypeId} {elems spare : List (DataW H)} (h : Wt P t (.slice elems spare)) (hu : P.underlying t = some (.slice e)) : (elems.length + spare.length) * P.bytesOf e ≤ reachBytes ∧ ∀ d ∈ elems, Wt P e d := by
  refine ⟨h _ (by simp [DataW.weights, hu]), fun d hd n hn => h n ?_⟩
  simp only [DataW.weights, hu, List.mem_cons, List.mem_append]
  exact .inr (.inl (weightsAll_mem hd n hn))
end
end Go.Proofs.YtpkapcijgldhhaaGreatDoor

namespace Go.Proofs.YtpkapcijgldhhaaGreatDoor
open Go.ChangeShapes Go.WideShapes Go.ChangeAt Go.RowKit Go.Deep
theorem lay_bool_cells : Tryz.prog.cellsOf 4 = 1 := by kernel_rfl
section
variable {H : Type} {enc : TypeId × Value → H} {w : World} {base : Nat}
set_option maxRecDepth 100000 in
theorem bools_of {v : Value} {d : DataW H} {p : List MemPlace} {base0 : Nat} {r : Reach}
    (hval : Value.okWide Tryz.prog w r base0 40 v) (h : DataW.Trod enc Tryz.prog w 0 (fun _ => true) true 40 v d p) :
    ∃ (u : Value) (L : List Bool), u = v ∧ Row w u (L.map Value.bool) := by
  refine ⟨v, ?_⟩
  suffices hs : ∃ L : List Bool, Row w v (L.map Value.bool) from hs.imp fun L hL => ⟨rfl, hL⟩
  obtain ⟨a0, len, cap, rfl⟩ := okWide_slice Tryz.underlying40 hval
  obtain ⟨fuel, hf⟩ := h
  rcases open_slice1 Tryz.underlying40 lay_bool_cells hf with ⟨hcs, _⟩ | ⟨a, len', cap', m, n, V, D, Pl, hcs, _, hl, hm, hmm, _, hx⟩
  · have hcs' : Value.slice a0 len cap = Value.slice none 0 0 := by simpa [Value.cells] using hcs
    rw [hcs']
    exact ⟨[], Row.nil w⟩
  · have hcs' : Value.slice a0 len cap = Value.slice (some a) len' cap' := by simpa [Value.cells] using hcs
    rw [hcs']
    simp only [if_true] at hmm
    subst hmm
    by_cases h0 : len' = 0
    · subst h0
      exact ⟨[], some a, m, rfl, by simp, hm, .inl ⟨rfl, fun e => by cases e⟩⟩
    have each : ∀ i, i < len' → ∃ c : Bool, w.cell? (a.add i) = some (.bool c) := fun i hi => by
      obtain ⟨h1, h2⟩ := hx i (by omega)
      obtain ⟨b, hb, _⟩ := DataW.trod_bool Tryz.underlying4 h2
      simp only [List.cons.injEq, and_true] at hb
      exact ⟨b, by rw [h1, hb]⟩
    obtain ⟨q, hq⟩ := choose_lt each
    have hsp : a.spot = none := by
      have := hq 0 (by omega)
      unfold World.cell? at this
      split at this
      · split at this
        · cases this
        · rename_i hs
          cases hsp : a.spot with
          | none => rfl
          | some x => exfalso; apply hs; unfold Addr.add; simp [hsp]
      · cases this
    obtain ⟨b, o, sp⟩ := a
    simp only at hsp
    subst hsp
    refine ⟨(List.range len').map q, some ⟨b, o, none⟩, m, by simp, by simpa using hl, hm, .inr ⟨b, o, rfl, fun i u hu => ?_⟩⟩
    rw [List.getElem?_map, List.getElem?_map] at hu
    by_cases hi : i < len'
    · rw [List.getElem?_eq_getElem (by simpa using hi)] at hu
      simp only [List.getElem_range, Option.map_some, Option.some.injEq] at hu
      rw [← hu, ← hq i hi, Addr.add_mid]
    · rw [List.getElem?_eq_none (by simpa using hi)] at hu; cases hu
set_option maxRecDepth 100000 in
theorem open_layout {r : Reach} {b0 : Nat} {v : Value} {d : DataW H} {p : List MemPlace} {spare : Nat → Bool} {held : Bool} (hv : Value.okWide Tryz.prog w r b0 39 v) (h : DataW.Trod enc Tryz.prog w base spare held 39 v d p) :
    ∃ (x0 x1 : Int), v = .agg #[.int .i64 x0, .int .i64 x1] ∧ (-9223372036854775808 ≤ x0 ∧ x0 ≤ 9223372036854775807) ∧ (-9223372036854775808 ≤ x1 ∧ x1 ≤ 9223372036854775807) := by
  obtain ⟨cs, rfl, hsz⟩ := okWide_struct Tryz.underlying39 hv
  obtain ⟨fuel, hf0⟩ := h
  rw [fr_lay_cells] at hsz
  obtain ⟨xs, k, _, _, _, hxl, hf⟩ := DataW.trod_struct Tryz.underlying39 hf0
  have hl : cs.toList.length = 2 := by simpa using hsz
  obtain ⟨cs⟩ := cs
  match xs, hxl, cs, hl with
  | [y0, y1], _, [v0, v1], _ =>
    have g0 := hf 0 _ rfl
    have g1 := hf 1 _ rfl
    simp [Value.cells, en_int_cells] at g0 g1
    obtain ⟨k0, e0, q0, z0⟩ := DataW.trod_int Tryz.underlying3 g0
    obtain ⟨k1, e1, q1, z1⟩ := DataW.trod_int Tryz.underlying3 g1
    simp only [List.cons.injEq, and_true] at e0 e1
    subst e0 e1
    exact ⟨k0, k1, rfl, wf_boundsi64 z0, wf_boundsi64 z1⟩
end
end Go.Proofs.YtpkapcijgldhhaaGreatDoor

namespace Go.Proofs.YtpkapcijgldhhaaGreatDoor
open Go.RowKit Go.Shelf
/-- the spare blocks up to the j-th -/
def spB (bs : List ByteArray) (j : Nat) : List ByteArray := (List.range j).map fun q => bA' (lagL (idsL bs.length) (bs.map fun t => t.data.toList) 28 (UInt8.ofNat (bs.length + q)))
theorem spB_succ (bs : List ByteArray) (j : Nat) : spB bs (j + 1) = spB bs j ++ [bA' (lagL (idsL bs.length) (bs.map fun t => t.data.toList) 28 (UInt8.ofNat (bs.length + j)))] := by unfold spB; rw [List.range_succ, List.map_append]; rfl
theorem spB_len (bs : List ByteArray) (j : Nat) : (spB bs j).length = j := by unfold spB; simp
theorem idsL_succ (k : Nat) : idsL (k + 1) = idsL k ++ [UInt8.ofNat k] := by unfold idsL; rw [List.range_succ, List.map_append]; rfl
theorem wrapN8 {k : Nat} (h : k < 256) : IntKind.u8.wrap (k : Int) = by8 (UInt8.ofNat k) ∧ (k : Int) % 256 = by8 (UInt8.ofNat k) := by
  have : by8 (UInt8.ofNat k) = (k : Int) := by rw [by8, UInt8.toNat_ofNat_of_lt' h]
  rw [this, wrap_u8 k h]
  omega
set_option maxRecDepth 100000 in
set_option maxHeartbeats 4000000 in
theorem encodeR_any (b o cap : Nat) (bs : List ByteArray) (sp : Nat) (w : World) (h0 : 0 < bs.length) (h8 : bs.length ≤ 8) (hs : sp ≤ 7) (hl : ∀ k, k < bs.length → (sAt bs k).size = 28) (hx : StAt w b o bs) :
    Calls Tryz.prog 80 #[.slice (some ⟨b, o, none⟩) bs.length cap, .int .i64 sp] w (fun e w' => ∃ g c, e = .returned (.tuple #[.slice (some ⟨g, 0, none⟩) sp c, .int .i64 0]) ∧ w'.ownsRow w.heap.size 9 1 (.slice (some ⟨g, 0, none⟩) sp c) sp ((spB bs sp).map Value.string) ∧ Below w.heap.size w w') := by
  have hX := Lib.hid (fun W (hW : Below w.heap.size w W) => hx.below hW)
  have hL := Lib.hid hl
  clear hx hl
  have q1 : ((bs.length : Int) == 0) = false := by rw [beq_eq_false_iff_ne]; omega
  have q2 : ¬ (sp : Int) < 0 := by omega
  have q3 : ¬ 15 < (sp : Int) := by omega
  have q4 : ¬ 15 < (bs.length : Int) + (sp : Int) := by omega
  have h0i : (0 : Int) < (bs.length : Int) := by omega
  have hO := World.ownsRow_made (base := w.heap.size) (e := 5) (size := 1) w #[] 0 (Nat.le_refl _) (by decide) rfl
  have kA : Below w.heap.size w (w.alloc (.cells #[] 5)) := (below_refl w).alloc (Nat.le_refl _) _
  go_enter Tryz.func80, Tryz.ntmps80
  go_upto_region 4 with (fail)
  generalize w.alloc (.cells #[] 5) = W0 at *
  clear q1 q2 q3 q4
  go_wp2_with fail
  go_loopw [6, 7] (fun va vi wr => ∃ k : Nat, k ≤ bs.length ∧ vi = .int .i64 k ∧ Below w.heap.size w wr ∧ wr.ownsRow w.heap.size 5 1 va k ((idsL k).map b8)) (fun _ vi _ => bs.length - (intOf vi).toNat)
  case atStart => exact ⟨0, by omega, rfl, kA, hO⟩
  case round =>
    clear kA hO
    obtain ⟨k, hk, rfl, kb, hown⟩ := hrel
    obtain ⟨oa, oc, rfl⟩ := own_form hown
    by_cases hlt : k < bs.length
    · have ck : wr.cell? ⟨b, o + k, none⟩ = some (.string (sAt bs k)) := hX.out _ kb k hlt
      have c0 : wr.cell? ⟨b, o, none⟩ = some (.string (sAt bs 0)) := hX.out _ kb 0 h0
      have z1 := hL.out k hlt
      have z2 := hL.out 0 h0
      have hki : (0 : Int) ≤ (k : Int) ∧ (k : Int) < (bs.length : Int) := by omega
      obtain ⟨v1, v2⟩ := wrapN8 (k := k) (by omega)
      have hid := Lib.hid (idsL_succ k)
      generalize sAt bs k = sk at *
      generalize sAt bs 0 = s0 at *
      go_upto_region 7 with (fail)
      go_quiet (fail)
      obtain ⟨iA, hiA, hA0, hA1, hA2⟩ := info_parts infoU8c
      have kq : Below w.heap.size w (wr.drewN nq) := below_drewN kb nq
      have hownq : (wr.drewN nq).ownsRow w.heap.size 5 1 (.slice oa k oc) k ((idsL k).map b8) := owns_below hown (below_drewN (below_refl wr) nq)
      generalize wr.drewN nq = W2 at *
      clear kb hown ck c0
      generalize UInt8.ofNat k = x at *
      have hone : ∀ u ∈ [b8 x], u.oneCell' = true := fun u hu => by simp only [List.mem_singleton] at hu; subst hu; rfl
      go_wp2_with (at_builtin; (refine wpList_append_own _ rfl _ _ 60 rfl w.heap.size 5 iA (.int .u8 0) 1 1 Tryz.underlying60 hiA hA0 hA1 hA2 rfl (by decide) _ _ _ rfl (hownq.alloc _) ⟨W2.heap.size, 0, none⟩ 1 1 [b8 x] rfl rfl (news1 W2 (b8 x) 5) hone (by unfold maxLen; omega) (by omega) (by simp; exact Nat.le_succ_of_le kq.size) ?_); intro v' w3 hown' hgr _)
      have hbw : Below w.heap.size w w3 := below_grownBy (kq.alloc kq.size _) (World.ownsRow.alloc hownq _) hgr (by rw [World.size_alloc]; exact Nat.le_succ_of_le kq.size)
      clear hgr hownq kq
      go_wp2_with fail
      go_roundw
      case rel => exact ⟨k + 1, by omega, by go_num, hbw, by rw [hid.out, List.map_append]; exact hown'⟩
      case measure => simp [intOf]; omega
    · obtain rfl : k = bs.length := by omega
      obtain ⟨g, rfl, hbx⟩ : ∃ g, oa = some ⟨g, 0, none⟩ ∧ ByAt wr g 0 (idsL bs.length) := by
        have h3 : wr.ownsRow w.heap.size 5 1 (.slice oa bs.length oc) (idsL bs.length).length ((idsL bs.length).map b8) := by rw [idsL_length]; exact hown
        obtain ⟨g, hg, _, hb⟩ := ByAt.of_own h3 (by rw [idsL_length]; exact h0)
        exact ⟨g, hg, hb⟩
      have HXS := Lib.hid (fun W (hW : Below wr.heap.size wr W) => hbx.below hW)
      clear hbx hown
      have hAt := Lib.hid (show ∀ (q : Nat) W, Below w.heap.size w W → Below wr.heap.size wr W → _ from fun q W h1 h2 => at_any g 0 oc b o cap (idsL bs.length) (UInt8.ofNat (bs.length + q)) bs 28 W h0 (by omega) hL.out (by decide) (by rw [idsL_length]) (idsL_nodup (by omega)) (HXS.out W h2) (hX.out W h1))
      rw [idsL_length] at hAt
      have hO := World.ownsRow_made (base := wr.heap.size) (e := 9) (size := 1) wr #[] 0 (Nat.le_refl _) (by decide) rfl
      have kA : Below wr.heap.size wr (wr.alloc (.cells #[] 9)) := (below_refl wr).alloc (Nat.le_refl _) _
      have hwle := kb.size
      have hNl := Lib.hid (spB_len bs)
      clear hL
      go_upto_region 11 with (fail)
      generalize wr.alloc (.cells #[] 9) = W1 at *
      go_wp2_with fail
      go_loopw [8, 9] (fun va vj wq => ∃ (j g c : Nat), j ≤ sp ∧ vj = .int .i64 j ∧ va = .slice (some ⟨g, 0, none⟩) j c ∧ Below wr.heap.size wr wq ∧ wq.ownsRow wr.heap.size 9 1 (.slice (some ⟨g, 0, none⟩) j c) j ((spB bs j).map Value.string)) (fun _ vj _ => sp - (intOf vj).toNat)
      case atStart => exact ⟨0, _, _, by omega, rfl, rfl, kA, hO⟩
      case round =>
        clear kA hO
        obtain ⟨j, gb, od, hj, rfl, rfl, kq, hown⟩ := hrel
        by_cases hjt : j < sp
        · have hji : (j : Int) < (sp : Int) := by omega
          have hnj : ((bs.length + j : Nat) : Int) = (bs.length : Int) + (j : Int) := by omega
          obtain ⟨v1, v2⟩ := wrapN8 (k := bs.length + j) (by omega)
          rw [hnj] at v1 v2
          have HA := Lib.hid (hAt.out j _ (kb.trans (kq.mono hwle)) kq)
          have hsp := Lib.hid (spB_succ bs j)
          generalize lagL (idsL bs.length) (bs.map fun t => t.data.toList) 28 (UInt8.ofNat (bs.length + j)) = R at *
          generalize UInt8.ofNat (bs.length + j) = x at *
          obtain ⟨iB, hiB, hB0, hB1, hB2⟩ := info_parts infoStc
          go_wp2_with fail
          refine HA.out.mono ?_
          rintro e w5 ⟨rfl, hb5⟩
          have hown5 := owns_below hown hb5
          have k5 := step2 kq hb5
          have hle5 := k5.size
          have hone : ∀ u ∈ [Value.string (bA' R)], u.oneCell' = true := fun u hu => by simp only [List.mem_singleton] at hu; subst hu; rfl
          clear HA kq hown hb5
          go_wp2_with (at_builtin; refine wpList_append_own _ rfl _ _ 57 rfl _ 9 iB (.string ⟨#[]⟩) 1 16 Tryz.underlying57 hiB hB0 hB1 hB2 rfl (by decide) _ _ _ rfl (hown5.alloc _) ⟨w5.heap.size, 0, none⟩ 1 1 [.string (bA' R)] rfl rfl (news1 w5 (.string (bA' R)) 9) hone (by unfold maxLen; omega) (by omega) (by simp; exact Nat.le_succ_of_le hle5) ?_; intro v' w3 hown' hgr _)
          have hbw := below_grownBy (k5.alloc hle5 _) (World.ownsRow.alloc hown5 _) hgr (by rw [World.size_alloc]; exact Nat.le_succ_of_le hle5)
          obtain ⟨g', c', rfl⟩ := ownsRow_succ hown'
          clear hgr hown5 k5
          go_wp2_with fail
          go_roundw
          case rel => exact ⟨j + 1, g', c', by omega, by go_num, rfl, hbw, by rw [hsp.out, List.map_append]; exact hown'⟩
          case measure => simp [intOf]; omega
        · obtain rfl : j = sp := by omega
          go_wp2_with fail
          go_ret2
          exact ⟨_, _, rfl, own_weak hown hwle, kb.trans (kq.mono hwle)⟩
end Go.Proofs.YtpkapcijgldhhaaGreatDoor
