/-
  Erasure in the program: choose; the block out of shares.
-/
import Derived.Test.YtpkapcijgldhhaaGreatDoorCe37
import Derived.Test.YtpkapcijgldhhaaGreatDoorCe27
namespace Go.Proofs.YtpkapcijgldhhaaGreatDoor
open Go.RowKit Go.Shelf
def ChoQ (S : List Sh) (w : World) (e : Ending) (w' : World) : Prop := ∃ gx cx gb cb, e = .returned (.tuple #[.agg #[.slice (some ⟨gx, 0, none⟩) S.length cx, .slice (some ⟨gb, 0, none⟩) S.length cb], .int .i64 0]) ∧ ByAt w' gx 0 (shX S S.length) ∧ StAt w' gb 0 (shB S S.length) ∧ Below w.heap.size w w'
theorem infoSel : (Tryz.prog.info? 126).map (·.size) = some 2 := by kernel_rfl
set_option maxRecDepth 100000 in
set_option maxHeartbeats 4000000 in
theorem indexB0_any (a : Option Addr) (cap : Nat) (x : UInt8) (w : World) : Calls Tryz.prog 158 #[.slice a 0 cap, .int .u8 (by8 x)] w (fun e w' => e = .returned (.int .i64 (-1)) ∧ w' = w) := by
  go_enter Tryz.func158, Tryz.ntmps158
  go_wp2_with fail
  refine wp_loop_rounds 1 ?_; rw [rounds_succ]
  go_wp2_with fail
  go_ret
  exact ⟨rfl, rfl⟩
set_option maxRecDepth 100000 in
set_option maxHeartbeats 4000000 in
theorem containsB_row (a : Option Addr) (cap : Nat) (L : List UInt8) (x : UInt8) (w : World) (hm : L.length ≤ 1000000) (hL : Row w (.slice a L.length cap) (L.map b8)) :
    Calls Tryz.prog 119 #[.slice a L.length cap, .int .u8 (by8 x)] w (fun e w' => e = .returned (.bool (decide (x ∈ L))) ∧ w' = w) := by
  obtain ⟨a', cap', he, _, _, h⟩ := hL
  rcases h with ⟨h1, _⟩ | ⟨b, o, rfl, h1⟩
  · obtain rfl : L = [] := by simpa using h1
    have HI := Lib.hid (indexB0_any a cap x w)
    show Calls Tryz.prog 119 #[.slice a 0 cap, .int .u8 (by8 x)] w (fun e w' => e = .returned (.bool false) ∧ w' = w)
    clear he h1
    go_enter Tryz.func119, Tryz.ntmps119
    go_wp2_with fail
    refine HI.out.mono ?_
    rintro e w2 ⟨rfl, rfl⟩
    go_wp2_with fail
    go_ret
    exact ⟨rfl, rfl⟩
  · injection he with e1 e2 e3
    subst e1
    refine containsB_any b o cap L x w hm (fun k hk => h1 k _ ?_)
    rw [List.getElem?_map, List.getElem?_eq_getElem hk, gf_get hk]; rfl
/-- the boxes and the rows between two rounds -/
structure Cho0 (w : World) (base SB : Nat) (hv va : Value) (A : List UInt8) (vb : Value) (B : List ByteArray) (W : World) : Prop where
  bel : Below w.heap.size w W
  hb : Box W w.heap.size [hv] 80
  rb : Box W (w.heap.size + 1) [.slice none 0 0, .slice none 0 0] 126
  sb : Box W SB [va, vb] 126
  a : W.ownsRow base 5 1 va A.length (A.map b8)
  b : W.ownsRow base 9 1 vb B.length (B.map Value.string)
  le : base ≤ W.heap.size
  lw : w.heap.size ≤ base
theorem Cho.end0 {w : World} {base SB X : Nat} {hv : Value} {i : Int} {d : ByteArray} {va : Value} {A : List UInt8} {vb : Value} {B : List ByteArray} {W : World} (h : Cho w base SB X hv va vb i d va A vb B W) : Cho0 w base SB hv va A vb B W := ⟨h.bel, h.hb, h.rb, h.sb, h.a, h.b, h.le, h.lw⟩
theorem own_addr {W : World} {base m c n : Nat} {e : TypeId} {a : Option Addr} {xs : List Value} (h : W.ownsRow base e 1 (.slice a m c) n xs) (h0 : 0 < n) : ∃ g, a = some ⟨g, 0, none⟩ ∧ base ≤ g ∧ ∀ i u, xs[i]? = some u → W.cell? ⟨g, i, none⟩ = some u := by
  rcases h.2 with ⟨hv, hn⟩ | ⟨g, cap, cur, hv, hbg, _⟩
  · exact absurd hn (by omega)
  · injection hv with h1 h2 h3
    subst h1
    refine ⟨g, rfl, hbg, fun i u hu => ?_⟩
    have := World.ownsRow.cells (g := g) h rfl i u hu
    rwa [Addr.add_mid, Nat.zero_add] at this
theorem ByAt.of_own {W : World} {base m c : Nat} {a : Option Addr} {L : List UInt8} (h : W.ownsRow base 5 1 (.slice a m c) L.length (L.map b8)) (h0 : 0 < L.length) : ∃ g, a = some ⟨g, 0, none⟩ ∧ base ≤ g ∧ ByAt W g 0 L := by
  obtain ⟨g, rfl, hbg, hc⟩ := own_addr h h0
  refine ⟨g, rfl, hbg, fun k hk => ?_⟩
  rw [Nat.zero_add]
  refine hc k _ ?_
  rw [List.getElem?_map, List.getElem?_eq_getElem hk, gf_get hk]; rfl
theorem StAt.of_own {W : World} {base m c : Nat} {a : Option Addr} {L : List ByteArray} (h : W.ownsRow base 9 1 (.slice a m c) L.length (L.map Value.string)) (h0 : 0 < L.length) : ∃ g, a = some ⟨g, 0, none⟩ ∧ base ≤ g ∧ StAt W g 0 L := by
  obtain ⟨g, rfl, hbg, hc⟩ := own_addr h h0
  refine ⟨g, rfl, hbg, fun k hk => ?_⟩
  rw [Nat.zero_add]
  refine hc k _ ?_
  rw [List.getElem?_map, List.getElem?_eq_getElem hk, sAt, List.getD_eq_getElem?_getD, List.getElem?_eq_getElem hk]; rfl
theorem ByAt.setCell {W : World} {g o B j : Nat} {L : List UInt8} (h : ByAt W g o L) (hne : B ≠ g) (u : Value) : ByAt (W.setCell ⟨B, j, none⟩ u) g o L := fun k hk => by
  rw [World.cell?_setCell_far _ _ _ _ hne]; exact h k hk
theorem StAt.setCell {W : World} {g o B j : Nat} {L : List ByteArray} (h : StAt W g o L) (hne : B ≠ g) (u : Value) : StAt (W.setCell ⟨B, j, none⟩ u) g o L := fun k hk => by
  rw [World.cell?_setCell_far _ _ _ _ hne]; exact h k hk
set_option maxRecDepth 100000 in
set_option maxHeartbeats 4000000 in
theorem choose_any (b o cap : Nat) (S : List Sh) (n : Nat) (w : World) (h : ShOk S) (hn : ∀ k, k < S.length → (shAt S k).d.size = n) (hn1 : n ≤ 1000) (h0 : 0 < S.length) (hl : S.length ≤ 15) (hS : ShAt w b o S) :
    Calls Tryz.prog 71 #[.slice (some ⟨b, o, none⟩) S.length cap, .int .i64 S.length] w (ChoQ S w) := by
  have eg1 := enters_of Tryz.func117 (by kernel_rfl) rfl
  have eg2 := enters_of Tryz.func118 (by kernel_rfl) rfl
  have eg3 := enters_of Tryz.func120 (by kernel_rfl) rfl
  have HS := Lib.hid (fun W (hW : Below w.heap.size w W) => hS.below hW)
  have hany : ∀ m, (List.range m).any (fun _ => false) = false := fun m => by induction m with
    | zero => rfl
    | succ m ih => rw [List.range_succ, List.any_append, ih]; rfl
  have H1 := Lib.hid (show ∀ W, Below w.heap.size w W → Calls Tryz.prog 116 #[.slice (some ⟨b, o, none⟩) S.length cap, .func (.func 117) #[] #[]] W (fun e w' => e = .returned (.bool false) ∧ Below W.heap.size W w') from fun W hW => by
    have := containsF_any b o cap S (fun _ => false) 117 #[] eg1 W (by omega) (hS.below hW) (fun k hk W' _ => pred1_any _ _ W' (h.ix k hk))
    rwa [hany] at this)
  have H2 := Lib.hid (show ∀ W H, Below w.heap.size w W → Box W H [.slice (some ⟨b, o, none⟩) S.length cap] 80 → Calls Tryz.prog 116 #[.slice (some ⟨b, o, none⟩) S.length cap, .func (.func 118) #[] #[.pointer (some ⟨H, 0, none⟩)]] W (fun e w' => e = .returned (.bool false) ∧ Below W.heap.size W w') from fun W H hW hH => by
    have := containsF_any b o cap S (fun _ => false) 118 #[.pointer (some ⟨H, 0, none⟩)] eg2 W (by omega) (hS.below hW) (fun k hk W' hW' => by
      have hp := pred2_any (shAt S k).i (shAt S k).d (shAt S 0).d W' H b o S.length cap h0 (hH.below hW') (by have := (shCells ((hS.below hW).below hW') h0).2; simpa using this)
      rw [hn k hk, hn 0 h0, decide_eq_false (by simp)] at hp
      exact hp)
    rwa [hany] at this)
  have H3 := Lib.hid (show ∀ W SB gx cx gb cb, Below w.heap.size w W → Box W SB [.slice (some ⟨gx, 0, none⟩) S.length cx, .slice (some ⟨gb, 0, none⟩) S.length cb] 126 → ByAt W gx 0 (shX S S.length) → StAt W gb 0 (shB S S.length) → Calls Tryz.prog 116 #[.slice (some ⟨b, o, none⟩) S.length cap, .func (.func 120) #[] #[.pointer (some ⟨SB, 0, none⟩)]] W (fun e w' => e = .returned (.bool false) ∧ Below W.heap.size W w') from fun W SB gx cx gb cb hW hB hx hb => by
    have := containsF_any b o cap S (fun _ => false) 120 #[.pointer (some ⟨SB, 0, none⟩)] eg3 W (by omega) (hS.below hW) (fun k hk W' hW' => pred3_any S n k SB gx cx gb cb W' h hn hn1 hk hl (hB.below hW') (hx.below hW') (hb.below hW'))
    rwa [hany] at this)
  have HNI := Lib.hid (fun k (hk : k < S.length) => h.notin hk)
  have HIX := Lib.hid h.ix
  clear hS h hn eg1 eg2 eg3 hany
  obtain ⟨kb0, bH⟩ := boxr' w [.slice (some ⟨b, o, none⟩) S.length cap] 80
  obtain ⟨kb1, bR⟩ := boxr' (w.alloc (.cells [.slice (some ⟨b, o, none⟩) S.length cap].toArray 80)) [.slice none 0 0, .slice none 0 0] 126
  replace bH := bH.below kb1
  replace kb0 := step2 kb0 kb1
  clear kb1
  rw [World.size_alloc] at bR
  have h0i : ¬ (S.length : Int) < 1 := by omega
  have h15i : ¬ 15 < (S.length : Int) := by omega
  go_enter Tryz.func71, Tryz.ntmps71
  go_upto_region 1 with (fail)
  change Code.wp _ _ _ _ ((w.alloc (.cells [.slice (some ⟨b, o, none⟩) S.length cap].toArray 80)).alloc (.cells [.slice none 0 0, .slice none 0 0].toArray 126))
  generalize (w.alloc (.cells [.slice (some ⟨b, o, none⟩) S.length cap].toArray 80)).alloc (.cells [.slice none 0 0, .slice none 0 0].toArray 126) = W0 at *
  have cH : W0.cell? ⟨w.heap.size, 0, none⟩ = some (.slice (some ⟨b, o, none⟩) S.length cap) := bH.cell 0
  go_wp2_with fail
  refine (H1.out _ kb0).mono ?_
  rintro e w1 ⟨rfl, hb1⟩
  have k1 := step2 kb0 hb1
  replace bH := bH.below hb1
  replace bR := bR.below hb1
  have cH : w1.cell? ⟨w.heap.size, 0, none⟩ = some (.slice (some ⟨b, o, none⟩) S.length cap) := bH.cell 0
  clear H1 kb0 hb1
  go_wp2_with fail
  refine (H2.out _ _ k1 bH).mono ?_
  rintro e w2 ⟨rfl, hb2⟩
  have k2 := step2 k1 hb2
  replace bH := bH.below hb2
  replace bR := bR.below hb2
  have cH : w2.cell? ⟨w.heap.size, 0, none⟩ = some (.slice (some ⟨b, o, none⟩) S.length cap) := bH.cell 0
  clear H2 k1 hb2
  have HR2 : w.heap.size + 2 ≤ w2.heap.size := bR.lt
  have HR2 : w.heap.size + 2 ≤ w2.heap.size := bR.lt
  have HR2 : w.heap.size + 2 ≤ w2.heap.size := bR.lt
  have HR2 : w.heap.size + 2 ≤ w2.heap.size := bR.lt
  have HR2 : w.heap.size + 2 ≤ w2.heap.size := bR.lt
  have HR2 : w.heap.size + 2 ≤ w2.heap.size := bR.lt
  obtain ⟨kb3, bS⟩ := boxr' w2 [.slice none 0 0, .slice none 0 0] 126
  have k3 := step2 k2 kb3
  replace bH := bH.below kb3
  replace bR := bR.below kb3
  have hSB : w.heap.size + 2 ≤ w2.heap.size := HR2
  go_upto_region 8 with (fail)
  have hz3 : (w2.alloc (.cells [.slice none 0 0, .slice none 0 0].toArray 126)).heap.size = w2.heap.size + 1 := World.size_alloc _ _
  change Code.wp _ _ _ _ (w2.alloc (.cells [.slice none 0 0, .slice none 0 0].toArray 126))
  generalize w2.alloc (.cells [.slice none 0 0, .slice none 0 0].toArray 126) = W3 at *
  generalize w2.heap.size = SB at *
  have hSb : SB < W3.heap.size := by omega
  have cH : W3.cell? ⟨w.heap.size, 0, none⟩ = some (.slice (some ⟨b, o, none⟩) S.length cap) := bH.cell 0
  clear k2 kb3 hz3
  go_wp2_with fail
  go_loopw [25] (fun v wr => ∃ (k : Nat) (va vb : Value), k ≤ S.length ∧ v = .int .i64 k ∧ Cho0 w W3.heap.size SB (.slice (some ⟨b, o, none⟩) S.length cap) va (shX S k) vb (shB S k) wr) (fun v _ => S.length - (intOf v).toNat)
  case atStart => exact ⟨0, _, _, by omega, rfl, k3, bH, bR, bS, World.ownsRow_nil _ _ _ _, World.ownsRow_nil _ _ _ _, Nat.le_refl _, by omega⟩
  case round =>
    clear k3 bH bR bS cH
    obtain ⟨k, va, vb, hk, rfl, C⟩ := hrel
    obtain ⟨oa, oc, rfl⟩ := own_form C.a
    obtain ⟨ob, od, rfl⟩ := own_form C.b
    rw [shX_len, shB_len] at C
    by_cases hlt : k < S.length
    · have hS1 := HS.out _ C.bel
      obtain ⟨c0, c1⟩ := shCells hS1 hlt
      have hix : (0 : Int) ≤ (k : Int) ∧ (k : Int) < (S.length : Int) := by omega
      have hw8 := wrap8 (HIX.out k hlt)
      have hni := HNI.out k hlt
      have hXs := Lib.hid (shX_succ S k)
      have hBs := Lib.hid (shB_succ S k)
      obtain ⟨kX, bX⟩ := boxr' wr [.int .i64 (shAt S k).i, .string (shAt S k).d] 85
      have C1 : Cho w W3.heap.size SB wr.heap.size (.slice (some ⟨b, o, none⟩) S.length cap) (.slice oa k oc) (.slice ob k od) (shAt S k).i (shAt S k).d (.slice oa k oc) (shX S k) (.slice ob k od) (shB S k) (wr.alloc (.cells [.int .i64 (shAt S k).i, .string (shAt S k).d].toArray 85)) :=
        ⟨step2 C.bel kX, C.hb.below kX, C.rb.below kX, C.sb.below kX, bX, owns_below C.a kX, owns_below C.b kX, Nat.le_trans C.le kX.size, C.lw⟩
      have hXSB : wr.heap.size ≠ SB := by have := C.le; omega
      go_upto_region 11 with (fail)
      change Code.wp _ _ _ _ (wr.alloc (.cells [.int .i64 (shAt S k).i, .string (shAt S k).d].toArray 85))
      generalize wr.alloc (.cells [.int .i64 (shAt S k).i, .string (shAt S k).d].toArray 85) = W4 at *
      generalize wr.heap.size = X at *
      clear C c0 c1 kX bX hS1
      generalize (shAt S k).i = i at *
      generalize (shAt S k).d = d at *
      generalize UInt8.ofNat i.toNat = x at *
      have hRow : Row W4 (.slice oa k oc) ((shX S k).map b8) := Row.of_owns C1.a
      have hCB : Calls Tryz.prog 119 #[.slice oa k oc, .int .u8 (by8 x)] W4 (fun e w' => e = .returned (.bool false) ∧ w' = W4) := by
        have := containsB_row oa oc (shX S k) x W4 (by rw [shX_len]; omega) (by rw [shX_len]; exact hRow)
        rw [shX_len, decide_eq_false hni] at this
        exact this
      have HCB := Lib.hid hCB
      clear hRow hCB
      obtain ⟨s0, s1⟩ := C1.sb.cells2
      obtain ⟨x0, x1⟩ := C1.xb.cells2
      have hki : (k : Int) < (S.length : Int) := by omega
      go_wp2_with fail
      refine HCB.out.mono ?_
      rintro e W4 ⟨rfl, rfl⟩
      go_upto_region 12 with (fail)
      obtain ⟨iA, hiA, hA0, hA1, hA2⟩ := info_parts infoU8c
      obtain ⟨iB, hiB, hB0, hB1, hB2⟩ := info_parts infoStc
      have oneA : ∀ u ∈ [b8 x], u.oneCell' = true := fun u hu => by simp only [List.mem_singleton] at hu; subst hu; rfl
      have oneB : ∀ u ∈ [Value.string d], u.oneCell' = true := fun u hu => by simp only [List.mem_singleton] at hu; subst hu; rfl
      have C0 := C1.drew
      have CA := C1.alloc (.cells #[.int .u8 (by8 x)] 5)
      have CB := C1.alloc (.cells #[.string d] 9)
      have CAB := CA.alloc (.cells #[.string d] 9)
      have CBA := CB.alloc (.cells #[.int .u8 (by8 x)] 5)
      have nA := news1 W4 (b8 x) 5
      have bAB : Box ((W4.alloc (.cells #[.int .u8 (by8 x)] 5)).alloc (.cells #[.string d] 9)) W4.heap.size [b8 x] 5 := Box.alloc (Box.new W4 [b8 x] 5) _
      have bBA : Box ((W4.alloc (.cells #[.string d] 9)).alloc (.cells #[.int .u8 (by8 x)] 5)) (W4.heap.size + 1) [b8 x] 5 := by
        have := Box.new (W4.alloc (.cells #[.string d] 9)) [b8 x] 5
        rw [World.size_alloc] at this; exact this
      have tAB : Box ((W4.alloc (.cells #[.int .u8 (by8 x)] 5)).alloc (.cells #[.string d] 9)).drew (W4.heap.size + 1) [.string d] 9 := by
        have := Box.new (W4.alloc (.cells #[.int .u8 (by8 x)] 5)) [.string d] 9
        rw [World.size_alloc] at this; exact this
      have tBA : Box ((W4.alloc (.cells #[.string d] 9)).alloc (.cells #[.int .u8 (by8 x)] 5)).drew W4.heap.size [.string d] 9 := Box.alloc (Box.new W4 [.string d] 9) _
      have aA := CA.drew.a
      have aAB := CAB.drew.a
      have aBA := CBA.drew.a
      rw [shX_len] at aA aAB aBA
      have hS00 := C0.xb.cells2
      have hS10 := C0.sb.cells2
      refine region_T (S0 := fun W => W.cell? ⟨X, 0, none⟩ = some (.int .i64 i) ∧ W.cell? ⟨X, 1, none⟩ = some (.string d)) (S1 := fun W => W.cell? ⟨SB, 0, none⟩ = some (.slice oa k oc) ∧ W.cell? ⟨SB, 1, none⟩ = some (.slice ob k od)) (m := 14) (by kernel_rfl) ?_
      refine takeA (i := 0) (v := ?_) rfl (by decide) (by kernel_rfl) (by kernel_rfl) (by kernel_rfl) (fun _ _ _ h => h) (Or.inl ⟨by rfl, ?_⟩) C0.xb.cells2 (fun _ => C0.sb.cells2) ?_
      rotate_left
      · rintro W hSw
        (try dsimp only at hSw)
        obtain ⟨hSa, hSb⟩ := hSw
        go_simp
        first | done | with_reducible rfl
      try simp only [Act.put, List.setIfInBounds_toArray, List.set_cons_zero, List.set_cons_succ]
      refine takeB (i := 1) (v := ?_) rfl (by decide) rfl (by kernel_rfl) (by kernel_rfl) (by kernel_rfl) (by kernel_rfl) (by kernel_rfl) (fun _ _ _ h => h) (Or.inl ⟨by rfl, ?_⟩) C0.xb.cells2 C0.sb.cells2 ?_
      rotate_left
      · rintro W hSw
        (try dsimp only at hSw)
        obtain ⟨⟨hSa, hSb⟩, hSc, hSd⟩ := hSw
        go_simp
        first | done | with_reducible rfl
      try simp only [Act.put, List.setIfInBounds_toArray, List.set_cons_zero, List.set_cons_succ]
      refine takeA (i := 2) (v := ?_) rfl (by decide) (by kernel_rfl) (by kernel_rfl) (by kernel_rfl) (fun _ _ _ h => h) (Or.inl ⟨by rfl, ?_⟩) C0.xb.cells2 (fun _ => C0.sb.cells2) ?_
      rotate_left
      · rintro W hSw
        (try dsimp only at hSw)
        obtain ⟨hSa, hSb⟩ := hSw
        go_simp
        first | done | with_reducible rfl
      try simp only [Act.put, List.setIfInBounds_toArray, List.set_cons_zero, List.set_cons_succ]
      refine takeA (i := 3) (v := ?_) rfl (by decide) (by kernel_rfl) (by kernel_rfl) (by kernel_rfl) (fun _ _ _ h => h) (Or.inl ⟨by rfl, ?_⟩) C0.xb.cells2 (fun _ => C0.sb.cells2) ?_
      rotate_left
      · rintro W hSw
        (try dsimp only at hSw)
        obtain ⟨hSa, hSb⟩ := hSw
        go_simp
        first | done | with_reducible rfl
      try simp only [Act.put, List.setIfInBounds_toArray, List.set_cons_zero, List.set_cons_succ]
      refine takeA (i := 4) (v := ?_) rfl (by decide) (by kernel_rfl) (by kernel_rfl) (by kernel_rfl) (fun _ _ _ h => h) (Or.inl ⟨by rfl, ?_⟩) C0.xb.cells2 (fun _ => C0.sb.cells2) ?_
      rotate_left
      · rintro W hSw
        (try dsimp only at hSw)
        obtain ⟨hSa, hSb⟩ := hSw
        go_simp
        first | done | with_reducible rfl
      try simp only [Act.put, List.setIfInBounds_toArray, List.set_cons_zero, List.set_cons_succ]
      refine takeA (i := 7) (v := ?_) rfl (by decide) (by kernel_rfl) (by kernel_rfl) (by kernel_rfl) (fun _ _ _ h => h) (Or.inl ⟨by rfl, ?_⟩) C0.xb.cells2 (fun _ => C0.sb.cells2) ?_
      rotate_left
      · rintro W hSw
        (try dsimp only at hSw)
        obtain ⟨hSa, hSb⟩ := hSw
        go_simp
        first | done | with_reducible rfl
      try simp only [Act.put, List.setIfInBounds_toArray, List.set_cons_zero, List.set_cons_succ]
      refine takeB (i := 8) (v := ?_) rfl (by decide) rfl (by kernel_rfl) (by kernel_rfl) (by kernel_rfl) (by kernel_rfl) (by kernel_rfl) (fun _ _ _ h => h) (Or.inl ⟨by rfl, ?_⟩) C0.xb.cells2 C0.sb.cells2 ?_
      rotate_left
      · rintro W hSw
        (try dsimp only at hSw)
        obtain ⟨⟨hSa, hSb⟩, hSc, hSd⟩ := hSw
        go_simp
        first | done | with_reducible rfl
      try simp only [Act.put, List.setIfInBounds_toArray, List.set_cons_zero, List.set_cons_succ]
      refine takeA (i := 9) (v := ?_) rfl (by decide) (by kernel_rfl) (by kernel_rfl) (by kernel_rfl) (fun _ _ _ h => h) (Or.inl ⟨by rfl, ?_⟩) C0.xb.cells2 (fun _ => C0.sb.cells2) ?_
      rotate_left
      · rintro W hSw
        (try dsimp only at hSw)
        obtain ⟨hSa, hSb⟩ := hSw
        go_simp
        first | done | with_reducible rfl
      try simp only [Act.put, List.setIfInBounds_toArray, List.set_cons_zero, List.set_cons_succ]
      refine takeA (i := 10) (v := ?_) rfl (by decide) (by kernel_rfl) (by kernel_rfl) (by kernel_rfl) (fun _ _ _ h => h) (Or.inl ⟨by rfl, ?_⟩) C0.xb.cells2 (fun _ => C0.sb.cells2) ?_
      rotate_left
      · rintro W hSw
        (try dsimp only at hSw)
        obtain ⟨hSa, hSb⟩ := hSw
        go_simp
        first | done | with_reducible rfl
      try simp only [Act.put, List.setIfInBounds_toArray, List.set_cons_zero, List.set_cons_succ]
      refine readyT (rs := [5, 11]) (by kernel_rfl) (by simp) (fun j hj => ?_)
      simp only [List.mem_cons, List.not_mem_nil, or_false] at hj
      rcases hj with rfl | rfl
      · refine stepT rfl rfl (fun K hK => ?_)
        rw [if_pos (by rfl)]
        go_simp
        refine hK.out _ _ CA.drew.xb.cells2 (fun _ => CA.drew.sb.cells2) ?_
        clear hK K
        try simp only [Act.put, List.setIfInBounds_toArray, List.set_cons_zero, List.set_cons_succ]
        refine readyT (rs := [6, 11]) (by kernel_rfl) (by simp) (fun j hj => ?_)
        simp only [List.mem_cons, List.not_mem_nil, or_false] at hj
        rcases hj with rfl | rfl
        · refine stepT rfl rfl (fun K hK => ?_)
          refine step_append_own2 rfl (.tmp 44) (.tmp 48) 60 rfl W3.heap.size 5 iA (.int .u8 0) 1 1 Tryz.underlying60 hiA hA0 hA1 hA2 rfl (by decide) (.slice oa k oc) k ((shX S k).map b8) (by simp [Act.eval]) aA ⟨W4.heap.size, 0, none⟩ 1 1 [b8 x] (by simp [Act.eval]) rfl nA oneA (by unfold maxLen; omega) (by omega) CA.drew.le ?_
          intro oa7 oc7 w7 own7 hb7 hg7
          have C7 := Cho.stepA (x := x) CA.drew hb7.out hg7.out (by rw [shX_len]; exact own7)
          have C7b := C7.alloc (.cells #[.string d] 9)
          refine hK.out _ _ C7.xb.cells2 (fun _ => C7.sb.cells2) ?_
          clear hK K
          try simp only [Act.put, List.setIfInBounds_toArray, List.set_cons_zero, List.set_cons_succ]
          refine takeA (i := 13) (v := ?_) rfl (by decide) (by kernel_rfl) (by kernel_rfl) (by kernel_rfl) (fun _ _ _ h => h) (Or.inl ⟨by rfl, ?_⟩) C7.xb.cells2 (fun _ => C7.sb.cells2) ?_
          rotate_left
          · rintro W hSw
            (try dsimp only at hSw)
            obtain ⟨hSa, hSb⟩ := hSw
            go_simp
            first | done | with_reducible rfl
          try simp only [Act.put, List.setIfInBounds_toArray, List.set_cons_zero, List.set_cons_succ]
          refine readyT (rs := [11]) (by kernel_rfl) (by simp) (fun j hj => ?_)
          simp only [List.mem_cons, List.not_mem_nil, or_false] at hj
          obtain rfl := hj
          refine stepT rfl rfl (fun K hK => ?_)
          rw [if_pos (by rfl)]
          go_simp
          refine hK.out _ _ C7b.xb.cells2 (fun _ => C7b.sb.cells2) ?_
          clear hK K
          try simp only [Act.put, List.setIfInBounds_toArray, List.set_cons_zero, List.set_cons_succ]
          have b7b := C7b.b
          rw [shB_len] at b7b
          refine readyT (rs := [12]) (by kernel_rfl) (by simp) (fun j hj => ?_)
          simp only [List.mem_cons, List.not_mem_nil, or_false] at hj
          obtain rfl := hj
          refine stepT rfl rfl (fun K hK => ?_)
          refine step_append_own2 rfl (.tmp 51) (.tmp 54) 57 rfl W3.heap.size 9 iB (.string ⟨#[]⟩) 1 16 Tryz.underlying57 hiB hB0 hB1 hB2 rfl (by decide) (.slice ob k od) k ((shB S k).map Value.string) (by simp [Act.eval]) b7b ⟨w7.heap.size, 0, none⟩ 1 1 [.string d] (by simp [Act.eval]) rfl (news1 w7 (.string d) 9) oneB (by unfold maxLen; omega) (by omega) C7b.le ?_
          intro ob8 od8 w8 own8 hb8 hg8
          have C8 := Cho.stepB (x := d) C7b hb8.out hg8.out (by rw [shB_len]; exact own8)
          refine hK.out _ _ C8.xb.cells2 (fun _ => C8.sb.cells2) ?_
          clear hK K
          try simp only [Act.put, List.setIfInBounds_toArray, List.set_cons_zero, List.set_cons_succ]
          obtain ⟨s80, s81⟩ := C8.sb.cells2
          have f80 := C8.sb.frozen 0
          have f81 := C8.sb.frozen 1
          refine readyT (rs := [14]) (by kernel_rfl) (by simp) (fun j hj => ?_)
          simp only [List.mem_cons, List.not_mem_nil, or_false] at hj
          obtain rfl := hj
          refine stepT rfl rfl (fun K hK => ?_)
          rw [if_pos (by rfl)]
          go_simp
          refine hK.out _ _ (C8.xb.setOther (j := 0) (fun e => hXSB e.symm) _).cells2 (fun h => by cases (show true = false from h)) ?_
          clear hK K
          try simp only [Act.put, List.setIfInBounds_toArray, List.set_cons_zero, List.set_cons_succ]
          refine readyT (rs := [15]) (by kernel_rfl) (by simp) (fun j hj => ?_)
          simp only [List.mem_cons, List.not_mem_nil, or_false] at hj
          obtain rfl := hj
          refine stepT rfl rfl (fun K hK => ?_)
          rw [if_pos (by rfl)]
          go_simp
          refine hK.out _ _ (C8.xb.setOther (j := 0) (fun e => hXSB e.symm) _).cells2 (fun h => by cases (show true = false from h)) ?_
          clear hK K
          try simp only [Act.put, List.setIfInBounds_toArray, List.set_cons_zero, List.set_cons_succ]
          refine readyT (rs := [16]) (by kernel_rfl) (by simp) (fun j hj => ?_)
          simp only [List.mem_cons, List.not_mem_nil, or_false] at hj
          obtain rfl := hj
          refine stepT rfl rfl (fun K hK => ?_)
          rw [if_pos (by rfl)]
          have s81s := ((C8.sb.set (j := 0) (.slice oa7 (k + 1) oc7)).cells2).2
          have f81s := (C8.sb.set (j := 0) (.slice oa7 (k + 1) oc7)).frozen 1
          have CF := Cho.store C8 hSB hSb hXSB (.slice oa7 (k + 1) oc7) (.slice ob8 (k + 1) od8)
          go_simp
          refine hK.out _ _ CF.xb.cells2 (fun h => by cases (show true = false from h)) ?_
          clear hK K
          try simp only [Act.put, List.setIfInBounds_toArray, List.set_cons_zero, List.set_cons_succ]
          refine doneT (by kernel_rfl) ?_ _
          go_wp2_with fail
          go_roundw
          case rel => exact ⟨k + 1, _, _, by omega, by go_num, by rw [hXs.out, hBs.out]; exact CF.end0⟩
          case measure => simp [intOf]; omega
        · refine stepT rfl rfl (fun K hK => ?_)
          rw [if_pos (by rfl)]
          go_simp
          refine hK.out _ _ CAB.drew.xb.cells2 (fun _ => CAB.drew.sb.cells2) ?_
          clear hK K
          try simp only [Act.put, List.setIfInBounds_toArray, List.set_cons_zero, List.set_cons_succ]
          refine readyT (rs := [6]) (by kernel_rfl) (by simp) (fun j hj => ?_)
          simp only [List.mem_cons, List.not_mem_nil, or_false] at hj
          obtain rfl := hj
          refine stepT rfl rfl (fun K hK => ?_)
          refine step_append_own2 rfl (.tmp 44) (.tmp 48) 60 rfl W3.heap.size 5 iA (.int .u8 0) 1 1 Tryz.underlying60 hiA hA0 hA1 hA2 rfl (by decide) (.slice oa k oc) k ((shX S k).map b8) (by simp [Act.eval]) aAB ⟨W4.heap.size, 0, none⟩ 1 1 [b8 x] (by simp [Act.eval]) rfl (news_box bAB) oneA (by unfold maxLen; omega) (by omega) CAB.drew.le ?_
          intro oa7 oc7 w7 own7 hb7 hg7
          have C7 := Cho.stepA (x := x) CAB.drew hb7.out hg7.out (by rw [shX_len]; exact own7)
          have t7 := tAB.grew hg7.out (by decide)
          refine hK.out _ _ C7.xb.cells2 (fun _ => C7.sb.cells2) ?_
          clear hK K
          try simp only [Act.put, List.setIfInBounds_toArray, List.set_cons_zero, List.set_cons_succ]
          refine takeA (i := 13) (v := ?_) rfl (by decide) (by kernel_rfl) (by kernel_rfl) (by kernel_rfl) (fun _ _ _ h => h) (Or.inl ⟨by rfl, ?_⟩) C7.xb.cells2 (fun _ => C7.sb.cells2) ?_
          rotate_left
          · rintro W hSw
            (try dsimp only at hSw)
            obtain ⟨hSa, hSb⟩ := hSw
            go_simp
            first | done | with_reducible rfl
          try simp only [Act.put, List.setIfInBounds_toArray, List.set_cons_zero, List.set_cons_succ]
          have b7 := C7.b
          rw [shB_len] at b7
          refine readyT (rs := [12]) (by kernel_rfl) (by simp) (fun j hj => ?_)
          simp only [List.mem_cons, List.not_mem_nil, or_false] at hj
          obtain rfl := hj
          refine stepT rfl rfl (fun K hK => ?_)
          refine step_append_own2 rfl (.tmp 51) (.tmp 54) 57 rfl W3.heap.size 9 iB (.string ⟨#[]⟩) 1 16 Tryz.underlying57 hiB hB0 hB1 hB2 rfl (by decide) (.slice ob k od) k ((shB S k).map Value.string) (by simp [Act.eval]) b7 ⟨W4.heap.size + 1, 0, none⟩ 1 1 [.string d] (by simp [Act.eval]) rfl (news_box t7) oneB (by unfold maxLen; omega) (by omega) C7.le ?_
          intro ob8 od8 w8 own8 hb8 hg8
          have C8 := Cho.stepB (x := d) C7 hb8.out hg8.out (by rw [shB_len]; exact own8)
          refine hK.out _ _ C8.xb.cells2 (fun _ => C8.sb.cells2) ?_
          clear hK K
          try simp only [Act.put, List.setIfInBounds_toArray, List.set_cons_zero, List.set_cons_succ]
          obtain ⟨s80, s81⟩ := C8.sb.cells2
          have f80 := C8.sb.frozen 0
          have f81 := C8.sb.frozen 1
          refine readyT (rs := [14]) (by kernel_rfl) (by simp) (fun j hj => ?_)
          simp only [List.mem_cons, List.not_mem_nil, or_false] at hj
          obtain rfl := hj
          refine stepT rfl rfl (fun K hK => ?_)
          rw [if_pos (by rfl)]
          go_simp
          refine hK.out _ _ (C8.xb.setOther (j := 0) (fun e => hXSB e.symm) _).cells2 (fun h => by cases (show true = false from h)) ?_
          clear hK K
          try simp only [Act.put, List.setIfInBounds_toArray, List.set_cons_zero, List.set_cons_succ]
          refine readyT (rs := [15]) (by kernel_rfl) (by simp) (fun j hj => ?_)
          simp only [List.mem_cons, List.not_mem_nil, or_false] at hj
          obtain rfl := hj
          refine stepT rfl rfl (fun K hK => ?_)
          rw [if_pos (by rfl)]
          go_simp
          refine hK.out _ _ (C8.xb.setOther (j := 0) (fun e => hXSB e.symm) _).cells2 (fun h => by cases (show true = false from h)) ?_
          clear hK K
          try simp only [Act.put, List.setIfInBounds_toArray, List.set_cons_zero, List.set_cons_succ]
          refine readyT (rs := [16]) (by kernel_rfl) (by simp) (fun j hj => ?_)
          simp only [List.mem_cons, List.not_mem_nil, or_false] at hj
          obtain rfl := hj
          refine stepT rfl rfl (fun K hK => ?_)
          rw [if_pos (by rfl)]
          have s81s := ((C8.sb.set (j := 0) (.slice oa7 (k + 1) oc7)).cells2).2
          have f81s := (C8.sb.set (j := 0) (.slice oa7 (k + 1) oc7)).frozen 1
          have CF := Cho.store C8 hSB hSb hXSB (.slice oa7 (k + 1) oc7) (.slice ob8 (k + 1) od8)
          go_simp
          refine hK.out _ _ CF.xb.cells2 (fun h => by cases (show true = false from h)) ?_
          clear hK K
          try simp only [Act.put, List.setIfInBounds_toArray, List.set_cons_zero, List.set_cons_succ]
          refine doneT (by kernel_rfl) ?_ _
          go_wp2_with fail
          go_roundw
          case rel => exact ⟨k + 1, _, _, by omega, by go_num, by rw [hXs.out, hBs.out]; exact CF.end0⟩
          case measure => simp [intOf]; omega
      · refine stepT rfl rfl (fun K hK => ?_)
        rw [if_pos (by rfl)]
        go_simp
        refine hK.out _ _ CB.drew.xb.cells2 (fun _ => CB.drew.sb.cells2) ?_
        clear hK K
        try simp only [Act.put, List.setIfInBounds_toArray, List.set_cons_zero, List.set_cons_succ]
        refine readyT (rs := [5]) (by kernel_rfl) (by simp) (fun j hj => ?_)
        simp only [List.mem_cons, List.not_mem_nil, or_false] at hj
        obtain rfl := hj
        refine stepT rfl rfl (fun K hK => ?_)
        rw [if_pos (by rfl)]
        go_simp
        refine hK.out _ _ CBA.drew.xb.cells2 (fun _ => CBA.drew.sb.cells2) ?_
        clear hK K
        try simp only [Act.put, List.setIfInBounds_toArray, List.set_cons_zero, List.set_cons_succ]
        refine readyT (rs := [6]) (by kernel_rfl) (by simp) (fun j hj => ?_)
        simp only [List.mem_cons, List.not_mem_nil, or_false] at hj
        obtain rfl := hj
        refine stepT rfl rfl (fun K hK => ?_)
        refine step_append_own2 rfl (.tmp 44) (.tmp 48) 60 rfl W3.heap.size 5 iA (.int .u8 0) 1 1 Tryz.underlying60 hiA hA0 hA1 hA2 rfl (by decide) (.slice oa k oc) k ((shX S k).map b8) (by simp [Act.eval]) aBA ⟨W4.heap.size + 1, 0, none⟩ 1 1 [b8 x] (by simp [Act.eval]) rfl (news_box bBA) oneA (by unfold maxLen; omega) (by omega) CBA.drew.le ?_
        intro oa7 oc7 w7 own7 hb7 hg7
        have C7 := Cho.stepA (x := x) CBA.drew hb7.out hg7.out (by rw [shX_len]; exact own7)
        have t7 := tBA.grew hg7.out (by decide)
        refine hK.out _ _ C7.xb.cells2 (fun _ => C7.sb.cells2) ?_
        clear hK K
        try simp only [Act.put, List.setIfInBounds_toArray, List.set_cons_zero, List.set_cons_succ]
        refine takeA (i := 13) (v := ?_) rfl (by decide) (by kernel_rfl) (by kernel_rfl) (by kernel_rfl) (fun _ _ _ h => h) (Or.inl ⟨by rfl, ?_⟩) C7.xb.cells2 (fun _ => C7.sb.cells2) ?_
        rotate_left
        · rintro W hSw
          (try dsimp only at hSw)
          obtain ⟨hSa, hSb⟩ := hSw
          go_simp
          first | done | with_reducible rfl
        try simp only [Act.put, List.setIfInBounds_toArray, List.set_cons_zero, List.set_cons_succ]
        have b7 := C7.b
        rw [shB_len] at b7
        refine readyT (rs := [12]) (by kernel_rfl) (by simp) (fun j hj => ?_)
        simp only [List.mem_cons, List.not_mem_nil, or_false] at hj
        obtain rfl := hj
        refine stepT rfl rfl (fun K hK => ?_)
        refine step_append_own2 rfl (.tmp 51) (.tmp 54) 57 rfl W3.heap.size 9 iB (.string ⟨#[]⟩) 1 16 Tryz.underlying57 hiB hB0 hB1 hB2 rfl (by decide) (.slice ob k od) k ((shB S k).map Value.string) (by simp [Act.eval]) b7 ⟨W4.heap.size, 0, none⟩ 1 1 [.string d] (by simp [Act.eval]) rfl (news_box t7) oneB (by unfold maxLen; omega) (by omega) C7.le ?_
        intro ob8 od8 w8 own8 hb8 hg8
        have C8 := Cho.stepB (x := d) C7 hb8.out hg8.out (by rw [shB_len]; exact own8)
        refine hK.out _ _ C8.xb.cells2 (fun _ => C8.sb.cells2) ?_
        clear hK K
        try simp only [Act.put, List.setIfInBounds_toArray, List.set_cons_zero, List.set_cons_succ]
        obtain ⟨s80, s81⟩ := C8.sb.cells2
        have f80 := C8.sb.frozen 0
        have f81 := C8.sb.frozen 1
        refine readyT (rs := [14]) (by kernel_rfl) (by simp) (fun j hj => ?_)
        simp only [List.mem_cons, List.not_mem_nil, or_false] at hj
        obtain rfl := hj
        refine stepT rfl rfl (fun K hK => ?_)
        rw [if_pos (by rfl)]
        go_simp
        refine hK.out _ _ (C8.xb.setOther (j := 0) (fun e => hXSB e.symm) _).cells2 (fun h => by cases (show true = false from h)) ?_
        clear hK K
        try simp only [Act.put, List.setIfInBounds_toArray, List.set_cons_zero, List.set_cons_succ]
        refine readyT (rs := [15]) (by kernel_rfl) (by simp) (fun j hj => ?_)
        simp only [List.mem_cons, List.not_mem_nil, or_false] at hj
        obtain rfl := hj
        refine stepT rfl rfl (fun K hK => ?_)
        rw [if_pos (by rfl)]
        go_simp
        refine hK.out _ _ (C8.xb.setOther (j := 0) (fun e => hXSB e.symm) _).cells2 (fun h => by cases (show true = false from h)) ?_
        clear hK K
        try simp only [Act.put, List.setIfInBounds_toArray, List.set_cons_zero, List.set_cons_succ]
        refine readyT (rs := [16]) (by kernel_rfl) (by simp) (fun j hj => ?_)
        simp only [List.mem_cons, List.not_mem_nil, or_false] at hj
        obtain rfl := hj
        refine stepT rfl rfl (fun K hK => ?_)
        rw [if_pos (by rfl)]
        have s81s := ((C8.sb.set (j := 0) (.slice oa7 (k + 1) oc7)).cells2).2
        have f81s := (C8.sb.set (j := 0) (.slice oa7 (k + 1) oc7)).frozen 1
        have CF := Cho.store C8 hSB hSb hXSB (.slice oa7 (k + 1) oc7) (.slice ob8 (k + 1) od8)
        go_simp
        refine hK.out _ _ CF.xb.cells2 (fun h => by cases (show true = false from h)) ?_
        clear hK K
        try simp only [Act.put, List.setIfInBounds_toArray, List.set_cons_zero, List.set_cons_succ]
        refine doneT (by kernel_rfl) ?_ _
        go_wp2_with fail
        go_roundw
        case rel => exact ⟨k + 1, _, _, by omega, by go_num, by rw [hXs.out, hBs.out]; exact CF.end0⟩
        case measure => simp [intOf]; omega
    · obtain rfl : k = S.length := by omega
      obtain ⟨ga, rfl, hga, hx⟩ := ByAt.of_own C.a (by rw [shX_len]; exact h0)
      obtain ⟨gb, rfl, hgb, hb⟩ := StAt.of_own C.b (by rw [shB_len]; exact h0)
      have HC3 := Lib.hid (H3.out wr SB ga oc gb od C.bel C.sb hx hb)
      have cH : wr.cell? ⟨w.heap.size, 0, none⟩ = some (.slice (some ⟨b, o, none⟩) S.length cap) := C.hb.cell 0
      obtain ⟨s0, s1⟩ := C.sb.cells2
      have hbel := C.bel
      have hrb := C.rb
      have hsb := C.sb
      clear C H3 HS HNI HIX
      go_wp2_with fail
      refine HC3.out.mono ?_
      rintro e w9 ⟨rfl, hb9⟩
      have k9 := step2 hbel hb9
      have bR9 := hrb.below hb9
      have bS9 := hsb.below hb9
      have hx9 := hx.below hb9
      have hbb9 := hb.below hb9
      obtain ⟨q0, q1⟩ := bS9.cells2
      obtain ⟨r0, r1⟩ := bR9.cells2
      have g0 := bR9.frozen 0
      have g1 := bR9.frozen 1
      clear HC3 hb9 hbel hrb hsb hx hb cH s0 s1
      have bRF := (bR9.set (j := 0) (.slice (some ⟨ga, 0, none⟩) S.length oc)).set (j := 1) (.slice (some ⟨gb, 0, none⟩) S.length od)
      have kF := (k9.setCell (p := ⟨w.heap.size + 1, 0, none⟩) (Nat.le_succ _) (.slice (some ⟨ga, 0, none⟩) S.length oc)).setCell (p := ⟨w.heap.size + 1, 1, none⟩) (Nat.le_succ _) (.slice (some ⟨gb, 0, none⟩) S.length od)
      have hxF := (hx9.setCell (B := w.heap.size + 1) (j := 0) (by omega) (.slice (some ⟨ga, 0, none⟩) S.length oc)).setCell (B := w.heap.size + 1) (j := 1) (by omega) (.slice (some ⟨gb, 0, none⟩) S.length od)
      have hbF := (hbb9.setCell (B := w.heap.size + 1) (j := 0) (by omega) (.slice (some ⟨ga, 0, none⟩) S.length oc)).setCell (B := w.heap.size + 1) (j := 1) (by omega) (.slice (some ⟨gb, 0, none⟩) S.length od)
      go_wp2_with fail
      refine bodyPost_ret (results_cell_tmp_mid rfl _ _ (w.heap.size + 1) 0 rfl [.slice (some ⟨ga, 0, none⟩) S.length oc, .slice (some ⟨gb, 0, none⟩) S.length od] _ (fun j v hv => by rw [Nat.zero_add]; exact (bRF.cell j).trans hv) Tryz.underlying126 rfl infoSel) rfl ⟨_, _, _, _, rfl, hxF, hbF, kF⟩

end Go.Proofs.YtpkapcijgldhhaaGreatDoor
