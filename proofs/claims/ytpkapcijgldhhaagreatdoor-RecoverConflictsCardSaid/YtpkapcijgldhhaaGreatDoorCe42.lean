/-
  A block of a stream, in the program: recover.Block.
-/
import Derived.Test.YtpkapcijgldhhaaGreatDoorCe41
import Derived.Test.YtpkapcijgldhhaaGreatDoorCe33
import Derived.Test.YtpkapcijgldhhaaGreatDoorCe39
import Derived.Test.YtpkapcijgldhhaaGreatDoorCe29
namespace Go.Proofs.YtpkapcijgldhhaaGreatDoor
open Go.RowKit Go.Shelf
attribute [local go_sem] Oper.semAt_some
/-- the two results -/
structure Res2 (A : Nat) (t : ByteArray) (x : Int) (W : World) : Prop where
  s : Box W (A + 1) [.string t] 9
  e : Box W (A + 1 + 1) [.int .i64 x] 28
theorem Res2.put {A : Nat} {t : ByteArray} {x : Int} {W : World} (h : Res2 A t x W) (t' : ByteArray) (x' : Int) : Res2 A t' x' ((W.setCell ⟨A + 1, 0, none⟩ (.string t')).setCell ⟨A + 1 + 1, 0, none⟩ (.int .i64 x')) :=
  ⟨(h.s.set (j := 0) _).setOther (j := 0) (by omega) _, (h.e.setOther (j := 0) (by omega) _).set (j := 0) _⟩
theorem Res2.below {A : Nat} {t : ByteArray} {x : Int} {W W' : World} (h : Res2 A t x W) (hb : Below W.heap.size W W') : Res2 A t x W' := ⟨h.s.below hb, h.e.below hb⟩
theorem below_res {w W : World} (h : Below w.heap.size w W) (t' : ByteArray) (x' : Int) : Below w.heap.size w ((W.setCell ⟨w.heap.size + 1, 0, none⟩ (.string t')).setCell ⟨w.heap.size + 1 + 1, 0, none⟩ (.int .i64 x')) :=
  (h.setCell (p := ⟨w.heap.size + 1, 0, none⟩) (Nat.le_succ _) _).setCell (p := ⟨w.heap.size + 1 + 1, 0, none⟩) (by show w.heap.size ≤ w.heap.size + 1 + 1; omega) _
/-- the loop variables laid into their slots -/
def axA (a : Act) (e0 e1 : Value) (p0 p1 q0 q1 : Nat) : Act := { tmps := (((a.tmps.setIfInBounds p0 e0).setIfInBounds p1 e1).setIfInBounds q0 e0).setIfInBounds q1 e1, defers := [] }
theorem rng_ax {F : Fence} {n : Nat} {P : Program} {α : Type} {g : Operand} {ps : Array Tmp} {assign body : Code} {Q : Exit → Act → World → Prop} {a : Act} {w : World} (p0 p1 q0 q1 : Nat)
    (hro : F.round = none) (h1 : 1 ≤ n) {gf : Nat} {lb : Array Value} (hg : a.eval g = .func (.func gf) #[] lb) (hFg : F.fn gf) (eg : ∀ args w, (callFunc gf args).run P w = .ok (.enter gf args) w)
    {encs : α → Array Value} (f0 f1 : α → Value) {Kp : World → World → Prop} {S Sp : List α → Prop} {N : Nat} {w0 : World} (hseq : SeqStopsK F (n - 1) P gf lb encs Kp S Sp N w0)
    (hKt : ∀ {A B C : World}, Kp A B → Kp B C → Kp A C) (hKb : ∀ (W : World) (l : Nat) (o o' : Obj), w.heap.size ≤ l → W.heap[l]? = some o → o.isCells = false → o.isWalk = false → Kp W (W.putObj l o')) (hKr : ∀ W, Kp W W) (hb0 : Below w0.heap.size w0 w) (hps : ∀ x, (encs x).size = ps.size)
    (I : List α → World → Prop) (Ix : Code → List α → World → Prop) (hI : OwnFrom w.heap.size I) (hIx : ∀ c, OwnFrom w.heap.size (Ix c)) (h0 : I [] w)
    (hassign : ∀ (l : Nat) (x : α) (W : World) (K : Act → World → Prop), K (axA a (f0 x) (f1 x) p0 p1 q0 q1) W →
      assign.wpIn (F.inRound l) (n - 1 - 1) P (Exit.then K (fun _ _ _ => False)) { tmps := (ps.zip (encs x)).foldl (fun t (p, v) => t.setIfInBounds p v) a.tmps, defers := [] } W)
    (hbody : ∀ (l : Nat) (pre : List α) (x : α) (W : World), w.heap.size ≤ l → I pre W → pre.length < N → body.wpIn (F.inRound l) (n - 1 - 1) P (ownPostG w.heap.size Kp I Ix (pre ++ [x]) W) (axA a (f0 x) (f1 x) p0 p1 q0 q1) W)
    (hdone : ∀ (D : Nat) (xs : List α) (W : World), w.heap.size ≤ D → S xs → I xs W → W.heap[D]? = some (.deferred (some [])) → Q .normal { a with defers := { target := .collected D, args := #[] } :: a.defers } W)
    (hstop : ∀ (D : Nat) (c : Code) (pre : List α) (W : World), w.heap.size ≤ D → Sp pre → Ix c pre W → W.heap[D]? = some (.deferred (some [])) → c.wpIn F n P Q { a with defers := { target := .collected D, args := #[] } :: a.defers } W) :
    (Code.rangeFunc g ps assign body).wpIn F n P Q a w :=
  wpIn_rangeFunc_ownH hro h1 hg hFg eg hseq hKt hKb hb0 hps I Ix hI hIx h0 (fun x a' _ => a' = axA a (f0 x) (f1 x) p0 p1 q0 q1) (fun x a' _ X Y row hs _ _ => hs)
    (fun l pre x W K hi hK => hassign l x W K (hK _ _ (KeepsFrom.refl _ _) (hKr W) hi rfl))
    (fun l pre x a' W hl _ hi ha hlt => by subst ha; exact hbody l pre x W hl hi hlt) hdone hstop
theorem own_weak {W : World} {base base' : Nat} {e : TypeId} {size n : Nat} {v : Value} {xs : List Value} (h : W.ownsRow base e size v n xs) (hb : base' ≤ base) : W.ownsRow base' e size v n xs :=
  ⟨h.1, h.2.imp id fun ⟨g, cap, cur, h1, h2, r⟩ => ⟨g, cap, cur, h1, Nat.le_trans hb h2, r⟩⟩
theorem infoSh : (Tryz.prog.info? 85).map (fun i => (i.zero, i.size, i.bytes)) = some (some (.agg #[.int .i64 0, .string ⟨#[]⟩]), 2, 24) := by kernel_rfl
/-- the share of a reel -/
noncomputable def shO (F : List Fr) (s i : Int) (r : Nat) : Sh := ⟨r, bA' (pOf F s i r)⟩
noncomputable def shL (F : List Fr) (s i : Int) (d : Nat) (pre : List Nat) : List Sh := (pre.take d).map (shO F s i)
theorem shL_le (F : List Fr) (s i : Int) (d : Nat) (pre : List Nat) : (shL F s i d pre).length ≤ d := by unfold shL; rw [List.length_map, List.length_take]; omega
theorem shL_more {F : List Fr} {s i : Int} {d : Nat} {pre : List Nat} (x : Nat) (h : (shL F s i d pre).length < d) : shL F s i d (pre ++ [x]) = shL F s i d pre ++ [shO F s i x] := by
  unfold shL at h ⊢
  rw [List.length_map, List.length_take] at h
  rw [List.take_append, List.map_append, List.take_of_length_le (l := [x]) (by simp; omega)]; rfl
theorem shL_full {F : List Fr} {s i : Int} {d : Nat} {pre : List Nat} (x : Nat) (h : ¬ (shL F s i d pre).length < d) : shL F s i d (pre ++ [x]) = shL F s i d pre := by
  unfold shL at h ⊢
  rw [List.length_map, List.length_take] at h
  rw [List.take_append_of_le_length (by omega)]
def toSh (p : Nat × List UInt8) : Sh := ⟨p.1, bA' p.2⟩
theorem shL_shR (F : List Fr) (s i : Int) (d k : Nat) : shL F s i d (rdS F s i k) = (shR F s i k d).map toSh := by unfold shL shR; rw [List.map_map]; rfl
theorem bA'_size (l : List UInt8) : (bA' l).size = l.length := rfl
theorem era_eq {T : List (Nat × List UInt8)} (hne : 0 < T.length) (x : UInt8) : eraS (T.map toSh) x = eraR T x := by
  have hat : ∀ k (hk : k < T.length), shAt (T.map toSh) k = toSh T[k] := fun k hk => by rw [shAt_get (by rw [List.length_map]; exact hk), List.getElem_map]
  obtain ⟨p, R, rfl⟩ : ∃ p R, T = p :: R := by
    cases T with
    | nil => cases hne
    | cons p R => exact ⟨p, R, rfl⟩
  have h0 : (shAt ((p :: R).map toSh) 0).d.size = p.2.length := by rw [hat 0 (by simp)]; rfl
  have hX : shX ((p :: R).map toSh) ((p :: R).map toSh).length = (p :: R).map fun q => UInt8.ofNat q.1 := by
    rw [shX_full, List.map_map]
    apply List.map_congr_left
    intro q _
    show UInt8.ofNat (q.1 : Int).toNat = _
    rw [Int.toNat_natCast]
  have hB : ((shB ((p :: R).map toSh) ((p :: R).map toSh).length).map fun t => t.data.toList) = (p :: R).map (·.2) := by
    rw [shB_map]
    apply List.ext_getElem
    · simp
    · intro j h1 h2
      have hj : j < (p :: R).length := by simpa using h2
      simp only [List.getElem_map, List.getElem_range]
      rw [hat j hj]
      show (bA' (p :: R)[j].2).data.toList = _
      rw [bA'_list]
  unfold eraS eraR
  rw [h0, hX, hB]
  show _ = if ∀ q ∈ p :: R, q.2.length = p.2.length then _ else _
  by_cases h : ∀ q ∈ p :: R, q.2.length = p.2.length
  · rw [if_pos h, if_pos]
    · rfl
    · intro k hk
      rw [List.length_map] at hk
      rw [hat k hk]; exact h _ (List.getElem_mem hk)
  · rw [if_neg h, if_neg]
    intro hc
    apply h
    intro q hq
    obtain ⟨k, hk, rfl⟩ := List.getElem_of_mem hq
    have := hc k (by rw [List.length_map]; exact hk)
    rw [hat k hk] at this
    exact this
theorem shL_ok {F : List Fr} {s i : Int} {d k : Nat} (hk : k ≤ 15) : ShOk (shL F s i d (rdS F s i k)) := by
  have hm : ∀ r ∈ (rdS F s i k).take d, r < k := fun r hr => (rdS_mem.1 (List.mem_of_mem_take hr)).1
  refine ⟨fun j hj => ?_, ?_⟩
  · rw [shAt_get hj]
    unfold shL at hj ⊢
    rw [List.getElem_map]
    rw [List.length_map] at hj
    have := hm _ (List.getElem_mem hj)
    show (0 : Int) ≤ ((_ : Nat) : Int) ∧ ((_ : Nat) : Int) < 15
    omega
  · unfold shL
    rw [List.map_map]
    have he : ((fun s : Sh => UInt8.ofNat s.i.toNat) ∘ shO F s i) = UInt8.ofNat := by
      funext r
      show UInt8.ofNat (r : Int).toNat = _
      rw [Int.toNat_natCast]
    rw [he]
    exact nodup_of ((rdS_nodup F s i k).sublist (List.take_sublist _ _)) fun r hr => by have := hm r hr; omega
theorem pOf_small {F : List Fr} (hF : SmallF F) (s i : Int) (r : Nat) : (bA' (pOf F s i r)).size ≤ 100 := by
  rw [bA'_size]
  unfold pOf payB
  rcases hp : payR 66 s r i none F with x | f
  · exact Nat.zero_le _
  · exact hF.2 f (pay_none hp).1
theorem shL_size {F : List Fr} (hF : SmallF F) (s i : Int) (d : Nat) (pre : List Nat) (k : Nat) : (shAt (shL F s i d pre) k).d.size ≤ 1000 := by
  by_cases hk : k < (shL F s i d pre).length
  · rw [shAt_get hk]
    simp only [shL, List.getElem_map]
    exact Nat.le_trans (pOf_small hF s i _) (by decide)
  · unfold shAt
    rw [List.getD_eq_getElem?_getD, List.getElem?_eq_none (by omega)]; decide
theorem shAt_own {W : World} {base m c : Nat} {a : Option Addr} {L : List Sh} (h : W.ownsRow base 85 2 (.slice a m c) L.length (L.flatMap Sh.vals)) (h0 : 0 < L.length) : ∃ g, a = some ⟨g, 0, none⟩ ∧ m = L.length ∧ ShAt W g 0 L := by
  have hr := OwnG.row (n := 2) (f := Sh.vals) (d := sh0) (fun _ => rfl) h
  rcases hr.2 with ⟨he, _⟩ | ⟨_, g, o, cap, hv, _, _, _, hF⟩
  · rw [he] at h0; cases h0
  · rcases h.2 with ⟨hv2, hn⟩ | ⟨g2, cap2, cur, hv2, _⟩
    · exact absurd hn (by omega)
    · rw [hv2] at hv
      injection hv with e1 e2 e3
      injection hv2 with f1 f2 f3
      injection e1 with e1; injection e1 with e1 e4
      subst e1; subst e4
      exact ⟨g2, f1, f2, hF⟩
/-- what the loop keeps -/
structure BlkI (A LB OB base dn sn m : Nat) (L : List Sh) (W : World) : Prop where
  res : Res2 A ⟨#[]⟩ 0 W
  lb : Box W LB [.int .i64 (dn : Int), .int .i64 (sn : Int)] 39
  ob : Box W OB [.int .i64 (m : Int)] 3
  le : base ≤ W.heap.size
  sh : ∃ va, Boxed W (OB + 1) 80 va ∧ W.ownsRow base 85 2 va L.length (L.flatMap Sh.vals)
theorem blkI_own {β : Type} (n A LB OB base dn sn m : Nat) (f : β → List Sh) : OwnFrom n (fun s W => BlkI A LB OB base dn sn m (f s) W) := fun s X Y row h hg hr => by
  have q := fun r e => (hr r e).2
  refine ⟨⟨h.res.s.kept hg q, h.res.e.kept hg q⟩, h.lb.kept hg q, h.ob.kept hg q, Nat.le_trans h.le hg.size, ?_⟩
  have := holdsRow_own (β := β) base (OB + 1) 80 85 2 (fun s => (f s).length) (fun s => (f s).flatMap Sh.vals) (fun _ _ => True) s X Y row
  obtain ⟨va, h1, h2⟩ := h.sh
  obtain ⟨va', h1', h2', _⟩ := this ⟨va, h1, h2, trivial⟩ hg q
  exact ⟨va', h1', h2'⟩
theorem res_own {β : Type} (n A : Nat) (t : ByteArray) (x : Int) : OwnFrom n (fun (_ : β) W => Res2 A t x W) := fun _ _ _ _ h hg hr =>
  have q := fun r e => (hr r e).2
  ⟨h.s.kept hg q, h.e.kept hg q⟩
set_option maxRecDepth 100000 in
set_option maxHeartbeats 4000000 in
theorem block_any (ar : Int) (v : Value) (F : List Fr) (s b : Int) (w : World) (hr : FrRow w v F) (hF : SmallF F) (hwf : LayWf F) (hb : wf64 b) :
    Calls Tryz.prog 15 #[.agg #[.int .u32 ar, v], .int .i64 s, .int .i64 b] w (EraQ (blkR F s b) w) := by
  refine (callsIn_wide (n := 9)).1 ?_
  refine callsIn_of_wp_marks Tryz.func15 rfl trivial ?_ rfl
  simp only [Tryz.ntmps15, List.size_toArray, List.length_cons, List.length_nil, Nat.reduceAdd, Nat.reduceSub, Array.replicate_succ, Array.replicate_zero, List.push_toArray, List.append_toArray, List.nil_append, List.cons_append]
  obtain ⟨k1, b1⟩ := boxr w [.int .u32 ar, v] 25
  obtain ⟨k2, b2⟩ := boxr (w.alloc (.cells [.int .u32 ar, v].toArray 25)) [.string ⟨#[]⟩] 9
  obtain ⟨k3, b3⟩ := boxr ((w.alloc (.cells [.int .u32 ar, v].toArray 25)).alloc (.cells [.string ⟨#[]⟩].toArray 9)) [.int .i64 0] 28
  have kb := step2 (step2 k1 k2) k3
  replace b2 := b2.below k3
  replace b1 := (b1.below k2).below k3
  simp only [World.size_alloc] at b2 b3
  have B23 : Res2 w.heap.size ⟨#[]⟩ 0 (((w.alloc (.cells [.int .u32 ar, v].toArray 25)).alloc (.cells [.string ⟨#[]⟩].toArray 9)).alloc (.cells [.int .i64 0].toArray 28)) := ⟨b2, b3⟩
  clear b2 b3
  obtain ⟨W1, hW1⟩ : ∃ W1, ((w.alloc (.cells [.int .u32 ar, v].toArray 25)).alloc (.cells [.string ⟨#[]⟩].toArray 9)).alloc (.cells [.int .i64 0].toArray 28) = W1 := ⟨_, rfl⟩
  rw [hW1] at b1 B23 kb
  clear k1 k2 k3
  obtain ⟨c0, c1⟩ := b1.cells2
  have r0 : W1.cell? ⟨w.heap.size + 1, 0, none⟩ = some (.string ⟨#[]⟩) := B23.s.cell 0
  have r1 : W1.cell? ⟨w.heap.size + 1 + 1, 0, none⟩ = some (.int .i64 0) := B23.e.cell 0
  have g0 : W1.frozen? ⟨w.heap.size + 1, 0, none⟩ = false := B23.s.frozen 0
  have g1 : W1.frozen? ⟨w.heap.size + 1 + 1, 0, none⟩ = false := B23.e.frozen 0
  by_cases hneg : b < 0
  · have hq := Lib.hid (blk_neg (F := F) (s := s) hneg)
    have hF := B23.put ⟨#[]⟩ 2
    have kF := below_res kb ⟨#[]⟩ 2
    gi_wp2_with fail
    have hc8 := hF.s.cell 0
    have hc9 := hF.e.cell 0
    refine ⟨.tuple #[.string ⟨#[]⟩, .int .i64 2], ?_, by rw [hq.out]; exact ⟨rfl, kF⟩⟩
    simp [results, Tryz.f15, go_sem, hc8, hc9]
  have hnn : Hid (¬ b < 0) := by rw [Hid]; omega
  have hLay := Lib.hid (layout_any ar v F s W1 (hr.below kb) (Nat.le_trans hF.1 (by decide)) hwf)
  gi_wp2_with fail
  refine ⟨trivial, (callsIn_wide.2 hLay.out).mono ?_⟩
  rintro e w2 ⟨he, hb2⟩
  have k2 := step2 kb hb2
  replace b1 := b1.below hb2
  replace B23 := B23.below hb2
  clear hW1 c0 c1 kb hb2 r0 r1 g0 g1 hLay
  have r0 : w2.cell? ⟨w.heap.size + 1, 0, none⟩ = some (.string ⟨#[]⟩) := B23.s.cell 0
  have r1 : w2.cell? ⟨w.heap.size + 1 + 1, 0, none⟩ = some (.int .i64 0) := B23.e.cell 0
  have g0 : w2.frozen? ⟨w.heap.size + 1, 0, none⟩ = false := B23.s.frozen 0
  have g1 : w2.frozen? ⟨w.heap.size + 1 + 1, 0, none⟩ = false := B23.e.frozen 0
  rcases hl : layR s none F with x | ⟨d, sp⟩
  · rw [hl] at he
    obtain rfl := he
    have hq := Lib.hid (blk_lay (b := b) (by have := hnn.out; omega) hl)
    obtain ⟨x1, x2⟩ := neq0 (show ¬ x = 0 by rcases lay_err _ _ hl with rfl | rfl <;> decide)
    have hF := B23.put ⟨#[]⟩ x
    have kF := below_res k2 ⟨#[]⟩ x
    have h1 : w.heap.size + 1 < w2.heap.size := B23.s.lt
    have h2 : w.heap.size + 1 + 1 < w2.heap.size := B23.e.lt
    clear hl
    gi_wp2_with fail
    generalize (w2.setCell ⟨w.heap.size + 1, 0, none⟩ (.string ⟨#[]⟩)).setCell ⟨w.heap.size + 1 + 1, 0, none⟩ (.int .i64 x) = WS at *
    obtain ⟨kP, _⟩ := boxr WS [.int .i64 0, .int .i64 0] 39
    have hc8 : (WS.alloc (.cells #[.int .i64 0, .int .i64 0] 39)).cell? ⟨w.heap.size + 1, 0, none⟩ = some (.string ⟨#[]⟩) := (hF.below kP).s.cell 0
    have hc9 : (WS.alloc (.cells #[.int .i64 0, .int .i64 0] 39)).cell? ⟨w.heap.size + 1 + 1, 0, none⟩ = some (.int .i64 x) := (hF.below kP).e.cell 0
    refine ⟨.tuple #[.string ⟨#[]⟩, .int .i64 x], ?_, by rw [hq.out]; exact ⟨rfl, step2 kF kP⟩⟩
    simp [results, Tryz.f15, go_sem, hc8, hc9]
  · rw [hl] at he
    obtain rfl := he
    obtain ⟨kL, bL⟩ := boxr w2 [.int .i64 d, .int .i64 sp] 39
    have k3 := step2 k2 kL
    replace b1 := b1.below kL
    replace B23 := B23.below kL
    have hLB : w.heap.size + 3 ≤ w2.heap.size := by have := k2.size; have h2 := r1; have := World.block_lt_of_cell? w2 _ h2; show w.heap.size + 1 + 1 + 1 ≤ _; exact this
    gi_wp2_with fail
    have HCk := Lib.hid (layCheck_any d sp (w2.alloc (.cells #[.int .i64 d, .int .i64 sp] 39)))
    change Below w.heap.size w (w2.alloc (.cells #[.int .i64 d, .int .i64 sp] 39)) at k3
    change Box (w2.alloc (.cells #[.int .i64 d, .int .i64 sp] 39)) _ _ _ at b1 bL
    change Res2 _ _ _ (w2.alloc (.cells #[.int .i64 d, .int .i64 sp] 39)) at B23
    generalize w2.alloc (.cells #[.int .i64 d, .int .i64 sp] 39) = W3 at *
    generalize w2.heap.size = LB at *
    clear kL r0 r1 g0 g1
    refine ⟨trivial, (callsIn_wide.2 HCk.out).mono ?_⟩
    rintro e w4 ⟨cx, rfl, hcx, hb4⟩
    have k4 := step2 k3 hb4
    replace b1 := b1.below hb4
    replace B23 := B23.below hb4
    replace bL := bL.below hb4
    clear HCk k3 hb4 k2
    have r0 : w4.cell? ⟨w.heap.size + 1, 0, none⟩ = some (.string ⟨#[]⟩) := B23.s.cell 0
    have r1 : w4.cell? ⟨w.heap.size + 1 + 1, 0, none⟩ = some (.int .i64 0) := B23.e.cell 0
    have g0 : w4.frozen? ⟨w.heap.size + 1, 0, none⟩ = false := B23.s.frozen 0
    have g1 : w4.frozen? ⟨w.heap.size + 1 + 1, 0, none⟩ = false := B23.e.frozen 0
    obtain ⟨l0, l1⟩ := bL.cells2
    have bad : (¬ (1 ≤ d ∧ d ≤ 8 ∧ 0 ≤ sp ∧ sp ≤ 7) ∨ 65535 < b / d) → Hid (blkR F s b = .error 2) := fun ho => blk_out (b := b) (by have := hnn.out; omega) hl ho
    have HBad := Lib.hid bad
    have hl := Lib.hid hl
    clear bad
    have hF := B23.put ⟨#[]⟩ 2
    have kF := below_res k4 ⟨#[]⟩ 2
    rcases hcx.out with ⟨rfl, hd1, hd8, hs0, hs7⟩ | ⟨rfl, hno⟩
    case inr =>
      have hq := HBad.out (.inl hno)
      clear hcx HBad hno
      gi_wp2_with fail
      have hc8 := hF.s.cell 0
      have hc9 := hF.e.cell 0
      refine ⟨.tuple #[.string ⟨#[]⟩, .int .i64 2], ?_, by rw [hq.out]; exact ⟨rfl, kF⟩⟩
      simp [results, Tryz.f15, go_sem, hc8, hc9]
    obtain ⟨bn, rfl⟩ := Int.eq_ofNat_of_zero_le (show 0 ≤ b by have := hnn.out; omega)
    obtain ⟨dn, rfl⟩ := Int.eq_ofNat_of_zero_le (show 0 ≤ d by omega)
    obtain ⟨sn, rfl⟩ := Int.eq_ofNat_of_zero_le hs0
    have hdz : ((dn : Int) == 0) = false := by rw [beq_eq_false_iff_ne]; omega
    have hbb : (bn : Int) ≤ 9223372036854775807 := hb.2
    obtain ⟨q, hq⟩ : ∃ q : Nat, (bn : Int) / (dn : Int) = (q : Int) := ⟨bn / dn, rfl⟩
    obtain ⟨m, hm⟩ : ∃ m : Nat, (bn : Int) % (dn : Int) = (m : Int) := ⟨bn % dn, rfl⟩
    have Hq := Lib.hid hq
    have Hm := Lib.hid hm
    have hBq : Hid ((65535 : Int) < (q : Int) → Hid (blkR F s bn = .error 2)) := fun ho => HBad.out (.inr (by rw [Hq.out]; exact ho))
    clear hcx HBad
    have hIt : IntKind.i64.wrap (q : Int) = (q : Int) := by
      have : (q : Int) ≤ (bn : Int) := by rw [← hq]; exact Int.ediv_le_self _ (by omega)
      exact IntWalk.i64_in _ (by omega)
    gi_wp2_with fail
    · have hz := hBq.out (by omega)
      have hc8 := hF.s.cell 0
      have hc9 := hF.e.cell 0
      refine ⟨.tuple #[.string ⟨#[]⟩, .int .i64 2], ?_, by rw [hz.out]; exact ⟨rfl, kF⟩⟩
      simp [results, Tryz.f15, go_sem, hc8, hc9]
    · have hq65 : (q : Int) ≤ 65535 := by omega
      clear hF kF hBq
      refine wpIn_wide.2 ?_
      have d0 : w4.drew.cell? ⟨LB, 0, none⟩ = some (.int .i64 (dn : Int)) := l0
      have hne0 := World.new_ne w4 ⟨LB, 0, none⟩ l0
      have hdn1 : ¬ dn = 0 := by omega
      have hdn2 : ¬ (dn : Int) = 0 := by omega
      have htd : IntKind.i64.wrap ((bn : Int).tdiv (dn : Int)) = (q : Int) := by rw [Int.tdiv_eq_ediv_of_nonneg (by omega), Hq.out]; exact hIt
      have htd2 : (bn : Int).tdiv (dn : Int) = (q : Int) := by rw [Int.tdiv_eq_ediv_of_nonneg (by omega), Hq.out]
      have htm : (bn : Int).tmod (dn : Int) = (m : Int) := by rw [Int.tmod_eq_emod_of_nonneg (by omega), Hm.out]
      go_region_held3 (fun W => W.cell? ⟨LB, 0, none⟩ = some (.int .i64 (dn : Int))) (go_keep) (fail)
      all_goals
        obtain ⟨kO, bO⟩ := boxr w4 [.int .i64 (m : Int)] 3
        have kOd := below_drew0 kO
        have k5 := step2 k4 kOd
        have b15 : Box (w4.alloc (.cells [.int .i64 (m : Int)].toArray 3)).drew w.heap.size [.int .u32 ar, v] 25 := b1.below kOd
        have B25 : Res2 w.heap.size ⟨#[]⟩ 0 (w4.alloc (.cells [.int .i64 (m : Int)].toArray 3)).drew := B23.below kOd
        have bL5 : Box (w4.alloc (.cells [.int .i64 (m : Int)].toArray 3)).drew LB [.int .i64 (dn : Int), .int .i64 (sn : Int)] 39 := bL.below kOd
        have bO5 : Box (w4.alloc (.cells [.int .i64 (m : Int)].toArray 3)).drew w4.heap.size [.int .i64 (m : Int)] 3 := bO
        have hLO : LB + 1 ≤ w4.heap.size := bL.lt
        change Exit.then _ _ _ _ (w4.alloc (.cells [.int .i64 (m : Int)].toArray 3)).drew
        have hz5 : (w4.alloc (.cells [.int .i64 (m : Int)].toArray 3)).drew.heap.size = w4.heap.size + 1 := World.size_alloc _ _
        generalize (w4.alloc (.cells [.int .i64 (m : Int)].toArray 3)).drew = W5 at *
        generalize w4.heap.size = OB at *
        clear kO kOd bO k4 b1 B23 bL l0 l1 d0 hne0 r0 r1 g0 g1 htd htd2 htm hdz hIt
        obtain ⟨kS, bS⟩ := boxr W5 [.slice none 0 0] 80
        have k6 := step2 k5 kS
        replace b15 := b15.below kS
        replace B25 := B25.below kS
        replace bL5 := bL5.below kS
        replace bO5 := bO5.below kS
        have hz6 : (W5.alloc (.cells [.slice none 0 0].toArray 80)).heap.size = OB + 2 := by rw [World.size_alloc, hz5]
        rw [hz5] at bS
        obtain ⟨W6, hW6⟩ : ∃ W6, W5.alloc (.cells [.slice none 0 0].toArray 80) = W6 := ⟨_, rfl⟩
        rw [hW6] at kS bS k6 b15 B25 bL5 bO5 hz6
        change W5.alloc (.cells #[.slice none 0 0] 80) = W6 at hW6
        obtain ⟨c0, c1⟩ := b15.cells2
        obtain ⟨l0, l1⟩ := bL5.cells2
        have hadd : IntKind.i64.wrap ((dn : Int) + (sn : Int)) = ((dn + sn : Nat) : Int) := by rw [IntWalk.i64_in _ (by omega)]; rfl
        have HRd := Lib.hid (readableB_any ar v s q (dn + sn) W6)
        have HZ6 := Lib.hid hz6
        clear hz6
        gi_wp2_with fail
        refine ⟨trivial, (callsIn_wide.2 HRd.out).mono ?_⟩
        rintro e W7 ⟨rfl, hB, hb7⟩
        have k7 := step2 k6 hb7
        have hI0 : BlkI w.heap.size LB OB W7.heap.size dn sn m [] W7 := ⟨B25.below hb7, bL5.below hb7, bO5.below hb7, Nat.le_refl _, .slice none 0 0, bS.below hb7, World.ownsRow_nil _ _ _ _⟩
        have HZ7 := Lib.hid hB.lt
        clear HRd c0 c1 l0 l1 b15 B25 bL5 bO5 bS kS k6 hb7 hW6 k5 hz5
        have hm1 : m < dn + sn := by
          have : (m : Int) < (dn : Int) := by rw [← Hm.out]; exact Int.emod_lt_of_pos _ (by omega)
          omega
        gi_wp2_with fail
        refine rng_ax 53 54 13 14 (f0 := fun x : Nat => .int .i64 (x : Int)) (f1 := fun x : Nat => .string (bA' (pOf F s q x))) rfl (by omega) (gf := 69) (lb := #[.pointer (some ⟨W6.heap.size + 4, 0, none⟩), .pointer (some ⟨W6.heap.size, 0, none⟩), .pointer (some ⟨W6.heap.size + 1, 0, none⟩), .pointer (some ⟨W6.heap.size + 2, 0, none⟩), .pointer (some ⟨W6.heap.size + 3, 0, none⟩)]) rfl trivial (enters_of Tryz.func69 (by kernel_rfl) rfl)
          (readableB_stops _ W6.heap.size (by omega) ar v F s q (dn + sn) (by omega) w W7 hr k7 hB)
          (fun h k => KpR.trans h k) (fun W l o o' hl hh h1 h2 => ⟨belowK_b (w := W7) k7.size W l o o' hl hh h1 h2, fun j _ h4 => World.putObj_heap_other (by have := HZ7.out; omega)⟩) (fun W => ⟨Below.refl _ _, fun j _ _ => rfl⟩) (Below.refl _ _) (rdEncB_size F s q)
          (fun pre W => ((∀ x ∈ pre, x ≠ m) ∧ BlkI w.heap.size LB OB W7.heap.size dn sn m (shL F s q dn pre) W) ∧ Below w.heap.size w W)
          (fun c pre W => ((c = .ret ∧ pre.getLast? = some m) ∧ Res2 w.heap.size (bA' (pOf F s q m)) 0 W) ∧ Below w.heap.size w W)
          (OwnFrom.and (OwnFrom.and (ownFrom_pure _ _) (blkI_own _ _ _ _ _ _ _ _ _)) (ownFrom_below (Nat.le_refl _) k7.size))
          (fun c => OwnFrom.and (OwnFrom.and (ownFrom_pure _ _) (res_own _ _ _ _)) (ownFrom_below (Nat.le_refl _) k7.size))
          ⟨⟨(fun x hx => by cases hx), by simpa [shL] using hI0⟩, k7⟩
          ?assign ?body ?done ?stop
        case assign =>
          intro l x W K hK
          dsimp only [rdEncB]
          gi_wp2
          exact hK
        case body =>
          rintro l pre x W hl ⟨⟨hp, hI⟩, hb1⟩ hlt
          simp only [axA, List.setIfInBounds_toArray, List.set_cons_zero, List.set_cons_succ]
          have hlt15 := HZ7.out
          have cO : W.cell? ⟨OB, 0, none⟩ = some (.int .i64 (m : Int)) := hI.ob.cell 0
          have r0 : W.cell? ⟨w.heap.size + 1, 0, none⟩ = some (.string ⟨#[]⟩) := hI.res.s.cell 0
          have r1 : W.cell? ⟨w.heap.size + 1 + 1, 0, none⟩ = some (.int .i64 0) := hI.res.e.cell 0
          have g0 : W.frozen? ⟨w.heap.size + 1, 0, none⟩ = false := hI.res.s.frozen 0
          have g1 : W.frozen? ⟨w.heap.size + 1 + 1, 0, none⟩ = false := hI.res.e.frozen 0
          by_cases hx : x = m
          · subst hx
            have y : ((x : Int) == (x : Int)) = true := by simp
            have hRR := Lib.hid (hI.res.put (bA' (pOf F s q x)) 0)
            have hBB := Lib.hid (below_res hb1 (bA' (pOf F s q x)) 0)
            clear hI hB hI0
            gi_wp2_with fail
            refine ⟨((KeepsOthers.setCell _ _ _).from _).trans ((KeepsOthers.setCell _ _ _).from _), ⟨⟨rfl, by rw [List.getLast?_append]; rfl⟩, hRR.out⟩, hBB.out⟩
          have y : ((x : Int) == (m : Int)) = false := by rw [beq_eq_false_iff_ne]; omega
          have hpx : Hid (∀ z ∈ pre ++ [x], z ≠ m) := fun z hz => by
            rw [List.mem_append, List.mem_singleton] at hz
            rcases hz with hz | rfl
            · exact hp z hz
            · exact hx
          obtain ⟨va, hva, hrow⟩ := hI.sh
          obtain ⟨oa, oc, rfl⟩ := own_form hrow
          have cS := hva.cell
          have fS := hva.frozen
          obtain ⟨l0, l1⟩ := hI.lb.cells2
          by_cases hlen : (shL F s q dn pre).length < dn
          · have hli : ((shL F s q dn pre).length : Int) < (dn : Int) := by omega
            have hmore := Lib.hid (shL_more x hlen)
            have hdn : dn ≤ 8 := by omega
            have hle := shL_le F s q dn pre
            have HPu := Lib.hid (show shO F s q x = ⟨(x : Int), bA' (pOf F s q x)⟩ from rfl)
            generalize shO F s q x = sx at *
            generalize bA' (pOf F s q x) = px at *
            obtain ⟨iS, hiS, hS0, hS1, hS2⟩ := info_parts infoSh
            have hone : ∀ u ∈ [Value.int .i64 (x : Int), .string px], u.oneCell' = true := fun u hu => by
              simp only [List.mem_cons, List.not_mem_nil, or_false] at hu
              rcases hu with rfl | rfl <;> rfl
            have hnews : ∀ j u, [Value.int .i64 (x : Int), .string px][j]? = some u → (W.alloc (.cells #[.int .i64 (x : Int), .string px] 85)).cell? ((⟨W.heap.size, 0, none⟩ : Addr).add j) = some u := fun j u hu => by
              rw [Addr.add_mid, Nat.zero_add, alloc_new_cell]; simpa using hu
            have hbs : W7.heap.size ≤ W.heap.size := hI.le
            clear hB hI0
            gi_wp2_with (gi_at_builtin; refine wpListIn_append_own _ rfl _ _ 80 rfl W7.heap.size 85 iS (.agg #[.int .i64 0, .string ⟨#[]⟩]) 2 24 Tryz.underlying80 hiS hS0 hS1 hS2 rfl (by decide) _ _ _ rfl (World.ownsRow.alloc hrow _) ⟨W.heap.size, 0, none⟩ 1 1 [.int .i64 (x : Int), .string px] rfl rfl hnews hone (by unfold maxLen; omega) (by omega) (by simp; omega) ?_; intro v' w1 hown' hgrow _; obtain ⟨g', cap', rfl⟩ := ownsRow_succ hown'; have hv1 := (hva.alloc (.cells #[.int .i64 (x : Int), .string px] 85)).kept hgrow (hva.not_row (by decide) hrow); have hc1 := hv1.cell; have hf1 := hv1.frozen)
            have hbw : Below W7.heap.size W w1 := below_grownBy ((Below.refl W7.heap.size W).alloc hbs _) (World.ownsRow.alloc hrow _) hgrow (by rw [World.size_alloc]; omega)
            have hOB := HZ6.out
            obtain ⟨_, _, _, hk2, hb2⟩ := hva.appended (n₀ := w.heap.size) (by decide) (own_weak hrow (by omega)) (by omega) (by omega) (own_weak hown' (by omega)) hgrow
            have hI2 : BlkI w.heap.size LB OB W7.heap.size dn sn m (shL F s q dn (pre ++ [x])) (w1.setCell ⟨OB + 1, 0, none⟩ (.slice (some ⟨g', 0, none⟩) ((shL F s q dn pre).length + 1) cap')) := by
              refine ⟨⟨(hI.res.s.below' hbw (by omega)).setOther (by omega) _, (hI.res.e.below' hbw (by omega)).setOther (by omega) _⟩, (hI.lb.below' hbw (by omega)).setOther (by omega) _, (hI.ob.below' hbw (by omega)).setOther (by omega) _, ?_, _, hv1.set _, ?_⟩
              · have := hbw.size; simpa using Nat.le_trans hbs this
              · rw [hmore.out, List.length_append, List.flatMap_append, HPu.out]
                exact own_setCell hown' (by omega) _
            exact ⟨hk2.from _, ⟨hb2, fun j h1 h2 => (Below.heap_setCell _ _ _ j (show j ≠ OB + 1 by omega)).trans (hbw.block j (by omega))⟩, ⟨hpx.out, hI2⟩, hb1.trans hb2⟩
          · have hli : ¬ ((shL F s q dn pre).length : Int) < (dn : Int) := by omega
            have hfull := Lib.hid (shL_full x hlen)
            have HI := Lib.hid hI
            clear hI hB hI0 hrow hva
            gi_wp2_with fail
            exact ⟨KeepsFrom.refl _ _, ⟨Below.refl _ _, fun j _ _ => rfl⟩, ⟨hpx.out, by rw [hfull.out]; exact HI.out⟩, hb1⟩
        case done =>
          rintro D zs W hD rfl ⟨⟨hp, hI⟩, hb1⟩ hK
          have hno : payB F s ((bn : Int) % (dn : Int)) ((bn : Int) / (dn : Int)) = none := by
            rw [Hm.out, Hq.out]
            rcases hpb : payB F s (m : Int) (q : Int) with _ | t
            · rfl
            · exact absurd rfl (hp m (rdS_mem.2 ⟨hm1, by rw [hpb]; rfl⟩))
          have hO : ¬ (¬ (1 ≤ (dn : Int) ∧ (dn : Int) ≤ 8 ∧ 0 ≤ (sn : Int) ∧ (sn : Int) ≤ 7) ∨ 65535 < (bn : Int) / (dn : Int)) := by rw [Hq.out]; omega
          have hlay : layR s none F = .ok ((dn : Int), (sn : Int)) := by assumption
          have hnn2 : ¬ (bn : Int) < 0 := by omega
          have t1 : ((dn : Int) + (sn : Int)).toNat = dn + sn := by omega
          have hfew : (shL F s q dn (rdS F s q (dn + sn))).length < dn → Hid (blkR F s bn = .error 19) := fun h => by
            refine blk_few hnn2 hlay hO hno ?_
            rw [Hq.out, t1, Int.toNat_natCast]
            rwa [shL_shR, List.length_map] at h
          have hera : ¬ (shL F s q dn (rdS F s q (dn + sn))).length < dn → Hid (blkR F s bn = eraS (shL F s q dn (rdS F s q (dn + sn))) (UInt8.ofNat m)) := fun h => by
            rw [shL_shR, List.length_map] at h
            have := blk_era hnn2 hlay hO hno (by rw [Hq.out, t1, Int.toNat_natCast]; exact h)
            rw [Hq.out, t1, Int.toNat_natCast, Hm.out, Int.toNat_natCast] at this
            rw [Hid, shL_shR, era_eq (by omega)]
            exact this
          have hok := shL_ok (F := F) (s := s) (i := q) (d := dn) (k := dn + sn) (by omega)
          have hsz := shL_size hF s q dn (rdS F s q (dn + sn)) 0
          have hle := shL_le F s q dn (rdS F s q (dn + sn))
          have Hfew := Lib.hid hfew
          have Hera := Lib.hid hera
          clear hfew hera hp hno hO hlay hI0 hB
          generalize shL F s q dn (rdS F s q (dn + sn)) = L at *
          obtain ⟨va, hva, hrow⟩ := hI.sh
          obtain ⟨oa, oc, rfl⟩ := own_form hrow
          have cS := hva.cell
          obtain ⟨l0, l1⟩ := hI.lb.cells2
          have cO : W.cell? ⟨OB, 0, none⟩ = some (.int .i64 (m : Int)) := hI.ob.cell 0
          have r0 : W.cell? ⟨w.heap.size + 1, 0, none⟩ = some (.string ⟨#[]⟩) := hI.res.s.cell 0
          have r1 : W.cell? ⟨w.heap.size + 1 + 1, 0, none⟩ = some (.int .i64 0) := hI.res.e.cell 0
          have g0 : W.frozen? ⟨w.heap.size + 1, 0, none⟩ = false := hI.res.s.frozen 0
          have g1 : W.frozen? ⟨w.heap.size + 1 + 1, 0, none⟩ = false := hI.res.e.frozen 0
          by_cases hlen : L.length < dn
          · have hzz := Hfew.out hlen
            have hli : (L.length : Int) < (dn : Int) := by omega
            have hRR := hI.res.put ⟨#[]⟩ 19
            have hBB := below_res hb1 ⟨#[]⟩ 19
            clear Hfew Hera hI
            gi_wp2_with fail
            have hK3 : ((W.setCell ⟨w.heap.size + 1, 0, none⟩ (.string ⟨#[]⟩)).setCell ⟨w.heap.size + 1 + 1, 0, none⟩ (.int .i64 19)).heap[D]? = some (.deferred (some [])) := (((KeepsOthers.setCell W ⟨w.heap.size + 1, 0, none⟩ (.string ⟨#[]⟩)).from 0).trans ((KeepsOthers.setCell _ ⟨w.heap.size + 1 + 1, 0, none⟩ (.int .i64 19)).from 0)).same D _ (Nat.zero_le _) hK rfl
            refine ⟨by simp, .inl ⟨_, _, rfl, run_takeDeferred hK3, ?_⟩⟩
            have hc8 := cell_kept (hRR.s.cell 0) (grownBy_putObj' _ D (.deferred none)) (fun r e => by cases e; exact ⟨_, hK3, rfl⟩)
            have hc9 := cell_kept (hRR.e.cell 0) (grownBy_putObj' _ D (.deferred none)) (fun r e => by cases e; exact ⟨_, hK3, rfl⟩)
            refine ⟨.tuple #[.string ⟨#[]⟩, .int .i64 19], ?_, by rw [hzz.out]; exact ⟨rfl, hBB.trans (belowK_b (w := w) (Nat.le_refl _) _ D _ _ (Nat.le_trans k7.size hD) hK3 rfl rfl)⟩⟩
            simp [results, Tryz.f15, go_sem, hc8, hc9]
          · have hzz := Hera.out hlen
            obtain rfl : L.length = dn := by omega
            obtain ⟨g, rfl, _, hSA⟩ := shAt_own hrow (by omega)
            have hEr := Lib.hid (eraBlock_any g 0 oc L (m : Int) W hok hsz (by omega) (by omega) hSA (by omega))
            rw [Int.toNat_natCast] at hEr
            have hres := hI.res
            clear Hfew Hera hI hrow hva hok hsz hSA
            gi_wp2_with fail
            refine ⟨trivial, (callsIn_wide.2 hEr.out).mono ?_⟩
            rintro e W9 ⟨he, hb9⟩
            have hb19 := step2 hb1 hb9
            have hres9 := hres.below hb9
            have hK9 : W9.heap[D]? = some (.deferred (some [])) := (hb9.block D (Array.getElem?_eq_some_iff.1 hK).1).trans hK
            clear hEr cS l0 l1 cO r0 r1 g0 g1 hres hb9
            have r0 : W9.cell? ⟨w.heap.size + 1, 0, none⟩ = some (.string ⟨#[]⟩) := hres9.s.cell 0
            have r1 : W9.cell? ⟨w.heap.size + 1 + 1, 0, none⟩ = some (.int .i64 0) := hres9.e.cell 0
            have g0 : W9.frozen? ⟨w.heap.size + 1, 0, none⟩ = false := hres9.s.frozen 0
            have g1 : W9.frozen? ⟨w.heap.size + 1 + 1, 0, none⟩ = false := hres9.e.frozen 0
            obtain ⟨E, hE⟩ : ∃ E, eraS L (UInt8.ofNat m) = E := ⟨_, rfl⟩
            rw [hE] at he hzz
            clear hE
            rcases E with x | t
            · obtain rfl := he
              have hRR := hres9.put ⟨#[]⟩ x
              have hBB := below_res hb19 ⟨#[]⟩ x
              gi_wp2_with fail
              have hK3 : ((W9.setCell ⟨w.heap.size + 1, 0, none⟩ (.string ⟨#[]⟩)).setCell ⟨w.heap.size + 1 + 1, 0, none⟩ (.int .i64 x)).heap[D]? = some (.deferred (some [])) := (((KeepsOthers.setCell W9 ⟨w.heap.size + 1, 0, none⟩ (.string ⟨#[]⟩)).from 0).trans ((KeepsOthers.setCell _ ⟨w.heap.size + 1 + 1, 0, none⟩ (.int .i64 x)).from 0)).same D _ (Nat.zero_le _) hK9 rfl
              refine ⟨by simp, .inl ⟨_, _, rfl, run_takeDeferred hK3, ?_⟩⟩
              have hc8 := cell_kept (hRR.s.cell 0) (grownBy_putObj' _ D (.deferred none)) (fun r e => by cases e; exact ⟨_, hK3, rfl⟩)
              have hc9 := cell_kept (hRR.e.cell 0) (grownBy_putObj' _ D (.deferred none)) (fun r e => by cases e; exact ⟨_, hK3, rfl⟩)
              refine ⟨.tuple #[.string ⟨#[]⟩, .int .i64 x], ?_, by rw [hzz.out]; exact ⟨rfl, hBB.trans (belowK_b (w := w) (Nat.le_refl _) _ D _ _ (Nat.le_trans k7.size hD) hK3 rfl rfl)⟩⟩
              simp [results, Tryz.f15, go_sem, hc8, hc9]
            · obtain rfl := he
              have hRR := hres9.put (bA' t) 0
              have hBB := below_res hb19 (bA' t) 0
              gi_wp2_with fail
              have hK3 : ((W9.setCell ⟨w.heap.size + 1, 0, none⟩ (.string (bA' t))).setCell ⟨w.heap.size + 1 + 1, 0, none⟩ (.int .i64 0)).heap[D]? = some (.deferred (some [])) := (((KeepsOthers.setCell W9 ⟨w.heap.size + 1, 0, none⟩ (.string (bA' t))).from 0).trans ((KeepsOthers.setCell _ ⟨w.heap.size + 1 + 1, 0, none⟩ (.int .i64 0)).from 0)).same D _ (Nat.zero_le _) hK9 rfl
              refine ⟨by simp, .inl ⟨_, _, rfl, run_takeDeferred hK3, ?_⟩⟩
              have hc8 := cell_kept (hRR.s.cell 0) (grownBy_putObj' _ D (.deferred none)) (fun r e => by cases e; exact ⟨_, hK3, rfl⟩)
              have hc9 := cell_kept (hRR.e.cell 0) (grownBy_putObj' _ D (.deferred none)) (fun r e => by cases e; exact ⟨_, hK3, rfl⟩)
              refine ⟨.tuple #[.string (bA' t), .int .i64 0], ?_, by rw [hzz.out]; exact ⟨rfl, hBB.trans (belowK_b (w := w) (Nat.le_refl _) _ D _ _ (Nat.le_trans k7.size hD) hK3 rfl rfl)⟩⟩
              simp [results, Tryz.f15, go_sem, hc8, hc9]
        case stop =>
          rintro D c pre W hD ⟨k, hk, rfl, hsome⟩ ⟨⟨⟨rfl, hx⟩, hRR⟩, hb1⟩ hK
          rw [List.getLast?_concat] at hx
          injection hx with hx
          subst hx
          have hzz : Hid (blkR F s bn = .ok (pOf F s q k)) := by
            obtain ⟨t, ht⟩ := Option.isSome_iff_exists.1 hsome
            have hlay : layR s none F = .ok ((dn : Int), (sn : Int)) := by assumption
            have := blk_own (b := (bn : Int)) (by omega) hlay (by rw [Hq.out]; omega) (by rw [Hm.out, Hq.out]; exact ht)
            rw [Hid, this, pOf, ht]; rfl
          clear hI0 hB hsome
          gi_wp2_with fail
          have hK3 := hK
          refine ⟨by simp, .inl ⟨_, _, rfl, run_takeDeferred hK3, ?_⟩⟩
          have hc8 := cell_kept (hRR.s.cell 0) (grownBy_putObj' _ D (.deferred none)) (fun r e => by cases e; exact ⟨_, hK3, rfl⟩)
          have hc9 := cell_kept (hRR.e.cell 0) (grownBy_putObj' _ D (.deferred none)) (fun r e => by cases e; exact ⟨_, hK3, rfl⟩)
          refine ⟨.tuple #[.string (bA' (pOf F s q k)), .int .i64 0], ?_, by rw [hzz.out]; exact ⟨rfl, hb1.trans (belowK_b (w := w) (Nat.le_refl _) _ D _ _ (Nat.le_trans k7.size hD) hK3 rfl rfl)⟩⟩
          simp [results, Tryz.f15, go_sem, hc8, hc9]
end Go.Proofs.YtpkapcijgldhhaaGreatDoor
