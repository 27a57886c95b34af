/-
  Erasure in the program: the block out of shares, or the error.
-/
import Derived.Test.YtpkapcijgldhhaaGreatDoorCe38
namespace Go.Proofs.YtpkapcijgldhhaaGreatDoor
open Go.RowKit Go.Shelf
theorem any_iff {n : Nat} {p : Nat → Bool} (h : ∃ k, k < n ∧ p k = true) : (List.range n).any p = true := any_range.2 h
set_option maxRecDepth 100000 in
set_option maxHeartbeats 4000000 in
theorem choose_bad (b o cap : Nat) (S : List Sh) (w : World) (h : ShOk S) (hd : ∃ k, k < S.length ∧ (shAt S k).d.size ≠ (shAt S 0).d.size) (h0 : 0 < S.length) (hl : S.length ≤ 15) (hS : ShAt w b o S) :
    Calls Tryz.prog 71 #[.slice (some ⟨b, o, none⟩) S.length cap, .int .i64 S.length] w (fun e w' => e = .returned (.tuple #[.agg #[.slice none 0 0, .slice none 0 0], .int .i64 1]) ∧ Below w.heap.size w w') := by
  have eg1 := enters_of Tryz.func117 (by kernel_rfl) rfl
  have eg2 := enters_of Tryz.func118 (by kernel_rfl) rfl
  have hany : ∀ m, (List.range m).any (fun _ => false) = false := fun m => by induction m with
    | zero => rfl
    | succ m ih => rw [List.range_succ, List.any_append, ih]; rfl
  have H1 := Lib.hid (show ∀ W, Below w.heap.size w W → Calls Tryz.prog 116 #[.slice (some ⟨b, o, none⟩) S.length cap, .func (.func 117) #[] #[]] W (fun e w' => e = .returned (.bool false) ∧ Below W.heap.size W w') from fun W hW => by
    have := containsF_any b o cap S (fun _ => false) 117 #[] eg1 W (by omega) (hS.below hW) (fun k hk W' _ => pred1_any _ _ W' (h.ix k hk))
    rwa [hany] at this)
  have H2 := Lib.hid (show ∀ W H, Below w.heap.size w W → Box W H [.slice (some ⟨b, o, none⟩) S.length cap] 80 → Calls Tryz.prog 116 #[.slice (some ⟨b, o, none⟩) S.length cap, .func (.func 118) #[] #[.pointer (some ⟨H, 0, none⟩)]] W (fun e w' => e = .returned (.bool true) ∧ Below W.heap.size W w') from fun W H hW hH => by
    have := containsF_any b o cap S (fun k => decide ((shAt S k).d.size ≠ (shAt S 0).d.size)) 118 #[.pointer (some ⟨H, 0, none⟩)] eg2 W (by omega) (hS.below hW) (fun k hk W' hW' =>
      pred2_any (shAt S k).i (shAt S k).d (shAt S 0).d W' H b o S.length cap h0 (hH.below hW') (by have := (shCells ((hS.below hW).below hW') h0).2; simpa using this))
    obtain ⟨k, hk, hne⟩ := hd
    rwa [any_iff ⟨k, hk, decide_eq_true hne⟩] at this)
  clear hS h eg1 eg2 hany hd
  obtain ⟨kb0, bH⟩ := boxr' w [.slice (some ⟨b, o, none⟩) S.length cap] 80
  obtain ⟨kb1, bR⟩ := boxr' (w.alloc (.cells [.slice (some ⟨b, o, none⟩) S.length cap].toArray 80)) [.slice none 0 0, .slice none 0 0] 126
  replace bH := bH.below kb1
  replace kb0 := step2 kb0 kb1
  clear kb1
  rw [World.size_alloc] at bR
  have h0i : ¬ (S.length : Int) < 1 := by omega
  have h15i : ¬ 15 < (S.length : Int) := by omega
  go_enter Tryz.func71, Tryz.ntmps71
  go_upto_region 1 with (fail)
  change Code.wp _ _ _ _ ((w.alloc (.cells [.slice (some ⟨b, o, none⟩) S.length cap].toArray 80)).alloc (.cells [.slice none 0 0, .slice none 0 0].toArray 126))
  generalize (w.alloc (.cells [.slice (some ⟨b, o, none⟩) S.length cap].toArray 80)).alloc (.cells [.slice none 0 0, .slice none 0 0].toArray 126) = W0 at *
  have cH : W0.cell? ⟨w.heap.size, 0, none⟩ = some (.slice (some ⟨b, o, none⟩) S.length cap) := bH.cell 0
  go_wp2_with fail
  refine (H1.out _ kb0).mono ?_
  rintro e w1 ⟨rfl, hb1⟩
  have k1 := step2 kb0 hb1
  replace bH := bH.below hb1
  replace bR := bR.below hb1
  have cH : w1.cell? ⟨w.heap.size, 0, none⟩ = some (.slice (some ⟨b, o, none⟩) S.length cap) := bH.cell 0
  clear H1 kb0 hb1
  go_wp2_with fail
  refine (H2.out _ _ k1 bH).mono ?_
  rintro e w2 ⟨rfl, hb2⟩
  have k2 := step2 k1 hb2
  replace bR := bR.below hb2
  obtain ⟨r0, r1⟩ := bR.cells2
  have g0 := bR.frozen 0
  have g1 := bR.frozen 1
  have bRF := (bR.set (j := 0) (.slice none 0 0)).set (j := 1) (.slice none 0 0)
  have kF := (k2.setCell (p := ⟨w.heap.size + 1, 0, none⟩) (Nat.le_succ _) (.slice none 0 0)).setCell (p := ⟨w.heap.size + 1, 1, none⟩) (Nat.le_succ _) (.slice none 0 0)
  clear H2 k1 hb2 cH
  go_wp2_with fail
  refine bodyPost_ret (results_cell_tmp_mid rfl _ _ (w.heap.size + 1) 0 rfl [.slice none 0 0, .slice none 0 0] _ (fun j v hv => by rw [Nat.zero_add]; exact (bRF.cell j).trans hv) Tryz.underlying126 rfl infoSel) rfl ⟨rfl, kF⟩
/-- what erasure gives of shares -/
noncomputable def eraS (S : List Sh) (x : UInt8) : Except Int (List UInt8) :=
  if ∀ k, k < S.length → (shAt S k).d.size = (shAt S 0).d.size then .ok (lagL (shX S S.length) ((shB S S.length).map fun t => t.data.toList) (shAt S 0).d.size x) else .error 1
def EraQ (r : Except Int (List UInt8)) (w : World) (e : Ending) (w' : World) : Prop :=
  (match r with
    | .ok t => e = .returned (.tuple #[.string (bA' t), .int .i64 0])
    | .error x => e = .returned (.tuple #[.string ⟨#[]⟩, .int .i64 x])) ∧ Below w.heap.size w w'
set_option maxRecDepth 100000 in
set_option maxHeartbeats 4000000 in
theorem eraBlock_any (b o cap : Nat) (S : List Sh) (i : Int) (w : World) (h : ShOk S) (hn1 : (shAt S 0).d.size ≤ 1000) (h0 : 0 < S.length) (hl : S.length ≤ 15) (hS : ShAt w b o S) (hi : 0 ≤ i ∧ i < 15) :
    Calls Tryz.prog 38 #[.slice (some ⟨b, o, none⟩) S.length cap, .int .i64 S.length, .int .i64 i] w (EraQ (eraS S (UInt8.ofNat i.toNat)) w) := by
  have hi1 : ¬ i < 0 := by omega
  have hi2 : ¬ 15 ≤ i := by omega
  by_cases hd : ∀ k, k < S.length → (shAt S k).d.size = (shAt S 0).d.size
  · have hr : Hid (eraS S (UInt8.ofNat i.toNat) = .ok (lagL (shX S S.length) ((shB S S.length).map fun t => t.data.toList) (shAt S 0).d.size (UInt8.ofNat i.toNat))) := if_pos hd
    have HC := Lib.hid (choose_any b o cap S (shAt S 0).d.size w h hd hn1 h0 hl hS)
    have HB := Lib.hid (show ∀ gx cx gb cb W, ByAt W gx 0 (shX S S.length) → StAt W gb 0 (shB S S.length) → _ from fun gx cx gb cb W hx hb => block72_any gx 0 cx gb 0 cb (shX S S.length) (shB S S.length) (shAt S 0).d.size i (UInt8.ofNat i.toNat) W (by rw [shX_full]; exact h.nd) (by rw [shX_len, shB_len]) (by rw [shX_len]; omega) (by rw [shX_len]; omega) hn1 (fun j hj => by rw [shB_len] at hj; rw [shB_at hj]; exact hd j hj) hx hb (wrap8 hi))
    rw [shX_len, shB_len] at HB
    generalize lagL (shX S S.length) ((shB S S.length).map fun t => t.data.toList) (shAt S 0).d.size (UInt8.ofNat i.toNat) = R at *
    generalize eraS S (UInt8.ofNat i.toNat) = E at *
    clear hd h hS
    go_enter Tryz.func38, Tryz.ntmps38
    go_wp2_with fail
    refine HC.out.mono ?_
    rintro e w1 ⟨gx, cx, gb, cb, rfl, hx, hb, hb1⟩
    obtain ⟨kS, bS⟩ := boxr' w1 [.slice (some ⟨gx, 0, none⟩) S.length cx, .slice (some ⟨gb, 0, none⟩) S.length cb] 126
    have k2 := step2 hb1 kS
    have hx2 := hx.below kS
    have hb2 := hb.below kS
    clear HC hb1 hx hb
    go_upto_region 4 with (fail)
    change Code.wp _ _ _ _ (w1.alloc (.cells [.slice (some ⟨gx, 0, none⟩) S.length cx, .slice (some ⟨gb, 0, none⟩) S.length cb].toArray 126))
    generalize w1.alloc (.cells [.slice (some ⟨gx, 0, none⟩) S.length cx, .slice (some ⟨gb, 0, none⟩) S.length cb].toArray 126) = W2 at *
    obtain ⟨c0, c1⟩ := bS.cells2
    go_wp2_with fail
    refine (HB.out _ _ _ _ _ hx2 hb2).mono ?_
    rintro e w3 ⟨rfl, hb3⟩
    have k3 := step2 k2 hb3
    clear HB hx2 hb2 c0 c1 bS
    go_wp2_with fail
    go_ret2
    rw [hr.out]
    exact ⟨rfl, k3⟩
  · have hr : Hid (eraS S (UInt8.ofNat i.toNat) = .error 1) := if_neg hd
    have HC := Lib.hid (choose_bad b o cap S w h (by
      apply Classical.byContradiction
      intro hc
      exact hd fun k hk => Classical.byContradiction fun hne => hc ⟨k, hk, hne⟩) h0 hl hS)
    generalize eraS S (UInt8.ofNat i.toNat) = E at *
    clear hd h hS
    go_enter Tryz.func38, Tryz.ntmps38
    go_wp2_with fail
    refine HC.out.mono ?_
    rintro e w1 ⟨rfl, hb1⟩
    obtain ⟨kS, bS⟩ := boxr' w1 [.slice none 0 0, .slice none 0 0] 126
    have k2 := step2 hb1 kS
    clear HC hb1 bS kS
    go_wp2_with fail
    go_ret2
    rw [hr.out]
    exact ⟨rfl, k2⟩
end Go.Proofs.YtpkapcijgldhhaaGreatDoor
