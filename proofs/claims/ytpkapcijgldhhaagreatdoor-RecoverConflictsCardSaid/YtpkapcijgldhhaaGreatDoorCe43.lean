/-
  A block of a stream, in the reference.
  The bytes of a range of a stream, plain.
-/
import Derived.Test.YtpkapcijgldhhaaGreatDoorCe34
import Derived.Test.YtpkapcijgldhhaaGreatDoorCe41
import Derived.Test.YtpkapcijgldhhaaGreatDoorCe42
import Derived.Test.YtpkapcijgldhhaaGreatDoorCe22
import Derived.Test.YtpkapcijgldhhaaGreatDoorCe21
namespace Go.Proofs.YtpkapcijgldhhaaGreatDoor
open Go.RowKit Go.Shelf
set_option maxRecDepth 100000 in
set_option maxHeartbeats 4000000 in
theorem refCk_any (d sp : Int) (w : World) : Calls Tryz.prog 19 #[.agg #[.int .i64 d, .int .i64 sp]] w (fun e w' => ∃ x : Int, e = .returned (.int .i64 x) ∧ Hid (CkP d sp x) ∧ Below w.heap.size w w') := by
  obtain ⟨kb0, bC0⟩ := boxr w [.int .i64 d, .int .i64 sp] 39
  go_enter Tryz.func19, Tryz.ntmps19
  go_upto_region 1 with (fail)
  change Code.wp _ _ _ _ (w.alloc (.cells [.int .i64 d, .int .i64 sp].toArray 39))
  generalize w.alloc (.cells [.int .i64 d, .int .i64 sp].toArray 39) = W0 at *
  obtain ⟨c0, c1⟩ := bC0.cells2
  by_cases q0 : d < 1
  · have hk : Hid (CkP d sp 2) := .inr ⟨rfl, by omega⟩
    go_wp2_with fail
    go_ret
    exact ⟨2, rfl, hk, kb0⟩
  by_cases q1 : 8 < d
  · have hk : Hid (CkP d sp 2) := .inr ⟨rfl, by omega⟩
    go_wp2_with fail
    go_ret
    exact ⟨2, rfl, hk, kb0⟩
  by_cases q2 : sp < 0
  · have hk : Hid (CkP d sp 2) := .inr ⟨rfl, by omega⟩
    go_wp2_with fail
    go_ret
    exact ⟨2, rfl, hk, kb0⟩
  by_cases q3 : 7 < sp
  · have hk : Hid (CkP d sp 2) := .inr ⟨rfl, by omega⟩
    go_wp2_with fail
    go_ret
    exact ⟨2, rfl, hk, kb0⟩
  have hk : Hid (CkP d sp 0) := .inl (by omega)
  go_wp2_with fail
  go_ret
  exact ⟨0, rfl, hk, kb0⟩
/-- what the loop keeps -/
structure RbI (w : World) (ar : Int) (v : Value) (LB base dn sn : Nat) (va : Value) (L : List Sh) (W : World) : Prop where
  bel : Below w.heap.size w W
  cb : Box W w.heap.size [.int .u32 ar, v] 25
  lb : Box W LB [.int .i64 (dn : Int), .int .i64 (sn : Int)] 39
  le : base ≤ W.heap.size
  own : W.ownsRow base 85 2 va L.length (L.flatMap Sh.vals)
theorem RbI.below {w : World} {ar : Int} {v : Value} {LB base dn sn : Nat} {va : Value} {L : List Sh} {W W' : World} (h : RbI w ar v LB base dn sn va L W) (hb : Below W.heap.size W W') : RbI w ar v LB base dn sn va L W' :=
  ⟨step2 h.bel hb, h.cb.below hb, h.lb.below hb, Nat.le_trans h.le hb.size, owns_below h.own hb⟩
set_option maxRecDepth 100000 in
set_option maxHeartbeats 4000000 in
theorem blockR_any (ar : Int) (v : Value) (F : List Fr) (s b : Int) (w : World) (hr : FrRow w v F) (hF : SmallF F) (hb : wf64 b) :
    Calls Tryz.prog 16 #[.agg #[.int .u32 ar, v], .int .i64 s, .int .i64 b] w (EraQ (blkR F s b) w) := by
  obtain ⟨kb, b1⟩ := boxr w [.int .u32 ar, v] 25
  have HR := Lib.hid (fun W (hW : Below w.heap.size w W) => hr.below hW)
  clear hr
  go_enter Tryz.func16, Tryz.ntmps16
  go_upto_region 1 with (fail)
  change Code.wp _ _ _ _ (w.alloc (.cells [.int .u32 ar, v].toArray 25))
  generalize w.alloc (.cells [.int .u32 ar, v].toArray 25) = W1 at *
  obtain ⟨c0, c1⟩ := b1.cells2
  by_cases hneg : b < 0
  · have hq := Lib.hid (blk_neg (F := F) (s := s) hneg)
    go_wp2_with fail
    go_ret2
    rw [hq.out]
    exact ⟨rfl, kb⟩
  have hnn : Hid (¬ b < 0) := by rw [Hid]; omega
  have hLay := Lib.hid (layoutR_any ar v F s W1 (HR.out _ kb) (Nat.le_trans hF.1 (by decide)))
  go_wp2_with fail
  refine hLay.out.mono ?_
  rintro e w2 ⟨he, hb2⟩
  have k2 := step2 kb hb2
  replace b1 := b1.below hb2
  clear c0 c1 kb hb2 hLay
  obtain ⟨c0, c1⟩ := b1.cells2
  rcases hl : layR s none F with x | ⟨d, sp⟩
  · rw [hl] at he
    obtain rfl := he
    have hq := Lib.hid (blk_lay (b := b) (by have := hnn.out; omega) hl)
    obtain ⟨x1, x2⟩ := neq0 (show ¬ x = 0 by rcases lay_err _ _ hl with rfl | rfl <;> decide)
    obtain ⟨kP, _⟩ := boxr w2 [.int .i64 0, .int .i64 0] 39
    have k3 := step2 k2 kP
    clear hl
    go_wp2_with fail
    go_ret2
    rw [hq.out]
    exact ⟨rfl, k3⟩
  · rw [hl] at he
    obtain rfl := he
    obtain ⟨kL, bL⟩ := boxr w2 [.int .i64 d, .int .i64 sp] 39
    have k3 := step2 k2 kL
    replace b1 := b1.below kL
    have hLB : w.heap.size + 1 ≤ w2.heap.size := by have := World.block_lt_of_cell? w2 _ c0; exact this
    go_upto_region 4 with (fail)
    change Code.wp _ _ _ _ (w2.alloc (.cells [.int .i64 d, .int .i64 sp].toArray 39))
    generalize w2.alloc (.cells [.int .i64 d, .int .i64 sp].toArray 39) = W3 at *
    generalize w2.heap.size = LB at *
    clear kL k2 c0 c1
    obtain ⟨l0, l1⟩ := bL.cells2
    have HCk := Lib.hid (refCk_any d sp W3)
    go_wp2_with fail
    refine HCk.out.mono ?_
    rintro e w4 ⟨cx, rfl, hcx, hb4⟩
    have k4 := step2 k3 hb4
    replace b1 := b1.below hb4
    replace bL := bL.below hb4
    clear HCk k3 hb4 l0 l1
    obtain ⟨l0, l1⟩ := bL.cells2
    have bad : (¬ (1 ≤ d ∧ d ≤ 8 ∧ 0 ≤ sp ∧ sp ≤ 7) ∨ 65535 < b / d) → Hid (blkR F s b = .error 2) := fun ho => blk_out (b := b) (by have := hnn.out; omega) hl ho
    have HBad := Lib.hid bad
    have hl := Lib.hid hl
    clear bad
    rcases hcx.out with ⟨rfl, hd1, hd8, hs0, hs7⟩ | ⟨rfl, hno⟩
    case inr =>
      have hq := HBad.out (.inl hno)
      clear hcx HBad hno
      go_wp2_with fail
      go_ret2
      rw [hq.out]
      exact ⟨rfl, k4⟩
    obtain ⟨bn, rfl⟩ := Int.eq_ofNat_of_zero_le (show 0 ≤ b by have := hnn.out; omega)
    obtain ⟨dn, rfl⟩ := Int.eq_ofNat_of_zero_le (show 0 ≤ d by omega)
    obtain ⟨sn, rfl⟩ := Int.eq_ofNat_of_zero_le hs0
    have hdz : ((dn : Int) == 0) = false := by rw [beq_eq_false_iff_ne]; omega
    have hbb : (bn : Int) ≤ 9223372036854775807 := hb.2
    obtain ⟨q, hq⟩ : ∃ q : Nat, (bn : Int) / (dn : Int) = (q : Int) := ⟨bn / dn, rfl⟩
    obtain ⟨m, hm⟩ : ∃ m : Nat, (bn : Int) % (dn : Int) = (m : Int) := ⟨bn % dn, rfl⟩
    have Hq := Lib.hid hq
    have Hm := Lib.hid hm
    have hBq : Hid ((65535 : Int) < (q : Int) → Hid (blkR F s bn = .error 2)) := fun ho => HBad.out (.inr (by rw [Hq.out]; exact ho))
    clear hcx HBad
    have hIt : IntKind.i64.wrap (q : Int) = (q : Int) := by
      have : (q : Int) ≤ (bn : Int) := by rw [← hq]; exact Int.ediv_le_self _ (by omega)
      exact IntWalk.i64_in _ (by omega)
    go_wp2_with fail
    · have hz := hBq.out (by omega)
      go_ret2
      rw [hz.out]
      exact ⟨rfl, k4⟩
    · have hq65 : (q : Int) ≤ 65535 := by omega
      clear hBq
      have hdn1 : ¬ dn = 0 := by omega
      have hdn2 : ¬ (dn : Int) = 0 := by omega
      have htd : IntKind.i64.wrap ((bn : Int).tdiv (dn : Int)) = (q : Int) := by rw [Int.tdiv_eq_ediv_of_nonneg (by omega), Hq.out]; exact hIt
      have htd2 : (bn : Int).tdiv (dn : Int) = (q : Int) := by rw [Int.tdiv_eq_ediv_of_nonneg (by omega), Hq.out]
      have htm : (bn : Int).tmod (dn : Int) = (m : Int) := by rw [Int.tmod_eq_emod_of_nonneg (by omega), Hm.out]
      go_quiet (fail)
      have k5 := below_drewN k4 nq
      have b15 : Box (w4.drewN nq) w.heap.size [.int .u32 ar, v] 25 := b1.below (below_drewN (below_refl w4) nq)
      have bL5 : Box (w4.drewN nq) LB [.int .i64 (dn : Int), .int .i64 (sn : Int)] 39 := bL.below (below_drewN (below_refl w4) nq)
      generalize w4.drewN nq = W5 at *
      clear k4 b1 bL l0 l1 htd htd2 htm hdz hIt hdn1 hdn2 hq hm
      obtain ⟨c0, c1⟩ := b15.cells2
      have HPay := Lib.hid (show ∀ (r : Int) W, Below w.heap.size w W → _ from fun r W hW => payloadR_any ar v F 66 s r q W (HR.out W hW))
      have HP0 := Lib.hid (HPay.out m W5 k5)
      go_wp2_with fail
      refine HP0.out.mono ?_
      rintro e w6 ⟨he, hb6⟩
      have k6 := step2 k5 hb6
      have b16 := b15.below hb6
      have bL6 := bL5.below hb6
      clear HP0 k5 b15 bL5 hb6 c0 c1
      rcases hp : payR 66 s m q none F with x | f
      case ok =>
        rw [hp] at he
        obtain rfl := he
        have hz : Hid (blkR F s bn = .ok f.payload.data.toList) := by
          refine blk_own (by have := hnn.out; omega) hl.out (by rw [Hq.out]; omega) ?_
          rw [Hq.out, Hm.out]
          exact payB_ok hp
        clear hp
        go_wp2_with fail
        go_ret2
        rw [hz.out]
        exact ⟨by show _ = Ending.returned (.tuple #[.string (bA' f.payload.data.toList), .int .i64 0]); rw [bA'_of]; rfl, k6⟩
      case error =>
        rw [hp] at he
        obtain rfl := he
        obtain ⟨x1, x2⟩ := neq0 (show ¬ x = 0 by rcases pay_err _ _ hp with rfl | rfl <;> decide)
        have hno := Lib.hid (payB_err hp)
        clear hp
        obtain ⟨c0, c1⟩ := b16.cells2
        obtain ⟨l0, l1⟩ := bL6.cells2
        have hO := World.ownsRow_made (base := w6.heap.size) (e := 85) (size := 2) w6 #[] 0 (Nat.le_refl _) (by decide) rfl
        have kA : Below w6.heap.size w6 (w6.alloc (.cells #[] 85)) := (below_refl w6).alloc (Nat.le_refl _) _
        have k7 := step2 k6 kA
        have b17 := b16.below kA
        have bL7 := bL6.below kA
        have hz7 : w6.heap.size ≤ (w6.alloc (.cells #[] 85)).heap.size := kA.size
        go_upto_region 13 with (fail)
        have hLb := bL6.lt
        have hCb := b16.lt
        generalize w6.alloc (.cells #[] 85) = W7 at *
        generalize w6.heap.size = base at *
        clear kA k6 b16 bL6 c0 c1 l0 l1
        go_wp2_with fail
        have hI0 : RbI w ar v LB base dn sn (.slice (some ⟨base, 0, none⟩) 0 0) (shL F s q dn (rdS F s q 0)) W7 := ⟨k7, b17, bL7, hz7, by simpa [shL, rdS] using hO⟩
        clear k7 b17 bL7 hz7 hO
        go_loopw [15, 16, 17, 18, 19] (fun va vr _ _ _ wr => ∃ k : Nat, k ≤ dn + sn ∧ vr = .int .i64 k ∧ RbI w ar v LB base dn sn va (shL F s q dn (rdS F s q k)) wr) (fun _ vr _ _ _ _ => dn + sn - (intOf vr).toNat)
        case atStart => exact ⟨0, by omega, rfl, hI0⟩
        case round =>
          clear hI0
          obtain ⟨k, hk, rfl, hI⟩ := hrel
          obtain ⟨c0, c1⟩ := hI.cb.cells2
          obtain ⟨l0, l1⟩ := hI.lb.cells2
          by_cases hlt : k < dn + sn
          · have hki : (k : Int) < (dn : Int) + (sn : Int) := by omega
            have HP1 := Lib.hid (HPay.out k wr hI.bel)
            go_wp2_with fail
            refine HP1.out.mono ?_
            rintro e w8 ⟨he, hb8⟩
            have hI8 := hI.below hb8
            clear HP1 hI hb8 c0 c1 l0 l1
            obtain ⟨l0, l1⟩ := hI8.lb.cells2
            rcases hp : payR 66 s k q none F with y | f
            · rw [hp] at he
              obtain rfl := he
              obtain ⟨y1, y2⟩ := neq0 (show ¬ y = 0 by rcases pay_err _ _ hp with rfl | rfl <;> decide)
              have hsk := Lib.hid (rdS_skip (payB_err hp))
              clear hp
              go_wp2_with fail
              go_roundw
              case rel => exact ⟨k + 1, by omega, by go_num, by rw [hsk.out]; exact hI8⟩
              case measure => simp [intOf]; omega
            · rw [hp] at he
              obtain rfl := he
              have hpo : bA' (pOf F s q k) = f.payload := by unfold pOf; rw [payB_ok hp]; exact bA'_of _
              have hsk := Lib.hid (rdS_take (payB_ok hp))
              clear hp
              obtain ⟨oa, oc, rfl⟩ := own_form hI8.own
              by_cases hlen : (shL F s q dn (rdS F s q k)).length < dn
              · have hli : ((shL F s q dn (rdS F s q k)).length : Int) < (dn : Int) := by omega
                have hmore := Lib.hid (shL_more k hlen)
                rw [← hsk.out] at hmore
                have HPu := Lib.hid (show shO F s q k = ⟨(k : Int), f.payload⟩ by rw [← hpo]; rfl)
                generalize shO F s q k = sx at *
                generalize shL F s q dn (rdS F s q k) = L at *
                have hdn : dn ≤ 8 := by omega
                have hle8 : L.length < 8 := by omega
                obtain ⟨iS, hiS, hS0, hS1, hS2⟩ := info_parts infoSh
                have hone : ∀ u ∈ [Value.int .i64 (k : Int), .string f.payload], u.oneCell' = true := fun u hu => by
                  simp only [List.mem_cons, List.not_mem_nil, or_false] at hu
                  rcases hu with rfl | rfl <;> rfl
                have hnews : ∀ j u, [Value.int .i64 (k : Int), .string f.payload][j]? = some u → (w8.alloc (.cells #[.int .i64 (k : Int), .string f.payload] 85)).cell? ((⟨w8.heap.size, 0, none⟩ : Addr).add j) = some u := fun j u hu => by
                  rw [Addr.add_mid, Nat.zero_add, alloc_new_cell]; simpa using hu
                have hrow := hI8.own
                have hble := hI8.le
                have hbel := hI8.bel
                clear hsk hpo
                go_wp2_with (at_builtin; refine wpList_append_own _ rfl _ _ 80 rfl base 85 iS (.agg #[.int .i64 0, .string ⟨#[]⟩]) 2 24 Tryz.underlying80 hiS hS0 hS1 hS2 rfl (by decide) _ _ _ rfl (World.ownsRow.alloc hrow _) ⟨w8.heap.size, 0, none⟩ 1 1 [.int .i64 (k : Int), .string f.payload] rfl rfl hnews hone (by unfold maxLen; omega) (by omega) (by simp; omega) ?_; intro v' w1 hown' hgrow _)
                have hbw : Below base w8 w1 := below_grownBy ((Below.refl base w8).alloc hble _) (World.ownsRow.alloc hrow _) hgrow (by rw [World.size_alloc]; omega)
                have hI9 : RbI w ar v LB base dn sn v' (shL F s q dn (rdS F s q (k + 1))) w1 := by
                  refine ⟨hbel.trans (hbw.mono (by omega)), hI8.cb.below' hbw (by omega), hI8.lb.below' hbw (by omega), Nat.le_trans hble hbw.size, ?_⟩
                  rw [hmore.out, List.length_append, List.flatMap_append, HPu.out]
                  exact hown'
                clear hbw hown' hgrow hI8 hrow hnews
                go_wp2_with fail
                go_roundw
                case rel => exact ⟨k + 1, by omega, by go_num, hI9⟩
                case measure => simp [intOf]; omega
              · have hli : ¬ ((shL F s q dn (rdS F s q k)).length : Int) < (dn : Int) := by omega
                have hfull := Lib.hid (shL_full k hlen)
                rw [← hsk.out] at hfull
                clear hsk
                go_wp2_with fail
                go_roundw
                case rel => exact ⟨k + 1, by omega, by go_num, by rw [hfull.out]; exact hI8⟩
                case measure => simp [intOf]; omega
          · obtain rfl : k = dn + sn := by omega
            have hO : ¬ (¬ (1 ≤ (dn : Int) ∧ (dn : Int) ≤ 8 ∧ 0 ≤ (sn : Int) ∧ (sn : Int) ≤ 7) ∨ 65535 < (bn : Int) / (dn : Int)) := by rw [Hq.out]; omega
            have hlay := hl.out
            have hnn2 : ¬ (bn : Int) < 0 := by have := hnn.out; omega
            have t1 : ((dn : Int) + (sn : Int)).toNat = dn + sn := by omega
            have hno2 : payB F s ((bn : Int) % (dn : Int)) ((bn : Int) / (dn : Int)) = none := by rw [Hm.out, Hq.out]; exact hno.out
            have hfew : (shL F s q dn (rdS F s q (dn + sn))).length < dn → Hid (blkR F s bn = .error 19) := fun h => by
              refine blk_few hnn2 hlay hO hno2 ?_
              rw [Hq.out, t1, Int.toNat_natCast]
              rwa [shL_shR, List.length_map] at h
            have hera : ¬ (shL F s q dn (rdS F s q (dn + sn))).length < dn → Hid (blkR F s bn = eraS (shL F s q dn (rdS F s q (dn + sn))) (UInt8.ofNat m)) := fun h => by
              rw [shL_shR, List.length_map] at h
              have := blk_era hnn2 hlay hO hno2 (by rw [Hq.out, t1, Int.toNat_natCast]; exact h)
              rw [Hq.out, t1, Int.toNat_natCast, Hm.out, Int.toNat_natCast] at this
              rw [Hid, shL_shR, era_eq (by omega)]
              exact this
            have hok := shL_ok (F := F) (s := s) (i := q) (d := dn) (k := dn + sn) (by omega)
            have hsz := shL_size hF s q dn (rdS F s q (dn + sn)) 0
            have hle := shL_le F s q dn (rdS F s q (dn + sn))
            have Hfew := Lib.hid hfew
            have Hera := Lib.hid hera
            have hmb : m < 15 := by
              have : (m : Int) < (dn : Int) := by rw [← Hm.out]; exact Int.emod_lt_of_pos _ (by omega)
              omega
            clear hfew hera hno hO hlay hno2 HPay
            generalize shL F s q dn (rdS F s q (dn + sn)) = L at *
            obtain ⟨oa, oc, rfl⟩ := own_form hI.own
            have hbel := hI.bel
            by_cases hlen : L.length < dn
            · have hzz := Hfew.out hlen
              have hli : (L.length : Int) < (dn : Int) := by omega
              clear Hfew Hera hI
              go_wp2_with fail
              go_ret2
              rw [hzz.out]
              exact ⟨rfl, hbel⟩
            · have hzz := Hera.out hlen
              obtain rfl : L.length = dn := by omega
              obtain ⟨g, rfl, _, hSA⟩ := shAt_own hI.own (by omega)
              have hEr := Lib.hid (refBlock_any g 0 oc L (m : Int) wr hok hsz (by omega) (by omega) hSA (by omega))
              rw [Int.toNat_natCast] at hEr
              clear Hfew Hera hI hok hsz hSA
              go_wp2_with fail
              refine hEr.out.mono ?_
              rintro e W9 ⟨he, hb9⟩
              have hb19 := step2 hbel hb9
              obtain ⟨E, hE⟩ : ∃ E, eraS L (UInt8.ofNat m) = E := ⟨_, rfl⟩
              rw [hE] at he hzz
              clear hE hEr c0 c1 l0 l1
              rcases E with x | t
              · obtain rfl := he
                go_wp2_with fail
                go_ret2
                rw [hzz.out]
                exact ⟨rfl, hb19⟩
              · obtain rfl := he
                go_wp2_with fail
                go_ret2
                rw [hzz.out]
                exact ⟨rfl, hb19⟩
end Go.Proofs.YtpkapcijgldhhaaGreatDoor

namespace Go.Proofs.YtpkapcijgldhhaaGreatDoor
open Go.RowKit Go.Shelf
theorem era_nz {S : List (Nat × List UInt8)} {x : UInt8} {e : Int} (h : eraR S x = .error e) : ¬ e = 0 := by
  unfold eraR at h
  split at h
  · cases h
  · injection h with h; omega
theorem blk_nz {F : List Fr} {s b e : Int} (h : blkR F s b = .error e) : ¬ e = 0 := by
  unfold blkR at h
  split at h
  · injection h with h; omega
  rcases hl : layR s none F with x | ⟨d, sp⟩
  · rw [hl] at h
    injection h with h
    rcases lay_err _ _ hl with rfl | rfl <;> omega
  · rw [hl] at h
    simp only at h
    split at h
    · injection h with h; omega
    · split at h
      · cases h
      · split at h
        · injection h with h; omega
        · exact era_nz h
/-- how many bytes a block gives to a range -/
def stepB (at' e : Nat) : Nat := min 28 (at' % 28 + e - at') - at' % 28
def cutB (b : List UInt8) (at' e : Nat) : List UInt8 := (b.drop (at' % 28)).take (stepB at' e)
theorem stepB_pos {at' e : Nat} (h : at' < e) : 0 < stepB at' e ∧ at' + stepB at' e ≤ e ∧ stepB at' e ≤ 28 := by
  unfold stepB
  have := Nat.mod_lt at' (show 0 < 28 by decide)
  omega
theorem cutB_len {b : List UInt8} {at' e : Nat} (hb : ¬ b.length < 28) (h : at' < e) : (cutB b at' e).length = stepB at' e := by
  unfold cutB
  have h1 := stepB_pos h
  have h2 : stepB at' e + at' % 28 ≤ 28 := by
    unfold stepB
    have := Nat.mod_lt at' (show 0 < 28 by decide)
    omega
  rw [List.length_take, List.length_drop]
  omega
noncomputable def goB (F : List Fr) (s : Int) (e : Nat) : Nat → Nat → List UInt8 → Except Int (List UInt8)
  | 0, _, a => .ok a
  | f + 1, at', a =>
    if at' < e then
      match blkR F s ((at' / 28 : Nat) : Int) with
      | .error x => .error x
      | .ok b => if b.length < 28 then .error 19 else goB F s e f (at' + stepB at' e) (a ++ cutB b at' e)
    else .ok a
def outX (s st n : Int) : Prop := (s < 0 ∨ 255 < s) ∨ (st < 0 ∨ 2147483647 < st) ∨ (n < 0 ∨ 65536 < n) ∨ (s = 0 ∧ st ≠ 0)
instance (s st n : Int) : Decidable (outX s st n) := by unfold outX; infer_instance
/-- the bytes of a range -/
noncomputable def bytR (F : List Fr) (s st n : Int) : Except Int (List UInt8) :=
  if outX s st n then .error 2 else if s = 0 then .ok (List.replicate n.toNat 0) else goB F s (st.toNat + n.toNat) n.toNat st.toNat []
theorem byt_out {F : List Fr} {s st n : Int} (h : outX s st n) : bytR F s st n = .error 2 := if_pos h
theorem byt_zero {F : List Fr} {s st n : Int} (h : ¬ outX s st n) (hs : s = 0) : bytR F s st n = .ok (List.replicate n.toNat 0) := by unfold bytR; rw [if_neg h, if_pos hs]
theorem byt_go {F : List Fr} {s st n : Int} (h : ¬ outX s st n) (hs : ¬ s = 0) : bytR F s st n = goB F s (st.toNat + n.toNat) n.toNat st.toNat [] := by unfold bytR; rw [if_neg h, if_neg hs]
/-- what stands between two rounds -/
def BtP (F : List Fr) (s : Int) (st e at' : Nat) (a : List UInt8) (R : Except Int (List UInt8)) : Prop := ∃ f, e - at' ≤ f ∧ st ≤ at' ∧ at' ≤ e ∧ a.length = at' - st ∧ goB F s e f at' a = R
theorem BtP.start {F : List Fr} {s st n : Int} (h : ¬ outX s st n) (hs : ¬ s = 0) : BtP F s st.toNat (st.toNat + n.toNat) st.toNat [] (bytR F s st n) := ⟨n.toNat, by omega, Nat.le_refl _, by omega, by simp, (byt_go h hs).symm⟩
theorem BtP.err {F : List Fr} {s : Int} {st e at' : Nat} {a : List UInt8} {R : Except Int (List UInt8)} (h : BtP F s st e at' a R) (hlt : at' < e) {x : Int} (hb : blkR F s ((at' / 28 : Nat) : Int) = .error x) : R = .error x := by
  obtain ⟨f, h1, _, _, _, rfl⟩ := h
  obtain ⟨f, rfl⟩ : ∃ g, f = g + 1 := ⟨f - 1, by omega⟩
  rw [goB, if_pos hlt, hb]
theorem BtP.short {F : List Fr} {s : Int} {st e at' : Nat} {a b : List UInt8} {R : Except Int (List UInt8)} (h : BtP F s st e at' a R) (hlt : at' < e) (hb : blkR F s ((at' / 28 : Nat) : Int) = .ok b) (hl : b.length < 28) : R = .error 19 := by
  obtain ⟨f, h1, _, _, _, rfl⟩ := h
  obtain ⟨f, rfl⟩ : ∃ g, f = g + 1 := ⟨f - 1, by omega⟩
  rw [goB, if_pos hlt, hb]; simp only; rw [if_pos hl]
theorem BtP.next {F : List Fr} {s : Int} {st e at' : Nat} {a b : List UInt8} {R : Except Int (List UInt8)} (h : BtP F s st e at' a R) (hlt : at' < e) (hb : blkR F s ((at' / 28 : Nat) : Int) = .ok b) (hl : ¬ b.length < 28) : BtP F s st e (at' + stepB at' e) (a ++ cutB b at' e) R := by
  obtain ⟨f, h1, h2, h3, h4, rfl⟩ := h
  obtain ⟨f, rfl⟩ : ∃ g, f = g + 1 := ⟨f - 1, by omega⟩
  have hp := stepB_pos hlt
  refine ⟨f, by omega, by omega, by omega, by rw [List.length_append, cutB_len hl hlt]; omega, ?_⟩
  rw [goB, if_pos hlt, hb]; simp only; rw [if_neg hl]
theorem BtP.stop {F : List Fr} {s : Int} {st e at' : Nat} {a : List UInt8} {R : Except Int (List UInt8)} (h : BtP F s st e at' a R) (hlt : ¬ at' < e) : R = .ok a := by
  obtain ⟨f, h1, _, _, _, rfl⟩ := h
  cases f with
  | zero => rfl
  | succ f => rw [goB, if_neg hlt]
theorem BtP.bd {F : List Fr} {s : Int} {st e at' : Nat} {a : List UInt8} {R : Except Int (List UInt8)} (h : BtP F s st e at' a R) : st ≤ at' ∧ at' ≤ e ∧ a.length = at' - st := by
  obtain ⟨f, _, h2, h3, h4, _⟩ := h
  exact ⟨h2, h3, h4⟩
end Go.Proofs.YtpkapcijgldhhaaGreatDoor
