/-
  The reference's check of shares, and its block out of shares.
  The readable positions of a stripe: the program's iterator, for blocks.
-/
import Derived.Test.YtpkapcijgldhhaaGreatDoorCe40
import Derived.RangeFuncNested
import Derived.RangeFuncBound
import Derived.RangeFuncCalls
import Derived.RangeFuncLeaves
import Derived.Shelf.Abstract
import Derived.Shelf.RegionOpen
import Derived.TacticsInMore
import Derived.LoopNIn
import Derived.LoopIn
import Derived.OwnWalkIn
import Derived.Sort.QuietIn
import Derived.Test.YtpkapcijgldhhaaGreatDoorCe28
import Derived.Test.YtpkapcijgldhhaaGreatDoorCe21
namespace Go.Proofs.YtpkapcijgldhhaaGreatDoor
open Go.RowKit Go.Shelf
/-- the answer of the check -/
def chkR (S : List Sh) (R : Int) : Prop := ((∀ k, k < S.length → (shAt S k).d.size = (shAt S 0).d.size) → R = 0) ∧ ((∃ k, k < S.length ∧ (shAt S k).d.size ≠ (shAt S 0).d.size) → R = 1)
set_option maxRecDepth 100000 in
set_option maxHeartbeats 4000000 in
theorem checkR_any' (b o cap : Nat) (S : List Sh) (R : Int) (hR : chkR S R) (w : World) (h : ShOk S) (hn1 : (shAt S 0).d.size ≤ 1000) (h0 : 0 < S.length) (hl : S.length ≤ 15) (hS : ShAt w b o S) :
    Calls Tryz.prog 73 #[.slice (some ⟨b, o, none⟩) S.length cap, .int .i64 S.length] w (fun e w' => e = .returned (.int .i64 R) ∧ Below w.heap.size w w') := by
  have HS := Lib.hid (fun W (hW : Below w.heap.size w W) => hS.below hW)
  have HIX := Lib.hid h.ix
  have HR := Lib.hid hR
  have HF := Lib.hid (fun W (hW : Below w.heap.size w W) => first_any b o cap S W h h0 hl (hS.below hW))
  have HA := Lib.hid (show ∀ (hd : ∀ k, k < S.length → (shAt S k).d.size = (shAt S 0).d.size) k, k < S.length → ∀ gx cx gb cb W, ByAt W gx 0 (shX S S.length) → StAt W gb 0 (shB S S.length) → Calls Tryz.prog 75 #[.slice (some ⟨gx, 0, none⟩) S.length cx, .slice (some ⟨gb, 0, none⟩) S.length cb, .int .u8 (by8 (UInt8.ofNat (shAt S k).i.toNat))] W (fun e w' => e = .returned (.string (shAt S k).d) ∧ Below W.heap.size W w') from fun hd k hk gx cx gb cb W hx hb => by
    have := at_any gx 0 cx gb 0 cb (shX S S.length) (UInt8.ofNat (shAt S k).i.toNat) (shB S S.length) (shAt S 0).d.size W (by rw [shB_len]; exact h0) (by rw [shB_len]; omega) (fun j hj => by rw [shB_len] at hj; rw [shB_at hj]; exact hd j hj) hn1 (by rw [shX_len, shB_len]) (by rw [shX_full]; exact h.nd) hx hb
    rw [h.point (n := (shAt S 0).d.size) hd hk, shX_len, shB_len, bA'_of] at this
    exact this)
  clear hS h hR
  have h1i : ¬ (S.length : Int) < 1 := by omega
  have h15i : ¬ 15 < (S.length : Int) := by omega
  have h0i : (0 : Int) < (S.length : Int) := by omega
  go_enter Tryz.func73, Tryz.ntmps73
  go_wp2_with fail
  go_loopw [5] (fun v wr => ∃ k : Nat, k ≤ S.length ∧ v = .int .i64 k ∧ w = wr) (fun v _ => S.length - (intOf v).toNat)
  case atStart => exact ⟨0, by omega, rfl, rfl⟩
  case round =>
    obtain ⟨k, hk, rfl, rfl⟩ := hrel
    by_cases hlt : k < S.length
    · obtain ⟨c0, c1⟩ := shCells (HS.out _ (below_refl w)) hlt
      have hix := HIX.out k hlt
      have hq1 : ¬ (shAt S k).i < 0 := by omega
      have hq2 : ¬ 14 < (shAt S k).i := by omega
      have hki : (0 : Int) ≤ (k : Int) ∧ (k : Int) < (S.length : Int) := by omega
      generalize (shAt S k).i = i at *
      go_wp2_with fail
      go_roundw
      case rel => exact ⟨k + 1, by omega, by go_num, trivial⟩
      case measure => simp [intOf]; omega
    · obtain rfl : k = S.length := by omega
      go_wp2_with fail
      go_loopw [6] (fun v w2 => ∃ k : Nat, k ≤ S.length ∧ v = .int .i64 k ∧ Below w.heap.size w w2 ∧ Hid (∀ j, j < k → (shAt S j).d.size = (shAt S 0).d.size)) (fun v _ => S.length - (intOf v).toNat)
      case atStart => exact ⟨0, by omega, rfl, below_refl _, fun j hj => absurd hj (Nat.not_lt_zero _)⟩
      case round =>
        obtain ⟨k, hk, rfl, kb, hf⟩ := hrel
        by_cases hlt2 : k < S.length
        · obtain ⟨c0, c1⟩ := shCells (HS.out _ kb) hlt2
          obtain ⟨d0, d1⟩ := shCells (HS.out _ kb) h0
          simp only [Nat.zero_mul, Nat.add_zero] at d0 d1
          have hki : (0 : Int) ≤ (k : Int) ∧ (k : Int) < (S.length : Int) := by omega
          by_cases hsz : (shAt S k).d.size = (shAt S 0).d.size
          · have hb : (((shAt S k).d.size : Int) != ((shAt S 0).d.size : Int)) = false := by rw [hsz]; simp
            have hf2 : Hid (∀ j, j < k + 1 → (shAt S j).d.size = (shAt S 0).d.size) := fun j hj => by
              by_cases e : j = k
              · subst e; exact hsz
              · exact hf.out j (by omega)
            clear hf hsz HA HF HR HS HIX
            generalize (shAt S k).d = dk at *
            generalize hd0 : (shAt S 0).d = dz at *
            go_upto_region 11 with (fail)
            go_quiet (fail)
            all_goals
              go_wp2_with fail
              go_roundw
              case rel => exact ⟨k + 1, by omega, by go_num, below_drewN kb _, hf2⟩
              case measure => simp [intOf]; omega
          · have hb : (((shAt S k).d.size : Int) != ((shAt S 0).d.size : Int)) = true := by rw [bne_iff_ne]; omega
            have hr1 : Hid (R = 1) := HR.out.2 ⟨k, hlt2, hsz⟩
            clear hf hsz HA HF HR HS HIX
            generalize (shAt S k).d = dk at *
            generalize hd0 : (shAt S 0).d = dz at *
            go_upto_region 11 with (fail)
            go_quiet (fail)
            all_goals
              go_wp2_with fail
              go_ret
              exact ⟨by rw [hr1.out]; rfl, below_drewN kb _⟩
        · obtain rfl : k = S.length := by omega
          have hd := hf.out
          have hr0 : Hid (R = 0) := HR.out.1 hd
          have HA2 := Lib.hid (HA.out hd)
          have HF2 := Lib.hid (HF.out _ kb)
          clear hf HA HF HR hd
          go_wp2_with fail
          refine HF2.out.mono ?_
          rintro e w3 ⟨gx, cx, gb, cb, rfl, hx, hb, hb3⟩
          have k3 := step2 kb hb3
          have HX := Lib.hid (fun W (hW : Below w3.heap.size w3 W) => hx.below hW)
          have HB := Lib.hid (fun W (hW : Below w3.heap.size w3 W) => hb.below hW)
          clear HF2 hx hb hb3
          go_wp2_with fail
          go_loopw [9] (fun v w4 => ∃ k : Nat, k ≤ S.length ∧ v = .int .i64 k ∧ Below w3.heap.size w3 w4) (fun v _ => S.length - (intOf v).toNat)
          case atStart => exact ⟨0, by omega, rfl, below_refl _⟩
          case round =>
            obtain ⟨k, hk, rfl, k4⟩ := hrel
            by_cases hlt3 : k < S.length
            · have kd := below_drew0 (step2 k3 k4)
              have HC := Lib.hid (show ∀ W, Below w.heap.size w W → _ from fun W hW => shCells (HS.out W hW) hlt3)
              have HT := Lib.hid (show ∀ W, Below w3.heap.size w3 W → _ from fun W hW => HA2.out k hlt3 gx cx gb cb W (HX.out W hW) (HB.out W hW))
              have hix := HIX.out k hlt3
              have hw8 := wrap8 hix
              have hw8b : (shAt S k).i % 256 = by8 (UInt8.ofNat (shAt S k).i.toNat) := by
                obtain ⟨m, hm⟩ := Int.eq_ofNat_of_zero_le hix.1
                rw [hm, by8, Int.toNat_natCast, UInt8.toNat_ofNat_of_lt' (show m < 256 by omega)]; omega
              have hki : (0 : Int) ≤ (k : Int) ∧ (k : Int) < (S.length : Int) := by omega
              have cS0 := HC.out _ kd
              have k4d := below_drew0 k4
              generalize (shAt S k).i = i at *
              generalize (shAt S k).d = d at *
              generalize UInt8.ofNat i.toNat = x at *
              clear HX HB HA2 HS HIX
              go_upto_region 19 with (fail)
              go_region_held3 (fun W => W.cell? ⟨b, o + k * 2, none⟩ = some (.int .i64 i) ∧ W.cell? ⟨b, o + k * 2 + 1, none⟩ = some (.string d))
                (with_reducible assumption)
                ((go_at_call 75; refine (HT.out _ k4d).mono ?_; rintro e w5 ⟨rfl, hb5⟩; have cS2 := HC.out _ (step2 kd hb5)))
              all_goals
                have k5 := step2 k4d hb5
                clear HC HT cS0 cS2
                go_wp2_with fail
                go_roundw
                case rel => exact ⟨k + 1, by omega, by go_num, k5⟩
                case measure => simp [intOf]; omega
            · obtain rfl : k = S.length := by omega
              go_wp2_with fail
              go_ret
              exact ⟨by rw [hr0.out]; rfl, step2 k3 k4⟩
theorem eraS_cases (S : List Sh) (x : UInt8) : (eraS S x = .ok (lagL (shX S S.length) ((shB S S.length).map fun t => t.data.toList) (shAt S 0).d.size x) ∧ (∀ k, k < S.length → (shAt S k).d.size = (shAt S 0).d.size) ∧ chkR S 0) ∨ (eraS S x = .error 1 ∧ chkR S 1) := by
  by_cases hd : ∀ k, k < S.length → (shAt S k).d.size = (shAt S 0).d.size
  · exact .inl ⟨if_pos hd, hd, fun _ => rfl, fun ⟨k, hk, hne⟩ => absurd (hd k hk) hne⟩
  · exact .inr ⟨if_neg hd, fun h => absurd h hd, fun _ => rfl⟩
set_option maxRecDepth 100000 in
set_option maxHeartbeats 4000000 in
theorem refBlock_any (b o cap : Nat) (S : List Sh) (i : Int) (w : World) (h : ShOk S) (hn1 : (shAt S 0).d.size ≤ 1000) (h0 : 0 < S.length) (hl : S.length ≤ 15) (hS : ShAt w b o S) (hi : 0 ≤ i ∧ i < 15) :
    Calls Tryz.prog 41 #[.slice (some ⟨b, o, none⟩) S.length cap, .int .i64 S.length, .int .i64 i] w (EraQ (eraS S (UInt8.ofNat i.toNat)) w) := by
  have hi1 : ¬ i < 0 := by omega
  have hi2 : ¬ 14 < i := by omega
  have hw8 := wrap8 hi
  have hw8b : i % 256 = by8 (UInt8.ofNat i.toNat) := by
    obtain ⟨m, hm⟩ := Int.eq_ofNat_of_zero_le hi.1
    rw [hm, by8, Int.toNat_natCast, UInt8.toNat_ofNat_of_lt' (show m < 256 by omega)]; omega
  rcases eraS_cases S (UInt8.ofNat i.toNat) with ⟨hr, hd, hc⟩ | ⟨hr, hc⟩
  · have HR := Lib.hid hr
    have HC := Lib.hid (checkR_any' b o cap S 0 hc w h hn1 h0 hl hS)
    have HF := Lib.hid (show ∀ W, Below w.heap.size w W → _ from fun W hW => first_any b o cap S W h h0 hl (hS.below hW))
    have HA := Lib.hid (show ∀ gx cx gb cb W, ByAt W gx 0 (shX S S.length) → StAt W gb 0 (shB S S.length) → _ from fun gx cx gb cb W hx hb =>
      at_any gx 0 cx gb 0 cb (shX S S.length) (UInt8.ofNat i.toNat) (shB S S.length) (shAt S 0).d.size W (by rw [shB_len]; exact h0) (by rw [shB_len]; omega) (fun j hj => by rw [shB_len] at hj; rw [shB_at hj]; exact hd j hj) hn1 (by rw [shX_len, shB_len]) (by rw [shX_full]; exact h.nd) hx hb)
    rw [shX_len, shB_len] at HA
    generalize lagL (shX S S.length) ((shB S S.length).map fun t => t.data.toList) (shAt S 0).d.size (UInt8.ofNat i.toNat) = R at *
    generalize eraS S (UInt8.ofNat i.toNat) = E at *
    generalize UInt8.ofNat i.toNat = x at *
    clear hd h hS hc hr
    go_enter Tryz.func41, Tryz.ntmps41
    go_wp2_with fail
    refine HC.out.mono ?_
    rintro e w1 ⟨rfl, hb1⟩
    clear HC
    go_wp2_with fail
    refine (HF.out _ hb1).mono ?_
    rintro e w3 ⟨gx, cx, gb, cb, rfl, hx, hb, hb3⟩
    have k3 := step2 hb1 hb3
    clear HF hb1 hb3
    go_wp2_with fail
    refine (HA.out _ _ _ _ _ hx hb).mono ?_
    rintro e w4 ⟨rfl, hb4⟩
    have k4 := step2 k3 hb4
    clear HA hx hb k3 hb4
    go_wp2_with fail
    go_ret2
    rw [HR.out]
    exact ⟨rfl, k4⟩
  · have HR := Lib.hid hr
    have HC := Lib.hid (checkR_any' b o cap S 1 hc w h hn1 h0 hl hS)
    generalize eraS S (UInt8.ofNat i.toNat) = E at *
    clear h hS hc hr
    go_enter Tryz.func41, Tryz.ntmps41
    go_wp2_with fail
    refine HC.out.mono ?_
    rintro e w1 ⟨rfl, hb1⟩
    clear HC
    go_wp2_with fail
    go_ret2
    rw [HR.out]
    exact ⟨rfl, hb1⟩
end Go.Proofs.YtpkapcijgldhhaaGreatDoor

namespace Go.Proofs.YtpkapcijgldhhaaGreatDoor
open Go.RowKit Go.Shelf
attribute [local go_sem] Oper.semAt_some
def SpB (F : List Fr) (s i : Int) (R : Nat) (pre : List Nat) : Prop := ∃ k, k < R ∧ pre = rdS F s i k ++ [k] ∧ (payB F s k i).isSome = true
noncomputable def rdEncB (F : List Fr) (s i : Int) (x : Nat) : Array Value := #[.int .i64 x, .string (bA' (pOf F s i x))]
theorem rdEncB_size (F : List Fr) (s i : Int) (x : Nat) : (rdEncB F s i x).size = 2 := rfl
structure RdBxB (W : World) (B : Nat) (ar : Int) (v : Value) (s i : Int) (R : Nat) : Prop where
  c : Box W B [.int .u32 ar, v] 25
  kd : Box W (B + 1) [.int .i64 66] 3
  se : Box W (B + 2) [.int .i64 s] 3
  ix : Box W (B + 3) [.int .i64 i] 3
  rl : Box W (B + 4) [.int .i64 (R : Int)] 3
theorem RdBxB.kp {W W' : World} {B n : Nat} {ar : Int} {v : Value} {s i : Int} {R : Nat} (h : RdBxB W B ar v s i R) (k : KpR n B W W') : RdBxB W' B ar v s i R :=
  ⟨(k.2 B (by omega) (by omega)).trans h.c, (k.2 _ (by omega) (by omega)).trans h.kd, (k.2 _ (by omega) (by omega)).trans h.se, (k.2 _ (by omega) (by omega)).trans h.ix, (k.2 _ (by omega) (by omega)).trans h.rl⟩
theorem RdBxB.lt {W : World} {B : Nat} {ar : Int} {v : Value} {s i : Int} {R : Nat} (h : RdBxB W B ar v s i R) : B + 5 ≤ W.heap.size := h.rl.lt
set_option maxRecDepth 100000 in
set_option maxHeartbeats 4000000 in
theorem readableB_in (n : Nat) (hn : 1 ≤ n) (l B0 Bj : Nat) (ar : Int) (v : Value) (F : List Fr) (s i : Int) (R : Nat) (hR : R ≤ 15) (w : World) (hr : FrRow w v F) (J Jx : List Nat → World → Prop) (hJa : AbidesFrom Bj J)
    (hY : ∀ pre x W, J pre W → pre.length < 15 → YieldAt Fence.wide (n - 1) Tryz.prog l (rdEncB F s i x) W fun e W' =>
      (e = .returned (.bool true) ∧ J (pre ++ [x]) W' ∧ KpR w.heap.size B0 W W') ∨ (e = .returned (.bool false) ∧ Jx (pre ++ [x]) W'))
    (W : World) (hW : Below w.heap.size w W) (hB : RdBxB W B0 ar v s i R) (h0 : J [] W) :
    CallsIn Fence.wide n Tryz.prog 69 #[.func (.yield l) #[] #[], .pointer (some ⟨B0 + 4, 0, none⟩), .pointer (some ⟨B0, 0, none⟩), .pointer (some ⟨B0 + 1, 0, none⟩), .pointer (some ⟨B0 + 2, 0, none⟩), .pointer (some ⟨B0 + 3, 0, none⟩)] W fun e W' => (∃ v, e = .returned v) ∧
      ((∃ ys, ys = rdS F s i R ∧ J ys W') ∨ (∃ pre, SpB F s i R pre ∧ Jx pre W')) := by
  have HP := Lib.hid (show ∀ W', Below w.heap.size w W' → ∀ r, Calls Tryz.prog 70 #[.agg #[.int .u32 ar, v], .int .i64 66, .int .i64 s, .int .i64 r, .int .i64 i] W' (PayQ (payR 66 s r i none F) W') from fun W' hW r => payload_any ar v F 66 s r i W' (hr.below hW))
  clear hr
  refine callsIn_of_wp Tryz.func69 rfl trivial ?_ rfl
  simp only [Tryz.ntmps69, List.size_toArray, List.length_cons, List.length_nil, Nat.reduceAdd, Nat.reduceSub, Array.replicate_succ, Array.replicate_zero, List.push_toArray, List.append_toArray, List.nil_append, List.cons_append]
  have q4 : W.cell? ⟨B0 + 4, 0, none⟩ = some (.int .i64 (R : Int)) := hB.rl.cell 0
  gi_wp2
  gi_loopw [12] (fun x wr => ∃ k : Nat, k ≤ R ∧ x = .int .i64 k ∧ Below w.heap.size w wr ∧ RdBxB wr B0 ar v s i R ∧ J (rdS F s i k) wr)
    (fun x _ => R - (intOf x).toNat)
  case atStart => exact ⟨0, by omega, rfl, hW, hB, h0⟩
  case round =>
    clear q4 hW hB h0
    obtain ⟨k, hk, rfl, hW, hB, hJk⟩ := hrel
    by_cases hlt : k < R
    · obtain ⟨c0, c1⟩ := hB.c.cells2
      have c2 : wr.cell? ⟨B0 + 1, 0, none⟩ = some (.int .i64 66) := hB.kd.cell 0
      have c3 : wr.cell? ⟨B0 + 2, 0, none⟩ = some (.int .i64 s) := hB.se.cell 0
      have c4 : wr.cell? ⟨B0 + 3, 0, none⟩ = some (.int .i64 i) := hB.ix.cell 0
      have HQ := Lib.hid (HP.out _ hW k)
      gi_wp2_with fail
      refine ⟨trivial, (callsIn_wide.2 HQ.out).mono ?_⟩
      rintro e w1 ⟨he, hb1⟩
      have hWr := hW.size
      have hBl := hB.lt
      have kp1 : KpR w.heap.size B0 wr w1 := KpR.of_below hb1 hWr hBl
      have hW1 := hW.trans kp1.1
      have hB1 := hB.kp kp1
      have hJ1 := hJa _ _ _ none hJk (grown_of_below hb1) (fun r e => by cases e)
      have c2 : w1.cell? ⟨B0 + 1, 0, none⟩ = some (.int .i64 66) := hB1.kd.cell 0
      clear HQ c0 c1 c3 c4 hJk hB hW hb1 kp1 hWr hBl
      rcases hp : payR 66 s k i none F with x | f
      · rw [hp] at he
        obtain rfl := he
        have hs : Hid (J (rdS F s i (k + 1)) w1) := by rw [Hid, rdS_skip (payB_err hp)]; exact hJ1
        obtain ⟨x1, x2⟩ := neq0 (show ¬ x = 0 by rcases pay_err _ _ hp with rfl | rfl <;> decide)
        clear hp hY hJ1
        gi_wp2_with fail
        go_roundw
        case rel => exact ⟨k + 1, by omega, by go_num, hW1, hB1, hs⟩
        case measure => simp [intOf]; omega
      · rw [hp] at he
        obtain rfl := he
        have Ho := payB_ok hp
        have hx : bA' (pOf F s i k) = f.payload := by rw [pOf, Ho]; exact bA'_of _
        have hl15 : (rdS F s i k).length < 15 := Nat.lt_of_le_of_lt (rdS_len k) (by omega)
        obtain ⟨fn, tmps, assign, body, hy, hR2⟩ := hY _ k w1 hJ1 hl15
        have htk : Hid (rdS F s i (k + 1) = rdS F s i k ++ [k]) := rdS_take Ho
        have hsm : Hid ((payB F s k i).isSome = true) := by rw [Hid, Ho]; rfl
        unfold rdEncB at hy
        rw [hx] at hy
        clear hp hY hJ1 hx Ho
        generalize f.payload = pl at *
        gi_wp2_with fail
        refine hR2.mono ?_
        rintro e W3 (⟨rfl, hJ3, hk3⟩ | ⟨rfl, hJx3⟩)
        · have hW3 := hW1.trans hk3.1
          have hB3 := hB1.kp hk3
          rw [← htk.out] at hJ3
          clear hR2 hy hk3
          gi_wp2_with fail
          go_roundw
          case rel => exact ⟨k + 1, by omega, by go_num, hW3, hB3, hJ3⟩
          case measure => simp [intOf]; omega
        · clear hR2 hy
          gi_wp2_with fail
          refine bodyPost_ret (results_none rfl _ _ _) rfl ?_
          exact ⟨⟨_, rfl⟩, .inr ⟨_, ⟨k, hlt, rfl, hsm⟩, hJx3⟩⟩
    · obtain rfl : k = R := by omega
      gi_wp2_with fail
      go_end0
      exact ⟨⟨_, rfl⟩, .inl ⟨_, rfl, hJk⟩⟩
theorem readableB_any (ar : Int) (v : Value) (s i : Int) (R : Nat) (w : World) :
    Calls Tryz.prog 37 #[.agg #[.int .u32 ar, v], .int .i64 66, .int .i64 s, .int .i64 i, .int .i64 (R : Int)] w (fun e w' =>
      e = .returned (.func (.func 69) #[] #[.pointer (some ⟨w.heap.size + 4, 0, none⟩), .pointer (some ⟨w.heap.size, 0, none⟩), .pointer (some ⟨w.heap.size + 1, 0, none⟩), .pointer (some ⟨w.heap.size + 2, 0, none⟩), .pointer (some ⟨w.heap.size + 3, 0, none⟩)]) ∧
      RdBxB w' w.heap.size ar v s i R ∧ Below w.heap.size w w') := by
  obtain ⟨k0, b0⟩ := boxr w [.int .u32 ar, v] 25
  obtain ⟨k1, b1⟩ := boxr (w.alloc (.cells [.int .u32 ar, v].toArray 25)) [.int .i64 66] 3
  obtain ⟨k2, b2⟩ := boxr ((w.alloc (.cells [.int .u32 ar, v].toArray 25)).alloc (.cells [.int .i64 66].toArray 3)) [.int .i64 s] 3
  obtain ⟨k3, b3⟩ := boxr (((w.alloc (.cells [.int .u32 ar, v].toArray 25)).alloc (.cells [.int .i64 66].toArray 3)).alloc (.cells [.int .i64 s].toArray 3)) [.int .i64 i] 3
  obtain ⟨k4, b4⟩ := boxr ((((w.alloc (.cells [.int .u32 ar, v].toArray 25)).alloc (.cells [.int .i64 66].toArray 3)).alloc (.cells [.int .i64 s].toArray 3)).alloc (.cells [.int .i64 i].toArray 3)) [.int .i64 (R : Int)] 3
  have B0 := (((b0.below k1).below k2).below k3).below k4
  have B1 := ((b1.below k2).below k3).below k4
  have B2 := (b2.below k3).below k4
  have B3 := b3.below k4
  have kb := step2 (step2 (step2 (step2 k0 k1) k2) k3) k4
  clear k0 k1 k2 k3 k4 b0 b1 b2 b3
  simp only [World.size_alloc] at B1 B2 B3 b4
  go_enter Tryz.func37, Tryz.ntmps37
  go_wp2_with fail
  go_ret
  exact ⟨rfl, ⟨B0, B1, B2, B3, b4⟩, kb⟩
theorem readableB_stops (n B0 : Nat) (hn : 1 ≤ n) (ar : Int) (v : Value) (F : List Fr) (s i : Int) (R : Nat) (hR : R ≤ 15) (w W2 : World) (hr : FrRow w v F) (kb2 : Below w.heap.size w W2) (hB : RdBxB W2 B0 ar v s i R) :
    SeqStopsK Fence.wide n Tryz.prog 69 #[.pointer (some ⟨B0 + 4, 0, none⟩), .pointer (some ⟨B0, 0, none⟩), .pointer (some ⟨B0 + 1, 0, none⟩), .pointer (some ⟨B0 + 2, 0, none⟩), .pointer (some ⟨B0 + 3, 0, none⟩)]
      (rdEncB F s i) (KpR w.heap.size B0) (fun ys => ys = rdS F s i R) (SpB F s i R) 15 W2 := by
  intro l J Jx W hW hJ _ hY h0
  exact readableB_in n hn l B0 W.heap.size ar v F s i R hR w hr J Jx hJ hY W (kb2.trans (hW.mono kb2.size)) (hB.kp (KpR.of_below hW kb2.size hB.lt)) h0
end Go.Proofs.YtpkapcijgldhhaaGreatDoor
