/-
  blake2s.Compress: the walk.
-/
import Derived.Test.YtpkapcijgldhhaaGreatDoorCe15
import Derived.Deep.QuietTactic
import Derived.BigQuiet
import Derived.StillTailTactics
import Derived.Deep.RegionHeld3
import Derived.Handy
import Derived.Deep.MidRow
import Derived.KernelRfl
import Derived.Deep.Cut
import Derived.Deep.LoopGhost
namespace Go.Proofs.YtpkapcijgldhhaaGreatDoor
open Go.RowKit
theorem start_of {f : Nat → UInt32} {x4 x5 x6 : UInt32} (h4 : iv 4 = x4) (h5 : iv 5 = x5) (_h6 : iv 6 = x6) (n i : Nat) (hi : i < 16) :
    (if i = 13 then x5 ^^^ UInt32.ofNat (n / 4294967296) else if i = 12 then x4 ^^^ UInt32.ofNat n else if i < 8 then f i else iv (i - 8)) = start f n false i := by
  subst h4 h5
  unfold start
  rcases i with _|_|_|_|_|_|_|_|_|_|_|_|_|_|_|_|i <;> first | rfl | omega
theorem start_of_last {f : Nat → UInt32} {x4 x5 x6 : UInt32} (h4 : iv 4 = x4) (h5 : iv 5 = x5) (h6 : iv 6 = x6) (n i : Nat) (hi : i < 16) :
    (if i = 14 then ~~~ x6 else if i = 13 then x5 ^^^ UInt32.ofNat (n / 4294967296) else if i = 12 then x4 ^^^ UInt32.ofNat n else if i < 8 then f i else iv (i - 8)) = start f n true i := by
  subst h4 h5 h6
  unfold start
  rcases i with _|_|_|_|_|_|_|_|_|_|_|_|_|_|_|_|i <;> first | rfl | omega
set_option maxHeartbeats 4000000 in
set_option maxRecDepth 100000 in
theorem compress_any (f : Nat → UInt32) (s : ByteArray) (n : Nat) (last : Bool) (w : World) (hs : Hid (s.size = 64)) (hn : n < 4611686018427387904) :
    Calls Tryz.prog 106 #[.agg (l8 f).toArray, .string s, .int .u64 n, .bool last] w fun e w' => e = .returned (.tuple #[.agg (l8 (compress f s.data.toList n last)).toArray, .int .i64 0]) ∧ Below w.heap.size w w' := by
  have hlen : ((s.size : Int) != 64) = false := by rw [hs.out]; rfl
  go_enter Tryz.func106, Tryz.ntmps106
  go_wp2_with fail
  obtain ⟨B, hB⟩ : ∃ B, w.heap.size = B := ⟨_, rfl⟩
  generalize hW1 : World.alloc (World.alloc w _) _ = W1
  generalize hW2 : World.alloc W1 _ = W2
  generalize hW3 : World.alloc W2 _ = W3
  have s1 : W1.heap.size = B + 2 := by rw [← hW1, ← hB]; simp
  have s2 : W2.heap.size = B + 3 := by rw [← hW2]; simp [s1]
  have s3 : W3.heap.size = B + 4 := by rw [← hW3]; simp [s2]
  have b1 : Below B w W1 := by rw [← hW1, ← hB]; exact ((Below.refl _ w).alloc (Nat.le_refl _) _).alloc (by simp) _
  have b2 : Below (B + 2) W1 W2 := by rw [← hW2, ← s1]; exact (Below.refl _ W1).alloc (Nat.le_refl _) _
  have b3 : Below (B + 3) W2 W3 := by rw [← hW3, ← s2]; exact (Below.refl _ W2).alloc (Nat.le_refl _) _
  have c0 : Cells W3 B 8 f := by
    have : Cells W1 B 8 f := by rw [← hW1, ← hB]; exact (Cells.new8 (w := w)).below ((Below.refl _ _).alloc (Nat.le_refl _) _) (by simp)
    exact (this.below b2 (by omega)).below b3 (by omega)
  have q0 : Soft W3 B := by
    have : Soft W1 B := by rw [← hW1, ← hB]; exact (Soft.new (w := w)).below ((Below.refl _ _).alloc (Nat.le_refl _) _) (by simp)
    exact (this.below b2 (by omega)).below b3 (by omega)
  have t1 : Free W3 (B + 1) 8 := by
    have : Free W1 (B + 1) 8 := by
      rw [← hW1, ← hB, show w.heap.size + 1 = (w.alloc (.cells (l8 f).toArray 143)).heap.size from by simp]
      exact Free.new rfl
    exact (this.below b2 (by omega)).below b3 (by omega)
  have t2 : Free W3 (B + 2) 16 := by
    have : Free W2 (B + 2) 16 := by rw [← hW2, ← s1]; exact Free.new rfl
    exact this.below b3 (by omega)
  have t3 : Free W3 (B + 3) 16 := by rw [← hW3, ← s2]; exact Free.new rfl
  have q3 : Soft W3 (B + 3) := by rw [← hW3, ← s2]; exact Soft.new
  have b03 : Below B w W3 := (b1.trans (b2.mono (by omega))).trans (b3.mono (by omega))
  clear b1 b2 b3 s1 s2 hW1 hW2 hW3
  rw [hB]
  have HB := Lib.hid hB; clear hB
  have S3 := Lib.hid s3; clear s3
  go_loopw [25] (fun i wr => ∃ k : Nat, k ≤ 16 ∧ i = .int .i64 k ∧ Cells wr (B + 2) k (mword s.data.toList) ∧ Free wr (B + 2) 16 ∧ Save (B + 2) W3 wr) (fun i _ => 16 - (intOf i).toNat)
  case atStart => exact ⟨0, by omega, rfl, fun j hj => by omega, t2, Save.refl _ _⟩
  case round =>
    obtain ⟨k, hk, rfl, hc, hfree, hsv⟩ := hrel
    by_cases hlt : k < 16
    · have e0 : 4 * k < s.size := by rw [hs.out]; omega
      have e1 : 4 * k + 1 < s.size := by rw [hs.out]; omega
      have e2 : 4 * k + 2 < s.size := by rw [hs.out]; omega
      have e3 : 4 * k + 3 < s.size := by rw [hs.out]; omega
      have rc := u32_byte
      have r8 := u32_w8
      have r16 := u32_w16
      have r24 := u32_w24
      have ror := u32_or
      have hm := Lib.hid (mword_eq s k e0 e1 e2 e3)
      obtain ⟨⟨x, hx⟩, hf⟩ := hfree k hlt
      have g0 : (0 : Int) ≤ 4 * (k : Int) := by omega
      have g1 : (0 : Int) ≤ 4 * (k : Int) + 1 := by omega
      have g2 : (0 : Int) ≤ 4 * (k : Int) + 2 := by omega
      have g3 : (0 : Int) ≤ 4 * (k : Int) + 3 := by omega
      have j0 : 4 * (k : Int) < s.size := by omega
      have j1 : 4 * (k : Int) + 1 < s.size := by omega
      have j2 : 4 * (k : Int) + 2 < s.size := by omega
      have j3 : 4 * (k : Int) + 3 < s.size := by omega
      have i0 : (4 * (k : Int)).toNat = 4 * k := by omega
      have i1 : (4 * (k : Int) + 1).toNat = 4 * k + 1 := by omega
      have i2 : (4 * (k : Int) + 2).toNat = 4 * k + 2 := by omega
      have i3 : (4 * (k : Int) + 3).toNat = 4 * k + 3 := by omega
      have w0 : IntKind.i64.wrap (4 * (k : Int)) = 4 * k := IntWalk.i64_in _ (by omega)
      have w1 : IntKind.i64.wrap (4 * (k : Int) + 1) = 4 * k + 1 := IntWalk.i64_in _ (by omega)
      have w2 : IntKind.i64.wrap (4 * (k : Int) + 2) = 4 * k + 2 := IntWalk.i64_in _ (by omega)
      have w3 : IntKind.i64.wrap (4 * (k : Int) + 3) = 4 * k + 3 := IntWalk.i64_in _ (by omega)
      go_wp2_with fail
      go_still_tail 30, (by kernel_rfl)
      go_wp2_with fail
      go_roundw
      case rel => exact ⟨k + 1, by omega, by go_num, hc.next hfree hlt hm.out, (hfree.set k _).drew, hsv.trans (Save.store _ _ _ _)⟩
      case measure => simp [intOf]; omega
    · obtain rfl : k = 16 := by omega
      clear hlt hk
      go_wp2_with fail
      have hz : B + 4 ≤ wr.heap.size := by have := hsv.size; have := S3.out; omega
      obtain ⟨W5, hW5⟩ : ∃ W5, W5 = wr := ⟨_, rfl⟩
      have k0 := c0.save hsv (by omega)
      have k1 := t1.save hsv (by omega)
      have k3 := t3.save hsv (by omega)
      have p0 := q0.save hsv (by omega) (by have := S3.out; omega)
      have p3 := q3.save hsv (by omega) (by have := S3.out; omega)
      have bw := b03.trans (hsv.below (n := B) (by omega) (by have := S3.out; omega))
      clear hsv c0 t1 t2 t3 q0 q3 b03 S3 hfree
      refine (initial8 _).mono ?_
      rintro e w4 ⟨rfl, hb4⟩
      have m4 := hc.below hb4 (by omega)
      have k4 := k0.below hb4 (by omega)
      have l4 := k1.below hb4 (by omega)
      have v4 := k3.below hb4 (by omega)
      have p4 := p0.below hb4 (by omega)
      have r4 := p3.below hb4 (by omega)
      have bw4 := bw.trans (hb4.mono (by omega))
      have hz4 : B + 4 ≤ w4.heap.size := Nat.le_trans hz hb4.size
      clear hb4 bw hc k0 k1 k3 p0 p3 hz hW5 W5
      obtain ⟨S, hS⟩ : ∃ S, w4.heap.size = S := ⟨_, rfl⟩
      rw [hS] at hz4
      have HS := Lib.hid hS; clear hS
      go_wp2_with (refine wpList_store_mid rfl _ _ _ rfl w4.heap.size 0 (l8 iv).toArray rfl rfl ((Free.new rfl).there (by simp [l8])) rfl (all_oneCell_toArray (oneCell8 iv)) ?_)
      try simp only [List.toList_toArray]
      generalize hw5 : World.setCells _ _ _ _ = w5
      have hst := fun h => stored_new (h := h) hw5
      obtain ⟨b5, j5, z5, y5⟩ := hst rfl
      clear hst
      rw [HS.out] at b5 j5 z5
      rw [HS.out]
      have i5 := Cells.of_range8 j5; clear j5
      have m5 := m4.below b5 (by omega)
      have k5 := k4.below b5 (by omega)
      have l5 := l4.below b5 (by omega)
      have v5 := v4.below b5 (by omega)
      have p5 := p4.below b5 (by omega)
      have r5 := r4.below b5 (by omega)
      have bw5 := bw4.trans (b5.mono (by omega))
      clear y5 hw5 m4 k4 l4 v4 p4 r4 bw4 b5 HS w4
      have Z5 := Lib.hid z5; clear z5
      go_still_tail 2, (by kernel_rfl)
      go_wp2_with (refine wpList_copy_mid rfl (.tmp 61) (.tmp 62) 208 208 rfl 22 Tryz.underlying208 (by kernel_rfl) (B + 3) 0 8 16 B 0 8 8 rfl rfl (l8 f) rfl (Cells.range8 k5) (Free.there (n := 16) v5 (by simp [l8])) (oneCell8 f) ?_; intro g63 w6 hw6)
      obtain ⟨sv6, a6, v6, ra6, z6, h6⟩ := copied_mid v5 (by simp [l8]) hw6
      have r6 := ra6 r5
      have Z6 := Lib.hid (z6.trans Z5.out)
      have m6 := m5.save sv6 (by omega)
      have i6 := i5.save sv6 (by omega)
      have k6 := k5.save sv6 (by omega)
      have l6 := l5.save sv6 (by omega)
      have p6 := p5.save sv6 (by omega) (by rw [Z5.out]; omega)
      have bw6 := bw5.trans (sv6.below (n := B) (by omega) (by rw [Z5.out]; omega))
      clear hw6 ra6 h6 m5 i5 k5 l5 p5 v5 r5 bw5 sv6 z6 Z5
      go_still_tail 2, (by kernel_rfl)
      obtain ⟨x4, hx4⟩ : ∃ x4, Hid (iv 4 = x4) := ⟨_, rfl⟩
      obtain ⟨x5, hx5⟩ : ∃ x5, Hid (iv 5 = x5) := ⟨_, rfl⟩
      obtain ⟨x6, hx6⟩ : ∃ x6, Hid (iv 6 = x6) := ⟨_, rfl⟩
      go_upto_if 80 with (refine wpList_copy_mid rfl (.tmp 64) (.tmp 65) 208 208 rfl 22 Tryz.underlying208 (by kernel_rfl) (B + 3) 8 8 8 S 0 8 8 rfl rfl (l8 iv) rfl (Cells.range8 i6) (Free.there (n := 16) v6 (by simp [l8])) (oneCell8 iv) ?_; intro g66 w7 hw7; obtain ⟨sv7, e7, y7, r7, z7, h7⟩ := copied_mid v6 (by simp [l8]) hw7; have v7 := Cells.of_two (h7 0 _ (.inl (by simp [l8])) a6) e7; have c12 : w7.cell? ⟨B + 3, 12, none⟩ = some (.int .u32 (wd x4)) := (by rw [← hx4.out]; exact v7 12 (by omega)); have c13 : w7.cell? ⟨B + 3, 13, none⟩ = some (.int .u32 (wd x5)) := (by rw [← hx5.out]; exact v7 13 (by omega)); have c14 : w7.cell? ⟨B + 3, 14, none⟩ = some (.int .u32 (wd x6)) := (by rw [← hx6.out]; exact v7 14 (by omega)); have f7 := r7 r6; have f12 := f7 12; have f13 := f7 13; have f14 := f7 14; have V7 := Lib.hid v7; have F7 := Lib.hid f7; have Z7 := Lib.hid (z7.trans Z6.out); clear a6 v7 f7 z7 h7 e7 y7 r7 hw7; have X := u32_xor; have O1 := u32_of n; have O2 := u32_hi n hn)
      have s9 : Save (B + 3) w6 ((w7.setCell ⟨B + 3, 12, none⟩ (.int .u32 (wd (x4 ^^^ UInt32.ofNat n)))).setCell ⟨B + 3, 13, none⟩ (.int .u32 (wd (x5 ^^^ UInt32.ofNat (n / 4294967296))))) := (sv7.trans (Save.setCell _ ⟨B + 3, 12, none⟩ _)).trans (Save.setCell _ ⟨B + 3, 13, none⟩ _)
      have v9 := Lib.hid ((V7.out.set (i := 12) (by omega) (x4 ^^^ UInt32.ofNat n)).set (i := 13) (by omega) (x5 ^^^ UInt32.ofNat (n / 4294967296)))
      have q9 := Lib.hid ((F7.out.set ⟨B + 3, 12, none⟩ (.int .u32 (wd (x4 ^^^ UInt32.ofNat n)))).set ⟨B + 3, 13, none⟩ (.int .u32 (wd (x5 ^^^ UInt32.ofNat (n / 4294967296)))))
      clear sv7 c12 c13 V7 F7 f12 f13 O1 O2 X v6 r6
      have XN := u32_not
      go_cut [] from 80 (fun wc => Save (B + 3) w6 wc ∧ Cells wc (B + 3) 16 (start f n last) ∧ Soft wc (B + 3) ∧ Hid (wc.heap.size = S + 1))
      case first =>
        cases last
        · go_wp2_with fail
          go_meet
          case rel =>
            refine ⟨s9, v9.out.congr ?_, q9.out, by rw [Hid]; simpa using Z7.out⟩
            intro i hi
            exact start_of hx4.out hx5.out (x6 := iv 6) rfl n i hi
        · go_wp2_with fail
          go_meet
          case rel =>
            refine ⟨s9.trans (Save.setCell _ ⟨B + 3, 14, none⟩ _), (v9.out.set (i := 14) (by omega) (~~~ x6)).congr ?_, q9.out.set _ _, by rw [Hid]; simpa using Z7.out⟩
            intro i hi
            exact start_of_last hx4.out hx5.out hx6.out n i hi
      case rest =>
        obtain ⟨sc, vc, qc, zc⟩ := hcut
        have mc := m6.save sc (by omega)
        have kc := k6.save sc (by omega)
        have lc := l6.save sc (by omega)
        have pc := p6.save sc (by omega) (by rw [Z6.out]; omega)
        have bwc := bw6.trans (sc.below (n := B) (by omega) (by rw [Z6.out]; omega))
        clear s9 v9 q9 m6 i6 k6 l6 p6 bw6 sc Z7 hx4 hx5 hx6 XN Z6 w6
        go_wp2_with fail
        refine (permutations10 _).mono ?_
        rintro e wp ⟨rfl, hb⟩
        have sz := zc.out
        have mp := mc.below hb (by omega)
        have kp := kc.below hb (by omega)
        have lp := lc.below hb (by omega)
        have pp := pc.below hb (by omega)
        have vp := vc.below hb (by omega)
        have qp := qc.below hb (by omega)
        have bwp := bwc.trans (hb.mono (by omega))
        have zp : S + 1 ≤ wp.heap.size := by have := hb.size; omega
        clear mc kc lc pc vc qc bwc hb zc sz wc
        go_wp2_with fail
        go_loopw [86] (fun i wr => ∃ r : Nat, r ≤ 10 ∧ i = .int .i64 r ∧ Cells wr (B + 3) 16 (rounds (mword s.data.toList) r (start f n last)) ∧ Soft wr (B + 3) ∧ Save (B + 3) wp wr) (fun i _ => 10 - (intOf i).toNat)
        case atStart => exact ⟨0, by omega, rfl, vp, qp, Save.refl _ _⟩
        case round =>
          obtain ⟨r, hr, rfl, vr, qr, sr⟩ := hrel
          obtain ⟨wo, hwo⟩ : ∃ wo : World, wo = wr := ⟨_, rfl⟩
          subst hwo
          by_cases hlt : r < 10
          · have hpi := perm_index r hlt
            go_wp2_with fail
            refine (quads32 _).mono ?_
            rintro e w1 ⟨rfl, hb⟩
            have m1 := (mp.save sr (by omega)).below hb (by have := sr.size; omega)
            have v1 := vr.below hb (by have := sr.size; omega)
            have q1 := qr.below hb (by have := sr.size; omega)
            have s1 := sr.trans (below_save hb (B + 3) (Nat.le_refl _))
            have z1 : S + 1 ≤ w1.heap.size := Nat.le_trans zp s1.size
            clear hb vr qr sr hpi wo
            go_wp2_with fail
            go_loopw [90] (fun i wr => ∃ k : Nat, k ≤ 8 ∧ i = .int .i64 k ∧ Cells wr (B + 3) 16 (mixes (mword s.data.toList) r k (rounds (mword s.data.toList) r (start f n last))) ∧ Soft wr (B + 3) ∧ Save (B + 3) w1 wr) (fun i _ => 8 - (intOf i).toNat)
            case atStart => exact ⟨0, by omega, rfl, v1, q1, Save.refl _ _⟩
            case round =>
              obtain ⟨k, hk, rfl, vk, qk, sk⟩ := hrel
              obtain ⟨wi, hwi⟩ : ∃ wi : World, wi = wr := ⟨_, rfl⟩
              subst hwi
              by_cases hlk : k < 8
              · have hqi := quad_index k hlk
                have mk := m1.save sk (by omega)
                have zk : S + 1 ≤ wi.heap.size := Nat.le_trans z1 sk.size
                obtain ⟨T, hT⟩ : ∃ T, wi.heap.size = T := ⟨_, rfl⟩
                rw [hT] at zk
                have HT := Lib.hid hT; clear hT
                go_wp2_with (refine wpList_store_mid rfl _ _ _ rfl wi.heap.size 0 (lq k).toArray rfl rfl ((Free.new rfl).there (by simp [lq])) rfl (all_oneCell_toArray (oneCellq k)) ?_)
                try simp only [List.toList_toArray]
                generalize hwt : World.setCells _ _ _ _ = wt
                have hst := fun h => stored_new (h := h) hwt
                obtain ⟨bt, it, zt, _⟩ := hst rfl
                clear hst
                rw [HT.out] at bt it zt
                rw [HT.out]
                have IT := Lib.hid it; clear it
                have mt := mk.below bt (by omega)
                have vt := vk.below bt (by omega)
                have qt := qk.below bt (by omega)
                have st := sk.trans (below_save bt (B + 3) (by rw [HT.out]; exact Nat.le_refl _))
                clear hwt mk vk qk bt
                have g0 : (0 : Int) ≤ 60 - 8 * (k : Int) := by omega
                have g1 : (0 : Int) ≤ 56 - 8 * (k : Int) := by omega
                have w0 : IntKind.i64.wrap (8 * (k : Int)) = 8 * k := IntWalk.i64_in _ (by omega)
                have w1 : IntKind.i64.wrap (60 - 8 * (k : Int)) = 60 - 8 * k := IntWalk.i64_in _ (by omega)
                have w2 : IntKind.i64.wrap (56 - 8 * (k : Int)) = 56 - 8 * k := IntWalk.i64_in _ (by omega)
                go_quiet (fail)
                clear g0 g1 w0 w1 w2
                obtain ⟨X, hX⟩ : ∃ X, (order r).getD (2 * k) 0 = X := ⟨_, rfl⟩
                obtain ⟨Y, hY⟩ : ∃ Y, (order r).getD (2 * k + 1) 0 = Y := ⟨_, rfl⟩
                have dx := perm_hi r hlt k hlk
                have dy := perm_lo r hlt k hlk
                rw [hX] at dx
                rw [hY] at dy
                have lx : X < 16 := hX ▸ order_lt r _
                have ly : Y < 16 := hY ▸ order_lt r _
                have HX := Lib.hid hX; clear hX
                have HY := Lib.hid hY; clear hY
                have cx := mt X lx
                have cy := mt Y ly
                have x0 : (0 : Int) ≤ (X : Int) := by omega
                have y0 : (0 : Int) ≤ (Y : Int) := by omega
                have x1 : (X : Int) < 16 := by omega
                have y1 : (Y : Int) < 16 := by omega
                simp only [dx, dy]
                clear dx dy
                have sq : Save (B + 3) w1 (wt.drewN nq) := st.trans (Save.drewN _ _ _)
                have vq : Cells (wt.drewN nq) (B + 3) 16 _ := vt
                have qq : Soft (wt.drewN nq) (B + 3) := qt
                have iq : (wt.drewN nq).rangeAt T 0 (lq k) := IT.out
                have cxq : (wt.drewN nq).cell? ⟨B + 2, X, none⟩ = _ := cx
                have cyq : (wt.drewN nq).cell? ⟨B + 2, Y, none⟩ = _ := cy
                clear st vt qt IT cx cy mt
                generalize wt.drewN nq = wq at sq vq qq iq cxq cyq ⊢
                clear zt HT
                go_wp2_with fail
                go_still_tail 7, (by kernel_rfl)
                refine wpStill_load_mid rfl _ _ rfl T 0 rfl (lq k) _ iq Tryz.underlying194 rfl rfl ?_
                simp only [Act.put, List.setIfInBounds_toArray, List.set_cons_zero, List.set_cons_succ]
                repeat still_step
                try refine wpStill_nil ?_
                go_wp2_with fail
                refine (mix_cells (B + 3) _ k _ _ wq.drew vq qq).mono ?_
                rintro e w2 ⟨rfl, s2, q2, v2⟩
                have s12 := sq.trans ((Save.drew _ wq).trans s2)
                clear s2 vq qq iq cxq cyq sq
                go_wp2_with fail
                go_roundw
                case rel => exact ⟨k + 1, by omega, by go_num, by rw [mixes, mix1, HX.out, HY.out]; exact v2, q2, s12⟩
                case measure => simp [intOf]; omega
              · obtain rfl : k = 8 := by omega
                go_wp2_with fail
                go_roundw
                case rel => exact ⟨r + 1, by omega, by go_num, vk, qk, s1.trans sk⟩
                case measure => simp [intOf]; omega
          · obtain rfl : r = 10 := by omega
            have mf := mp.save sr (by omega)
            have kf := kp.save sr (by omega)
            have lf := lp.save sr (by omega)
            have pf := pp.save sr (by omega) (by omega)
            have bwf := bwp.trans (sr.below (n := B) (by omega) (by omega))
            have zf : S + 1 ≤ wo.heap.size := Nat.le_trans zp sr.size
            clear mp kp lp pp bwp sr hr hlt vp qp zp
            obtain ⟨V, hV⟩ : ∃ V, rounds (mword s.data.toList) 10 (start f n last) = V := ⟨_, rfl⟩
            rw [hV] at vr
            have HV := Lib.hid hV; clear hV
            obtain ⟨wg, hwg⟩ : ∃ wg : World, wg = wo := ⟨_, rfl⟩
            subst hwg
            go_wp2_with fail
            go_loopg [116] 8 (fun kk i wr => ∃ k : Nat, kk + k = 8 ∧ i = .int .i64 k ∧ Cells wr B 8 (fun j => if j < k then f j ^^^ (V j ^^^ V (j + 8)) else f j) ∧ Soft wr B ∧ Save B wg wr)
            case atStart => exact ⟨0, rfl, rfl, kf, pf, Save.refl _ _⟩
            case round =>
              obtain ⟨k, hk, rfl, vk, qk, sk⟩ := hrel
              have hk' : k ≤ 8 := by omega
              by_cases hlk : k < 8
              · have ck := vk k hlk
                simp only [Nat.lt_irrefl, if_false] at ck
                have vv := vr.save sk (by omega)
                have cv := vv k (by omega)
                have cw := vv (k + 8) (by omega)
                have X := u32_xor
                have w0 : IntKind.i64.wrap ((k : Int) + 8) = k + 8 := IntWalk.i64_in _ (by omega)
                have x0 : (0 : Int) ≤ (k : Int) + 8 := by omega
                have x1 : (k : Int) + 8 < 16 := by omega
                have x2 : ((k : Int) + 8).toNat = k + 8 := by omega
                have x3 : (k : Int) < 16 := by omega
                have x4 : (k : Int) < 8 := by omega
                have fq := qk k
                go_wp2_with fail
                go_still_tail 12, (by kernel_rfl)
                go_wp2_with fail
                go_roundg (gk - 1)
                case measure => omega
                case rel =>
                  refine ⟨k + 1, by omega, by go_num, ((vk.set hlk _).drew).congr fun j hj => ?_, (qk.set _ _).drew, sk.trans (Save.store _ _ _ _)⟩
                  by_cases e : j = k
                  · subst e; simp
                  · rw [if_neg e]
                    by_cases e2 : j < k
                    · rw [if_pos e2, if_pos (by omega)]
                    · rw [if_neg e2, if_neg (by omega)]
              · obtain rfl : k = 8 := by omega
                have lk := lf.save sk (by omega)
                have bk := bwf.trans (sk.below (n := B) (Nat.le_refl _) (by omega))
                obtain ⟨G, hG⟩ : ∃ G, compress f s.data.toList n last = G := ⟨_, rfl⟩
                have rk := Lib.hid (vk.congr (g := G) (fun i hi => by
                  simp only [if_pos hi]
                  rw [← hG]
                  unfold compress
                  rw [HV.out, UInt32.xor_assoc])).range8
                have HG := Lib.hid hG; clear hG
                clear vk qk sk lf kf pf bwf vr mf
                go_upto_region 31 with (fail)
                refine wp_region_lit ?_
                refine wpList_load_mid rfl _ _ rfl B 0 rfl (l8 G) _ rk.out Tryz.underlying143 rfl rfl ?_
                simp only [Act.put, List.setIfInBounds_toArray, List.set_cons_zero, List.set_cons_succ]
                refine wpList_store_mid rfl _ _ _ rfl (B + 1) 0 (l8 G).toArray rfl rfl (lk.there (by simp [l8])) rfl (all_oneCell_toArray (oneCell8 _)) ?_
                simp only [Act.put]
                have hr := World.rangeAt_setCells_same wr (B + 1) 0 (l8 G) (lk.there (by simp [l8]))
                have hbk := bk.trans ((Save.setCells (B + 1) (l8 G) 0 wr).below (n := B) (by omega) (by have := HB.out; have := bk.size; omega))
                generalize hwz : World.setCells _ _ _ _ = wz at hr hbk ⊢
                go_wp2_with fail
                try simp only [Exit.inBlock, Exit.then]
                refine bodyPost_ret (results_cell_tmp_mid rfl _ _ (B + 1) 0 rfl (l8 G) _ hr Tryz.underlying143 rfl rfl) rfl ⟨by rw [HG.out]; rfl, ?_⟩
                rw [HB.out]
                exact hbk
end Go.Proofs.YtpkapcijgldhhaaGreatDoor
