/-
  steleref04.Compress: the walk.
-/
import Derived.Test.YtpkapcijgldhhaaGreatDoorCf03
import Derived.Test.YtpkapcijgldhhaaGreatDoorCf19
import Derived.Test.YtpkapcijgldhhaaGreatDoorCf05
import Derived.Test.YtpkapcijgldhhaaGreatDoorCe15
import Derived.Deep.QuietTactic
import Derived.BigQuiet
import Derived.StillTailTactics
import Derived.Handy
import Derived.Deep.MidRow
import Derived.KernelRfl
import Derived.Deep.Cut
import Derived.Deep.LoopGhost
import Derived.Deep.CutBlock
namespace Go.Proofs.YtpkapcijgldhhaaGreatDoor
open Go.RowKit
theorem startR_of {f : Nat → UInt32} {x4 x5 : UInt32} (h4 : iv 4 = x4) (h5 : iv 5 = x5) (n i : Nat) (hi : i < 16) :
    (if i = 13 then x5 ^^^ UInt32.ofNat (n / 4294967296) else if i = 12 then x4 ^^^ UInt32.ofNat n else if i < 8 then f i else iv (i - 8)) = start f n false i := by
  subst h4 h5
  unfold start
  rcases i with _|_|_|_|_|_|_|_|_|_|_|_|_|_|_|_|i <;> first | rfl | omega
theorem startR_of_last {f : Nat → UInt32} {x4 x5 x6 : UInt32} (h4 : iv 4 = x4) (h5 : iv 5 = x5) (h6 : iv 6 = x6) (n i : Nat) (hi : i < 16) :
    (if i = 14 then ~~~ x6 else if i = 13 then x5 ^^^ UInt32.ofNat (n / 4294967296) else if i = 12 then x4 ^^^ UInt32.ofNat n else if i < 8 then f i else iv (i - 8)) = start f n true i := by
  subst h4 h5 h6
  unfold start
  rcases i with _|_|_|_|_|_|_|_|_|_|_|_|_|_|_|_|i <;> first | rfl | omega
set_option maxHeartbeats 4000000 in
set_option maxRecDepth 100000 in
theorem compressR_any (f : Nat → UInt32) (s : ByteArray) (n : Nat) (last : Bool) (w : World) (hs : Hid (s.size = 64)) (hn : n < 4611686018427387904) :
    Calls Tryz.prog 84 #[.agg (l8 f).toArray, .string s, .int .u64 n, .bool last] w fun e w' => e = .returned (.tuple #[.agg (l8 (compress f s.data.toList n last)).toArray, .int .i64 0]) ∧ Below w.heap.size w w' := by
  have hlen : ((s.size : Int) != 64) = false := by rw [hs.out]; rfl
  go_enter Tryz.func84, Tryz.ntmps84
  go_upto_block 0 with (fail)
  obtain ⟨B, hB⟩ : ∃ B, w.heap.size = B := ⟨_, rfl⟩
  generalize hW1 : World.alloc (World.alloc w _) _ = W1
  generalize hW2 : World.alloc W1 _ = W2
  have s1 : W1.heap.size = B + 2 := by rw [← hW1, ← hB]; simp
  have s2 : W2.heap.size = B + 3 := by rw [← hW2]; simp [s1]
  have b1 : Below B w W1 := by rw [← hW1, ← hB]; exact ((Below.refl _ w).alloc (Nat.le_refl _) _).alloc (by simp) _
  have b2 : Below (B + 2) W1 W2 := by rw [← hW2, ← s1]; exact (Below.refl _ W1).alloc (Nat.le_refl _) _
  have c0 : Cells W2 B 8 f := by
    have : Cells W1 B 8 f := by rw [← hW1, ← hB]; exact (Cells.new8 (w := w)).below ((Below.refl _ _).alloc (Nat.le_refl _) _) (by simp)
    exact this.below b2 (by omega)
  have q0 : Soft W2 B := by
    have : Soft W1 B := by rw [← hW1, ← hB]; exact (Soft.new (w := w)).below ((Below.refl _ _).alloc (Nat.le_refl _) _) (by simp)
    exact this.below b2 (by omega)
  have t1 : Free W2 (B + 1) 8 := by
    have : Free W1 (B + 1) 8 := by
      rw [← hW1, ← hB, show w.heap.size + 1 = (w.alloc (.cells (l8 f).toArray 143)).heap.size from by simp]
      exact Free.new rfl
    exact this.below b2 (by omega)
  have c2 : Cells W2 (B + 2) 16 (fun _ => 0) := by rw [← hW2, ← s1]; exact Cells.new0
  have q2 : Soft W2 (B + 2) := by rw [← hW2, ← s1]; exact Soft.new
  have b02 : Below B w W2 := b1.trans (b2.mono (by omega))
  clear b1 b2 s1 hW1 hW2
  rw [hB]
  have HB := Lib.hid hB; clear hB
  have S2 := Lib.hid s2; clear s2
  go_cut [] from 24 (fun wc => Cells wc (B + 2) 16 (mword s.data.toList) ∧ Save (B + 2) W2 wc)
  case first =>
    go_wp2_with fail
    go_loopg [11] 64 (fun kk i wr => ∃ k : Nat, kk + k = 64 ∧ i = .int .i64 k ∧ Cells wr (B + 2) 16 (mpart s.data.toList k) ∧ Soft wr (B + 2) ∧ Save (B + 2) W2 wr)
    case atStart => exact ⟨0, rfl, rfl, c2.congr (fun i _ => (mpart_zero _ _).symm), q2, Save.refl _ _⟩
    case round =>
      obtain ⟨k, hk, rfl, vk, qk, sk⟩ := hrel
      by_cases hlt : k < 64
      · obtain ⟨q, t, hkq, ht⟩ : ∃ q t, k = 4 * q + t ∧ t < 4 := ⟨k / 4, k % 4, by omega, by omega⟩
        have hq : q < 16 := by omega
        have ck := vk q hq
        have fk := qk q
        have e0 : k < s.size := by rw [hs.out]; omega
        have d0 : (k : Int).tdiv 4 = q := by rw [Int.tdiv_eq_ediv_of_nonneg (by omega)]; omega
        have d1 : (k : Int) / 4 = q := by omega
        have d2 : IntKind.i64.wrap (q : Int) = q := IntWalk.i64_in _ (by omega)
        have d3 : (q : Int) < 16 := by omega
        have d4 : (0 : Int) ≤ (q : Int) := by omega
        have m0 : (k : Int).tmod 4 = t := by rw [Int.tmod_eq_emod_of_nonneg (by omega)]; omega
        have m1 : (k : Int) % 4 = t := by omega
        have rc := u32_byte
        have r0 := wd_mod
        have r8 := u32_shl8
        have r16 := u32_shl16
        have r24 := u32_shl24
        have ror := u32_or
        have hg := Lib.hid (getD_list s k e0)
        have HK := Lib.hid hkq; clear hkq
        have hgk : 64 - (k + 1) < gk := by omega
        have HGK := Lib.hid hk
        clear hk
        have hoth := fun (x : UInt32) (hx : mpart s.data.toList (k + 1) q = x) => (vk.set hq x).congr (g := mpart s.data.toList (k + 1)) (fun j hj => by
          by_cases e : j = q
          · subst e; rw [if_pos rfl]; exact hx.symm
          · rw [if_neg e]; exact (mpart_other _ _ _ (by have := HK.out; omega)).symm)
        have HO := Lib.hid hoth; clear hoth
        rcases t with _|_|_|_|t
        all_goals first | (exfalso; omega; done) | skip
        all_goals
          go_wp2_with fail
          go_still_tail 16, (by kernel_rfl)
          go_wp2_with fail
          go_roundg (64 - (k + 1))
        all_goals first
          | exact hgk
          | exact ⟨k + 1, by have := HGK.out; omega, by go_num, HO.out _ ((mpart_t0 HK.out).trans (by rw [hg.out])), (qk.set _ _).drew, sk.trans (Save.store _ _ _ _)⟩
          | exact ⟨k + 1, by have := HGK.out; omega, by go_num, HO.out _ ((mpart_t1 HK.out).trans (by rw [hg.out])), (qk.set _ _).drew, sk.trans (Save.store _ _ _ _)⟩
          | exact ⟨k + 1, by have := HGK.out; omega, by go_num, HO.out _ ((mpart_t2 HK.out).trans (by rw [hg.out])), (qk.set _ _).drew, sk.trans (Save.store _ _ _ _)⟩
          | exact ⟨k + 1, by have := HGK.out; omega, by go_num, HO.out _ ((mpart_t3 HK.out).trans (by rw [hg.out])), (qk.set _ _).drew, sk.trans (Save.store _ _ _ _)⟩
      · obtain rfl : k = 64 := by omega
        go_wp2_with fail
        go_meet
        case rel => exact ⟨vk.congr (fun i hi => mpart_full _ _ hi), sk⟩
  case rest =>
    obtain ⟨m2, sv2⟩ := hcut
    have hz : B + 3 ≤ wc.heap.size := by have := sv2.size; have := S2.out; omega
    have k2 := c0.save sv2 (by omega)
    have l2 := t1.save sv2 (by omega)
    have p2 := q0.save sv2 (by omega) (by have := S2.out; omega)
    have bw := b02.trans (sv2.below (n := B) (by omega) (by have := S2.out; omega))
    clear sv2 c0 t1 c2 q0 q2 b02 S2
    go_wp2_with fail
    refine (initialR8 _).mono ?_
    rintro e w4 ⟨rfl, hb4⟩
    have m4 := m2.below hb4 (by omega)
    have k4 := k2.below hb4 (by omega)
    have l4 := l2.below hb4 (by omega)
    have p4 := p2.below hb4 (by omega)
    have bw4 := bw.trans (hb4.mono (by omega))
    have hz4 : B + 3 ≤ w4.heap.size := Nat.le_trans hz hb4.size
    clear hb4 bw m2 k2 l2 p2 hz wc
    obtain ⟨S, hS⟩ : ∃ S, w4.heap.size = S := ⟨_, rfl⟩
    rw [hS] at hz4
    have HS := Lib.hid hS; clear hS
    go_upto_region 9 with (refine wpList_store_mid rfl _ _ _ rfl w4.heap.size 0 (l8 iv).toArray rfl rfl ((Free.new rfl).there (by simp [l8])) rfl (all_oneCell_toArray (oneCell8 iv)) ?_)
    try simp only [List.toList_toArray]
    generalize hw5 : World.setCells _ _ _ _ = w5
    have hst := fun h => stored_new (h := h) hw5
    obtain ⟨b5, j5, z5, y5⟩ := hst rfl
    clear hst
    rw [HS.out] at b5 j5 z5
    rw [HS.out]
    have i5 := Cells.of_range8 j5; clear j5
    have m5 := m4.below b5 (by omega)
    have k5 := k4.below b5 (by omega)
    have l5 := l4.below b5 (by omega)
    have p5 := p4.below b5 (by omega)
    have bw5 := bw4.trans (b5.mono (by omega))
    clear y5 hw5 m4 k4 l4 p4 bw4 b5 HS w4
    have Z5 := Lib.hid z5; clear z5
    go_upto_block 2 with (fail)
    generalize hW6 : World.alloc _ _ = W6
    have z6 : W6.heap.size = S + 2 := by rw [← hW6]; have := Z5.out; simp [this]
    have b6 : Below (S + 1) w5 W6 := by rw [← hW6, ← Z5.out]; exact (Below.refl _ w5).alloc (Nat.le_refl _) _
    have f6 : Free W6 (S + 1) 16 := by rw [← hW6, ← Z5.out]; exact Free.new rfl
    have q6 : Soft W6 (S + 1) := by rw [← hW6, ← Z5.out]; exact Soft.new
    have m6 := m5.below b6 (by omega)
    have i6 := i5.below b6 (by omega)
    have k6 := k5.below b6 (by omega)
    have l6 := l5.below b6 (by omega)
    have p6 := p5.below b6 (by omega)
    have bw6 := bw5.trans (b6.mono (by omega))
    rw [Z5.out]
    have Z6 := Lib.hid z6
    clear hW6 m5 i5 k5 l5 p5 bw5 b6 z6 Z5 w5
    go_cut [] from 46 (fun wc => Cells wc (S + 1) 16 (fun i => if i < 8 then f i else iv (i - 8)) ∧ Soft wc (S + 1) ∧ Save (S + 1) W6 wc)
    case first =>
      go_wp2_with fail
      go_loopg [14] 8 (fun kk i wr => ∃ k : Nat, kk + k = 8 ∧ i = .int .i64 k ∧ Two wr (S + 1) k f iv ∧ Free wr (S + 1) 16 ∧ Soft wr (S + 1) ∧ Save (S + 1) W6 wr)
      case atStart => exact ⟨0, rfl, rfl, fun j hj => by omega, f6, q6, Save.refl _ _⟩
      case round =>
        obtain ⟨k, hk, rfl, vk, fk, qk, sk⟩ := hrel
        by_cases hlt : k < 8
        · have hgk : 8 - (k + 1) < gk := by omega
          have HGK := Lib.hid hk; clear hk
          have hk2 := (k6.save sk (by omega)) k hlt
          have hi2 := (i6.save sk (by omega)) k hlt
          have c1 := qk k
          have c2 := qk (k + 8)
          obtain ⟨⟨y1, g1⟩, _⟩ := fk k (by omega)
          obtain ⟨⟨y2, g2⟩, _⟩ := fk (k + 8) (by omega)
          have x1 : (k : Int) < 8 := by omega
          have x2 : (k : Int) < 16 := by omega
          have x3 : (k : Int) + 8 < 16 := by omega
          have x4 : (0 : Int) ≤ (k : Int) + 8 := by omega
          have x5 : ((k : Int) + 8).toNat = k + 8 := by omega
          have x6 : k ≠ k + 8 := by omega
          have x7 : k + 8 ≠ k := by omega
          have x8 : S ≠ S + 1 := by omega
          have x9 : B ≠ S + 1 := by omega
          go_wp2_with fail
          go_roundg (8 - (k + 1))
          case measure => exact hgk
          case rel => exact ⟨k + 1, by have := HGK.out; omega, by go_num, vk.next fk hlt (by omega), (fk.set _ _).set _ _, (qk.set _ _).set _ _, (sk.trans (Save.setCell _ ⟨S + 1, k, none⟩ _)).trans (Save.setCell _ ⟨S + 1, k + 8, none⟩ _)⟩
        · obtain rfl : k = 8 := by omega
          go_wp2_with fail
          go_meet
          case rel => exact ⟨vk.cells, qk, sk⟩
    case rest =>
      obtain ⟨v7, q7, s7⟩ := hcut
      have m7 := m6.save s7 (by omega)
      have k7 := k6.save s7 (by omega)
      have l7 := l6.save s7 (by omega)
      have p7 := p6.save s7 (by omega) (by have := Z6.out; omega)
      have z7 : S + 2 ≤ wc.heap.size := by have := s7.size; have := Z6.out; omega
      have bw7 := bw6.trans (s7.below (n := B) (by omega) (by have := Z6.out; omega))
      obtain ⟨w7, hw7⟩ : ∃ w7 : World, w7 = wc := ⟨_, rfl⟩
      subst hw7
      clear s7 m6 i6 k6 l6 p6 bw6 Z6 f6 q6 W6
      obtain ⟨x4, hx4⟩ : ∃ x4, Hid (iv 4 = x4) := ⟨_, rfl⟩
      obtain ⟨x5, hx5⟩ : ∃ x5, Hid (iv 5 = x5) := ⟨_, rfl⟩
      obtain ⟨x6, hx6⟩ : ∃ x6, Hid (iv 6 = x6) := ⟨_, rfl⟩
      have c12 : w7.cell? ⟨S + 1, 12, none⟩ = some (.int .u32 (wd x4)) := (by rw [← hx4.out]; exact v7 12 (by omega))
      have c13 : w7.cell? ⟨S + 1, 13, none⟩ = some (.int .u32 (wd x5)) := (by rw [← hx5.out]; exact v7 13 (by omega))
      have c14 : w7.cell? ⟨S + 1, 14, none⟩ = some (.int .u32 (wd x6)) := (by rw [← hx6.out]; exact v7 14 (by omega))
      have f12 := q7 12
      have f13 := q7 13
      have f14 := q7 14
      have X := u32_xor
      have O1 := u32_of n
      have O2 := u32_hi n hn
      go_upto_if 74 with (fail)
      have s9 : Save (S + 1) w7 ((w7.setCell ⟨S + 1, 12, none⟩ (.int .u32 (wd (x4 ^^^ UInt32.ofNat n)))).setCell ⟨S + 1, 13, none⟩ (.int .u32 (wd (x5 ^^^ UInt32.ofNat (n / 4294967296))))) := (Save.setCell _ ⟨S + 1, 12, none⟩ _).trans (Save.setCell _ ⟨S + 1, 13, none⟩ _)
      have v9 := Lib.hid ((v7.set (i := 12) (by omega) (x4 ^^^ UInt32.ofNat n)).set (i := 13) (by omega) (x5 ^^^ UInt32.ofNat (n / 4294967296)))
      have q9 := Lib.hid ((q7.set ⟨S + 1, 12, none⟩ (.int .u32 (wd (x4 ^^^ UInt32.ofNat n)))).set ⟨S + 1, 13, none⟩ (.int .u32 (wd (x5 ^^^ UInt32.ofNat (n / 4294967296)))))
      clear c12 c13 v7 q7 f12 f13 O1 O2 X
      have XN := u32_not
      go_cut [] from 75 (fun wc => Save (S + 1) w7 wc ∧ Cells wc (S + 1) 16 (start f n last) ∧ Soft wc (S + 1))
      case first =>
        cases last
        · go_wp2_with fail
          go_meet
          case rel =>
            refine ⟨s9, v9.out.congr ?_, q9.out⟩
            intro i hi
            exact startR_of hx4.out hx5.out n i hi
        · go_wp2_with fail
          go_meet
          case rel =>
            refine ⟨s9.trans (Save.setCell _ ⟨S + 1, 14, none⟩ _), (v9.out.set (i := 14) (by omega) (~~~ x6)).congr ?_, q9.out.set _ _⟩
            intro i hi
            exact startR_of_last hx4.out hx5.out hx6.out n i hi
      case rest =>
        obtain ⟨s8, v8, q8⟩ := hcut
        have m8 := m7.save s8 (by omega)
        have k8 := k7.save s8 (by omega)
        have l8' := l7.save s8 (by omega)
        have p8 := p7.save s8 (by omega) (by omega)
        have bw8 := bw7.trans (s8.below (n := B) (by omega) (by omega))
        have z8 : S + 2 ≤ wc.heap.size := Nat.le_trans z7 s8.size
        obtain ⟨w8, hw8⟩ : ∃ w8 : World, w8 = wc := ⟨_, rfl⟩
        subst hw8
        clear s8 m7 k7 l7 p7 bw7 z7 s9 v9 q9 hx4 hx5 hx6 XN c14 f14 w7
        go_upto_block 4 with (fail)
        go_cut [] from 79 (fun wc => Cells wc (S + 1) 16 (rounds (mword s.data.toList) 10 (start f n last)) ∧ Save (S + 1) w8 wc)
        case first =>
          go_wp2_with fail
          go_loopg [15] 10 (fun kk i wr => ∃ r : Nat, kk + r = 10 ∧ i = .int .i64 r ∧ Cells wr (S + 1) 16 (rounds (mword s.data.toList) r (start f n last)) ∧ Soft wr (S + 1) ∧ Save (S + 1) w8 wr)
          case atStart => exact ⟨0, rfl, rfl, v8, q8, Save.refl _ _⟩
          case round =>
            obtain ⟨r, hr, rfl, vr, qr, sr⟩ := hrel
            obtain ⟨wo, hwo⟩ : ∃ wo : World, wo = wr := ⟨_, rfl⟩
            subst hwo
            by_cases hlt : r < 10
            · have hgk : 10 - (r + 1) < gk := by omega
              obtain ⟨go, hgo⟩ : ∃ go, gk = go := ⟨_, rfl⟩
              rw [hgo] at hr hgk
              have HGO := Lib.hid hgo
              have HR := Lib.hid hr
              clear hr hgo
              obtain ⟨p, hp⟩ : ∃ p, permStr r = p := ⟨_, rfl⟩
              have hps : p.size = 16 := by rw [← hp]; exact permStr_size r
              have hpx : Hid (∀ j, j < 16 → ∀ h : j < p.size, ((p[j]'h).toNat : Int) = hexc ((order r).getD j 0)) := by subst hp; exact fun j hj h => permStr_hex r hlt j hj h
              have hpc := permutation_any r hlt wo
              rw [hp] at hpc
              have HPS := Lib.hid hps; clear hps hp
              go_wp2_with fail
              refine hpc.mono ?_
              rintro e w1 ⟨rfl, rfl⟩
              clear hpc
              go_wp2_with fail
              go_loopg [17] 8 (fun kk i wr => ∃ k : Nat, kk + k = 8 ∧ i = .int .i64 k ∧ Cells wr (S + 1) 16 (mixes (mword s.data.toList) r k (rounds (mword s.data.toList) r (start f n last))) ∧ Soft wr (S + 1) ∧ Save (S + 1) wo wr)
              case atStart => exact ⟨0, rfl, rfl, vr, qr, Save.refl _ _⟩
              case round =>
                obtain ⟨k, hk, rfl, vk, qk, sk⟩ := hrel
                by_cases hlk : k < 8
                · have hgk2 : 8 - (k + 1) < gk := by omega
                  have HK := Lib.hid hk; clear hk
                  have hcol := columns4 k hlk
                  have s08 := sr.trans sk
                  have mk := m8.save s08 (by omega)
                  have zk : S + 2 ≤ wr.heap.size := Nat.le_trans z8 s08.size
                  clear s08
                  go_wp2_with fail
                  refine (hcol _).mono ?_
                  rintro e w1 ⟨rfl, hb⟩
                  have v1 := vk.below hb (by omega)
                  have q1 := qk.below hb (by omega)
                  have m1 := mk.below hb (by omega)
                  have s1 := sk.trans (below_save hb (S + 1) (Nat.le_refl _))
                  have z1 : S + 2 ≤ w1.heap.size := Nat.le_trans zk hb.size
                  clear hb vk qk sk mk zk hcol wr
                  obtain ⟨T, hT⟩ : ∃ T, w1.heap.size = T := ⟨_, rfl⟩
                  rw [hT] at z1
                  have HT := Lib.hid hT; clear hT
                  go_upto_region 27 with (refine wpList_store_mid rfl _ _ _ rfl w1.heap.size 0 (lq k).toArray rfl rfl ((Free.new rfl).there (by simp [lq])) rfl (all_oneCell_toArray (oneCellq k)) ?_)
                  try simp only [List.toList_toArray]
                  generalize hwt : World.setCells _ _ _ _ = wt
                  have hst := fun h => stored_new (h := h) hwt
                  obtain ⟨bt, it, zt, yt⟩ := hst rfl
                  clear hst
                  rw [HT.out] at bt it zt
                  rw [HT.out]
                  have vt := v1.below bt (by omega)
                  have qt := q1.below bt (by omega)
                  have mt := m1.below bt (by omega)
                  have st := s1.trans (below_save bt (S + 1) (by rw [HT.out]; exact Nat.le_refl _))
                  clear hwt yt v1 q1 m1 s1 bt HT w1
                  obtain ⟨X, hX⟩ : ∃ X, (order r).getD (2 * k) 0 = X := ⟨_, rfl⟩
                  obtain ⟨Y, hY⟩ : ∃ Y, (order r).getD (2 * k + 1) 0 = Y := ⟨_, rfl⟩
                  have e0 : 2 * k < p.size := by rw [HPS.out]; omega
                  have e1 : 2 * k + 1 < p.size := by rw [HPS.out]; omega
                  have dx := hpx.out (2 * k) (by omega) e0
                  have dy := hpx.out (2 * k + 1) (by omega) e1
                  rw [hX] at dx
                  rw [hY] at dy
                  have lx : X < 16 := hX ▸ order_lt r _
                  have ly : Y < 16 := hY ▸ order_lt r _
                  have HX := Lib.hid hX; clear hX
                  have HY := Lib.hid hY; clear hY
                  have cx := mt X lx
                  have cy := mt Y ly
                  have x1 : (X : Int) < 16 := by omega
                  have y1 : (Y : Int) < 16 := by omega
                  have it0 : wt.cell? ⟨T, 0, none⟩ = some (.int .i64 (quad k).1) := it 0 _ rfl
                  have it1 : wt.cell? ⟨T, 1, none⟩ = some (.int .i64 (quad k).2.1) := it 1 _ rfl
                  have it2 : wt.cell? ⟨T, 2, none⟩ = some (.int .i64 (quad k).2.2.1) := it 2 _ rfl
                  have it3 : wt.cell? ⟨T, 3, none⟩ = some (.int .i64 (quad k).2.2.2) := it 3 _ rfl
                  have g0 : (0 : Int) ≤ 2 * (k : Int) := by omega
                  have g1 : (0 : Int) ≤ 2 * (k : Int) + 1 := by omega
                  have j0 : 2 * (k : Int) < p.size := by omega
                  have j1 : 2 * (k : Int) + 1 < p.size := by omega
                  have i0 : (2 * (k : Int)).toNat = 2 * k := by omega
                  have i1 : (2 * (k : Int) + 1).toNat = 2 * k + 1 := by omega
                  have u0 : IntKind.i64.wrap (2 * (k : Int)) = 2 * k := IntWalk.i64_in _ (by omega)
                  have u1 : IntKind.i64.wrap (2 * (k : Int) + 1) = 2 * k + 1 := IntWalk.i64_in _ (by omega)
                  obtain ⟨g, hg⟩ : ∃ g, mixes (mword s.data.toList) r k (rounds (mword s.data.toList) r (start f n last)) = g := ⟨_, rfl⟩
                  rw [hg] at vt
                  have HG := Lib.hid hg; clear hg
                  have hD := digit_any X lx
                  have hE := digit_any Y ly
                  clear it
                  refine wp_region_still_tail 24 (by kernel_rfl) (by kernel_rfl) ?_
                  simp only [List.take_succ_cons, List.take_zero, List.drop_succ_cons, List.drop_zero]
                  refine wpStill_load_mid rfl _ _ rfl (S + 1) 0 rfl (l16 g) _ vt.range16 Tryz.underlying193 rfl rfl ?_
                  simp only [Act.put, List.setIfInBounds_toArray, List.set_cons_zero, List.set_cons_succ]
                  repeat still_step
                  still_call ((hD _).mono (by rintro e w1 ⟨rfl, rfl⟩; exact ⟨rfl, rfl⟩))
                  repeat still_step
                  still_call ((hE _).mono (by rintro e w1 ⟨rfl, rfl⟩; exact ⟨rfl, rfl⟩))
                  repeat still_step
                  refine wpStill_nil ?_
                  go_wp2_with fail
                  refine (mixr16 g k _ _ wt.drew).mono ?_
                  rintro e w2 ⟨rfl, hb⟩
                  have vq : Cells wt.drew (S + 1) 16 g := vt
                  have qq : Soft wt.drew (S + 1) := qt
                  have vz := vq.below hb (by show S + 1 < wt.heap.size; omega)
                  have qz := qq.below hb (by show S + 1 < wt.heap.size; omega)
                  have s2 := (st.trans (Save.drew _ wt)).trans (below_save hb (S + 1) (Nat.le_refl _))
                  clear hb vq qq it0 it1 it2 it3 cx cy hD hE mt st vt qt zt
                  obtain ⟨M, hM⟩ : ∃ M, mixed g (quad k).1 (quad k).2.1 (quad k).2.2.1 (quad k).2.2.2 (mword s.data.toList X) (mword s.data.toList Y) = M := ⟨_, rfl⟩
                  rw [hM]
                  have HM := Lib.hid hM; clear hM
                  have hth : w2.there (S + 1) 0 (l16 M).length := (vz.free qz).there (Nat.le_refl 16)
                  have hth2 : w2.there (S + 1) 0 (l16 M).toArray.size := hth
                  have hrange := World.rangeAt_setCells_same w2 (S + 1) 0 (l16 M) hth
                  have hsoft := qz.setCells (S + 1) 0 (l16 M)
                  have hsave := s2.trans (Save.setCells (S + 1) (l16 M) 0 w2)
                  have HRNG := Lib.hid hrange
                  clear hrange
                  dsimp only
                  refine (‹∀ a w, wpList _ _ _ _ a w → _› _ _ ?_)
                  (refine wpList_store_mid rfl _ _ _ rfl (S + 1) 0 (l16 M).toArray rfl rfl hth2 (size16 M) (all16 M) ?_)
                  go_wp2_with fail
                  go_roundg (8 - (k + 1))
                  case measure => exact hgk2
                  case rel => exact ⟨k + 1, by have := HK.out; omega, by go_num, by rw [mixes, mix1, HX.out, HY.out, HG.out, HM.out]; exact Cells.of_range16 HRNG.out, hsoft, hsave⟩
                · obtain rfl : k = 8 := by omega
                  go_wp2_with fail
                  go_roundg (10 - (r + 1))
                  case measure => rw [HGO.out]; exact hgk
                  case rel => exact ⟨r + 1, by have := HR.out; omega, by go_num, vk, qk, sr.trans sk⟩
            · obtain rfl : r = 10 := by omega
              go_wp2_with fail
              go_meet
              case rel => exact ⟨vr, sr⟩
        case rest =>
          obtain ⟨vr, sr⟩ := hcut
          have kf := k8.save sr (by omega)
          have lf := l8'.save sr (by omega)
          have pf := p8.save sr (by omega) (by omega)
          have bwf := bw8.trans (sr.below (n := B) (by omega) (by omega))
          have zf : S + 2 ≤ wc.heap.size := Nat.le_trans z8 sr.size
          obtain ⟨wg, hwg⟩ : ∃ wg : World, wg = wc := ⟨_, rfl⟩
          subst hwg
          clear k8 l8' p8 m8 bw8 sr z8 v8 q8 w8
          obtain ⟨V, hV⟩ : ∃ V, rounds (mword s.data.toList) 10 (start f n last) = V := ⟨_, rfl⟩
          rw [hV] at vr
          have HV := Lib.hid hV; clear hV
          go_upto_block 8 with (fail)
          go_cut [] from 116 (fun wc => Cells wc B 8 (fun j => f j ^^^ V j ^^^ V (j + 8)) ∧ Save B wg wc)
          case first =>
            go_wp2_with fail
            go_loopg [19] 8 (fun kk i wr => ∃ k : Nat, kk + k = 8 ∧ i = .int .i64 k ∧ Cells wr B 8 (fun j => if j < k then f j ^^^ V j ^^^ V (j + 8) else f j) ∧ Soft wr B ∧ Save B wg wr)
            case atStart => exact ⟨0, rfl, rfl, kf, pf, Save.refl _ _⟩
            case round =>
              obtain ⟨k, hk, rfl, vk, qk, sk⟩ := hrel
              by_cases hlk : k < 8
              · have hgk : 8 - (k + 1) < gk := by omega
                have HK := Lib.hid hk; clear hk
                have ck := vk k hlk
                simp only [Nat.lt_irrefl, if_false] at ck
                have vv := vr.save sk (by omega)
                have cv := vv k (by omega)
                have cw := vv (k + 8) (by omega)
                have X := u32_xor
                have w0 : IntKind.i64.wrap ((k : Int) + 8) = k + 8 := IntWalk.i64_in _ (by omega)
                have x0 : (0 : Int) ≤ (k : Int) + 8 := by omega
                have x1 : (k : Int) + 8 < 16 := by omega
                have x2 : ((k : Int) + 8).toNat = k + 8 := by omega
                have x3 : (k : Int) < 16 := by omega
                have x4 : (k : Int) < 8 := by omega
                have fq := qk k
                go_wp2_with fail
                go_still_tail 13, (by kernel_rfl)
                go_wp2_with fail
                go_roundg (8 - (k + 1))
                case measure => exact hgk
                case rel =>
                  refine ⟨k + 1, by have := HK.out; omega, by go_num, ((vk.set hlk _).drew).congr fun j hj => ?_, (qk.set _ _).drew, sk.trans (Save.store _ _ _ _)⟩
                  by_cases e : j = k
                  · subst e; simp
                  · rw [if_neg e]
                    by_cases e2 : j < k
                    · rw [if_pos e2, if_pos (by omega)]
                    · rw [if_neg e2, if_neg (by omega)]
              · obtain rfl : k = 8 := by omega
                go_wp2_with fail
                go_meet
                case rel => exact ⟨vk.congr (fun i hi => by simp only [if_pos hi]), sk⟩
          case rest =>
            obtain ⟨vk, sk⟩ := hcut
            have lk := lf.save sk (by omega)
            have bk := bwf.trans (sk.below (n := B) (Nat.le_refl _) (by omega))
            obtain ⟨G, hG⟩ : ∃ G, compress f s.data.toList n last = G := ⟨_, rfl⟩
            have rk := Lib.hid (vk.congr (g := G) (fun i hi => by
              rw [← hG]
              unfold compress
              rw [HV.out])).range8
            have HG := Lib.hid hG; clear hG
            have HZ : Hid (B ≤ wc.heap.size) := by rw [Hid]; have := HB.out; have := bk.size; omega
            clear vk sk lf kf pf bwf vr
            go_upto_region 32 with (fail)
            refine wp_region_lit ?_
            refine wpList_load_mid rfl _ _ rfl B 0 rfl (l8 G) _ rk.out Tryz.underlying143 rfl rfl ?_
            simp only [Act.put, List.setIfInBounds_toArray, List.set_cons_zero, List.set_cons_succ]
            refine wpList_store_mid rfl _ _ _ rfl (B + 1) 0 (l8 G).toArray rfl rfl (lk.there (by simp [l8])) rfl (all_oneCell_toArray (oneCell8 _)) ?_
            simp only [Act.put]
            have hr := World.rangeAt_setCells_same wc (B + 1) 0 (l8 G) (lk.there (by simp [l8]))
            have hbk := bk.trans ((Save.setCells (B + 1) (l8 G) 0 wc).below (n := B) (by omega) HZ.out)
            generalize hwz : World.setCells _ _ _ _ = wz at hr hbk ⊢
            go_wp2_with fail
            try simp only [Exit.inBlock, Exit.then]
            refine bodyPost_ret (results_cell_tmp_mid rfl _ _ (B + 1) 0 rfl (l8 G) _ hr Tryz.underlying143 rfl rfl) rfl ⟨by rw [HG.out]; rfl, ?_⟩
            rw [HB.out]
            exact hbk
end Go.Proofs.YtpkapcijgldhhaaGreatDoor
