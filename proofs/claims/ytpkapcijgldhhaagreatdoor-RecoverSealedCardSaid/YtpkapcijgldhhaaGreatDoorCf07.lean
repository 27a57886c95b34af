/-
  steleref04.Digest and Sum: the walks.
  H: the first sixteen bytes of the digest of netstrings, in the program and in the reference; chains.
-/
import Derived.Test.YtpkapcijgldhhaaGreatDoorCf01
import Derived.Test.YtpkapcijgldhhaaGreatDoorCf03
import Derived.Test.YtpkapcijgldhhaaGreatDoorCf19
import Derived.Test.YtpkapcijgldhhaaGreatDoorCf05
import Derived.Test.YtpkapcijgldhhaaGreatDoorCf06
import Derived.Test.YtpkapcijgldhhaaGreatDoorCe17
import Derived.Test.YtpkapcijgldhhaaGreatDoorCe15
import Derived.Deep.CutBlock
import Derived.Deep.CutRange
namespace Go.Proofs.YtpkapcijgldhhaaGreatDoor
open Go.RowKit
theorem compressR_at (f : Nat → UInt32) (s : ByteArray) (c : Int) (n : Nat) (last : Bool) (w : World) (hs : Hid (s.size = 64)) (hc : c = n) (hn : n < 4611686018427387904) :
    Calls Tryz.prog 84 #[.agg (l8 f).toArray, .string s, .int .u64 c, .bool last] w fun e w' => e = .returned (.tuple #[.agg (l8 (compress f s.data.toList n last)).toArray, .int .i64 0]) ∧ Below w.heap.size w w' := by
  subst hc; exact compressR_any f s n last w hs hn
/-- the first i bytes of the digest -/
def dbytes (h : Nat → UInt32) : Nat → List UInt8
  | 0 => []
  | i + 1 => dbytes h i ++ [if i % 4 = 0 then (h (i / 4)).toUInt8 else if i % 4 = 1 then (h (i / 4) >>> 8).toUInt8 else if i % 4 = 2 then (h (i / 4) >>> 16).toUInt8 else (h (i / 4) >>> 24).toUInt8]
theorem dbytes_length (h : Nat → UInt32) : ∀ i, (dbytes h i).length = i
  | 0 => rfl
  | i + 1 => by rw [dbytes, List.length_append, dbytes_length h i]; rfl
theorem dbytes_four (h : Nat → UInt32) : ∀ k, dbytes h (4 * k) = hbytes h k
  | 0 => rfl
  | k + 1 => by
    rw [show 4 * (k + 1) = 4 * k + 1 + 1 + 1 + 1 from by omega]
    simp only [dbytes]
    rw [dbytes_four h k, hbytes, show 4 * k % 4 = 0 from by omega, show (4 * k + 1) % 4 = 1 from by omega, show (4 * k + 1 + 1) % 4 = 2 from by omega, show (4 * k + 1 + 1 + 1) % 4 = 3 from by omega, show 4 * k / 4 = k from by omega, show (4 * k + 1) / 4 = k from by omega, show (4 * k + 1 + 1) / 4 = k from by omega, show (4 * k + 1 + 1 + 1) / 4 = k from by omega]
    simp [wbytes]
/-- where the reference stands: 'done' when all is in -/
def Dig (d : List UInt8) (n f : Nat) (g : Nat → UInt32) (fin : Bool) : Prop :=
  if fin = true then g = absorb (d.length + 1) h0 0 d else Abs d n f g
set_option maxHeartbeats 4000000 in
set_option maxRecDepth 100000 in
theorem digest_any (d : ByteArray) (w : World) (hds : d.size ≤ 1099511627776) :
    Calls Tryz.prog 52 #[.string d] w (StrP (sumB d.data.toList) w) := by
  go_enter Tryz.func52, Tryz.ntmps52
  go_wp2_with fail
  refine (initialR8 _).mono ?_
  rintro e w2 ⟨rfl, hb12⟩
  obtain ⟨x0, hx0⟩ : ∃ x0, Hid (iv 0 = x0) := ⟨_, rfl⟩
  go_upto_region 2 with (refine wpList_store_mid rfl _ _ _ rfl w2.heap.size 0 (l8 iv).toArray rfl rfl ((Free.new rfl).there (by simp [l8])) rfl (all_oneCell_toArray (oneCell8 iv)) ?_)
  try simp only [List.toList_toArray]
  obtain ⟨B, hB⟩ : ∃ B, w2.heap.size = B := ⟨_, rfl⟩
  generalize hw5 : World.setCells _ _ _ _ = w5
  have hst := fun h => stored_new (h := h) hw5
  obtain ⟨b5, j5, z5, y5⟩ := hst rfl
  have q5 : Soft w5 w2.heap.size := by rw [← hw5]; exact Soft.new.setCells _ _ _
  clear hst
  rw [hB] at b5 j5 z5 y5 q5
  rw [hB]
  have hBw : w.heap.size ≤ B := by rw [← hB]; exact hb12.size
  have i5 := Cells.of_range8 j5; clear j5
  have bw5 := hb12.trans (b5.mono (by omega))
  clear hw5 b5 hB hb12 w2
  have c0 : w5.cell? ⟨B, 0, none⟩ = some (.int .u32 (wd x0)) := by rw [← hx0.out]; exact i5 0 (by omega)
  have f0 := q5 0
  have X := xor_iv x0
  have Z5 := Lib.hid z5; clear z5
  go_upto_block 0 with (fail)
  have g0 : Cells (w5.setCell ⟨B, 0, none⟩ (.int .u32 (wd (x0 ^^^ 16842784)))) B 8 h0 := (i5.set (i := 0) (by omega) _).congr fun i hi => by
    unfold h0; rw [hx0.out]
  have q0 := q5.set ⟨B, 0, none⟩ (.int .u32 (wd (x0 ^^^ 16842784)))
  have bw0 := bw5.setCell (p := ⟨B, 0, none⟩) hBw (.int .u32 (wd (x0 ^^^ 16842784)))
  have z0 : (w5.setCell ⟨B, 0, none⟩ (.int .u32 (wd (x0 ^^^ 16842784)))).heap.size = B + 1 := by simpa [World.setCell] using Z5.out
  generalize World.setCell _ _ _ = W0 at g0 q0 bw0 z0 ⊢
  clear c0 f0 X i5 q5 y5 bw5 Z5 hx0 w5
  have Z0 := Lib.hid z0; clear z0
  have ha0 : Hid (Dig d.data.toList 0 (d.data.toList.length + 1) h0 false) := Abs.start _
  go_cut [4, 5] from 15 (fun v4 v5 wc => ∃ (g : Nat → UInt32), Cells wc B 8 g ∧ Hid (g = absorb (d.data.toList.length + 1) h0 0 d.data.toList) ∧ Save B W0 wc)
  case first =>
    go_wp2_with fail
    go_loopg [4, 5] (d.size + 2) (fun kk i b wr => ∃ (n : Nat) (f : Nat) (g : Nat → UInt32) (fin : Bool), n ≤ d.size ∧ (if fin = true then kk = 0 else kk + n = d.size + 2) ∧ i = .int .i64 n ∧ b = .bool fin ∧ Cells wr B 8 g ∧ Soft wr B ∧ Hid (Dig d.data.toList n f g fin) ∧ Save B W0 wr)
    case atStart => exact ⟨0, _, _, false, by omega, by simp, rfl, rfl, g0, q0, ha0, Save.refl _ _⟩
    case round =>
      obtain ⟨n, f, g, fin, hnd, hkk, rfl, rfl, vk, qk, hA, sk⟩ := hrel
      cases fin
      · simp only [Bool.false_eq_true, if_false] at hkk
        have HKK := Lib.hid hkk
        have hgk2 : 2 ≤ gk := by omega
        obtain ⟨m, hm⟩ : ∃ m, min 64 (d.size - n) = m := ⟨_, rfl⟩
        have hm1 : m ≤ 64 := by omega
        have hm2 : n + m ≤ d.size := by omega
        have HM := Lib.hid hm
        clear hm hkk
        obtain ⟨wi, hwi⟩ : ∃ wi : World, wi = wr := ⟨_, rfl⟩
        subst hwi
        go_upto_if 22 with (fail)
        go_cut [6] from 23 to 49 (fun v6 wc => v6 = .int .i64 m ∧ Hid (wi = wc))
        case first =>
          by_cases h : 64 < d.size - n
          · have h' : (64 : Int) < (d.size : Int) - n := by omega
            go_wp2_with fail
            go_meet
            case rel => exact ⟨by have := HM.out; rw [show m = 64 from by omega]; rfl, rfl⟩
          · have h' : (d.size : Int) - n ≤ 64 := by omega
            go_wp2_with fail
            go_meet
            case rel => exact ⟨by have := HM.out; rw [show m = d.size - n from by omega]; congr 1; omega, rfl⟩
        case rest =>
          obtain ⟨rfl, hwc⟩ := hcut
          obtain rfl := hwc.out
          clear hwc
          have g1 : (n : Int) + m ≤ d.size := by omega
          have g2 : (0 : Int) ≤ (n : Int) + m := by omega
          have g3 : (n : Int) ≤ (n : Int) + m := by omega
          have g4 : ((n : Int) + m).toNat = n + m := by omega
          obtain ⟨b0, hb0⟩ : ∃ b0, d.extract n (n + m) = b0 := ⟨_, rfl⟩
          have hl0 : Hid (b0.data.toList = (d.data.toList.drop n).take m) := by rw [Hid, ← hb0, extract_list]; congr 1; omega
          have hs0 : b0.size = m := by rw [← toList_size, hl0.out]; simp; omega
          have hs0' : b0.size ≤ 64 := by omega
          have HS0 := Lib.hid hs0; clear hs0
          have HB0 := Lib.hid hb0
          go_upto_block 2 with (fail)
          clear hb0
          go_cut [7] from 32 to 49 (fun v7 wc => ∃ bl : ByteArray, v7 = .string bl ∧ Hid (bl.data.toList = pad ((d.data.toList.drop n).take m)) ∧ Hid (bl.size = 64) ∧ Hid (wi = wc))
          case first =>
            go_wp2_with fail
            go_loopg [7] (64 - m) (fun kk v w2 => ∃ (bl : ByteArray) (j : Nat), kk + bl.size = 64 ∧ v = .string bl ∧ Hid (bl.data.toList = (d.data.toList.drop n).take m ++ List.replicate j 0) ∧ Hid (wi = w2))
            case atStart => exact ⟨b0, 0, by have := HS0.out; omega, rfl, by rw [Hid, hl0.out]; simp, rfl⟩
            case round =>
              obtain ⟨bl, j, hkb, rfl, hbl, hw2⟩ := hrel
              obtain rfl := hw2.out
              by_cases hlt : bl.size < 64
              · have hkb2 : gk - 1 + (bl.size + 1) = 64 := by omega
                have hkb3 : gk - 1 < gk := by omega
                have HKB := Lib.hid hkb2
                clear hkb hkb2
                go_wp2_with fail
                go_roundg (gk - 1)
                case measure => exact hkb3
                case rel => exact ⟨bl ++ ⟨#[0]⟩, j + 1, by rw [ByteArray.size_append]; exact HKB.out, rfl, by rw [Hid, append_list, hbl.out, List.append_assoc, List.replicate_succ'], rfl⟩
              · have h64 : bl.size = 64 := by omega
                have H64 := Lib.hid h64
                clear hkb h64
                go_wp2_with fail
                go_meet
                case rel =>
                  refine ⟨bl, rfl, ?_, H64, rfl⟩
                  rw [Hid, hbl.out, pad]
                  congr 1
                  have h1 := H64.out
                  have h2 := HM.out
                  rw [← toList_size, hbl.out] at h1
                  simp at h1 ⊢
                  omega
          case rest =>
            obtain ⟨bl, rfl, hbl, hbs, hwc⟩ := hcut
            obtain rfl := hwc.out
            clear hwc
            have u3 : IntKind.u64.wrap ((n : Int) + m) = n + m := IntWalk.u64_in _ (by omega)
            obtain ⟨fin, hfin⟩ : ∃ fin : Bool, decide (n + m = d.size) = fin := ⟨_, rfl⟩
            have hq : (((n : Int) + m) == (d.size : Int)) = fin := by
              rw [← hfin, Bool.eq_iff_iff]; simp; omega
            have HFIN := Lib.hid hfin
            clear hfin
            obtain ⟨G, hG⟩ : ∃ G, compress g bl.data.toList (n + m) fin = G := ⟨_, rfl⟩
            have hcall := fun w0 => compressR_at g bl ((n : Int) + m) (n + m) fin w0 hbs (by omega) (by omega)
            rw [hG] at hcall
            have HG := Lib.hid hG; clear hG
            have HC := Lib.hid hcall; clear hcall
            have zi : B + 1 ≤ wi.heap.size := by have := sk.size; have := Z0.out; omega
            go_wp2_with (refine wpList_load_mid rfl _ _ rfl B 0 rfl (l8 g) _ vk.range8 Tryz.underlying143 rfl rfl ?_)
            refine (HC.out _).mono ?_
            rintro e w3 ⟨rfl, hb⟩
            have v3 := vk.below hb (by omega)
            have q3 := qk.below hb (by omega)
            have f3 := v3.free q3
            have hrg := Lib.hid (World.rangeAt_setCells_same w3 B 0 (l8 G) (f3.there (Nat.le_refl 8)))
            have qz := q3.setCells B 0 (l8 G)
            have sz := (sk.trans (below_save hb B (Nat.le_refl _))).trans (Save.setCells B (l8 G) 0 w3)
            clear hb v3 q3
            go_wp2_with (refine wpList_store_mid rfl _ _ _ rfl B 0 (l8 G).toArray rfl rfl (f3.there (Nat.le_refl 8)) rfl (all_oneCell_toArray (oneCell8 G)) ?_)
            try simp only [Act.put]
            go_roundg (if fin = true then 0 else d.size + 2 - (n + m))
            case measure =>
              have := HKK.out; have h2 := HM.out; have h3 := HFIN.out
              split
              · omega
              · rename_i hf
                have : ¬ n + m = d.size := fun e => hf (by rw [← h3]; simpa using e)
                omega
            case rel =>
              have h2 := HM.out; have h3 := HFIN.out
              refine ⟨n + m, f - 1, G, fin, hm2, ?_, by go_num, rfl, Cells.of_range8 hrg.out, qz, ?_, sz⟩
              · split
                · rfl
                · omega
              · rw [Hid, Dig]
                have hA' : Abs d.data.toList n f g := hA.out
                have hGo := HG.out
                cases fin
                · have hne : ¬ n + m = d.size := by simpa using h3
                  have hm64 : m = 64 := by omega
                  simp only [Bool.false_eq_true, if_false]
                  have hst := hA'.step (by rw [toList_size]; omega)
                  rw [hbl.out, hm64, pad] at hGo
                  rw [hm64, ← hGo]
                  rw [show 64 - ((d.data.toList.drop n).take 64).length = 0 from by simp; omega]
                  simpa using hst
                · have heq : n + m = d.size := by simpa using h3
                  simp only [if_true]
                  rw [← hGo, hbl.out, List.take_of_length_le (by simp; omega), heq]
                  exact hA'.last (by rw [toList_size]; omega)
      · go_wp2_with fail
        go_meet
        case rel => exact ⟨g, vk, hA, sk⟩
  case rest =>
    obtain ⟨F, vk, hF, sk⟩ := hcut
    have bw1 := bw0.trans (sk.below (n := w.heap.size) hBw (by have := Z0.out; omega))
    have z1 : B + 1 ≤ wc.heap.size := by have := sk.size; have := Z0.out; omega
    obtain ⟨w5, hw5⟩ : ∃ w5 : World, w5 = wc := ⟨_, rfl⟩
    subst hw5
    clear g0 q0 bw0 Z0 ha0 sk W0
    obtain ⟨i0, hi, hz0, hz1, hz2⟩ := info_parts infoU8
    have bs0 : Below (B + 1) w5 w5 := Below.refl _ _
    go_upto_block 4 with (fail)
    go_cut [8] from 50 (fun v8 wc => wc.ownsRow (B + 1) 5 1 v8 (hbytes F 8).length (Lib.byteCells (hbytes F 8)) ∧ Below (B + 1) w5 wc)
    case first =>
      go_wp2_with fail
      go_loopg [8, 9] 32 (fun kk v i wr => ∃ k : Nat, kk + k = 32 ∧ i = .int .i64 k ∧ wr.ownsRow (B + 1) 5 1 v (dbytes F k).length (Lib.byteCells (dbytes F k)) ∧ Below (B + 1) w5 wr)
      case atStart => exact ⟨0, rfl, rfl, World.ownsRow_nil _ _ _ _, bs0⟩
      case round =>
        obtain ⟨k, hk, rfl, ho, hb⟩ := hrel
        by_cases hlt : k < 32
        · have hgk : 32 - (k + 1) < gk := by omega
          have HK := Lib.hid hk; clear hk
          obtain ⟨q, t, hkq, ht⟩ : ∃ q t, k = 4 * q + t ∧ t < 4 := ⟨k / 4, k % 4, by omega, by omega⟩
          have hq : q < 8 := by omega
          have ck := (vk.below hb (by omega)) q hq
          obtain ⟨x, hx⟩ : ∃ x, F q = x := ⟨_, rfl⟩
          rw [hx] at ck
          have HX := Lib.hid hx; clear hx
          have d1 : (k : Int) / 4 = q := by omega
          have m1 : (k : Int) % 4 = t := by omega
          have d0 : (k : Int).tdiv 4 = q := by rw [Int.tdiv_eq_ediv_of_nonneg (by omega)]; omega
          have m0 : (k : Int).tmod 4 = t := by rw [Int.tmod_eq_emod_of_nonneg (by omega)]; omega
          have d3 : (q : Int) < 8 := by omega
          have hlen := dbytes_length F k
          obtain ⟨m, hm⟩ : ∃ m, (dbytes F k).length = m := ⟨_, rfl⟩
          have hm2 : m ≤ 32 := by omega
          rw [hm] at ho
          have HM := Lib.hid hm; clear hm hlen
          have s8 := u32_shr8
          have s16 := u32_shr16
          have s24 := u32_shr24
          have c8 := u8_of
          have hzr : B + 1 ≤ wr.heap.size := Nat.le_trans z1 hb.size
          have HKQ := Lib.hid hkq; clear hkq
          rcases t with _|_|_|_|t
          all_goals first | (exfalso; omega; done) | skip
          · have hnx : dbytes F (k + 1) = dbytes F k ++ [x.toUInt8] := by
              have := HKQ.out
              rw [dbytes, show k % 4 = 0 from by omega, show k / 4 = q from by omega, HX.out]; rfl
            have HNX := Lib.hid hnx; clear hnx
            go_wp2_with (at_builtin; refine wpList_append_own _ rfl _ _ 60 rfl (B + 1) 5 i0 (.int .u8 0) 1 1 Tryz.underlying60 hi hz0 hz1 hz2 rfl (by decide) _ _ _ rfl (ho.alloc _) ⟨wr.heap.size, 0, none⟩ 1 1 (Lib.byteCells [x.toUInt8]) rfl rfl (fun j u h => cell_new1 wr _ _ _ j u h) ?c2 ?c3 ?c4 ?c5 ?_)
            case c2 => intro u hu; simp only [Lib.byteCells, List.mem_map] at hu; obtain ⟨c, _, rfl⟩ := hu; rfl
            case c3 => unfold maxLen; omega
            case c4 => omega
            case c5 => simp; omega
            intro v' w1 hown' hgrow _
            have hb1 := below_grownBy (hb.alloc (by omega) _) (ho.alloc _) hgrow (by simp; omega)
            have hown2 : w1.ownsRow (B + 1) 5 1 v' (dbytes F (k + 1)).length (Lib.byteCells (dbytes F (k + 1))) := by
              rw [HNX.out, Lib.byteCells_append, List.length_append, HM.out]
              exact hown'
            clear hgrow hown' ho hb
            go_wp2_with fail
            go_roundg (32 - (k + 1))
            case measure => exact hgk
            case rel => exact ⟨k + 1, by have := HK.out; omega, by go_num, hown2, hb1⟩
          · have hnx : dbytes F (k + 1) = dbytes F k ++ [(x >>> 8).toUInt8] := by
              have := HKQ.out
              rw [dbytes, show k % 4 = 1 from by omega, show k / 4 = q from by omega, HX.out]; rfl
            have HNX := Lib.hid hnx; clear hnx
            go_wp2_with (at_builtin; refine wpList_append_own _ rfl _ _ 60 rfl (B + 1) 5 i0 (.int .u8 0) 1 1 Tryz.underlying60 hi hz0 hz1 hz2 rfl (by decide) _ _ _ rfl (ho.alloc _) ⟨wr.heap.size, 0, none⟩ 1 1 (Lib.byteCells [(x >>> 8).toUInt8]) rfl rfl (fun j u h => cell_new1 wr _ _ _ j u h) ?c2 ?c3 ?c4 ?c5 ?_)
            case c2 => intro u hu; simp only [Lib.byteCells, List.mem_map] at hu; obtain ⟨c, _, rfl⟩ := hu; rfl
            case c3 => unfold maxLen; omega
            case c4 => omega
            case c5 => simp; omega
            intro v' w1 hown' hgrow _
            have hb1 := below_grownBy (hb.alloc (by omega) _) (ho.alloc _) hgrow (by simp; omega)
            have hown2 : w1.ownsRow (B + 1) 5 1 v' (dbytes F (k + 1)).length (Lib.byteCells (dbytes F (k + 1))) := by
              rw [HNX.out, Lib.byteCells_append, List.length_append, HM.out]
              exact hown'
            clear hgrow hown' ho hb
            go_wp2_with fail
            go_roundg (32 - (k + 1))
            case measure => exact hgk
            case rel => exact ⟨k + 1, by have := HK.out; omega, by go_num, hown2, hb1⟩
          · have hnx : dbytes F (k + 1) = dbytes F k ++ [(x >>> 16).toUInt8] := by
              have := HKQ.out
              rw [dbytes, show k % 4 = 2 from by omega, show k / 4 = q from by omega, HX.out]; rfl
            have HNX := Lib.hid hnx; clear hnx
            go_wp2_with (at_builtin; refine wpList_append_own _ rfl _ _ 60 rfl (B + 1) 5 i0 (.int .u8 0) 1 1 Tryz.underlying60 hi hz0 hz1 hz2 rfl (by decide) _ _ _ rfl (ho.alloc _) ⟨wr.heap.size, 0, none⟩ 1 1 (Lib.byteCells [(x >>> 16).toUInt8]) rfl rfl (fun j u h => cell_new1 wr _ _ _ j u h) ?c2 ?c3 ?c4 ?c5 ?_)
            case c2 => intro u hu; simp only [Lib.byteCells, List.mem_map] at hu; obtain ⟨c, _, rfl⟩ := hu; rfl
            case c3 => unfold maxLen; omega
            case c4 => omega
            case c5 => simp; omega
            intro v' w1 hown' hgrow _
            have hb1 := below_grownBy (hb.alloc (by omega) _) (ho.alloc _) hgrow (by simp; omega)
            have hown2 : w1.ownsRow (B + 1) 5 1 v' (dbytes F (k + 1)).length (Lib.byteCells (dbytes F (k + 1))) := by
              rw [HNX.out, Lib.byteCells_append, List.length_append, HM.out]
              exact hown'
            clear hgrow hown' ho hb
            go_wp2_with fail
            go_roundg (32 - (k + 1))
            case measure => exact hgk
            case rel => exact ⟨k + 1, by have := HK.out; omega, by go_num, hown2, hb1⟩
          · have hnx : dbytes F (k + 1) = dbytes F k ++ [(x >>> 24).toUInt8] := by
              have := HKQ.out
              rw [dbytes, show k % 4 = 3 from by omega, show k / 4 = q from by omega, HX.out]; rfl
            have HNX := Lib.hid hnx; clear hnx
            go_wp2_with (at_builtin; refine wpList_append_own _ rfl _ _ 60 rfl (B + 1) 5 i0 (.int .u8 0) 1 1 Tryz.underlying60 hi hz0 hz1 hz2 rfl (by decide) _ _ _ rfl (ho.alloc _) ⟨wr.heap.size, 0, none⟩ 1 1 (Lib.byteCells [(x >>> 24).toUInt8]) rfl rfl (fun j u h => cell_new1 wr _ _ _ j u h) ?c2 ?c3 ?c4 ?c5 ?_)
            case c2 => intro u hu; simp only [Lib.byteCells, List.mem_map] at hu; obtain ⟨c, _, rfl⟩ := hu; rfl
            case c3 => unfold maxLen; omega
            case c4 => omega
            case c5 => simp; omega
            intro v' w1 hown' hgrow _
            have hb1 := below_grownBy (hb.alloc (by omega) _) (ho.alloc _) hgrow (by simp; omega)
            have hown2 : w1.ownsRow (B + 1) 5 1 v' (dbytes F (k + 1)).length (Lib.byteCells (dbytes F (k + 1))) := by
              rw [HNX.out, Lib.byteCells_append, List.length_append, HM.out]
              exact hown'
            clear hgrow hown' ho hb
            go_wp2_with fail
            go_roundg (32 - (k + 1))
            case measure => exact hgk
            case rel => exact ⟨k + 1, by have := HK.out; omega, by go_num, hown2, hb1⟩
        · obtain rfl : k = 32 := by omega
          rw [show (32 : Nat) = 4 * 8 from rfl, dbytes_four] at ho
          go_wp2_with fail
          go_meet
          case rel => exact ⟨ho, hb⟩
    case rest =>
      obtain ⟨ho, hb⟩ := hcut
      have bwf := bw1.trans (hb.mono (by omega))
      obtain ⟨a, cap, rfl, hconv⟩ := bytes_back ho (by rw [hbytes_length]; decide)
      clear ho hb bw1
      have HH := Lib.hid (hbytes_length F 8)
      go_wp2_with fail
      go_ret
      refine ⟨_, rfl, ?_, bwf⟩
      show hbytes F 8 = _
      rw [hF.out]; rfl
end Go.Proofs.YtpkapcijgldhhaaGreatDoor

namespace Go.Proofs.YtpkapcijgldhhaaGreatDoor
open Go.RowKit
set_option maxHeartbeats 1000000 in
theorem sumR_any (va : Value) (la : List ByteArray) (w : World) (ha : Strs w va la) (ht : (la.map fun s => s.data.toList).flatten.length ≤ 1099511627776) :
    Calls Tryz.prog 28 #[va] w (StrP (sumB (la.map fun s => s.data.toList).flatten) w) := by
  obtain ⟨hla, ha'⟩ := row_cases ha
  simp only [List.length_map] at hla ha'
  unfold maxLen at hla
  rcases ha' with ⟨h0', aa, ca, rfl, _⟩ | ⟨h0', ba, oa, ca, rfl, hca, hca2, hcella⟩
  · have hla0 : la = [] := by simpa using h0'
    subst hla0
    go_enter Tryz.func28, Tryz.ntmps28
    go_wp2_with fail
    refine wp_loop_rounds 1 ?_; rw [rounds_succ]
    go_wp2_with fail
    refine (digest_any ⟨#[]⟩ _ (by decide)).mono ?_
    rintro e w1 ⟨t, rfl, hts, hb1⟩
    go_wp2_with fail
    go_ret
    exact ⟨_, rfl, hts, hb1⟩
  · have hflat : ∀ k, (((la.take k).map fun s => s.data.toList).flatten).length ≤ (la.map fun s => s.data.toList).flatten.length := fun k => by
      have h : (la.map fun s => s.data.toList).flatten = ((la.take k).map fun s => s.data.toList).flatten ++ ((la.drop k).map fun s => s.data.toList).flatten := by
        rw [← List.flatten_append, ← List.map_append, List.take_append_drop]
      rw [h, List.length_append]; omega
    have HFL := Lib.hid hflat; clear hflat
    go_enter Tryz.func28, Tryz.ntmps28
    go_wp2_with fail
    go_loop [3, 4] (fun o i => ∃ (k : Nat) (u : ByteArray), k ≤ la.length ∧ i = .int .i64 k ∧ o = .string u ∧ Hid (u.data.toList = ((la.take k).map fun s => s.data.toList).flatten)) (fun _ i => la.length - (intOf i).toNat)
    case atStart => exact ⟨0, ⟨#[]⟩, by omega, rfl, rfl, rfl⟩
    case round =>
      obtain ⟨k, u, hk, rfl, rfl, hu⟩ := hrel
      by_cases hlt : k < la.length
      · have c1 : w.cell? ⟨ba, oa + k, none⟩ = some (.string la[k]) := hcella k (.string la[k]) (by simp [hlt])
        have h1 : ((la.take (k + 1)).map fun s => s.data.toList).flatten = ((la.take k).map fun s => s.data.toList).flatten ++ la[k].data.toList := by
          rw [List.take_succ_eq_append_getElem hlt, List.map_append, List.flatten_append]; simp only [List.map_cons, List.map_nil, List.flatten_cons, List.flatten_nil, List.append_nil]
        have h2 := HFL.out (k + 1)
        rw [h1, List.length_append] at h2
        generalize la[k] = x at *
        have hus : u.size ≤ 1099511627776 := by rw [← toList_size, hu.out]; omega
        have hxs : x.size ≤ 1099511627776 := by rw [← toList_size]; omega
        have H1 := Lib.hid h1
        have Hcella := Lib.hid hcella
        have HT := Lib.hid ht
        clear h1 h2 hcella ht
        go_wp2_with fail
        go_round
        case rel => exact ⟨k + 1, _, by omega, by go_num, rfl, by rw [Hid, append_list, H1.out, hu.out]⟩
        case measure => simp [intOf]; omega
      · have ht2 : la.take k = la := List.take_of_length_le (by omega)
        rw [ht2] at hu
        clear ht2
        have hus : u.size ≤ 1099511627776 := by rw [← toList_size, hu.out]; omega
        go_wp2_with fail
        refine (digest_any u _ hus).mono ?_
        rintro e w1 ⟨t, rfl, hts, hb1⟩
        go_wp2_with fail
        go_ret
        exact ⟨_, rfl, by rw [Hid, hts.out, hu.out], hb1⟩
theorem H_any (va : Value) (la : List ByteArray) (w : World) (ha : Strs w va la) (ht : totS la ≤ 68719476736) :
    Calls Tryz.prog 137 #[va] w (StrP (hashL (la.map fun s => s.data.toList)) w) := by
  have hln := strsL_le la (by omega)
  have hs := Lib.hid (refStrings_any va la w ha (by omega))
  go_enter Tryz.func137, Tryz.ntmps137
  go_wp2_with fail
  refine hs.out.mono ?_
  rintro e w1 ⟨t, rfl, hts, rfl⟩
  have htz : t.data.toList.length ≤ 1099511627776 := by rw [hts.out]; omega
  clear hs hln
  go_wp2_with fail
  refine (sumR_any _ [t] _ (strs_newH w [t] _ _ _ rfl rfl (by simp [maxLen])) (by rw [flat_one]; exact htz)).mono ?_
  rintro e w2 ⟨u, rfl, hus, hb2⟩
  have huz : (16 : Int) ≤ u.size := by rw [← toList_size, hus.out, sumB_length]; decide
  go_wp2_with fail
  go_ret
  refine ⟨_, rfl, ?_, ((Below.refl _ w).alloc (Nat.le_refl _) _).trans (hb2.mono (by simp))⟩
  rw [Hid, extract_list, hus.out, flat_one, hts.out, strsL_map]; rfl
theorem H_new (w : World) (la : List ByteArray) (cs : Array Value) (T : TypeId) (n : Nat) (hcs : cs.toList = la.map Value.string) (hn : n = la.length) (ht : totS la ≤ 68719476736) :
    Calls Tryz.prog 137 #[.slice (some ⟨w.heap.size, 0, none⟩) n n] (w.alloc (.cells cs T)) (StrP (hashL (la.map fun s => s.data.toList)) w) := by
  have hb0 : Below w.heap.size w (w.alloc (.cells cs T)) := (Below.refl _ w).alloc (Nat.le_refl _) _
  refine (H_any _ la _ (strs_newH w la cs T n hcs hn (by have := totS_len la; unfold maxLen; omega)) ht).mono ?_
  rintro e w1 ⟨t, rfl, hts, hb1⟩
  exact ⟨t, rfl, hts, hb0.trans (hb1.mono (by simp))⟩
def lWots : List UInt8 := [119, 111, 116, 115]
def secretL (seed : List UInt8) (key chain : Int) : List UInt8 := hashL [lWots, seed, numL key, numL chain]
set_option maxHeartbeats 1000000 in
theorem steps_any (x : ByteArray) (n : Nat) (w : World) (hs : x.size ≤ 1073741824) (hn : n ≤ 1000000) :
    Calls Tryz.prog 89 #[.string x, .int .i64 n] w (StrP (chainL x.data.toList n) w) := by
  go_enter Tryz.func89, Tryz.ntmps89
  go_wp2_with fail
  go_loopw [0, 5] (fun s i wr => ∃ (k : Nat) (y : ByteArray), k ≤ n ∧ i = .int .i64 k ∧ s = .string y ∧ Hid (y.data.toList = chainL x.data.toList k) ∧ Below w.heap.size w wr) (fun _ i _ => n - (intOf i).toNat)
  case atStart => exact ⟨0, x, by omega, rfl, rfl, rfl, below_refl _⟩
  case round =>
    obtain ⟨k, y, hk, rfl, rfl, hy, hbw⟩ := hrel
    by_cases hlt : k < n
    · have hys : y.size ≤ 1073741824 := by rw [← toList_size, hy.out]; exact chainL_length k hs
      go_wp2_with fail
      refine (H_new wr [⟨#[99, 104, 97, 105, 110]⟩, y] _ _ _ rfl rfl (by rw [totS_cons, totS_cons, totS_nil]; show 10 + 5 + _ ≤ _; omega)).mono ?_
      rintro e w1 ⟨z, rfl, hz, hb⟩
      go_wp2_with fail
      go_roundw
      case rel => exact ⟨k + 1, z, by omega, by go_num, rfl, by rw [Hid, hz.out]; simp only [List.map_cons, List.map_nil]; rw [hy.out]; rfl, step2 hbw hb⟩
      case measure => simp [intOf]; omega
    · obtain rfl : k = n := by omega
      go_wp2_with fail
      go_ret
      exact ⟨_, rfl, hy, hbw⟩
theorem secretR_any (s : ByteArray) (k c : Int) (w : World) (hs : s.size ≤ 1073741824) (hk : -9223372036854775808 ≤ k ∧ k ≤ 9223372036854775807) (hc : 0 ≤ c ∧ c ≤ 1000000) :
    Calls Tryz.prog 90 #[.string s, .int .i64 k, .int .i64 c] w (StrP (secretL s.data.toList k c) w) := by
  have hn1 := numL_length k
  have hn2 := itoa_len hk.1 hk.2
  have hn3 := numL_length c
  have hn4 := itoa_len (n := c) (by omega) (by omega)
  have h1 : (numL k).length ≤ 30 := by omega
  have h2 : (numL c).length ≤ 30 := by omega
  clear hn1 hn2 hn3 hn4
  go_enter Tryz.func90, Tryz.ntmps90
  go_wp2_with fail
  refine (refNumber_any k _ hk.1 hk.2).mono ?_
  rintro e w1 ⟨t1, rfl, ht1, rfl⟩
  go_wp2_with fail
  refine (refNumber_any c _ (by omega) (by omega)).mono ?_
  rintro e w2 ⟨t2, rfl, ht2, rfl⟩
  have z1 : t1.size ≤ 30 := by rw [← toList_size, ht1.out]; exact h1
  have z2 : t2.size ≤ 30 := by rw [← toList_size, ht2.out]; exact h2
  go_wp2_with fail
  refine (H_new w [⟨#[119, 111, 116, 115]⟩, s, t1, t2] _ _ _ rfl rfl (by rw [totS_cons, totS_cons, totS_cons, totS_cons, totS_nil]; show 10 + 4 + _ ≤ _; omega)).mono ?_
  rintro e w3 ⟨y, rfl, hy, hb3⟩
  go_wp2_with fail
  go_ret
  refine ⟨_, rfl, ?_, hb3⟩
  rw [Hid, hy.out, secretL, ← ht1.out, ← ht2.out]; rfl
theorem bA_list (l : List UInt8) : (bA l).data.toList = l := rfl
/-- the ends of the first n chains -/
def endsL (seed : List UInt8) (key : Int) : Nat → List (List UInt8)
  | 0 => []
  | i + 1 => endsL seed key i ++ [chainL (secretL seed key i) 15]
theorem endsL_length (seed : List UInt8) (key : Int) : ∀ n, (endsL seed key n).length = n
  | 0 => rfl
  | n + 1 => by rw [endsL, List.length_append, endsL_length seed key n]; rfl
def publicL (seed : List UInt8) (key : Int) : List UInt8 := if key < 0 then [] else hashL (lPublic :: endsL seed key 35)
theorem secretL_length (s : List UInt8) (k c : Int) : (secretL s k c).length = 16 := hashL_length _
theorem chainL16 {x : List UInt8} (h : x.length = 16) (n : Nat) : (chainL x n).length = 16 := by
  cases n with
  | zero => exact h
  | succ n => rw [chainL, hashL_length]
theorem totS_ends (seed : List UInt8) (key : Int) : ∀ n, totS ((endsL seed key n).map bA) = 26 * n
  | 0 => rfl
  | n + 1 => by
    rw [endsL, List.map_append, List.map_cons, List.map_nil, totS_snoc, totS_ends seed key n]
    have : (bA (chainL (secretL seed key n) 15)).size = 16 := chainL16 (secretL_length _ _ _) 15
    omega
end Go.Proofs.YtpkapcijgldhhaaGreatDoor
