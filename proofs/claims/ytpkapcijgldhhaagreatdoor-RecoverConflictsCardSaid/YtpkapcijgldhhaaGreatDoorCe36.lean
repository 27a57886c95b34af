/-
  The reference's products and quotients.
  Erasure in the program: the block that the weights give.
  Erasure in the program: the block at an index, out of what was chosen.
  The reference's weights, and the block at a point.
  The reference's block at a point.
-/
import Derived.Test.YtpkapcijgldhhaaGreatDoorCe35
import Derived.Lib.LazyBuf
import Derived.Test.YtpkapcijgldhhaaGreatDoorCe22
import Derived.Test.YtpkapcijgldhhaaGreatDoorCe21
namespace Go.Proofs.YtpkapcijgldhhaaGreatDoor
open Go.RowKit Go.Shelf
theorem tmA_lt {a : Nat} (ha : a < 256) (b : Nat) : ∀ k, k ≤ 8 → tmA a b k < 65536
  | 0, _ => by rw [tmA]; decide
  | k + 1, h => by
    have h1 := tmA_lt ha b k (by omega)
    rw [tmA]
    split
    · refine Nat.xor_lt_two_pow (n := 16) h1 ?_
      rw [Nat.shiftLeft_eq]
      have h2 : 2 ^ k ≤ 2 ^ 7 := Nat.pow_le_pow_right (by decide) (by omega)
      have := Nat.mul_le_mul (show a ≤ 255 by omega) h2
      exact Nat.lt_of_le_of_lt this (by decide)
    · exact h1
theorem tmB_lt {o : Nat} (ho : o < 65536) : ∀ j, tmB o j < 65536
  | 0 => ho
  | j + 1 => by
    have h1 := tmB_lt ho j
    rw [tmB]
    split
    · refine Nat.xor_lt_two_pow (n := 16) h1 ?_
      rw [Nat.shiftLeft_eq]
      have h2 : 2 ^ (6 - j) ≤ 2 ^ 6 := Nat.pow_le_pow_right (by decide) (by omega)
      have := Nat.mul_le_mul (Nat.le_refl 285) h2
      exact Nat.lt_of_le_of_lt this (by decide)
    · exact h1
theorem u8_bit (b : UInt8) (k : Nat) : bits BinOp.and IntKind.u8 (by8 b / 2 ^ k) 1 = (((b.toNat >>> k) &&& 1 : Nat) : Int) := by
  have h1 : b.toNat / 2 ^ k < 256 := Nat.lt_of_le_of_lt (Nat.div_le_self _ _) b.toNat_lt
  have h : by8 b / 2 ^ k = by8 (UInt8.ofNat (b.toNat / 2 ^ k)) := by
    unfold by8
    rw [UInt8.toNat_ofNat_of_lt' h1, Int.natCast_ediv, Int.natCast_pow]
    rfl
  rw [h, show (1 : Int) = by8 1 from rfl, u8_and]
  unfold by8
  rw [UInt8.toNat_and, UInt8.toNat_ofNat_of_lt' h1, Nat.shiftRight_eq_div_pow]
  rfl
theorem i64_bit {o : Nat} (ho : o < 65536) (n : Nat) : bits BinOp.and IntKind.i64 ((o : Int) / 2 ^ n) 1 = (((o >>> n) &&& 1 : Nat) : Int) := by
  have h1 : o / 2 ^ n ≤ o := Nat.div_le_self _ _
  have h2 : (o : Int) / 2 ^ n = ((o / 2 ^ n : Nat) : Int) := by rw [Int.natCast_ediv, Int.natCast_pow]; rfl
  rw [h2, Nat.shiftRight_eq_div_pow]
  exact i64_andN _ 1 (by omega) (by decide)
set_option maxRecDepth 100000 in
set_option maxHeartbeats 4000000 in
theorem times_any (a b : UInt8) (w : World) : Calls Tryz.prog 123 #[.int .u8 (by8 a), .int .u8 (by8 b)] w (fun e w' => e = .returned (.int .u8 (by8 (mulG a b))) ∧ w' = w) := by
  obtain ⟨R, hR⟩ : ∃ R, mulG a b = R := ⟨_, rfl⟩
  rw [hR]
  have ha := by8_lt a
  have hc : IntKind.i64.wrap (by8 a) = (a.toNat : Int) := by rw [IntWalk.i64_in _ (by omega)]; rfl
  have HR := Lib.hid hR
  clear hR
  go_enter Tryz.func123, Tryz.ntmps123
  go_upto_region 2 with (fail)
  go_wp2_with fail
  go_loopw [6, 7] (fun vo vk wr => ∃ k : Nat, k ≤ 8 ∧ vk = .int .i64 k ∧ vo = .int .i64 (tmA a.toNat b.toNat k : Nat) ∧ wr = w) (fun _ vk _ => 8 - (intOf vk).toNat)
  case atStart => exact ⟨0, by omega, rfl, rfl, rfl⟩
  case round =>
    obtain ⟨k, hk, rfl, rfl, rfl⟩ := hrel
    by_cases hlt : k < 8
    · have ho := tmA_lt a.toNat_lt b.toNat k hk
      have hbit := u8_bit b k
      have hst : Hid (tmA a.toNat b.toNat (k + 1) = if (b.toNat >>> k) &&& 1 = 1 then tmA a.toNat b.toNat k ^^^ (a.toNat <<< k) else tmA a.toNat b.toNat k) := rfl
      generalize tmA a.toNat b.toNat k = o at *
      generalize hm : (b.toNat >>> k) &&& 1 = m at *
      have hsm : a.toNat * 2 ^ k < 32768 := by
        have h2 : 2 ^ k ≤ 2 ^ 7 := Nat.pow_le_pow_right (by decide) (by omega)
        have := Nat.mul_le_mul (show a.toNat ≤ 255 by have := a.toNat_lt; omega) h2
        exact Nat.lt_of_le_of_lt this (by decide)
      have hxo : bits BinOp.xor IntKind.i64 (o : Int) ((a.toNat : Int) * 2 ^ k) = ((o ^^^ (a.toNat <<< k) : Nat) : Int) := by
        rw [show (a.toNat : Int) * 2 ^ k = ((a.toNat * 2 ^ k : Nat) : Int) by rw [Int.natCast_mul, Int.natCast_pow]; rfl, Nat.shiftLeft_eq]
        exact i64_xorN _ _ (by omega) (by omega)
      have hsi : 0 ≤ (a.toNat : Int) * 2 ^ k ∧ (a.toNat : Int) * 2 ^ k < 32768 := by
        rw [show (a.toNat : Int) * 2 ^ k = ((a.toNat * 2 ^ k : Nat) : Int) by rw [Int.natCast_mul, Int.natCast_pow]; rfl]
        omega
      clear hm hsm
      go_upto_region 6 with (fail)
      · next hb =>
        obtain rfl : m = 1 := by have := beq_iff_eq.1 hb; omega
        go_wp2_with fail
        refine ⟨⟨k + 1, by omega, by simp, ?_, trivial⟩, by simp [intOf]; omega⟩
        rw [hst.out, if_pos rfl]
      · next hb =>
        have hm1 : m ≠ 1 := fun hc => by subst hc; exact absurd hb (by decide)
        refine ⟨⟨k + 1, by omega, by simp, ?_, trivial⟩, by simp [intOf]; omega⟩
        rw [hst.out, if_neg hm1]
    · obtain rfl : k = 8 := by omega
      have ho8 := tmA_lt a.toNat_lt b.toNat 8 hk
      have hfin : Hid ((tmB (tmA a.toNat b.toNat 8) 7 : Nat) % (256 : Int) = by8 R) := by
        rw [← HR.out, ← times_eq, timesR, Hid, by8, UInt8.toNat_ofNat']
        omega
      generalize tmA a.toNat b.toNat 8 = o8 at *
      go_wp2_with fail
      go_loopw [6, 8] (fun vo vk wr2 => ∃ j : Nat, j ≤ 7 ∧ vk = .int .i64 ((14 : Int) - j) ∧ vo = .int .i64 (tmB o8 j : Nat) ∧ wr2 = wr) (fun _ vk _ => (intOf vk).toNat)
      case atStart => exact ⟨0, by omega, rfl, rfl, rfl⟩
      case round =>
        obtain ⟨j, hj, rfl, rfl, rfl⟩ := hrel
        by_cases hlt : j < 7
        · have ho := tmB_lt ho8 j
          have hbit := i64_bit ho (14 - j)
          have hst : Hid (tmB o8 (j + 1) = if (tmB o8 j >>> (14 - j)) &&& 1 = 1 then tmB o8 j ^^^ (285 <<< (6 - j)) else tmB o8 j) := rfl
          generalize tmB o8 j = o at *
          generalize hm : (o >>> (14 - j)) &&& 1 = m at *
          clear hm
          go_upto_region 11 with (fail)
          · next hb =>
            obtain rfl : m = 1 := by have := beq_iff_eq.1 hb; omega
            go_wp2_with fail
            refine ⟨⟨j + 1, by omega, by simp; omega, ?_, trivial⟩, by simp [intOf]; omega⟩
            rw [hst.out, if_pos rfl, show 14 - j - 8 = 6 - j by omega]
            have h2 : 2 ^ (6 - j) ≤ 2 ^ 6 := Nat.pow_le_pow_right (by decide) (by omega)
            have h3 := Nat.mul_le_mul (Nat.le_refl 285) h2
            have h4 : (285 : Int) * 2 ^ (6 - j) = ((285 * 2 ^ (6 - j) : Nat) : Int) := by rw [Int.natCast_mul, Int.natCast_pow]; rfl
            rw [h4, Nat.shiftLeft_eq]
            generalize 285 * 2 ^ (6 - j) = q at *
            rw [show wrap64 (q : Int) = (q : Int) by unfold wrap64; omega, i64_xorN _ _ (by omega) (by omega)]
          · next hb =>
            have hm1 : m ≠ 1 := fun hc => by subst hc; exact absurd hb (by decide)
            refine ⟨⟨j + 1, by omega, by simp; omega, ?_, trivial⟩, by simp [intOf]; omega⟩
            rw [hst.out, if_neg hm1]
        · obtain rfl : j = 7 := by omega
          go_wp2_with fail
          go_ret
          exact ⟨by rw [hfin.out]; rfl, rfl⟩
theorem div_uniq {a b : UInt8} (hb : b ≠ 0) (k : Nat) : mulG (UInt8.ofNat k) b = a ↔ UInt8.ofNat k = divG a b := ⟨fun h => gd_uniq hb h, fun h => by rw [h, gd_mul hb]⟩
set_option maxRecDepth 100000 in
set_option maxHeartbeats 4000000 in
theorem over_any (a b : UInt8) (hb : b ≠ 0) (w : World) : Calls Tryz.prog 163 #[.int .u8 (by8 a), .int .u8 (by8 b)] w (fun e w' => e = .returned (.int .u8 (by8 (divG a b))) ∧ w' = w) := by
  have hB := Lib.hid hb
  clear hb
  go_enter Tryz.func163, Tryz.ntmps163
  go_wp2_with fail
  go_loopw [5] (fun vk wr => ∃ k : Nat, k ≤ (divG a b).toNat ∧ vk = .int .i64 k ∧ wr = w) (fun vk _ => 256 - (intOf vk).toNat)
  case atStart => exact ⟨0, by omega, rfl, rfl⟩
  case round =>
    obtain ⟨k, hk, rfl, rfl⟩ := hrel
    have h256 := (divG a b).toNat_lt
    have hx : IntKind.u8.wrap (k : Int) = by8 (UInt8.ofNat k) := by
      rw [wrap_u8 _ (by omega), by8, UInt8.toNat_ofNat_of_lt' (show k < 256 by omega)]
    have hx2 : (k : Int) % 256 = by8 (UInt8.ofNat k) := by
      rw [by8, UInt8.toNat_ofNat_of_lt' (show k < 256 by omega)]; omega
    have hd : Hid (mulG (UInt8.ofNat k) b = a ↔ k = (divG a b).toNat) := by
      rw [Hid, div_uniq hB.out k]
      constructor
      · intro h; rw [← h, UInt8.toNat_ofNat_of_lt' (show k < 256 by omega)]
      · intro h; rw [h, UInt8.ofNat_toNat]
    obtain ⟨D, hD⟩ : ∃ D, divG a b = D := ⟨_, rfl⟩
    rw [hD] at hd hk h256 ⊢
    go_upto_region 4 with (fail)
    go_wp2_with fail
    refine (times_any (UInt8.ofNat k) b _).mono ?_
    rintro e w2 ⟨rfl, rfl⟩
    go_wp2_with fail
    · next hb =>
      have h1 : k = D.toNat := hd.out.1 (by8_inj (beq_iff_eq.1 hb))
      go_ret
      refine ⟨?_, rfl⟩
      rw [hD, h1, UInt8.ofNat_toNat]
      rfl
    · next hb =>
      have h1 : k ≠ D.toNat := fun hc => by
        rw [hd.out.2 hc] at hb
        simp at hb
      exact ⟨⟨k + 1, by omega, by simp, trivial⟩, by simp [intOf]; omega⟩
end Go.Proofs.YtpkapcijgldhhaaGreatDoor

namespace Go.Proofs.YtpkapcijgldhhaaGreatDoor
open Go.RowKit Go.Shelf
/-- the bytes behind the first k blocks, and the first m bytes of one more -/
def outF (f : Nat → Nat → UInt8) (n k m : Nat) : List UInt8 := (List.range n).map fun i => if i < m then sumX (k + 1) (fun j => f j i) else sumX k (fun j => f j i)
theorem outF_len (f : Nat → Nat → UInt8) (n k m : Nat) : (outF f n k m).length = n := by unfold outF; simp
theorem outF_zero (f : Nat → Nat → UInt8) (n : Nat) : outF f n 0 0 = List.replicate n 0 := by
  unfold outF
  simp only [Nat.not_lt_zero, if_false, sumX]
  apply List.ext_getElem <;> simp
theorem outF_next (f : Nat → Nat → UInt8) (n k : Nat) : outF f n k n = outF f n (k + 1) 0 := by
  apply List.ext_getElem
  · simp [outF]
  · intro i h1 h2
    rw [outF_len] at h1
    simp [outF, h1]
theorem outF_get {f : Nat → Nat → UInt8} {n k m : Nat} (h : m < n) : (outF f n k m)[m]? = some (sumX k fun j => f j m) := by
  unfold outF; rw [List.getElem?_map, List.getElem?_range h]; simp
theorem outF_set (f : Nat → Nat → UInt8) (n k m : Nat) : (outF f n k m).set m (sumX k (fun j => f j m) ^^^ f k m) = outF f n k (m + 1) := by
  apply List.ext_getElem
  · simp [outF]
  · intro i h1 h2
    rw [List.getElem_set]
    simp only [outF, List.getElem_map, List.getElem_range]
    by_cases e : m = i
    · subst e
      rw [if_pos rfl, if_pos (by omega)]; rfl
    · rw [if_neg e]
      by_cases hi : i < m
      · rw [if_pos hi, if_pos (by omega)]
      · rw [if_neg hi, if_neg (by omega)]
theorem conv_u8 (L : List UInt8) (G : Nat) (W : World) (h : Box W G (L.map b8) 5) : (convert 60 9 (.slice (some ⟨G, 0, none⟩) L.length L.length)).run Tryz.prog W = .ok (.string (bA' L)) W := by
  refine run_convert_bytes_back W 60 9 5 ⟨G, 0, none⟩ L.length L Tryz.underlying60 Tryz.underlying5 Tryz.underlying9 (fun j hj => ?_)
  rw [Addr.add_mid, Nat.zero_add, h.cell, List.getElem?_map, List.getElem?_eq_getElem hj]
  rfl
/-- an element of a list of strings -/
def sAt (L : List ByteArray) (k : Nat) : ByteArray := L.getD k ⟨#[]⟩
/-- rows of strings -/
def StAt (w : World) (b o : Nat) (L : List ByteArray) : Prop := ∀ k, k < L.length → w.cell? ⟨b, o + k, none⟩ = some (.string (sAt L k))
theorem StAt.below {w w' : World} {b o : Nat} {L : List ByteArray} (h : StAt w b o L) (hb : Below w.heap.size w w') : StAt w' b o L := fun k hk => by
  rw [hb.cell (World.block_lt_of_cell? w _ (h k hk))]; exact h k hk
def byF (ws : List UInt8) (bs : List ByteArray) (k i : Nat) : UInt8 := mulG (ws.getD k 0) ((sAt bs k).data.toList.getD i 0)
set_option maxRecDepth 100000 in
set_option maxHeartbeats 4000000 in
theorem interp1_any (b o cap B G cw : Nat) (ws : List UInt8) (bs : List ByteArray) (n : Nat) (w : World) (h0 : 0 < bs.length) (h1 : bs.length ≤ 255) (hl : ∀ k, k < bs.length → (sAt bs k).size = n) (hn : n ≤ 1000) (hwl : ws.length = bs.length)
    (hB : Box w B [.slice (some ⟨G, 0, none⟩) ws.length cw] 60) (hG : Box w G (ws.map b8) 5) (hx : StAt w b o bs) :
    Calls Tryz.prog 162 #[.slice (some ⟨b, o, none⟩) bs.length cap, .pointer (some ⟨B, 0, none⟩)] w (fun e w' => e = .returned (.string (bA' (outF (byF ws bs) n bs.length 0))) ∧ Below w.heap.size w w') := by
  have hmk := Lib.hid (make_u8 n (by omega) w)
  have k0 : Below w.heap.size w (w.alloc (.cells ((List.replicate n (0 : UInt8)).map b8).toArray 5)) := (Below.refl _ _).alloc (Nat.le_refl _) _
  have bO := Box.new w ((List.replicate n (0 : UInt8)).map b8) 5
  have c0 : w.cell? ⟨b, o, none⟩ = some (.string (sAt bs 0)) := hx 0 h0
  have hl0 := hl 0 h0
  have HBG : w.heap.size ≠ B ∧ w.heap.size ≠ G := by have h1 := hB.lt; have h2 := hG.lt; omega
  generalize w.alloc (.cells ((List.replicate n (0 : UInt8)).map b8).toArray 5) = W0 at *
  have hmk0 := hmk.out
  generalize hs0 : sAt bs 0 = s0 at *
  clear hs0
  have h0i : (0 : Int) < (bs.length : Int) := by omega
  go_enter Tryz.func162, Tryz.ntmps162
  go_wp2_with fail
  rw [← outF_zero (byF ws bs) n] at bO
  have hX := Lib.hid (fun W (hW : Below w.heap.size w W) => hx.below hW)
  have HB := Lib.hid (fun W (hW : Below w.heap.size w W) => hB.below hW)
  have HG := Lib.hid (fun W (hW : Below w.heap.size w W) => hG.below hW)
  have hL := Lib.hid hl
  clear hmk hmk0 hx hB hG hl hl0 c0
  go_loopw [15] (fun v wr => ∃ k : Nat, k ≤ bs.length ∧ v = .int .i64 k ∧ Below w.heap.size w wr ∧ Box wr w.heap.size ((outF (byF ws bs) n k 0).map b8) 5) (fun v _ => bs.length - (intOf v).toNat)
  case atStart => exact ⟨0, by omega, rfl, k0, bO⟩
  case round =>
    clear k0 bO
    obtain ⟨k, hk, rfl, kb, bO⟩ := hrel
    by_cases hlt : k < bs.length
    · have cs : wr.cell? ⟨b, o + k, none⟩ = some (.string (sAt bs k)) := hX.out _ kb k hlt
      have hsz := hL.out k hlt
      have hby : Hid (∀ i, byF ws bs k i = mulG (ws.getD k 0) ((sAt bs k).data.toList.getD i 0)) := fun i => rfl
      have hix : (0 : Int) ≤ (k : Int) ∧ (k : Int) < (bs.length : Int) := by omega
      generalize sAt bs k = s at *
      go_wp2_with fail
      go_loopw [22] (fun vj wq => ∃ m : Nat, m ≤ n ∧ vj = .int .i64 m ∧ Below w.heap.size w wq ∧ Box wq w.heap.size ((outF (byF ws bs) n k m).map b8) 5) (fun vj _ => n - (intOf vj).toNat)
      case atStart => exact ⟨0, by omega, rfl, kb, bO⟩
      case round =>
        clear kb bO cs
        obtain ⟨m, hm, rfl, kb, bO⟩ := hrel
        by_cases hmt : m < n
        · have cB : wr.cell? ⟨B, 0, none⟩ = some (.slice (some ⟨G, 0, none⟩) ws.length cw) := (HB.out _ kb).cell 0
          have cG : wr.cell? ⟨G, k, none⟩ = some (.int .u8 (by8 (ws.getD k 0))) := by rw [(HG.out _ kb).cell, List.getElem?_map, List.getElem?_eq_getElem (by omega), gf_get (by omega)]; rfl
          have cO : wr.cell? ⟨w.heap.size, m, none⟩ = some (.int .u8 (by8 (sumX k fun j => byF ws bs j m))) := by rw [bO.cell, List.getElem?_map, outF_get hmt]; rfl
          have fO := bO.frozen m
          have hms : m < s.size := by omega
          have hmi : (m : Int) < (s.size : Int) := by omega
          have hwk : (k : Int) < (ws.length : Int) := by omega
          have hmn : (0 : Int) ≤ (m : Int) ∧ (m : Int) < (n : Int) := by omega
          have hset := Lib.hid (outF_set (byF ws bs) n k m)
          rw [hby.out m, getD_list s m hms] at hset
          generalize ws.getD k 0 = wk at *
          generalize sumX k (fun j => byF ws bs j m) = sk at *
          have HM := Lib.hid (fun W => mulG_any wk s[m] W)
          have HA := Lib.hid (fun W => add_any sk (mulG wk s[m]) W)
          go_upto_region 7 with (fail)
          go_upto_region 8 with (fail)
          have kb' : Below w.heap.size w (wr.setCell ⟨w.heap.size, m, none⟩ (.int .u8 (by8 (sk ^^^ mulG wk s[m])))) := kb.setCell (p := ⟨w.heap.size, m, none⟩) (Nat.le_refl _) _
          have bO' : Box (wr.setCell ⟨w.heap.size, m, none⟩ (.int .u8 (by8 (sk ^^^ mulG wk s[m])))) w.heap.size ((outF (byF ws bs) n k (m + 1)).map b8) 5 := by
            have := bO.set (j := m) (.int .u8 (by8 (sk ^^^ mulG wk s[m])))
            rw [show (Value.int .u8 (by8 (sk ^^^ mulG wk s[m]))) = b8 (sk ^^^ mulG wk s[m]) from rfl, ← List.map_set, hset.out] at this
            exact this
          have KB := Lib.hid kb'
          have BO := Lib.hid bO'
          clear kb' bO' hset hby kb bO hX HB HG hL
          go_region_with (first
            | (go_at_call 159; refine (HM.out _).mono ?_; rintro e w1 ⟨rfl, rfl⟩)
            | (go_at_call 160; refine (HA.out _).mono ?_; rintro e w1 ⟨rfl, rfl⟩))
          all_goals
            go_wp2_with fail
            go_roundw
            case rel => exact ⟨m + 1, by omega, by go_num, below_drewN KB.out _, BO.out⟩
            case measure => simp [intOf]; omega
        · obtain rfl : m = n := by omega
          rw [outF_next] at bO
          go_wp2_with fail
          go_roundw
          case rel => exact ⟨k + 1, by omega, by go_num, kb, bO⟩
          case measure => simp [intOf]; omega
    · obtain rfl : k = bs.length := by omega
      have hcv := conv_u8 _ _ _ bO
      rw [outF_len] at hcv
      go_wp2_with fail
      go_ret
      exact ⟨rfl, kb⟩
end Go.Proofs.YtpkapcijgldhhaaGreatDoor

namespace Go.Proofs.YtpkapcijgldhhaaGreatDoor
open Go.RowKit Go.Shelf
theorem outF_at {xs : List UInt8} (hd : xs.Nodup) (bs : List ByteArray) (x : UInt8) (n : Nat) : outF (byF (wtsF xs x xs.length) bs) n xs.length 0 = lagL xs (bs.map fun t => t.data.toList) n x := by
  unfold outF lagL
  apply List.map_congr_left
  intro i _
  simp only [Nat.not_lt_zero, if_false]
  unfold lagG
  refine sumX_congr fun k hk => ?_
  unfold byF
  have h1 : (wtsF xs x xs.length).getD k 0 = wtG xs k x xs.length := by
    rw [wt_above x _ fun i hi hne => gf_apart hd hi hk hne, gf_get (by rw [wtsF_len]; exact hk)]
    simp only [wtsF, List.getElem_map, List.getElem_range, if_pos hk]
  have h2 : (bs.map fun t => t.data.toList).getD k [] = (sAt bs k).data.toList := by
    unfold sAt
    rw [List.getD_eq_getElem?_getD, List.getD_eq_getElem?_getD, List.getElem?_map]
    cases bs[k]? <;> rfl
  show mulG _ _ = mulG _ (((bs.map fun t => t.data.toList).getD k []).getD i 0)
  rw [h1, h2]
set_option maxRecDepth 100000 in
set_option maxHeartbeats 4000000 in
theorem block72_any (gx ox cx gb ob cb : Nat) (xs : List UInt8) (bs : List ByteArray) (n : Nat) (i : Int) (x : UInt8) (w : World) (hd : xs.Nodup) (hl : bs.length = xs.length) (h0 : 0 < xs.length) (h1 : xs.length ≤ 255) (hn : n ≤ 1000) (hs : ∀ k, k < bs.length → (sAt bs k).size = n)
    (hx : ByAt w gx ox xs) (hb : StAt w gb ob bs) (hi : IntKind.u8.wrap i = by8 x) :
    Calls Tryz.prog 72 #[.agg #[.slice (some ⟨gx, ox, none⟩) xs.length cx, .slice (some ⟨gb, ob, none⟩) bs.length cb], .int .i64 i] w (fun e w' => e = .returned (.string (bA' (lagL xs (bs.map fun t => t.data.toList) n x))) ∧ Below w.heap.size w w') := by
  have HI := Lib.hid (show ∀ W, Below w.heap.size w W → _ from fun W hW => interp_any gx ox cx xs x W h1 (hx.below hW))
  have H1 := Lib.hid (show ∀ B G W, Below w.heap.size w W → Box W B [.slice (some ⟨G, 0, none⟩) xs.length xs.length] 60 → Box W G ((wtsF xs x xs.length).map b8) 5 → _ from fun B G W hW hB hG => interp1_any gb ob cb B G xs.length (wtsF xs x xs.length) bs n W (by omega) (by omega) hs hn (by rw [wtsF_len, hl]) (by rw [wtsF_len]; exact hB) hG (hb.below hW))
  have HO := Lib.hid (outF_at hd bs x n)
  have eg := enters_of Tryz.func162 (by kernel_rfl) rfl
  have HLn := Lib.hid hl
  clear hx hb hs hd hl
  obtain ⟨kb0, bS⟩ := boxr' w [.slice (some ⟨gx, ox, none⟩) xs.length cx, .slice (some ⟨gb, ob, none⟩) bs.length cb] 126
  go_enter Tryz.func72, Tryz.ntmps72
  go_upto_region 1 with (fail)
  change Code.wp _ _ _ _ (w.alloc (.cells [.slice (some ⟨gx, ox, none⟩) xs.length cx, .slice (some ⟨gb, ob, none⟩) bs.length cb].toArray 126))
  generalize w.alloc (.cells [.slice (some ⟨gx, ox, none⟩) xs.length cx, .slice (some ⟨gb, ob, none⟩) bs.length cb].toArray 126) = W0 at *
  have c0 : W0.drew.cell? ⟨w.heap.size, 0, none⟩ = some (.slice (some ⟨gx, ox, none⟩) xs.length cx) := bS.cell 0
  have c1 : W0.drew.cell? ⟨w.heap.size, 1, none⟩ = some (.slice (some ⟨gb, ob, none⟩) bs.length cb) := bS.cell 1
  have cS0 := And.intro c0 c1
  have kd := below_drew0 kb0
  have bSd : Box W0.drew w.heap.size [.slice (some ⟨gx, ox, none⟩) xs.length cx, .slice (some ⟨gb, ob, none⟩) bs.length cb] 126 := bS
  go_region_held3 (fun W => W.cell? ⟨w.heap.size, 0, none⟩ = some (.slice (some ⟨gx, ox, none⟩) xs.length cx) ∧ W.cell? ⟨w.heap.size, 1, none⟩ = some (.slice (some ⟨gb, ob, none⟩) bs.length cb))
    (with_reducible assumption)
    (first
      | (go_at_call 121; refine (HI.out _ kd).mono ?_; rintro e w2 ⟨G, B, rfl, hB, hG, _, _, hb2⟩; have cS2 := (bSd.below hb2).cells2)
      | (go_at_call 162; refine (H1.out B G w2 (step2 kd hb2) hB hG).mono ?_; rintro e w3 ⟨rfl, hb3⟩; have cS3 := ((bSd.below hb2).below hb3).cells2))
  all_goals
    have hF := step2 (step2 kd hb2) hb3
    rw [HLn.out, HO.out]
    clear HI H1 HO bS bSd c0 c1 cS2 cS3 hB hG
    go_wp2_with fail
    go_ret
    exact ⟨rfl, hF⟩
end Go.Proofs.YtpkapcijgldhhaaGreatDoor

namespace Go.Proofs.YtpkapcijgldhhaaGreatDoor
open Go.RowKit Go.Shelf
set_option maxRecDepth 100000 in
set_option maxHeartbeats 4000000 in
theorem weight_any (b o cap : Nat) (xs : List UInt8) (k : Nat) (hk : k < xs.length) (x : UInt8) (w : World) (hn : xs.length ≤ 255) (hd : xs.Nodup) (hx : ByAt w b o xs) :
    Calls Tryz.prog 122 #[.slice (some ⟨b, o, none⟩) xs.length cap, .int .i64 k, .int .u8 (by8 x)] w (fun e w' => e = .returned (.int .u8 (by8 (wtG xs k x xs.length))) ∧ Below w.heap.size w w') := by
  have hX := Lib.hid (fun W (hW : Below w.heap.size w W) => hx.below hW)
  have hD := Lib.hid hd
  clear hx hd
  go_enter Tryz.func122, Tryz.ntmps122
  go_wp2_with fail
  go_loopw [7, 8] (fun vo vi wr => ∃ m : Nat, m ≤ xs.length ∧ vi = .int .i64 m ∧ vo = .int .u8 (by8 (wtG xs k x m)) ∧ Below w.heap.size w wr) (fun _ vi _ => xs.length - (intOf vi).toNat)
  case atStart => exact ⟨0, by omega, rfl, rfl, Below.refl _ _⟩
  case round =>
    obtain ⟨m, hm, rfl, rfl, kb⟩ := hrel
    by_cases hmt : m < xs.length
    · have ck : wr.cell? ⟨b, o + k, none⟩ = some (.int .u8 (by8 (xs.getD k 0))) := hX.out _ kb k hk
      have cm : wr.cell? ⟨b, o + m, none⟩ = some (.int .u8 (by8 (xs.getD m 0))) := hX.out _ kb m hmt
      by_cases hkm : m = k
      · have y : ((m : Int) != (k : Int)) = false := by rw [hkm]; simp
        have h1 : Hid (wtG xs k x (m + 1) = wtG xs k x m) := by rw [Hid, wtG, if_pos hkm]
        clear ck cm hkm
        go_wp2_with fail
        go_roundw
        case rel => exact ⟨m + 1, by omega, by go_num, by rw [h1.out], kb⟩
        case measure => simp [intOf]; omega
      · have y : ((m : Int) != (k : Int)) = true := by rw [bne_iff_ne]; omega
        have h1 : Hid (wtG xs k x (m + 1) = mulG (wtG xs k x m) (divG (x ^^^ xs.getD m 0) (xs.getD k 0 ^^^ xs.getD m 0))) := by rw [Hid, wtG, if_neg hkm]
        have hne : xs.getD k 0 ^^^ xs.getD m 0 ≠ 0 := fun h => gf_apart hD.out hmt hk hkm (x_eq_zero h)
        have hix : (0 : Int) ≤ (k : Int) ∧ (k : Int) < (xs.length : Int) := by omega
        have hx1 := u8_xor x (xs.getD m 0)
        have hx2 := u8_xor (xs.getD k 0) (xs.getD m 0)
        generalize wtG xs k x m = A1 at *
        generalize xs.getD k 0 = xk at *
        generalize xs.getD m 0 = xm at *
        have HO := Lib.hid (fun W => over_any (x ^^^ xm) (xk ^^^ xm) hne W)
        have HT := Lib.hid (fun W => times_any A1 (divG (x ^^^ xm) (xk ^^^ xm)) W)
        clear hkm hne
        go_upto_region 6 with (fail)
        go_region_with (first
          | (go_at_call 163; refine (HO.out _).mono ?_; rintro e w2 ⟨rfl, rfl⟩)
          | (go_at_call 123; refine (HT.out _).mono ?_; rintro e w2 ⟨rfl, rfl⟩))
        all_goals
          clear HO HT ck cm
          go_wp2_with fail
          go_roundw
          case rel => exact ⟨m + 1, by omega, by go_num, by rw [h1.out], below_drewN kb _⟩
          case measure => simp [intOf]; omega
    · obtain rfl : m = xs.length := by omega
      go_wp2_with fail
      go_ret
      exact ⟨rfl, kb⟩
end Go.Proofs.YtpkapcijgldhhaaGreatDoor

namespace Go.Proofs.YtpkapcijgldhhaaGreatDoor
open Go.RowKit Go.Shelf
def byW (xs : List UInt8) (x : UInt8) (bs : List ByteArray) (k i : Nat) : UInt8 := mulG (wtG xs k x xs.length) ((sAt bs k).data.toList.getD i 0)
theorem outW_at (xs : List UInt8) (bs : List ByteArray) (x : UInt8) (n : Nat) : outF (byW xs x bs) n xs.length 0 = lagL xs (bs.map fun t => t.data.toList) n x := by
  unfold outF lagL
  apply List.map_congr_left
  intro i _
  simp only [Nat.not_lt_zero, if_false]
  unfold lagG
  refine sumX_congr fun k hk => ?_
  unfold byW
  have h2 : (bs.map fun t => t.data.toList).getD k [] = (sAt bs k).data.toList := by
    unfold sAt
    rw [List.getD_eq_getElem?_getD, List.getD_eq_getElem?_getD, List.getElem?_map]
    cases bs[k]? <;> rfl
  show mulG _ _ = mulG _ (((bs.map fun t => t.data.toList).getD k []).getD i 0)
  rw [h2]
set_option maxRecDepth 100000 in
set_option maxHeartbeats 4000000 in
theorem at_any (gx ox cx b o cap : Nat) (xs : List UInt8) (x : UInt8) (bs : List ByteArray) (n : Nat) (w : World) (h0 : 0 < bs.length) (h1 : bs.length ≤ 255) (hl : ∀ k, k < bs.length → (sAt bs k).size = n) (hn : n ≤ 1000) (hwl : xs.length = bs.length) (hd : xs.Nodup)
    (hxs : ByAt w gx ox xs) (hx : StAt w b o bs) :
    Calls Tryz.prog 75 #[.slice (some ⟨gx, ox, none⟩) xs.length cx, .slice (some ⟨b, o, none⟩) bs.length cap, .int .u8 (by8 x)] w (fun e w' => e = .returned (.string (bA' (lagL xs (bs.map fun t => t.data.toList) n x))) ∧ Below w.heap.size w w') := by
  have hmk := Lib.hid (make_u8 n (by omega) w)
  have k0 : Below w.heap.size w (w.alloc (.cells ((List.replicate n (0 : UInt8)).map b8).toArray 5)) := (Below.refl _ _).alloc (Nat.le_refl _) _
  have bO := Box.new w ((List.replicate n (0 : UInt8)).map b8) 5
  have c0 : w.cell? ⟨b, o, none⟩ = some (.string (sAt bs 0)) := hx 0 h0
  have hl0 := hl 0 h0
  generalize w.alloc (.cells ((List.replicate n (0 : UInt8)).map b8).toArray 5) = W0 at *
  have hmk0 := hmk.out
  generalize hs0 : sAt bs 0 = s0 at *
  clear hs0
  have h0i : (0 : Int) < (bs.length : Int) := by omega
  have h0n : ((bs.length : Int) == 0) = false := by rw [beq_eq_false_iff_ne]; omega
  have hWL := Lib.hid hwl
  have HW := Lib.hid (fun (k : Nat) (hk : k < bs.length) W (hW : Below w.heap.size w W) => weight_any gx ox cx xs k (by omega) x W (by omega) hd (hxs.below hW))
  have HF := Lib.hid (outW_at xs bs x n)
  obtain ⟨N1, hN1⟩ : ∃ N1, xs.length = N1 := ⟨_, rfl⟩
  rw [hN1]
  have HN := Lib.hid hN1
  have hb0 : bs.length = N1 := hwl.symm.trans hN1
  have HB0 := Lib.hid hb0
  have hN255 : N1 ≤ 255 := by omega
  clear hwl hd hxs hN1 hb0
  go_enter Tryz.func75, Tryz.ntmps75
  go_upto_region 3 with (fail)
  go_wp2_with fail
  rw [← outF_zero (byW xs x bs) n] at bO
  have hX := Lib.hid (fun W (hW : Below w.heap.size w W) => hx.below hW)
  have hL := Lib.hid hl
  clear hmk hmk0 hx hl hl0 c0
  clear h0n h0i
  go_loopw [8] (fun v wr => ∃ k : Nat, k ≤ N1 ∧ v = .int .i64 k ∧ Below w.heap.size w wr ∧ Box wr w.heap.size ((outF (byW xs x bs) n k 0).map b8) 5) (fun v _ => N1 - (intOf v).toNat)
  case atStart => exact ⟨0, by omega, rfl, k0, bO⟩
  case round =>
    clear k0 bO
    obtain ⟨k, hk, rfl, kb, bO⟩ := hrel
    by_cases hlt : k < N1
    · have hkb : k < bs.length := by rw [HB0.out]; exact hlt
      have hw := Lib.hid (HW.out k hkb wr kb)
      have hsz := hL.out k hkb
      have hkx : Hid ((0 : Int) ≤ (k : Int) ∧ (k : Int) < (bs.length : Int)) := by rw [Hid]; omega
      clear hkb
      go_wp2_with fail
      refine (by have := hw.out; rw [HN.out] at this; exact this : Calls _ _ _ _ _).mono ?_
      rintro e w2 ⟨rfl, hb2⟩
      clear hw
      have kb2 := step2 kb hb2
      have bO2 := bO.below hb2
      clear kb bO hb2
      go_wp2_with fail
      generalize hwk : wtG xs k x N1 = wk at *
      have hby : Hid (∀ i, byW xs x bs k i = mulG wk ((sAt bs k).data.toList.getD i 0)) := fun i => by rw [← hwk, byW, HN.out]
      clear hwk
      generalize hsk : sAt bs k = s at *
      have hX2 := Lib.hid (fun W (hW : Below w.heap.size w W) => show W.cell? ⟨b, o + k, none⟩ = some (.string s) from by rw [← hsk]; exact hX.out W hW k (by rw [HB0.out]; exact hlt))
      clear hsk hX HW
      go_loopw [10] (fun vj wq => ∃ m : Nat, m ≤ n ∧ vj = .int .i64 m ∧ Below w.heap.size w wq ∧ Box wq w.heap.size ((outF (byW xs x bs) n k m).map b8) 5) (fun vj _ => n - (intOf vj).toNat)
      case atStart => exact ⟨0, by omega, rfl, kb2, bO2⟩
      case round =>
        clear kb2 bO2
        obtain ⟨m, hm, rfl, kb, bO⟩ := hrel
        by_cases hmt : m < n
        · have cS : wr.cell? ⟨b, o + k, none⟩ = some (.string s) := hX2.out _ kb
          have cO : wr.cell? ⟨w.heap.size, m, none⟩ = some (.int .u8 (by8 (sumX k fun j => byW xs x bs j m))) := by rw [bO.cell, List.getElem?_map, outF_get hmt]; rfl
          have fO := bO.frozen m
          have hms : m < s.size := by omega
          have hmi : (m : Int) < (s.size : Int) := by omega
          have hkx1 := hkx.out
          have hmn : (0 : Int) ≤ (m : Int) ∧ (m : Int) < (n : Int) := by omega
          have hset := Lib.hid (outF_set (byW xs x bs) n k m)
          rw [hby.out m, getD_list s m hms] at hset
          generalize sumX k (fun j => byW xs x bs j m) = sk at *
          have hxo := u8_xor sk (mulG wk s[m])
          have HM := Lib.hid (fun W => times_any wk s[m] W)
          have kb' : Below w.heap.size w (wr.setCell ⟨w.heap.size, m, none⟩ (.int .u8 (by8 (sk ^^^ mulG wk s[m])))) := kb.setCell (p := ⟨w.heap.size, m, none⟩) (Nat.le_refl _) _
          have bO' : Box (wr.setCell ⟨w.heap.size, m, none⟩ (.int .u8 (by8 (sk ^^^ mulG wk s[m])))) w.heap.size ((outF (byW xs x bs) n k (m + 1)).map b8) 5 := by
            have := bO.set (j := m) (.int .u8 (by8 (sk ^^^ mulG wk s[m])))
            rw [show (Value.int .u8 (by8 (sk ^^^ mulG wk s[m]))) = b8 (sk ^^^ mulG wk s[m]) from rfl, ← List.map_set, hset.out] at this
            exact this
          have KB := Lib.hid kb'
          have BO := Lib.hid bO'
          clear kb' bO' hset hby kb bO hX2 hL hWL HF HN HB0 hkx
          go_upto_region 11 with (fail)
          go_region_with (first
            | (go_at_call 123; refine (HM.out _).mono ?_; rintro e w1 ⟨rfl, rfl⟩))
          all_goals
            go_wp2_with fail
            go_roundw
            case rel => exact ⟨m + 1, by omega, by go_num, below_drewN KB.out _, BO.out⟩
            case measure => simp [intOf]; omega
        · obtain rfl : m = n := by omega
          rw [outF_next] at bO
          go_wp2_with fail
          go_roundw
          case rel => exact ⟨k + 1, by omega, by go_num, kb, bO⟩
          case measure => simp [intOf]; omega
    · obtain rfl : k = N1 := by omega
      have hcv := conv_u8 _ _ _ bO
      rw [outF_len] at hcv
      go_wp2_with fail
      go_ret
      refine ⟨?_, kb⟩
      rw [← HF.out, HN.out]
      rfl
end Go.Proofs.YtpkapcijgldhhaaGreatDoor
