/-
  The walks of the reference's check of attributes, and of Same and Great.
-/
import Derived.Test.YtpkapcijgldhhaaGreatDoorAttrW
namespace Go.Proofs.YtpkapcijgldhhaaGreatDoor
open Go.RowKit Go.Shelf

theorem attrCheck_any (v : Value) (A : List At) (w : World) (hr : AtRow w v A) (hok : ∀ i, AtOk (atAt A i)) :
    Calls Tryz.prog 183 #[v] w (IntP (attrsE A) w) := by
  obtain ⟨hmax, hr⟩ := hr
  unfold maxLen at hmax
  by_cases h16 : 16 < A.length
  · have hv : ∃ a cap, v = .slice a A.length cap := by
      rcases hr with ⟨rfl, a, cap, rfl, _⟩ | ⟨_, b, o, cap, rfl, _⟩
      · exact ⟨a, cap, rfl⟩
      · exact ⟨_, cap, rfl⟩
    have HR : Hid (attrsE A = 6) := by rw [Hid, attrsE, if_pos h16]
    obtain ⟨a, cap, rfl⟩ := hv
    clear hr hok
    generalize A.length = n at *
    go_enter Tryz.func183, Tryz.ntmps183
    go_wp2_with fail
    go_ret
    exact ⟨ret_int HR.out.symm, below_refl _⟩
  rcases hr with ⟨rfl, a, cap, rfl, _⟩ | ⟨h0, b, o, cap, rfl, _, _, hb, hA⟩
  · have HR : Hid (attrsE [] = 0) := rfl
    clear hok
    go_enter Tryz.func183, Tryz.ntmps183
    go_wp2_with fail
    refine wp_loop_rounds 1 ?_; rw [rounds_succ]
    go_wp2_with fail
    go_ret
    exact ⟨ret_int HR.out.symm, below_refl _⟩
  · exact attrs1 b o cap A w h0 h16 hb hA hok

set_option maxHeartbeats 1000000 in
theorem refKey_any (s : ByteArray) (w : World) (hs : s.size ≤ 1000000) : Calls Tryz.prog 167 #[.string s] w (BoolS (keyB s.data.toList) w) := by
  by_cases h1 : s.size < 1 ∨ 32 < s.size
  · have HK : Hid (keyB s.data.toList = false) := by
      rw [Hid, keyB_of]
      rcases h1 with h | h
      · rw [decide_eq_false (show ¬ 1 ≤ s.size by omega)]; rfl
      · rw [decide_eq_false (show ¬ s.size ≤ 32 by omega)]; simp
    by_cases h2 : s.size < 1
    · clear h1
      go_enter Tryz.func167, Tryz.ntmps167
      go_wp2_with fail
      go_ret
      exact ⟨ret_bool HK.out.symm, rfl⟩
    · have h3 : 32 < s.size := by omega
      clear h1
      go_enter Tryz.func167, Tryz.ntmps167
      go_wp2_with fail
      go_ret
      exact ⟨ret_bool HK.out.symm, rfl⟩
  have hlo : 1 ≤ s.size := by omega
  have hhi : s.size ≤ 32 := by omega
  have HK := Lib.hid (keyB_of s)
  rw [decide_eq_true hlo, decide_eq_true hhi, Bool.true_and, Bool.true_and] at HK
  clear h1
  go_enter Tryz.func167, Tryz.ntmps167
  go_wp2_with fail
  go_loop [3] (fun i => ∃ k : Nat, k ≤ s.size ∧ i = .int .i64 k ∧ Hid ((s.data.toList.take k).all okC = true)) (fun i => s.size - (intOf i).toNat)
  case atStart => exact ⟨0, by omega, rfl, rfl⟩
  case round =>
    obtain ⟨k, hk, rfl, hA⟩ := hrel
    by_cases hlt : k < s.size
    · have HT := Lib.hid (all_take_c s k hlt)
      have HB := Lib.hid (all_hit_c s k hlt)
      have H3 := Lib.hid (okC_int s[k])
      have hb : s[k].toNat < 256 := s[k].toNat_lt
      have HG := Lib.hid (show okC s[k] = true → (s.data.toList.take (k + 1)).all okC = true from fun h => by rw [HT.out, hA.out, h]; rfl)
      have HF := Lib.hid (show okC s[k] = false → false = keyB s.data.toList from fun h => by rw [HK.out, HB.out h])
      clear HT HB
      go_wp2_with fail
      all_goals first
        | (go_round
           case rel =>
             refine ⟨k + 1, by omega, by go_num, HG.out ?_⟩
             rw [H3.out]
             clear HG HF H3
             simp
             try simp only [bne_eq_false_iff_eq] at *
             omega
           case measure => simp [intOf]; omega)
        | (go_ret
           refine ⟨ret_bool (HF.out ?_), rfl⟩
           rw [H3.out]
           clear HG HF H3
           simp
           try simp only [bne_iff_ne, ne_eq] at *
           omega)
    · have ht : s.data.toList.take k = s.data.toList := List.take_of_length_le (by rw [toList_size]; omega)
      rw [ht] at hA
      clear ht
      go_wp2_with fail
      go_ret
      exact ⟨ret_bool (by rw [HK.out, hA.out]), rfl⟩
theorem cmp_eq0 : ∀ (a b : List UInt8), (b == a) = decide (Lib.compareBytes a b = 0)
  | [], [] => rfl
  | [], _ :: _ => rfl
  | _ :: _, [] => rfl
  | a :: r, b :: s => by
    have ih := cmp_eq0 r s
    rw [Lib.compareBytes, List.cons_beq_cons]
    by_cases h1 : a < b
    · have : ¬ b = a := fun e => by subst e; exact absurd h1 (UInt8.lt_irrefl _)
      simp [h1, this]
    · by_cases h2 : b < a
      · have : ¬ b = a := fun e => by subst e; exact absurd h2 (UInt8.lt_irrefl _)
        simp [h1, h2, this]
      · have : b = a := UInt8.le_antisymm (UInt8.not_lt.1 h1) (UInt8.not_lt.1 h2)
        subst this
        simp only [h1, if_false, beq_self_eq_true, Bool.true_and]
        exact ih
theorem cmp_less : ∀ (a b : List UInt8), Op.bytesLess b a = decide (Lib.compareBytes a b = 1)
  | [], [] => rfl
  | [], _ :: _ => rfl
  | _ :: _, [] => rfl
  | a :: r, b :: s => by
    have ih := cmp_less r s
    rw [Lib.compareBytes, Op.bytesLess]
    by_cases h1 : a < b
    · have h3 : ¬ b < a := fun e => absurd (UInt8.lt_trans h1 e) (UInt8.lt_irrefl _)
      have : ¬ b = a := fun e => by subst e; exact absurd h1 (UInt8.lt_irrefl _)
      simp [h1, h3, this]
    · by_cases h2 : b < a
      · simp [h1, h2]
      · have : b = a := UInt8.le_antisymm (UInt8.not_lt.1 h1) (UInt8.not_lt.1 h2)
        subst this
        simp only [h1, if_false, beq_self_eq_true, Bool.true_and, decide_false, Bool.false_or]
        exact ih
set_option maxRecDepth 100000 in
set_option maxHeartbeats 2000000 in
theorem refAttrs1 (b o cap : Nat) (A : List At) (w : World) (h0 : 0 < A.length) (h16 : ¬ 16 < A.length) (hb : b < w.heap.size) (hA : AtAt w b o A) (hok : ∀ i, AtOk (atAt A i)) :
    Calls Tryz.prog 131 #[.slice (some ⟨b, o, none⟩) A.length cap] w (IntP (attrsE A) w) := by
  have HC := Lib.hid hA
  have HOK := Lib.hid hok
  clear hA hok
  go_enter Tryz.func131, Tryz.ntmps131
  go_wp2_with fail
  go_loopw [3] (fun i wr => ∃ k : Nat, k ≤ A.length ∧ i = .int .i64 k ∧ Hid (firstE (attrE A) k = 0) ∧ Below w.heap.size w wr) (fun i _ => A.length - (intOf i).toNat)
  case atStart => exact ⟨0, by omega, rfl, rfl, below_refl _⟩
  case round =>
    obtain ⟨k, hk, rfl, hE, hbw⟩ := hrel
    by_cases hlt : k < A.length
    · have HCr := Lib.hid (show AtAt wr b o A from HC.out.below hbw hb)
      obtain ⟨c0, c1⟩ := atCells HCr.out hlt
      have hx := HOK.out k
      have HX := Lib.hid (fun w => refKey_any (atAt A k).key w hx.key)
      have hxv := hx.value
      have HA : Hid (attrOne (atAt A k).key (atAt A k).value = if keyB (atAt A k).key.data.toList = false then 7 else if 64 < (atAt A k).value.size then 6 else 0) := rfl
      have S1 := Lib.hid (fun e => @attrE_bad A k e)
      have S2 := Lib.hid (fun e => @attrsE_stop A k e h16 hE.out hlt)
      have S3 := Lib.hid (fun h : attrE A k = 0 => firstE_next hE.out h)
      have S4 := Lib.hid (fun h : k = 0 => show attrOne (atAt A k).key (atAt A k).value = 0 → attrE A k = 0 from by subst h; exact attrE_first)
      have S5 := Lib.hid (fun m (h : k = m + 1) => show attrOne (atAt A k).key (atAt A k).value = 0 → attrE A k = attrTwo (atAt A m).key (atAt A k).key from by subst h; exact attrE_next)
      generalize (atAt A k).key = kk at *
      generalize (atAt A k).value = kv at *
      by_cases hkb : keyB kk.data.toList = false
      · rw [if_pos hkb] at HA
        have HR := Lib.hid (S2.out _ (S1.out _ HA.out (by decide)) (by decide))
        rw [hkb] at HX
        clear hkb S1 S2 S3 S4 S5 hE HCr hx HA
        go_wp2_with fail
        refine (HX.out _).mono ?_
        rintro e w2 ⟨rfl, rfl⟩
        go_wp2_with fail
        go_ret
        exact ⟨ret_int HR.out.symm, hbw⟩
      rw [if_neg hkb] at HA
      rw [show keyB kk.data.toList = true from by simpa using hkb] at HX
      clear hkb
      by_cases h64 : 64 < kv.size
      · rw [if_pos h64] at HA
        have HR := Lib.hid (S2.out _ (S1.out _ HA.out (by decide)) (by decide))
        clear S1 S2 S3 S4 S5 hE HCr hx HA
        go_wp2_with fail
        refine (HX.out _).mono ?_
        rintro e w2 ⟨rfl, rfl⟩
        go_wp2_with fail
        go_ret
        exact ⟨ret_int HR.out.symm, hbw⟩
      rw [if_neg h64] at HA
      clear S1
      by_cases hk0 : k = 0
      · have HE2 := Lib.hid (S3.out (S4.out hk0 HA.out))
        subst hk0
        simp only [Nat.zero_mul, Nat.add_zero] at c0 c1
        clear S2 S3 S4 S5 hE HCr hx HA
        go_wp2_with fail
        refine (HX.out _).mono ?_
        rintro e w2 ⟨rfl, rfl⟩
        go_upto_region 10 with (fail)
        go_quiet (fail)
        go_wp2_with fail
        go_quiet (fail)
        go_wp2_with fail
        go_roundw
        case rel => exact ⟨0 + 1, by omega, by go_num, HE2, below_drewN hbw _⟩
        case measure => simp [intOf]; omega
      · obtain ⟨m, hm⟩ : ∃ m, k = m + 1 := ⟨k - 1, by omega⟩
        have H5 := Lib.hid (S5.out m hm HA.out)
        obtain ⟨d0, _⟩ := atCells HCr.out (i := m) (by omega)
        generalize (atAt A m).key = kp at *
        subst hm
        clear S4 S5 hE HCr hx HA
        have HT : Hid (attrTwo kp kk = if Lib.compareBytes kp.data.toList kk.data.toList = 0 then 8 else if Lib.compareBytes kp.data.toList kk.data.toList = 1 then 14 else 0) := rfl
        have wm : IntKind.i64.wrap (m : Int) = m := IntWalk.i64_in _ (by omega)
        have wm1 : IntKind.i64.wrap (((m + 1 : Nat) : Int) - 1) = m := by rw [show ((m + 1 : Nat) : Int) - 1 = m from by omega]; exact wm
        have hml : (m : Int) < (A.length : Int) := by omega
        go_wp2_with fail
        refine (HX.out _).mono ?_
        rintro e w2 ⟨rfl, rfl⟩
        go_upto_region 10 with (fail)
        rcases cmp_range kp.data.toList kk.data.toList with hc | hc | hc
        · have e1 : (kk.toList == kp.toList) = false := by rw [ByteArray.toList_eq, ByteArray.toList_eq, cmp_eq0, hc]; rfl
          have e2 : Op.bytesLess kk.toList kp.toList = false := by rw [ByteArray.toList_eq, ByteArray.toList_eq, cmp_less, hc]; rfl
          rw [hc] at HT
          have HE2 := Lib.hid (S3.out (H5.out.trans HT.out))
          clear S2 S3 HT hc
          go_quiet (fail)
          go_wp2_with fail
          go_quiet (fail)
          go_wp2_with fail
          go_roundw
          case rel => exact ⟨m + 1 + 1, by omega, by go_num, HE2, below_drewN hbw _⟩
          case measure => simp [intOf]; omega
        · have e1 : (kk.toList == kp.toList) = true := by rw [ByteArray.toList_eq, ByteArray.toList_eq, cmp_eq0, hc]; rfl
          rw [hc] at HT
          have HR := Lib.hid (S2.out 8 (H5.out.trans HT.out) (by decide))
          clear S2 S3 HT hc
          go_quiet (fail)
          go_wp2_with fail
          go_ret
          exact ⟨ret_int HR.out.symm, below_drewN hbw _⟩
        · have e1 : (kk.toList == kp.toList) = false := by rw [ByteArray.toList_eq, ByteArray.toList_eq, cmp_eq0, hc]; rfl
          have e2 : Op.bytesLess kk.toList kp.toList = true := by rw [ByteArray.toList_eq, ByteArray.toList_eq, cmp_less, hc]; rfl
          rw [hc] at HT
          have HR := Lib.hid (S2.out 14 (H5.out.trans HT.out) (by decide))
          clear S2 S3 HT hc
          go_quiet (fail)
          go_wp2_with fail
          go_quiet (fail)
          go_wp2_with fail
          go_ret
          exact ⟨ret_int HR.out.symm, below_drewN (below_drewN hbw _) _⟩
    · obtain rfl : k = A.length := by omega
      have HR : Hid (attrsE A = 0) := by rw [Hid, attrsE, if_neg h16]; exact hE.out
      go_wp2_with fail
      go_ret
      exact ⟨ret_int HR.out.symm, hbw⟩
theorem refAttrCheck_any (v : Value) (A : List At) (w : World) (hr : AtRow w v A) (hok : ∀ i, AtOk (atAt A i)) :
    Calls Tryz.prog 131 #[v] w (IntP (attrsE A) w) := by
  obtain ⟨hmax, hr⟩ := hr
  unfold maxLen at hmax
  by_cases h16 : 16 < A.length
  · have hv : ∃ a cap, v = .slice a A.length cap := by
      rcases hr with ⟨rfl, a, cap, rfl, _⟩ | ⟨_, b, o, cap, rfl, _⟩
      · exact ⟨a, cap, rfl⟩
      · exact ⟨_, cap, rfl⟩
    have HR : Hid (attrsE A = 6) := by rw [Hid, attrsE, if_pos h16]
    obtain ⟨a, cap, rfl⟩ := hv
    clear hr hok
    generalize A.length = n at *
    go_enter Tryz.func131, Tryz.ntmps131
    go_wp2_with fail
    go_ret
    exact ⟨ret_int HR.out.symm, below_refl _⟩
  rcases hr with ⟨rfl, a, cap, rfl, _⟩ | ⟨h0, b, o, cap, rfl, _, _, hb, hA⟩
  · have HR : Hid (attrsE [] = 0) := rfl
    clear hok
    go_enter Tryz.func131, Tryz.ntmps131
    go_wp2_with fail
    refine wp_loop_rounds 1 ?_; rw [rounds_succ]
    go_wp2_with fail
    go_ret
    exact ⟨ret_int HR.out.symm, below_refl _⟩
  · exact refAttrs1 b o cap A w h0 h16 hb hA hok

/-! equality -/
open Classical in
noncomputable def isB (p : Prop) : Bool := decide p
theorem isB_yes {p : Prop} (h : p) : isB p = true := by unfold isB; simp [h]
theorem isB_no {p : Prop} (h : ¬ p) : isB p = false := by unfold isB; simp [h]
theorem isB_iff {p q : Prop} (h : p ↔ q) : isB p = isB q := by rw [propext h]
theorem at_ext {x y : At} (h1 : x.key = y.key) (h2 : x.value = y.value) : x = y := by cases x; cases y; simp_all
theorem list_ext_at {A B : List At} (hl : A.length = B.length) (h : ∀ j, j < A.length → atAt A j = atAt B j) : A = B := by
  refine List.ext_getElem hl fun i h1 h2 => ?_
  have := h i h1
  rwa [atAt_get h1, atAt_get h2] at this
end Go.Proofs.YtpkapcijgldhhaaGreatDoor
