/-
  The reference's checks of an entry, whatever its sizes.
-/
import Derived.Test.YtpkapcijgldhhaaGreatDoorCf01
import Derived.Test.YtpkapcijgldhhaaGreatDoorCf02
import Derived.Test.YtpkapcijgldhhaaGreatDoorCe27
import Derived.Test.YtpkapcijgldhhaaGreatDoorCe24
import Derived.Test.YtpkapcijgldhhaaGreatDoorCe11
import Derived.Test.YtpkapcijgldhhaaGreatDoorCe07
import Derived.Test.YtpkapcijgldhhaaGreatDoorCe06
namespace Go.Proofs.YtpkapcijgldhhaaGreatDoor
open Go.RowKit Go.Shelf
structure AtBig (x : At) : Prop where
  key : x.key.size ≤ 9223372036854775807
  value : x.value.size ≤ 9223372036854775807
set_option maxHeartbeats 1000000 in
theorem refDate_big (s : ByteArray) (w : World) (hs : s.size ≤ 9223372036854775807) : Calls Tryz.prog 168 #[.string s] w (DateP (dateB s.data.toList) w) := by
  have HD := Lib.hid (dateB_of s)
  by_cases h1 : s.size < 1
  · rw [decide_eq_false (show ¬ 1 ≤ s.size by omega)] at HD
    simp only [Bool.false_and] at HD
    go_enter Tryz.func168, Tryz.ntmps168
    go_wp2_with fail
    go_ret2
    exact ⟨_, by rw [HD.out]; rfl, rfl⟩
  by_cases h2 : 10 < s.size
  · rw [decide_eq_false (show ¬ s.size ≤ 10 by omega)] at HD
    simp only [Bool.false_and, Bool.and_false] at HD
    go_enter Tryz.func168, Tryz.ntmps168
    go_wp2_with fail
    go_ret2
    exact ⟨_, by rw [HD.out]; rfl, rfl⟩
  have hpos : 0 < s.size := by omega
  have hh : s.data.toList.head? = some s[0] := by rw [List.head?_eq_getElem?]; exact get_list s 0 hpos
  by_cases h3 : 1 < s.size ∧ s[0] = 48
  · obtain ⟨h3, h48⟩ := h3
    have e1 : (decide (s.size ≤ 1) || decide (s.data.toList.head? ≠ some 48)) = false := by rw [decide_eq_false (show ¬ s.size ≤ 1 by omega), hh, h48]; rfl
    rw [e1] at HD
    simp only [Bool.false_and, Bool.and_false] at HD
    obtain ⟨q1, q2⟩ := byte_is h48 (n := 48) rfl
    clear e1 hh h48
    go_enter Tryz.func168, Tryz.ntmps168
    go_wp2_with fail
    go_ret2
    exact ⟨_, by rw [HD.out]; rfl, rfl⟩
  have e1 : (decide (s.size ≤ 1) || decide (s.data.toList.head? ≠ some 48)) = true := by
    by_cases h : s.size ≤ 1
    · rw [decide_eq_true h]; rfl
    · have h4 : ¬ s[0] = 48 := fun e => h3 ⟨by omega, e⟩
      rw [hh, decide_eq_true (show some s[0] ≠ some 48 from fun e => h4 (Option.some.inj e))]; simp
  rw [e1, decide_eq_true (show 1 ≤ s.size by omega), decide_eq_true (show s.size ≤ 10 by omega)] at HD
  simp only [Bool.true_and] at HD
  have HQ : Hid (s.size ≤ 1 ∨ (1 < s.size ∧ ((s[0].toNat : Int) == 48) = false)) := by
    by_cases h : s.size ≤ 1
    · exact .inl h
    · exact .inr ⟨by omega, (byte_not (k := 48) (fun e => h3 ⟨by omega, e⟩) rfl).1⟩
  clear e1 hh h3
  rcases HQ.out with h5 | ⟨h5, q1⟩
  all_goals
    go_enter Tryz.func168, Tryz.ntmps168
    go_wp2_with fail
    go_loop [4, 5] (fun n i => ∃ k : Nat, k ≤ s.size ∧ i = .int .i64 k ∧ n = .int .i64 ((val (s.data.toList.take k) : Nat) : Int) ∧ Hid ((s.data.toList.take k).all isDig = true)) (fun _ i => s.size - (intOf i).toNat)
    case atStart => exact ⟨0, by omega, rfl, rfl, rfl⟩
    case round =>
      obtain ⟨k, hk, rfl, rfl, hA⟩ := hrel
      have hv := val_lt _ hA.out
      have hlk : (s.data.toList.take k).length = k := by rw [List.length_take, toList_size]; omega
      rw [hlk] at hv
      clear hlk
      by_cases hlt : k < s.size
      · have hv9 : val (s.data.toList.take k) < 1000000000 := Nat.lt_of_lt_of_le hv (Nat.le_trans (Nat.pow_le_pow_right (by decide) (show k ≤ 9 by omega)) (by decide))
        have HS := Lib.hid (val_snoc s k hlt)
        have HT := Lib.hid (dig_take s k hlt)
        have HB := Lib.hid (dig_hit s k hlt)
        have hb : s[k].toNat < 256 := s[k].toNat_lt
        have HC : Hid (isDig s[k] = decide (48 ≤ s[k].toNat ∧ s[k].toNat ≤ 57)) := rfl
        clear hv
        by_cases h48 : s[k].toNat < 48
        · have HR := Lib.hid (HB.out (by omega))
          rw [HR.out] at HD
          simp only [Bool.false_and] at HD
          clear HS HT HB HC HR
          go_wp2_with fail
          go_ret2
          exact ⟨_, by rw [HD.out]; rfl, rfl⟩
        by_cases h57 : 57 < s[k].toNat
        · have HR := Lib.hid (HB.out (by omega))
          rw [HR.out] at HD
          simp only [Bool.false_and] at HD
          clear HS HT HB HC HR
          go_wp2_with fail
          go_ret2
          exact ⟨_, by rw [HD.out]; rfl, rfl⟩
        have HE2 : Hid ((s.data.toList.take (k + 1)).all isDig = true) := by rw [Hid, HT.out, hA.out, HC.out, decide_eq_true (show 48 ≤ s[k].toNat ∧ s[k].toNat ≤ 57 by omega)]; rfl
        clear HT HB HC
        generalize val (s.data.toList.take k) = v at *
        go_wp2_with fail
        go_round
        case rel => exact ⟨k + 1, by omega, by go_num, by rw [HS.out]; congr 1; omega, HE2⟩
        case measure => simp [intOf]; omega
      · have ht : s.data.toList.take k = s.data.toList := List.take_of_length_le (by rw [toList_size]; omega)
        rw [ht] at hA hv ⊢
        rw [hA.out, Bool.true_and] at HD
        have hv10 : val s.data.toList < 10000000000 := Nat.lt_of_lt_of_le hv (Nat.le_trans (Nat.pow_le_pow_right (by decide) (show k ≤ 10 by omega)) (by decide))
        clear ht hv
        generalize val s.data.toList = v at *
        have HD2 : Hid (dateB s.data.toList = decide ((v : Int) ≤ 1000000000)) := by rw [Hid, HD.out, decide_eq_decide]; omega
        go_wp2_with fail
        go_ret2
        exact ⟨_, by rw [HD2.out]; rfl, rfl⟩
set_option maxHeartbeats 1000000 in
theorem refTarget_big (kd : Int) (pt tg dg : ByteArray) (sz : Int) (va vx : Value) (w : World) (hs : tg.size ≤ 9223372036854775807) :
    Calls Tryz.prog 132 #[.agg #[.int .i64 kd, .string pt, va, .string tg, .int .i64 sz, .string dg, vx]] w (BoolP (targetB kd tg.data.toList) w) := by
  have hb0 : Below w.heap.size w (w.alloc (.cells #[.int .i64 kd, .string pt, va, .string tg, .int .i64 sz, .string dg, vx] 109)) := (below_refl _).alloc (Nat.le_refl _) _
  by_cases h3 : kd = 3
  · subst h3
    have HT : Hid (targetB 3 tg.data.toList = (decide (1 ≤ tg.size) && decide (tg.size ≤ 200))) := rfl
    by_cases h0 : tg.size < 1
    · have HR : Hid (targetB 3 tg.data.toList = false) := by rw [Hid, HT.out, decide_eq_false (show ¬ 1 ≤ tg.size by omega)]; rfl
      clear HT
      go_enter Tryz.func132, Tryz.ntmps132
      go_wp2_with fail
      go_ret
      exact ⟨ret_bool HR.out.symm, hb0⟩
    · have HR : Hid (targetB 3 tg.data.toList = decide ((tg.size : Int) ≤ 200)) := by
        rw [Hid, HT.out, decide_eq_true (show 1 ≤ tg.size by omega), Bool.true_and, decide_eq_decide]; omega
      clear HT
      go_enter Tryz.func132, Tryz.ntmps132
      go_wp2_with fail
      go_ret
      exact ⟨ret_bool HR.out.symm, hb0⟩
  have q3 : (kd == 3) = false := by simpa using h3
  by_cases h5 : kd = 5
  · subst h5
    have HT : Hid (targetB 5 tg.data.toList = dateB tg.data.toList) := rfl
    have HD := Lib.hid (fun w => refDate_big tg w hs)
    rw [← HT.out] at HD
    generalize targetB 5 tg.data.toList = r at *
    clear HT h3
    go_enter Tryz.func132, Tryz.ntmps132
    go_wp2_with fail
    refine (HD.out _).mono ?_
    rintro e w1 ⟨n, rfl, rfl⟩
    go_wp2_with fail
    go_ret
    exact ⟨rfl, hb0⟩
  have q5 : (kd == 5) = false := by simpa using h5
  have HT : Hid (targetB kd tg.data.toList = tg.toList.isEmpty) := by rw [Hid, targetB, if_neg h3, if_neg h5, isEmpty_list]
  clear h3 h5
  go_enter Tryz.func132, Tryz.ntmps132
  go_wp2_with fail
  go_ret
  exact ⟨ret_bool HT.out.symm, hb0⟩
set_option maxHeartbeats 1000000 in
theorem refPathCheck_big (s : ByteArray) (w : World) (hs : s.size ≤ 9223372036854775807) : Calls Tryz.prog 130 #[.string s] w (IntP (pathE s.data.toList) w) := by
  have HP : Hid (pathE s.data.toList = if 200 < s.size then 6 else if 8 < (elemsL s.data.toList).length then 6 else if (elemsL s.data.toList).all compB then 0 else 7) := rfl
  have hle := elemsL_len s.data.toList
  rw [toList_size] at hle
  by_cases h1 : 200 < s.size
  · rw [if_pos h1] at HP
    go_enter Tryz.func130, Tryz.ntmps130
    go_wp2_with fail
    go_ret
    exact ⟨ret_int HP.out.symm, below_refl _⟩
  rw [if_neg h1] at HP
  have HE := Lib.hid (refElements_any s w (by omega))
  go_enter Tryz.func130, Tryz.ntmps130
  go_wp2_with fail
  refine HE.out.mono ?_
  rintro e w1 ⟨v, L, rfl, hL, hmap, hb1⟩
  have hlen : L.length = (elemsL s.data.toList).length := by rw [← hmap.out, List.length_map]
  have HA := Lib.hid (all_map hmap.out)
  have HS := Lib.hid (show ∀ x ∈ L, x.size ≤ 1000000 from fun x hx => by have := strs_size hmap.out x hx; rw [toList_size] at this; omega)
  rw [← hlen, ← HA.out] at HP
  rw [← hlen] at hle
  clear hlen HA hmap HE
  obtain ⟨hla, ha'⟩ := row_cases hL
  simp only [List.length_map] at hla ha'
  unfold maxLen at hla
  have hcap : ∃ a c, v = .slice a L.length c := by
    rcases ha' with ⟨h0', aa, ca, rfl, _⟩ | ⟨h0', ba, oa, ca, rfl, _⟩
    · have : L = [] := by simpa using h0'
      subst this; exact ⟨_, _, rfl⟩
    · exact ⟨_, _, rfl⟩
  obtain ⟨a, c, rfl⟩ := hcap
  by_cases h2 : 8 < L.length
  · rw [if_pos h2] at HP
    clear ha' hL
    go_wp2_with fail
    go_ret
    exact ⟨ret_int HP.out.symm, hb1⟩
  rw [if_neg h2] at HP
  rcases ha' with ⟨h0', _, _, _, _⟩ | ⟨h0', ba, oa, ca, hva, _, _, hcella⟩
  · have hla0 : L = [] := by simpa using h0'
    subst hla0
    clear hL
    go_wp2_with fail
    refine wp_loop_rounds 1 ?_; rw [rounds_succ]
    go_wp2_with fail
    go_ret
    exact ⟨ret_int HP.out.symm, hb1⟩
  · cases hva
    have Hcella := Lib.hid hcella; clear hcella hL
    go_wp2_with fail
    go_loopw [4] (fun i wr => ∃ k : Nat, k ≤ L.length ∧ i = .int .i64 k ∧ Hid (((L.take k).all fun s => compB s.data.toList) = true) ∧ Below w1.heap.size w1 wr) (fun i _ => L.length - (intOf i).toNat)
    case atStart => exact ⟨0, by omega, rfl, rfl, below_refl _⟩
    case round =>
      obtain ⟨k, hk, rfl, hA, hbw⟩ := hrel
      by_cases hlt : k < L.length
      · have c1 : wr.cell? ⟨ba, oa + k, none⟩ = some (.string L[k]) := by
          have := Hcella.out k (.string L[k]) (by simp [hlt])
          rw [hbw.cell (World.block_lt_of_cell? w1 _ this)]; exact this
        have H1 := Lib.hid (all_take L k hlt)
        have H2 := Lib.hid (all_hit L k hlt)
        have hxs := HS.out L[k] (List.getElem_mem hlt)
        generalize L[k] = x at *
        have HX := Lib.hid (fun w => refComponent_any x w hxs)
        by_cases hc : compB x.data.toList = true
        · rw [hc] at HX H1
          have HC := Lib.hid hc; clear hc H2
          go_wp2_with fail
          refine (HX.out _).mono ?_
          rintro e w1 ⟨rfl, rfl⟩
          go_wp2_with fail
          go_roundw
          case rel => exact ⟨k + 1, by omega, by go_num, by rw [Hid, H1.out, hA.out]; rfl, hbw⟩
          case measure => simp [intOf]; omega
        · have hc' : compB x.data.toList = false := by simpa using hc
          have H3 := Lib.hid (H2.out hc')
          rw [H3.out, if_neg (by decide)] at HP
          rw [hc'] at HX
          clear hc hc' H1 H2
          go_wp2_with fail
          refine (HX.out _).mono ?_
          rintro e w1 ⟨rfl, rfl⟩
          go_wp2_with fail
          go_ret
          exact ⟨ret_int HP.out.symm, step2 hb1 hbw⟩
      · have ht2 : L.take k = L := List.take_of_length_le (by omega)
        rw [ht2] at hA
        rw [hA.out, if_pos rfl] at HP
        clear ht2
        go_wp2_with fail
        go_ret
        exact ⟨ret_int HP.out.symm, step2 hb1 hbw⟩
set_option maxHeartbeats 1000000 in
theorem refKey_big (s : ByteArray) (w : World) (hs : s.size ≤ 9223372036854775807) : Calls Tryz.prog 167 #[.string s] w (BoolS (keyB s.data.toList) w) := by
  by_cases h1 : s.size < 1 ∨ 32 < s.size
  · have HK : Hid (keyB s.data.toList = false) := by
      rw [Hid, keyB_of]
      rcases h1 with h | h
      · rw [decide_eq_false (show ¬ 1 ≤ s.size by omega)]; rfl
      · rw [decide_eq_false (show ¬ s.size ≤ 32 by omega)]; simp
    by_cases h2 : s.size < 1
    · clear h1
      go_enter Tryz.func167, Tryz.ntmps167
      go_wp2_with fail
      go_ret
      exact ⟨ret_bool HK.out.symm, rfl⟩
    · have h3 : 32 < s.size := by omega
      clear h1
      go_enter Tryz.func167, Tryz.ntmps167
      go_wp2_with fail
      go_ret
      exact ⟨ret_bool HK.out.symm, rfl⟩
  have hlo : 1 ≤ s.size := by omega
  have hhi : s.size ≤ 32 := by omega
  have HK := Lib.hid (keyB_of s)
  rw [decide_eq_true hlo, decide_eq_true hhi, Bool.true_and, Bool.true_and] at HK
  clear h1
  go_enter Tryz.func167, Tryz.ntmps167
  go_wp2_with fail
  go_loop [3] (fun i => ∃ k : Nat, k ≤ s.size ∧ i = .int .i64 k ∧ Hid ((s.data.toList.take k).all okC = true)) (fun i => s.size - (intOf i).toNat)
  case atStart => exact ⟨0, by omega, rfl, rfl⟩
  case round =>
    obtain ⟨k, hk, rfl, hA⟩ := hrel
    by_cases hlt : k < s.size
    · have HT := Lib.hid (all_take_c s k hlt)
      have HB := Lib.hid (all_hit_c s k hlt)
      have H3 := Lib.hid (okC_int s[k])
      have hb : s[k].toNat < 256 := s[k].toNat_lt
      have HG := Lib.hid (show okC s[k] = true → (s.data.toList.take (k + 1)).all okC = true from fun h => by rw [HT.out, hA.out, h]; rfl)
      have HF := Lib.hid (show okC s[k] = false → false = keyB s.data.toList from fun h => by rw [HK.out, HB.out h])
      clear HT HB
      go_wp2_with fail
      all_goals first
        | (go_round
           case rel =>
             refine ⟨k + 1, by omega, by go_num, HG.out ?_⟩
             rw [H3.out]
             clear HG HF H3
             simp
             try simp only [bne_eq_false_iff_eq] at *
             omega
           case measure => simp [intOf]; omega)
        | (go_ret
           refine ⟨ret_bool (HF.out ?_), rfl⟩
           rw [H3.out]
           clear HG HF H3
           simp
           try simp only [bne_iff_ne, ne_eq] at *
           omega)
    · have ht : s.data.toList.take k = s.data.toList := List.take_of_length_le (by rw [toList_size]; omega)
      rw [ht] at hA
      clear ht
      go_wp2_with fail
      go_ret
      exact ⟨ret_bool (by rw [HK.out, hA.out]), rfl⟩
set_option maxRecDepth 100000 in
set_option maxHeartbeats 2000000 in
theorem refAttrs1big (b o cap : Nat) (A : List At) (w : World) (h0 : 0 < A.length) (h16 : ¬ 16 < A.length) (hb : b < w.heap.size) (hA : AtAt w b o A) (hok : ∀ i, AtBig (atAt A i)) :
    Calls Tryz.prog 131 #[.slice (some ⟨b, o, none⟩) A.length cap] w (IntP (attrsE A) w) := by
  have HC := Lib.hid hA
  have HOK := Lib.hid hok
  clear hA hok
  go_enter Tryz.func131, Tryz.ntmps131
  go_wp2_with fail
  go_loopw [3] (fun i wr => ∃ k : Nat, k ≤ A.length ∧ i = .int .i64 k ∧ Hid (firstE (attrE A) k = 0) ∧ Below w.heap.size w wr) (fun i _ => A.length - (intOf i).toNat)
  case atStart => exact ⟨0, by omega, rfl, rfl, below_refl _⟩
  case round =>
    obtain ⟨k, hk, rfl, hE, hbw⟩ := hrel
    by_cases hlt : k < A.length
    · have HCr := Lib.hid (show AtAt wr b o A from HC.out.below hbw hb)
      obtain ⟨c0, c1⟩ := atCells HCr.out hlt
      have hx := HOK.out k
      have HX := Lib.hid (fun w => refKey_big (atAt A k).key w hx.key)
      have hxv := hx.value
      have HA : Hid (attrOne (atAt A k).key (atAt A k).value = if keyB (atAt A k).key.data.toList = false then 7 else if 64 < (atAt A k).value.size then 6 else 0) := rfl
      have S1 := Lib.hid (fun e => @attrE_bad A k e)
      have S2 := Lib.hid (fun e => @attrsE_stop A k e h16 hE.out hlt)
      have S3 := Lib.hid (fun h : attrE A k = 0 => firstE_next hE.out h)
      have S4 := Lib.hid (fun h : k = 0 => show attrOne (atAt A k).key (atAt A k).value = 0 → attrE A k = 0 from by subst h; exact attrE_first)
      have S5 := Lib.hid (fun m (h : k = m + 1) => show attrOne (atAt A k).key (atAt A k).value = 0 → attrE A k = attrTwo (atAt A m).key (atAt A k).key from by subst h; exact attrE_next)
      generalize (atAt A k).key = kk at *
      generalize (atAt A k).value = kv at *
      by_cases hkb : keyB kk.data.toList = false
      · rw [if_pos hkb] at HA
        have HR := Lib.hid (S2.out _ (S1.out _ HA.out (by decide)) (by decide))
        rw [hkb] at HX
        clear hkb S1 S2 S3 S4 S5 hE HCr hx HA
        go_wp2_with fail
        refine (HX.out _).mono ?_
        rintro e w2 ⟨rfl, rfl⟩
        go_wp2_with fail
        go_ret
        exact ⟨ret_int HR.out.symm, hbw⟩
      rw [if_neg hkb] at HA
      rw [show keyB kk.data.toList = true from by simpa using hkb] at HX
      clear hkb
      by_cases h64 : 64 < kv.size
      · rw [if_pos h64] at HA
        have HR := Lib.hid (S2.out _ (S1.out _ HA.out (by decide)) (by decide))
        clear S1 S2 S3 S4 S5 hE HCr hx HA
        go_wp2_with fail
        refine (HX.out _).mono ?_
        rintro e w2 ⟨rfl, rfl⟩
        go_wp2_with fail
        go_ret
        exact ⟨ret_int HR.out.symm, hbw⟩
      rw [if_neg h64] at HA
      clear S1
      by_cases hk0 : k = 0
      · have HE2 := Lib.hid (S3.out (S4.out hk0 HA.out))
        subst hk0
        simp only [Nat.zero_mul, Nat.add_zero] at c0 c1
        clear S2 S3 S4 S5 hE HCr hx HA
        go_wp2_with fail
        refine (HX.out _).mono ?_
        rintro e w2 ⟨rfl, rfl⟩
        go_upto_region 10 with (fail)
        go_quiet (fail)
        go_wp2_with fail
        go_quiet (fail)
        go_wp2_with fail
        go_roundw
        case rel => exact ⟨0 + 1, by omega, by go_num, HE2, below_drewN hbw _⟩
        case measure => simp [intOf]; omega
      · obtain ⟨m, hm⟩ : ∃ m, k = m + 1 := ⟨k - 1, by omega⟩
        have H5 := Lib.hid (S5.out m hm HA.out)
        obtain ⟨d0, _⟩ := atCells HCr.out (i := m) (by omega)
        generalize (atAt A m).key = kp at *
        subst hm
        clear S4 S5 hE HCr hx HA
        have HT : Hid (attrTwo kp kk = if Lib.compareBytes kp.data.toList kk.data.toList = 0 then 8 else if Lib.compareBytes kp.data.toList kk.data.toList = 1 then 14 else 0) := rfl
        have wm : IntKind.i64.wrap (m : Int) = m := IntWalk.i64_in _ (by omega)
        have wm1 : IntKind.i64.wrap (((m + 1 : Nat) : Int) - 1) = m := by rw [show ((m + 1 : Nat) : Int) - 1 = m from by omega]; exact wm
        have hml : (m : Int) < (A.length : Int) := by omega
        go_wp2_with fail
        refine (HX.out _).mono ?_
        rintro e w2 ⟨rfl, rfl⟩
        go_upto_region 10 with (fail)
        rcases cmp_range kp.data.toList kk.data.toList with hc | hc | hc
        · have e1 : (kk.toList == kp.toList) = false := by rw [ByteArray.toList_eq, ByteArray.toList_eq, cmp_eq0, hc]; rfl
          have e2 : Op.bytesLess kk.toList kp.toList = false := by rw [ByteArray.toList_eq, ByteArray.toList_eq, cmp_less, hc]; rfl
          rw [hc] at HT
          have HE2 := Lib.hid (S3.out (H5.out.trans HT.out))
          clear S2 S3 HT hc
          go_quiet (fail)
          go_wp2_with fail
          go_quiet (fail)
          go_wp2_with fail
          go_roundw
          case rel => exact ⟨m + 1 + 1, by omega, by go_num, HE2, below_drewN hbw _⟩
          case measure => simp [intOf]; omega
        · have e1 : (kk.toList == kp.toList) = true := by rw [ByteArray.toList_eq, ByteArray.toList_eq, cmp_eq0, hc]; rfl
          rw [hc] at HT
          have HR := Lib.hid (S2.out 8 (H5.out.trans HT.out) (by decide))
          clear S2 S3 HT hc
          go_quiet (fail)
          go_wp2_with fail
          go_ret
          exact ⟨ret_int HR.out.symm, below_drewN hbw _⟩
        · have e1 : (kk.toList == kp.toList) = false := by rw [ByteArray.toList_eq, ByteArray.toList_eq, cmp_eq0, hc]; rfl
          have e2 : Op.bytesLess kk.toList kp.toList = true := by rw [ByteArray.toList_eq, ByteArray.toList_eq, cmp_less, hc]; rfl
          rw [hc] at HT
          have HR := Lib.hid (S2.out 14 (H5.out.trans HT.out) (by decide))
          clear S2 S3 HT hc
          go_quiet (fail)
          go_wp2_with fail
          go_quiet (fail)
          go_wp2_with fail
          go_ret
          exact ⟨ret_int HR.out.symm, below_drewN (below_drewN hbw _) _⟩
    · obtain rfl : k = A.length := by omega
      have HR : Hid (attrsE A = 0) := by rw [Hid, attrsE, if_neg h16]; exact hE.out
      go_wp2_with fail
      go_ret
      exact ⟨ret_int HR.out.symm, hbw⟩
theorem refAttrCheck_big (v : Value) (A : List At) (w : World) (hr : AtRow w v A) (hok : ∀ i, AtBig (atAt A i)) :
    Calls Tryz.prog 131 #[v] w (IntP (attrsE A) w) := by
  obtain ⟨hmax, hr⟩ := hr
  unfold maxLen at hmax
  by_cases h16 : 16 < A.length
  · have hv : ∃ a cap, v = .slice a A.length cap := by
      rcases hr with ⟨rfl, a, cap, rfl, _⟩ | ⟨_, b, o, cap, rfl, _⟩
      · exact ⟨a, cap, rfl⟩
      · exact ⟨_, cap, rfl⟩
    have HR : Hid (attrsE A = 6) := by rw [Hid, attrsE, if_pos h16]
    obtain ⟨a, cap, rfl⟩ := hv
    clear hr hok
    generalize A.length = n at *
    go_enter Tryz.func131, Tryz.ntmps131
    go_wp2_with fail
    go_ret
    exact ⟨ret_int HR.out.symm, below_refl _⟩
  rcases hr with ⟨rfl, a, cap, rfl, _⟩ | ⟨h0, b, o, cap, rfl, _, _, hb, hA⟩
  · have HR : Hid (attrsE [] = 0) := rfl
    clear hok
    go_enter Tryz.func131, Tryz.ntmps131
    go_wp2_with fail
    refine wp_loop_rounds 1 ?_; rw [rounds_succ]
    go_wp2_with fail
    go_ret
    exact ⟨ret_int HR.out.symm, below_refl _⟩
  · exact refAttrs1big b o cap A w h0 h16 hb hA hok

set_option maxRecDepth 100000 in
set_option maxHeartbeats 4000000 in
theorem rcheck_big (kd : Int) (pt tg dg : ByteArray) (sz : Int) (xa : Option Addr) (n xc : Nat) (vx : Value) (X : List Ex) (w : World) (pe ae : Int) (tb : Bool) (hn : n ≤ 9223372036854775807) (hx : ExRow w vx X) (hok : ∀ i, ExOk (exAt X i)) (hlen : X.length ≤ 10000000000000) (_hdg : dg.size ≤ 9223372036854775807)
    (HP : Hid (∀ W, Calls Tryz.prog 130 #[.string pt] W (IntP pe W)))
    (HA : Hid (∀ W, Below w.heap.size w W → Calls Tryz.prog 131 #[.slice xa n xc] W (IntP ae W)))
    (HT : Hid (∀ W, Below w.heap.size w W → Calls Tryz.prog 132 #[.agg #[.int .i64 kd, .string pt, .slice xa n xc, .string tg, .int .i64 sz, .string dg, vx]] W (BoolP tb W))) :
    Calls Tryz.prog 81 #[.agg #[.int .i64 kd, .string pt, .slice xa n xc, .string tg, .int .i64 sz, .string dg, vx]] w (IntP (chkP kd pt.data.toList.isEmpty n pe ae (contE kd sz dg.size X) tb) w) := by
  obtain ⟨xx, xk, rfl⟩ := hx.form
  have hHX := hx.2
  have HX := Lib.hid hHX
  have HOK := Lib.hid hok
  clear hx hok hHX
  have bB := Box.new w [.int .i64 kd, .string pt, .slice xa n xc, .string tg, .int .i64 sz, .string dg, .slice xx X.length xk] 109
  have hb0 : Below w.heap.size w (w.alloc (.cells #[.int .i64 kd, .string pt, .slice xa n xc, .string tg, .int .i64 sz, .string dg, .slice xx X.length xk] 109)) := (below_refl _).alloc (Nat.le_refl _) _
  change Box (w.alloc (.cells #[.int .i64 kd, .string pt, .slice xa n xc, .string tg, .int .i64 sz, .string dg, .slice xx X.length xk] 109)) _ _ _ at bB
  have HR : Hid (chkP kd pt.data.toList.isEmpty n pe ae (contE kd sz dg.size X) tb = if kd < 1 ∨ 6 < kd then 10 else if pe = 0 then (if pt.data.toList.isEmpty = true ∧ kd < 5 then 1 else if ae = 0 then (if (0 < n ∧ 3 < kd) ∨ tb = false then 1 else contE kd sz dg.size X) else ae) else pe) := rfl
  obtain ⟨R, hRR⟩ : ∃ R, chkP kd pt.data.toList.isEmpty n pe ae (contE kd sz dg.size X) tb = R := ⟨_, rfl⟩
  rw [hRR] at HR ⊢
  clear hRR
  have hem : pt.toList.isEmpty = pt.data.toList.isEmpty := isEmpty_list pt
  obtain ⟨emp, hemp⟩ : ∃ emp, pt.data.toList.isEmpty = emp := ⟨_, rfl⟩
  rw [hemp] at hem HR
  clear hemp
  go_enter Tryz.func81, Tryz.ntmps81
  go_upto_region 1 with (fail)
  obtain ⟨W0, hW0⟩ : ∃ W0, w.alloc (.cells #[.int .i64 kd, .string pt, .slice xa n xc, .string tg, .int .i64 sz, .string dg, .slice xx X.length xk] 109) = W0 := ⟨_, rfl⟩
  change Code.wp _ _ _ _ (w.alloc (.cells #[.int .i64 kd, .string pt, .slice xa n xc, .string tg, .int .i64 sz, .string dg, .slice xx X.length xk] 109))
  rw [hW0] at bB hb0 ⊢
  clear hW0
  obtain ⟨c0, c1, c2, c3, c4, c5, c6⟩ := bB.cells7
  go_wp2_with fail
  refine (refName_any kd W0).mono ?_
  rintro e w1 ⟨t, rfl, ht, rfl⟩
  have hte : t.toList.isEmpty = decide (kd < 1 ∨ 6 < kd) := by
    rw [isEmpty_list, ht.out, Bool.eq_iff_iff, List.isEmpty_iff, nameL_nil, decide_eq_true_iff]
  clear ht
  by_cases k1 : kd < 1 ∨ 6 < kd
  · rw [if_pos k1] at HR
    rw [decide_eq_true k1] at hte
    have K1 := Lib.hid k1; clear k1
    go_wp2_with fail
    go_ret
    exact ⟨ret_int HR.out.symm, hb0⟩
  rw [if_neg k1] at HR
  rw [decide_eq_false k1] at hte
  have k2 : 1 ≤ kd ∧ kd ≤ 6 := by omega
  clear k1
  go_wp2_with fail
  refine (HP.out _).mono ?_
  rintro e w2 ⟨rfl, hb2⟩
  have kb2 := step2 hb0 hb2
  have bB2 := bB.below hb2
  clear hte bB hb0 hb2 c0 c1 c2 c3 c4 c5 c6 HP
  obtain ⟨c0, c1, c2, c3, c4, c5, c6⟩ := bB2.cells7
  by_cases hp : pe = 0
  case neg =>
    rw [if_neg hp] at HR
    obtain ⟨q1, q2⟩ := neq0 hp
    have Hp := Lib.hid hp; clear hp
    go_wp2_with fail
    go_ret
    exact ⟨ret_int HR.out.symm, kb2⟩
  subst hp
  rw [if_pos rfl] at HR
  go_upto_region 6 with (fail)
  go_cut [26] from 19 (fun v wc => w2 = wc ∧ v = .bool (emp && decide (kd < 5)))
  case first =>
    cases emp
    · go_wp2_with fail
      go_meet
      exact ⟨rfl, rfl⟩
    · by_cases h5 : kd < 5
      · go_wp2_with fail
        go_meet
        exact ⟨rfl, congrArg Value.bool (by simp [h5])⟩
      · go_wp2_with fail
        go_meet
        exact ⟨rfl, congrArg Value.bool (by simp [h5])⟩
  obtain ⟨rfl, rfl⟩ := hcut
  by_cases he : emp = true ∧ kd < 5
  · rw [if_pos he] at HR
    have h5 : decide (kd < 5) = true := decide_eq_true he.2
    rw [h5, he.1]
    have He := Lib.hid he; clear he
    go_wp2_with fail
    go_ret
    exact ⟨ret_int HR.out.symm, kb2⟩
  rw [if_neg he] at HR
  have hf : (emp && decide (kd < 5)) = false := by
    rw [Bool.eq_false_iff]; intro h; rw [Bool.and_eq_true, decide_eq_true_iff] at h; exact he h
  rw [hf]
  clear he hf hem
  go_wp2_with fail
  refine (HA.out _ kb2).mono ?_
  rintro e w3 ⟨rfl, hb3⟩
  have kb3 := step2 kb2 hb3
  have bB3 := bB2.below hb3
  clear kb2 bB2 hb3 c0 c1 c2 c3 c4 c5 c6 HA
  by_cases ha : ae = 0
  case neg =>
    rw [if_neg ha] at HR
    obtain ⟨q1, q2⟩ := neq0 ha
    have Ha := Lib.hid ha; clear ha
    go_wp2_with fail
    go_ret
    exact ⟨ret_int HR.out.symm, kb3⟩
  subst ha
  rw [if_pos rfl] at HR
  obtain ⟨c0, c1, c2, c3, c4, c5, c6⟩ := bB3.cells7
  go_upto_region 11 with (fail)
  go_cut [46] from 33 (fun v wc => Below w.heap.size w wc ∧ Box wc w.heap.size [.int .i64 kd, .string pt, .slice xa n xc, .string tg, .int .i64 sz, .string dg, .slice xx X.length xk] 109 ∧ v = .bool (decide (0 < n ∧ 3 < kd) || !tb))
  case first =>
    by_cases h3 : 0 < n ∧ 3 < kd
    · have H3 := Lib.hid (show decide (0 < n ∧ 3 < kd) = true from decide_eq_true h3)
      obtain ⟨h3, h4⟩ := h3
      go_wp2_with fail
      go_meet
      exact ⟨kb3, bB3, congrArg Value.bool (by rw [H3.out]; rfl)⟩
    · have HN : Hid (n = 0 ∨ (0 < n ∧ kd ≤ 3)) := by rw [Hid]; omega
      have H3 := Lib.hid (show decide (0 < n ∧ 3 < kd) = false from decide_eq_false h3)
      clear h3
      cases tb
      all_goals
        rcases HN.out with rfl | ⟨hn0, hk3⟩
        all_goals
          clear HN
          go_wp2_with fail
          refine (HT.out _ kb3).mono ?_
          rintro e w4 ⟨rfl, hb4⟩
          have kb4 := step2 kb3 hb4
          have bB4 := bB3.below hb4
          clear kb3 bB3 hb4 c0 c1 c2 c3 c4 c5 c6
          go_wp2_with fail
          go_meet
          exact ⟨kb4, bB4, congrArg Value.bool (by first | (rw [H3.out]; rfl) | (rw [H3.out, decide_eq_false (show ¬ 3 < kd by omega)]; rfl))⟩
  obtain ⟨kb4, bB4, rfl⟩ := hcut
  clear kb3 bB3 c0 c1 c2 c3 c4 c5 c6 HT
  by_cases hbad : (0 < n ∧ 3 < kd) ∨ tb = false
  · rw [if_pos hbad] at HR
    have hf : (decide (0 < n ∧ 3 < kd) || !tb) = true := by
      rw [Bool.or_eq_true, decide_eq_true_iff, Bool.not_eq_true']; exact hbad
    rw [hf]
    clear hf
    have Hb := Lib.hid hbad; clear hbad
    go_wp2_with fail
    go_ret
    exact ⟨ret_int HR.out.symm, kb4⟩
  rw [if_neg hbad] at HR
  have hf : (decide (0 < n ∧ 3 < kd) || !tb) = false := by
    rw [Bool.eq_false_iff]; intro h; rw [Bool.or_eq_true, decide_eq_true_iff, Bool.not_eq_true'] at h; exact hbad h
  rw [hf]
  clear hf hbad
  obtain ⟨c0, c1, c2, c3, c4, c5, c6⟩ := bB4.cells7
  obtain ⟨fl, hfl⟩ : ∃ fl, (kd == 1) = fl := ⟨_, rfl⟩
  go_upto_region 14 with (fail)
  have HF := Lib.hid hfl; clear hfl
  go_cut [66] from 50 (fun v wc' => wc = wc' ∧ v = .bool (decide (sz < 0 ∨ (if kd = 1 then 65536 else 0) < sz)))
  case first =>
    cases fl
    case true =>
      have HK1 : Hid (kd = 1) := by rw [Hid]; simpa using HF.out
      by_cases g1 : sz < 0
      · go_wp2_with fail
        go_meet
        exact ⟨rfl, congrArg Value.bool (decide_eq_true (.inl g1)).symm⟩
      by_cases g2 : 65536 < sz
      · go_wp2_with fail
        go_meet
        exact ⟨rfl, congrArg Value.bool (decide_eq_true (.inr (by rw [if_pos HK1.out]; exact g2))).symm⟩
      go_wp2_with fail
      go_meet
      exact ⟨rfl, congrArg Value.bool (decide_eq_false (by rw [if_pos HK1.out]; omega)).symm⟩
    case false =>
      have HK1 : Hid (kd ≠ 1) := by rw [Hid]; simpa using HF.out
      by_cases g1 : sz < 0
      · go_wp2_with fail
        go_meet
        exact ⟨rfl, congrArg Value.bool (decide_eq_true (.inl g1)).symm⟩
      by_cases g2 : 65536 < sz
      · go_wp2_with fail
        go_meet
        exact ⟨rfl, congrArg Value.bool (decide_eq_true (.inr (by rw [if_neg HK1.out]; omega))).symm⟩
      by_cases g3 : sz = 0
      · subst g3
        go_wp2_with fail
        go_meet
        exact ⟨rfl, congrArg Value.bool (decide_eq_false (by rw [if_neg HK1.out]; decide)).symm⟩
      have q1 : (sz == 0) = false := by rw [beq_eq_false_iff_ne]; exact g3
      have q2 : (sz != 0) = true := by rw [bne_iff_ne]; exact g3
      have G3 := Lib.hid g3; clear g3
      go_wp2_with fail
      go_meet
      exact ⟨rfl, congrArg Value.bool (decide_eq_true (.inr (by rw [if_neg HK1.out]; have := G3.out; omega))).symm⟩
  obtain ⟨rfl, rfl⟩ := hcut
  by_cases hs1 : sz < 0 ∨ (if kd = 1 then 65536 else 0) < sz
  · have HE := Lib.hid (HR.out.trans (contE_size (X := X) (sizeE_range (d := dg.size) hs1) (by decide)))
    rw [decide_eq_true hs1]
    have H1 := Lib.hid hs1; clear hs1
    go_wp2_with fail
    go_ret
    exact ⟨ret_int HE.out.symm, kb4⟩
  rw [decide_eq_false hs1]
  go_upto_region 16 with (fail)
  go_cut [82] from 67 (fun v wc' => wc = wc' ∧ v = .bool (decide (dg.size ≠ (if kd = 1 then 32 else 0))))
  case first =>
    cases fl
    case true =>
      have HK1 : Hid (kd = 1) := by rw [Hid]; simpa using HF.out
      by_cases g1 : dg.size = 32
      · have q1 : ((dg.size : Int) == 32) = true := by simp; omega
        have q2 : ((dg.size : Int) != 32) = false := by simp; omega
        have G := Lib.hid g1; clear g1
        go_wp2_with fail
        go_meet
        exact ⟨rfl, congrArg Value.bool (decide_eq_false (by rw [if_pos HK1.out]; exact fun h => h G.out)).symm⟩
      · have q1 : ((dg.size : Int) == 32) = false := by simp; omega
        have q2 : ((dg.size : Int) != 32) = true := by simp; omega
        have G := Lib.hid g1; clear g1
        go_wp2_with fail
        go_meet
        exact ⟨rfl, congrArg Value.bool (decide_eq_true (by rw [if_pos HK1.out]; exact G.out)).symm⟩
    case false =>
      have HK1 : Hid (kd ≠ 1) := by rw [Hid]; simpa using HF.out
      have hd0 : dg.toList.isEmpty = decide (dg.size = 0) := by
        rw [isEmpty_list, Bool.eq_iff_iff, List.isEmpty_iff, decide_eq_true_iff]
        exact ⟨fun h => by have := congrArg List.length h; exact this, fun h => List.eq_nil_of_length_eq_zero h⟩
      by_cases g1 : dg.size = 0
      · rw [decide_eq_true g1] at hd0
        have G := Lib.hid g1; clear g1
        go_wp2_with fail
        go_meet
        exact ⟨rfl, congrArg Value.bool (decide_eq_false (by rw [if_neg HK1.out]; exact fun h => h G.out)).symm⟩
      · rw [decide_eq_false g1] at hd0
        have G := Lib.hid g1; clear g1
        go_wp2_with fail
        go_meet
        exact ⟨rfl, congrArg Value.bool (decide_eq_true (by rw [if_neg HK1.out]; exact G.out)).symm⟩
  obtain ⟨rfl, rfl⟩ := hcut
  by_cases hs2 : dg.size ≠ (if kd = 1 then 32 else 0)
  · have HE := Lib.hid (HR.out.trans (contE_size (X := X) (sizeE_arg (d := dg.size) hs1 hs2) (by decide)))
    rw [decide_eq_true hs2]
    have H1 := Lib.hid hs1; clear hs1
    have H2 := Lib.hid hs2; clear hs2
    go_wp2_with fail
    go_ret
    exact ⟨ret_int HE.out.symm, kb4⟩
  have HS := Lib.hid (sizeE_ok hs1 (d := dg.size) hs2)
  rw [decide_eq_false hs2]
  clear hs1 hs2
  go_upto_block 0 with (fail)
  have hsz4 : w.heap.size < wc.heap.size := bB4.lt
  go_wp2_with fail
  go_loopw [6, 7, 8] (fun s i _ wr => ∃ k : Nat, k ≤ X.length ∧ i = .int .i64 k ∧ s = .int .i64 (exSum (X.take k)) ∧ Hid (firstE (exE kd X) k = 0) ∧ Below w.heap.size w wr ∧ Box wr w.heap.size [.int .i64 kd, .string pt, .slice xa n xc, .string tg, .int .i64 sz, .string dg, .slice xx X.length xk] 109) (fun _ i _ _ => X.length - (intOf i).toNat)
  case atStart => exact ⟨0, by omega, rfl, rfl, rfl, kb4, bB4⟩
  case round =>
    obtain ⟨k, hk, rfl, rfl, hE, kb5, bB5⟩ := hrel
    clear kb4 bB4 c0 c1 c2 c3 c4 c5 c6 hsz4
    obtain ⟨c0, c1, c2, c3, c4, c5, c6⟩ := bB5.cells7
    by_cases hlt : k < X.length
    · rcases HX.out with ⟨rfl, _⟩ | ⟨hpos, b, o, cc, ev, _, _, hb, hXX⟩
      · exact absurd hlt (Nat.not_lt_zero _)
      cases ev
      have hXX : ExAt w b o X := hXX
      obtain ⟨x0, x1, x2⟩ := exCells (show ExAt wr b o X from hXX.below kb5 hb) hlt
      clear hXX HX
      have hbW : Below wr.heap.size wr (wr.alloc (.cells #[.int .i64 (exAt X k).s, .int .i64 (exAt X k).o, .int .i64 (exAt X k).l] 34)) := (below_refl wr).alloc (Nat.le_refl _) _
      have hwl := bB5.lt
      cases fl
      case false =>
        have HK1 : Hid (kd ≠ 1) := by rw [Hid]; simpa using HF.out
        have HE := Lib.hid (HR.out.trans (contE_ext HS.out hE.out hlt (exE_kind HK1.out) (by decide)))
        go_wp2_with fail
        go_ret
        exact ⟨ret_int HE.out.symm, step2 kb5 hbW⟩
      have hk1 : kd = 1 := by simpa using HF.out
      subst hk1
      obtain ⟨sb0, sb1⟩ := exSum_bd (Nat.le_of_lt hlt) hE.out
      have hst := Lib.hid (exSum_take X k hlt)
      obtain ⟨ys, yo, yl⟩ := HOK.out k
      have HP := Lib.hid (exOk_iff (x := exAt X k))
      have S1 := Lib.hid (show exOk (exAt X k) = false → R = 2 from fun h => HR.out.trans (contE_ext HS.out hE.out hlt (exE_bad h) (by decide)))
      have S2 := Lib.hid (show exOk (exAt X k) = true → firstE (exE 1 X) (k + 1) = 0 from fun h => firstE_next hE.out (exE_ok h))
      generalize exSum (X.take k) = sm at *
      generalize exOk (exAt X k) = ok at *
      generalize (exAt X k).s = xs at *
      generalize (exAt X k).o = xo at *
      generalize (exAt X k).l = xl at *
      go_upto_region 25 with (fail)
      cases ok
      · have HR2 := Lib.hid (S1.out rfl)
        have HN := Lib.hid (show ¬ (0 ≤ xs ∧ xs ≤ 255 ∧ 0 ≤ xo ∧ xo ≤ 2147483647 ∧ 1 ≤ xl ∧ xl ≤ 65536 ∧ (xs = 0 → xo = 0)) from fun h => by have := HP.out.2 h; cases this)
        have HD := Lib.hid (show xs < 0 ∨ (0 ≤ xs ∧ 255 < xs) ∨ (0 ≤ xs ∧ xs ≤ 255 ∧ xo < 0) ∨ (0 ≤ xs ∧ xs ≤ 255 ∧ 0 ≤ xo ∧ 2147483647 < xo) ∨ (0 ≤ xs ∧ xs ≤ 255 ∧ 0 ≤ xo ∧ xo ≤ 2147483647 ∧ xl < 1) ∨ (0 ≤ xs ∧ xs ≤ 255 ∧ 0 ≤ xo ∧ xo ≤ 2147483647 ∧ 1 ≤ xl ∧ 65536 < xl) ∨ (xs = 0 ∧ 0 ≤ xo ∧ xo ≤ 2147483647 ∧ 1 ≤ xl ∧ xl ≤ 65536 ∧ ¬ xo = 0) from by have := HN.out; omega)
        clear S1 S2 HP x0 x1 x2 HN hst
        rcases HD.out with g1 | ⟨g1, g2⟩ | ⟨g1, g2, g3⟩ | ⟨g1, g2, g3, g4⟩ | ⟨g1, g2, g3, g4, g5⟩ | ⟨g1, g2, g3, g4, g5, g6⟩ | ⟨rfl, g3, g4, g5, g6, g7⟩
        case inr.inr.inr.inr.inr.inr =>
          have q4 : (xo == 0) = false := by simpa using g7
          have q5 : (xo != 0) = true := by simpa using g7
          clear g7 HD
          go_wp2_with fail
          go_ret
          exact ⟨ret_int HR2.out.symm, step2 kb5 hbW⟩
        all_goals
          clear HD
          go_wp2_with fail
          go_ret
          exact ⟨ret_int HR2.out.symm, step2 kb5 hbW⟩
      · have HE2 := Lib.hid (S2.out rfl)
        obtain ⟨g1, g2, g3, g4, g5, g6, g7⟩ := HP.out.1 rfl
        have bB6 := bB5.below hbW
        clear S1 S2 HP x0 x1 x2
        by_cases hz : xs = 0
        · have hzo := g7 hz
          subst hz
          subst hzo
          go_wp2_with fail
          go_roundw
          case rel => exact ⟨k + 1, by omega, by go_num, by rw [hst.out], HE2, step2 kb5 hbW, bB6⟩
          case measure => simp [intOf]; omega
        · have q4 : (xs == 0) = false := by simpa using hz
          clear g7 hz
          go_wp2_with fail
          go_roundw
          case rel => exact ⟨k + 1, by omega, by go_num, by rw [hst.out], HE2, step2 kb5 hbW, bB6⟩
          case measure => simp [intOf]; omega
    · obtain rfl : k = X.length := by omega
      have HC := Lib.hid (HR.out.trans (contE_sum (X := X) HS.out hE.out))
      rw [List.take_of_length_le (Nat.le_refl _)]
      generalize exSum X = sm at *
      by_cases hz : sm = sz
      · rw [if_pos hz] at HC
        have q1 : (sm == sz) = true := by rw [beq_iff_eq]; exact hz
        have q2 : (sm != sz) = false := by rw [bne_eq_false_iff_eq]; exact hz
        have Hz := Lib.hid hz; clear hz
        go_wp2_with fail
        go_ret
        exact ⟨ret_int HC.out.symm, kb5⟩
      · rw [if_neg hz] at HC
        have q1 : (sm == sz) = false := by rw [beq_eq_false_iff_ne]; exact hz
        have q2 : (sm != sz) = true := by rw [bne_iff_ne]; exact hz
        have Hz := Lib.hid hz; clear hz
        go_wp2_with fail
        go_ret
        exact ⟨ret_int HC.out.symm, kb5⟩
/-- the bounds of an entry that came in: extents up to 2^40 -/
structure EnBig (e : En) : Prop where
  path : e.path.size ≤ 9223372036854775807
  attrs : e.attrs.length ≤ 9223372036854775807 ∧ ∀ i, AtBig (atAt e.attrs i)
  target : e.target.size ≤ 9223372036854775807
  digest : e.digest.size ≤ 9223372036854775807
  exts : e.exts.length ≤ 10000000000000 ∧ ∀ i, ExOk (exAt e.exts i)
theorem refCheck_big (e : En) (va vx : Value) (w : World) (ha : AtRow w va e.attrs) (hx : ExRow w vx e.exts) (hok : EnBig e) :
    Calls Tryz.prog 81 #[.agg #[.int .i64 e.kind, .string e.path, va, .string e.target, .int .i64 e.size, .string e.digest, vx]] w (IntP (chkE e) w) := by
  obtain ⟨xa, xc, rfl⟩ := ha.form
  rw [chkE_parts]
  exact rcheck_big e.kind e.path e.target e.digest e.size xa e.attrs.length xc vx e.exts w _ _ _ hok.attrs.1 hx hok.exts.2 hok.exts.1 hok.digest
    (fun W => refPathCheck_big e.path W hok.path)
    (fun W hW => refAttrCheck_big _ e.attrs W (ha.below hW) hok.attrs.2)
    (fun W _ => refTarget_big e.kind e.path e.target e.digest e.size _ vx W hok.target)
end Go.Proofs.YtpkapcijgldhhaaGreatDoor
