/-
  The laws of netstrings, walked out of the contracts.
-/
import Derived.Test.YtkeblehaffcnoaaDoorNetWalks
import Derived.Deep.RegionWith
namespace Go.Proofs.YtkeblehaffcnoaaDoor
open Go.RowKit

def TrueP (w : World) (e : Ending) (w' : World) : Prop := e = .returned (.bool true) ∧ Below w.heap.size w w'

theorem itoa3 : Lib.itoa 3 = [51] := by rw [Lib.itoa, if_neg (by decide), Lib.decDigits]; rfl
theorem itoaM12 : Lib.itoa (-12) = [45, 49, 50] := by
  rw [Lib.itoa, if_pos (by decide), show Int.natAbs (-12) = 12 from rfl, Lib.decDigits, dif_neg (by decide), Lib.decDigits, dif_pos (by decide)]; rfl
theorem rd_awake : rdStr [51, 58, 97, 98, 99, 44] 0 = ([97, 98, 99], 6, 0) := by decide +kernel
theorem rd_awake2 : rdNum [48, 55, 32] 0 = (0, 0, 3) := by decide +kernel

theorem lit_of {s : ByteArray} {l : List UInt8} (h : s.data.toList = l) : s = ⟨l.toArray⟩ := list_inj h

set_option maxHeartbeats 1000000 in
theorem awake_any (w : World) (he : Env w) : Calls Tryd.prog 12 #[] w (TrueP w) := by
  go_enter Tryd.func12, Tryd.ntmps12
  go_wp2_with fail
  refine (readString_any _ _ _ (by decide) he).mono ?_
  rintro e w1 ⟨u, x, y, rfl, h1, hb1⟩
  obtain ⟨hu, rfl, rfl⟩ : u.data.toList = [97, 98, 99] ∧ x = 6 ∧ y = 0 := by
    have := h1.out
    rw [show (⟨#[51, 58, 97, 98, 99, 44]⟩ : ByteArray).data.toList = [51, 58, 97, 98, 99, 44] from rfl, rd_awake] at this
    simp only [Prod.mk.injEq] at this
    exact ⟨this.1.symm, this.2.1.symm, this.2.2.symm⟩
  obtain rfl := lit_of hu
  clear hu h1
  have he1 := he.below hb1
  go_wp2_with fail
  refine (readNumber_any _ _ _ (by decide) he1).mono ?_
  rintro e w2 ⟨n, x, y, rfl, h1, hb2⟩
  obtain ⟨rfl, rfl, rfl⟩ : n = 0 ∧ x = 0 ∧ y = 3 := by
    have := h1.out
    rw [show (⟨#[48, 55, 32]⟩ : ByteArray).data.toList = [48, 55, 32] from rfl, rd_awake2] at this
    simp only [Prod.mk.injEq] at this
    exact ⟨this.1.symm, this.2.1.symm, this.2.2.symm⟩
  clear h1
  have he2 := he1.below hb2
  go_wp2_with fail
  refine (number_any _ _ he2 (by decide) (by decide)).mono ?_
  rintro e w3 ⟨t, rfl, ht, hb3⟩
  rw [numL, itoaM12] at ht
  obtain rfl := lit_of ht.out
  clear ht
  have he3 := he2.below hb3
  go_wp2_with fail
  refine (string_any _ _ he3 (by decide)).mono ?_
  rintro e w4 ⟨t, rfl, ht, hb4⟩
  rw [strL, show (⟨#[97, 98, 99]⟩ : ByteArray).data.toList.length = 3 from rfl, show Lib.itoa ((3 : Nat) : Int) = [51] from itoa3] at ht
  obtain rfl := lit_of ht.out
  clear ht
  go_wp2_with fail
  go_ret
  exact ⟨rfl, step2 (step2 (step2 hb1 hb2) hb3) hb4⟩

set_option maxHeartbeats 1000000 in
theorem lawReading_any (s : ByteArray) (a : Int) (w : World) (he : Env w) (hs : s.size ≤ 140737488355328) (_ha : -9223372036854775808 ≤ a ∧ a ≤ 9223372036854775807) :
    Calls Tryd.prog 3 #[.string s, .int .i64 a] w (TrueP w) := by
  by_cases hbig : 1000 < s.size
  · go_enter Tryd.func3, Tryd.ntmps3
    go_wp2_with fail
    refine (awake_any _ he).mono ?_
    rintro e w1 ⟨rfl, hb1⟩
    go_wp2_with fail
    go_ret
    exact ⟨rfl, hb1⟩
  go_enter Tryd.func3, Tryd.ntmps3
  go_wp2_with fail
  refine (readNumber_any s a _ hs he).mono ?_
  rintro e w1 ⟨n, x, y, rfl, h1, hb1⟩
  go_wp2_with fail
  refine (refReadNumber_any s a _ hs).mono ?_
  rintro e w2 ⟨n', x', y', rfl, h2, rfl⟩
  rw [h1.out] at h2
  simp only [Hid, Prod.mk.injEq] at h2
  obtain ⟨rfl, rfl, rfl⟩ := h2
  clear h1
  have he1 := he.below hb1
  go_wp2_with fail
  refine (readString_any s a _ hs he1).mono ?_
  rintro e w2 ⟨u, x, y, rfl, h1, hb2⟩
  go_wp2_with fail
  refine (refReadString_any s a _ (by omega)).mono ?_
  rintro e w3 ⟨u', x', y', rfl, h2, rfl⟩
  rw [h1.out] at h2
  simp only [Hid, Prod.mk.injEq] at h2
  obtain ⟨hu, rfl, rfl⟩ := h2
  obtain rfl := list_inj hu
  clear h1 hu
  have he2 := he1.below hb2
  go_wp2_with fail
  refine (awake_any _ he2).mono ?_
  rintro e w4 ⟨rfl, hb3⟩
  go_wp2_with fail
  go_ret
  exact ⟨rfl, step2 (step2 hb1 hb2) hb3⟩

set_option maxHeartbeats 1000000 in
theorem lawNumber_any (f : ByteArray) (n : Int) (r : ByteArray) (w : World) (he : Env w) (hf : f.size ≤ 140737488355328) (hr : r.size ≤ 140737488355328) (hn : -9223372036854775808 ≤ n ∧ n ≤ 9223372036854775807) :
    Calls Tryd.prog 4 #[.string f, .int .i64 n, .string r] w (TrueP w) := by
  obtain ⟨n0, n1⟩ := hn
  by_cases hbig : 500 < f.size + r.size
  · go_enter Tryd.func4, Tryd.ntmps4
    go_wp2_with fail
    refine (awake_any _ he).mono ?_
    rintro e w1 ⟨rfl, hb1⟩
    go_wp2_with fail
    go_ret
    exact ⟨rfl, hb1⟩
  go_enter Tryd.func4, Tryd.ntmps4
  go_wp2_with fail
  refine (number_any n _ he n0 n1).mono ?_
  rintro e w1 ⟨t, rfl, ht, hb1⟩
  have hts : t.size = (numL n).length := by rw [← toList_size, ht.out]
  have htl : t.size ≤ 21 := by rw [hts, numL_length]; have := itoa_len n0 n1; omega
  have Hts := Lib.hid hts; clear hts
  have he1 := he.below hb1
  go_wp2_with fail
  obtain ⟨s, hs, hsl⟩ : ∃ s : ByteArray, f ++ t ++ r = s ∧ Hid (s.data.toList = f.data.toList ++ numL n ++ r.data.toList) := ⟨_, rfl, by rw [Hid, append_list, append_list, ht.out]⟩
  rw [hs]
  have hsz : s.size = f.size + t.size + r.size := by rw [← hs]; simp
  have Hs := Lib.hid hs; clear hs
  refine (readNumber_any s f.size _ (by omega) he1).mono ?_
  rintro e w2 ⟨m, x, y, rfl, h1, hb2⟩
  rw [hsl.out] at h1
  have he2 := he1.below hb2
  by_cases hlow : n < -2147483648
  · have h2 := h1.out
    rw [show (f.size : Int) = (f.data.toList.length : Nat) from rfl, rdNum_far _ _ _ (.inl hlow)] at h2
    simp only [Prod.mk.injEq] at h2
    obtain ⟨rfl, rfl, rfl⟩ := h2
    clear h1
    have Hsz := Lib.hid hsz; clear hsz
    go_wp2_with fail
    refine (awake_any _ he2).mono ?_
    rintro e w3 ⟨rfl, hb3⟩
    go_wp2_with fail
    go_ret
    exact ⟨rfl, step2 (step2 hb1 hb2) hb3⟩
  by_cases hhigh : 2147483647 < n
  · have h2 := h1.out
    rw [show (f.size : Int) = (f.data.toList.length : Nat) from rfl, rdNum_far _ _ _ (.inr hhigh)] at h2
    simp only [Prod.mk.injEq] at h2
    obtain ⟨rfl, rfl, rfl⟩ := h2
    clear h1
    have Hsz := Lib.hid hsz; clear hsz
    go_wp2_with fail
    refine (awake_any _ he2).mono ?_
    rintro e w3 ⟨rfl, hb3⟩
    go_wp2_with fail
    go_ret
    exact ⟨rfl, step2 (step2 hb1 hb2) hb3⟩
  have h2 := h1.out
  rw [show (f.size : Int) = (f.data.toList.length : Nat) from rfl, rdNum_numL _ _ _ (by omega) (by omega)] at h2
  simp only [Prod.mk.injEq] at h2
  obtain ⟨rfl, h3, rfl⟩ := h2
  obtain rfl : x = ((f.size + t.size : Nat) : Int) := by rw [← h3, Hts.out]; rfl
  clear h1 h3
  have hz1 : s.size ≤ f.size + t.size + r.size := by omega
  have hz2 : f.size + t.size + r.size ≤ s.size := by omega
  clear hsz
  go_wp2_with fail
  refine (awake_any _ he2).mono ?_
  rintro e w3 ⟨rfl, hb3⟩
  go_wp2_with fail
  go_ret
  exact ⟨rfl, step2 (step2 hb1 hb2) hb3⟩

set_option maxHeartbeats 1000000 in
theorem lawString_any (f s r : ByteArray) (w : World) (he : Env w) (hf : f.size ≤ 140737488355328) (hs : s.size ≤ 140737488355328) (hr : r.size ≤ 140737488355328) :
    Calls Tryd.prog 5 #[.string f, .string s, .string r] w (TrueP w) := by
  by_cases hbig : 500 < f.size + s.size + r.size
  · go_enter Tryd.func5, Tryd.ntmps5
    go_wp2_with fail
    refine (awake_any _ he).mono ?_
    rintro e w1 ⟨rfl, hb1⟩
    go_wp2_with fail
    go_ret
    exact ⟨rfl, hb1⟩
  go_enter Tryd.func5, Tryd.ntmps5
  go_wp2_with fail
  refine (string_any s _ he hs).mono ?_
  rintro e w1 ⟨t, rfl, ht, hb1⟩
  have hts : t.size = (strL s.data.toList).length := by rw [← toList_size, ht.out]
  have htl : t.size ≤ 1000 := by rw [hts, strL_length, toList_size]; have := itoa_len (n := s.size) (by omega) (by omega); omega
  have Hts := Lib.hid hts; clear hts
  have he1 := he.below hb1
  go_wp2_with fail
  obtain ⟨u, hu, hul⟩ : ∃ u : ByteArray, f ++ t ++ r = u ∧ Hid (u.data.toList = f.data.toList ++ strL s.data.toList ++ r.data.toList) := ⟨_, rfl, by rw [Hid, append_list, append_list, ht.out]⟩
  rw [hu]
  have hsz : u.size = f.size + t.size + r.size := by rw [← hu]; simp
  have Hu := Lib.hid hu; clear hu
  refine (readString_any u f.size _ (by omega) he1).mono ?_
  rintro e w2 ⟨m, x, y, rfl, h1, hb2⟩
  have he2 := he1.below hb2
  have h2 := h1.out
  rw [hul.out, show (f.size : Int) = (f.data.toList.length : Nat) from rfl, rdStr_strL] at h2
  simp only [Prod.mk.injEq] at h2
  obtain ⟨h4, h3, rfl⟩ := h2
  obtain rfl := list_inj h4
  obtain rfl : x = ((f.size + t.size : Nat) : Int) := by rw [← h3, Hts.out]; rfl
  clear h1 h3 h4
  have hz1 : u.size ≤ f.size + t.size + r.size := by omega
  have hz2 : f.size + t.size + r.size ≤ u.size := by omega
  clear hsz
  go_wp2_with fail
  refine (awake_any _ he2).mono ?_
  rintro e w3 ⟨rfl, hb3⟩
  go_wp2_with fail
  go_ret
  exact ⟨rfl, step2 (step2 hb1 hb2) hb3⟩

/-- a netstring read at its beginning -/
theorem readBack_any (s t : ByteArray) (w : World) (he : Env w) (ht : Hid (t.data.toList = strL s.data.toList)) (hts : t.size ≤ 140737488355328) :
    Calls Tryd.prog 15 #[.string t, .int .i64 0] w fun e w' => e = .returned (.tuple #[.string s, .int .i64 t.size, .int .i64 0]) ∧ Below w.heap.size w w' := by
  refine (readString_any t 0 w hts he).mono ?_
  rintro e w3 ⟨u, x, y, rfl, h1, hb3⟩
  have h2 := h1.out
  have h4 := rdStr_strL [] s.data.toList []
  simp only [List.nil_append, List.append_nil, List.length_nil, Int.natCast_zero, Nat.zero_add] at h4
  rw [ht.out, h4] at h2
  simp only [Prod.mk.injEq] at h2
  obtain ⟨h3, h5, rfl⟩ := h2
  obtain rfl := list_inj h3
  obtain rfl : x = (t.size : Int) := by rw [← h5, ← ht.out]; rfl
  exact ⟨rfl, hb3⟩

set_option maxHeartbeats 1000000 in
theorem lawPrefix_any (s : ByteArray) (k : Int) (w : World) (he : Env w) (hs : s.size ≤ 140737488355328) (hk : 0 ≤ k ∧ k ≤ 65535) :
    Calls Tryd.prog 6 #[.string s, .int .u16 k] w (TrueP w) := by
  obtain ⟨k0, k1⟩ := hk
  by_cases hbig : 300 < s.size
  · go_enter Tryd.func6, Tryd.ntmps6
    go_wp2_with fail
    refine (awake_any _ he).mono ?_
    rintro e w1 ⟨rfl, hb1⟩
    go_wp2_with fail
    go_ret
    exact ⟨rfl, hb1⟩
  go_enter Tryd.func6, Tryd.ntmps6
  go_wp2_with fail
  refine (string_any s _ he hs).mono ?_
  rintro e w1 ⟨t, rfl, ht, hb1⟩
  have hts : t.size = (strL s.data.toList).length := by rw [← toList_size, ht.out]
  have htl : t.size ≤ 1000 := by rw [hts, strL_length, toList_size]; have := itoa_len (n := s.size) (by omega) (by omega); omega
  have htp : 0 < t.size := by rw [hts, strL_length]; omega
  have Hts := Lib.hid hts; clear hts
  have hne : t.toList.isEmpty = false := by
    rw [isEmpty_list, ht.out]; simp [strL]
  have he1 := he.below hb1
  obtain ⟨k, rfl⟩ := Int.eq_ofNat_of_zero_le k0
  have hmod : k % t.size < t.size := Nat.mod_lt _ htp
  go_wp2_with fail
  have hpl : (t.extract 0 (k % t.size)).data.toList = (strL s.data.toList).take (k % t.size) := by rw [extract_list, ht.out]; simp
  have hpz : (t.extract 0 (k % t.size)).size ≤ 1000 := by rw [← toList_size, hpl]; simp; omega
  have Hpl := Lib.hid hpl
  clear hpl
  refine (readString_any _ 0 _ (by omega) he1).mono ?_
  rintro e w2 ⟨u, x, y, rfl, h1, hb2⟩
  have he2 := he1.below hb2
  have h2 := h1.out
  rw [Hpl.out, rdStr_prefix _ _ (by rw [← Hts.out]; exact hmod)] at h2
  simp only [Prod.mk.injEq] at h2
  obtain ⟨h3, rfl, rfl⟩ := h2
  obtain rfl := lit_of h3.symm
  clear h1 h3
  go_wp2_with fail
  go_region_with (go_at_call 15; refine (readBack_any s t _ (he2.below (Below.drew (below_refl _))) ht (by omega)).mono ?_; rintro e w3 ⟨rfl, hb3⟩)
  all_goals
    have he3 := (he2.below (Below.drew (below_refl _))).below hb3
    go_wp2_with fail
    refine (awake_any _ he3).mono ?_
    rintro e w4 ⟨rfl, hb4⟩
    go_wp2_with fail
    go_ret
    exact ⟨rfl, step2 (step2 (step2 hb1 hb2) ((Below.drew (below_refl _)).trans hb3)) hb4⟩

def nest : Nat → List UInt8 → List UInt8
  | 0, l => l
  | n + 1, l => strL (nest n l)

theorem nest_length (l : List UInt8) (hl : l.length ≤ 300) : ∀ n, n ≤ 6 → (nest n l).length ≤ 300 + 22 * n := by
  intro n
  induction n with
  | zero => intro _; simpa [nest] using hl
  | succ n ih =>
    intro hn
    have := ih (by omega)
    rw [nest, strL_length]
    have h2 := itoa_len (n := ((nest n l).length : Nat)) (by omega) (by omega)
    omega

set_option maxHeartbeats 1000000 in
theorem lawNesting_any (s : ByteArray) (k : Int) (w : World) (he : Env w) (hs : s.size ≤ 140737488355328) (hk : 0 ≤ k ∧ k ≤ 255) :
    Calls Tryd.prog 7 #[.string s, .int .u8 k] w (TrueP w) := by
  obtain ⟨k0, k1⟩ := hk
  by_cases hbig : 300 < s.size
  · go_enter Tryd.func7, Tryd.ntmps7
    go_wp2_with fail
    refine (awake_any _ he).mono ?_
    rintro e w1 ⟨rfl, hb1⟩
    go_wp2_with fail
    go_ret
    exact ⟨rfl, hb1⟩
  obtain ⟨k, rfl⟩ := Int.eq_ofNat_of_zero_le k0
  go_enter Tryd.func7, Tryd.ntmps7
  go_wp2_with fail
  have hn6 : k % 6 < 6 := Nat.mod_lt _ (by omega)
  obtain ⟨n, hn⟩ : ∃ n : Nat, k % 6 = n := ⟨_, rfl⟩
  have hnk : ((k : Int) % 6) = (n : Int) := by omega
  rw [hnk]
  have hn5 : n ≤ 5 := by omega
  clear hn hn6 hnk
  go_loopw [6, 20] (fun t i wr => ∃ (j : Nat) (u : ByteArray), j ≤ n ∧ i = .int .i64 j ∧ t = .string u ∧ Hid (u.data.toList = nest j s.data.toList) ∧ Below w.heap.size w wr) (fun _ i _ => n - (intOf i).toNat)
  case atStart => exact ⟨0, s, by omega, rfl, rfl, rfl, below_refl _⟩
  case round =>
    obtain ⟨j, u, hj, rfl, rfl, hu, hbw⟩ := hrel
    have hus : u.size ≤ 500 := by
      rw [← toList_size, hu.out]
      have := nest_length s.data.toList (by rw [toList_size]; omega) j (by omega)
      omega
    have hew := he.below hbw
    by_cases hlt : j < n
    · go_wp2_with fail
      refine (string_any u _ hew (by omega)).mono ?_
      rintro e w1 ⟨v, rfl, hv, hb1⟩
      have hvs : v.size = (strL u.data.toList).length := by rw [← toList_size, hv.out]
      have hew1 := hew.below hb1
      have hvi : (v.size : Int) = (Lib.itoa u.size).length + 1 + u.size + 1 := by rw [hvs, strL_length, toList_size]; omega
      have hi20 := itoa_len (n := u.size) (by omega) (by omega)
      have hv1 : v.size ≤ 1000 := by omega
      have Hvi := Lib.hid hvi
      clear hvi hvs hi20
      go_wp2_with fail
      refine (number_any u.size _ hew1 (by omega) (by omega)).mono ?_
      rintro e w2 ⟨q, rfl, hq, hb2⟩
      have hqs : q.size = (Lib.itoa u.size).length + 1 := by rw [← toList_size, hq.out, numL_length]
      have e1 := Hvi.out
      have hz1 : v.size ≤ u.size + q.size + 1 := by omega
      have hz2 : u.size + q.size + 1 ≤ v.size := by omega
      clear e1 hqs
      go_wp2_with fail
      go_roundw
      case rel => exact ⟨j + 1, v, by omega, by go_num, rfl, by rw [Hid, hv.out, nest, hu.out], step2 (step2 hbw hb1) hb2⟩
      case measure => simp [intOf]; omega
    · obtain rfl : j = n := by omega
      go_wp2_with fail
      clear hlt hj
      go_loopw [6, 38] (fun t i wq => ∃ (m : Nat) (v : ByteArray), m ≤ j ∧ i = .int .i64 m ∧ t = .string v ∧ Hid (v.data.toList = nest (j - m) s.data.toList) ∧ Below w.heap.size w wq) (fun _ i _ => j - (intOf i).toNat)
      case atStart => exact ⟨0, u, by omega, rfl, rfl, hu, hbw⟩
      case round =>
        obtain ⟨m, v, hm, rfl, rfl, hv, hbq⟩ := hrel
        have hvs : v.size ≤ 500 := by
          rw [← toList_size, hv.out]
          have := nest_length s.data.toList (by rw [toList_size]; omega) (j - m) (by omega)
          omega
        have heq := he.below hbq
        by_cases hlt : m < j
        · obtain ⟨x, hx⟩ : ∃ x : ByteArray, Hid (x.data.toList = nest (j - (m + 1)) s.data.toList) := ⟨⟨(nest (j - (m + 1)) s.data.toList).toArray⟩, rfl⟩
          have hvx : Hid (v.data.toList = strL x.data.toList) := by
            rw [Hid, hv.out, hx.out, show j - m = (j - (m + 1)) + 1 from by omega]; rfl
          go_wp2_with fail
          refine (readBack_any x v _ heq hvx (by omega)).mono ?_
          rintro e w1 ⟨rfl, hb1⟩
          go_wp2_with fail
          go_roundw
          case rel => exact ⟨m + 1, x, by omega, by go_num, rfl, hx, step2 hbq hb1⟩
          case measure => simp [intOf]; omega
        · obtain rfl : m = j := by omega
          have hvq : v = s := list_inj (by rw [hv.out, Nat.sub_self]; rfl)
          subst hvq
          go_wp2_with fail
          refine (awake_any _ heq).mono ?_
          rintro e w4 ⟨rfl, hb4⟩
          go_wp2_with fail
          go_ret
          exact ⟨rfl, step2 hbq hb4⟩
end Go.Proofs.YtkeblehaffcnoaaDoor
