/-
  The walks of the netstring package and of its reference: the readers.
-/
import Derived.Test.YtpkapcijgldhhaaGreatDoorBase
import Derived.Test.YtpkapcijgldhhaaGreatDoorNetPlain
namespace Go.Proofs.YtpkapcijgldhhaaGreatDoor
open Go.RowKit

/-- what 'until' gives -/
def UntilR (s : ByteArray) (a : Int) (c : UInt8) (t : ByteArray) (n e : Int) : Prop :=
  ((a < 0 ∨ (s.size : Int) < a) ∧ t = ⟨#[]⟩ ∧ n = 0 ∧ e = 1) ∨
  (∃ j : Nat, a = j ∧ j ≤ s.size ∧ Lib.indexByte (s.data.toList.drop j) c < 0 ∧ t = ⟨#[]⟩ ∧ n = 0 ∧ e = 4) ∨
  (∃ j k : Nat, a = j ∧ j + k < s.size ∧ Lib.indexByte (s.data.toList.drop j) c = k ∧ t.data.toList = (s.data.toList.drop j).take k ∧ n = ((j + k + 1 : Nat) : Int) ∧ e = 0)

def UntilP (s : ByteArray) (a : Int) (c : UInt8) (w : World) (e : Ending) (w' : World) : Prop :=
  ∃ t n x, e = .returned (.tuple #[.string t, .int .i64 n, .int .i64 x]) ∧ UntilR s a c t n x ∧ w = w'

theorem rest_list (s : ByteArray) (k : Nat) : (s.extract k s.size).data.toList = s.data.toList.drop k := by
  rw [extract_list, List.take_of_length_le (by simp)]

set_option maxHeartbeats 400000 in
theorem until_any (s : ByteArray) (a : Int) (c : UInt8) (w : World) (hs : s.size ≤ 9223372036854775806) :
    Calls Tryz.prog 138 #[.string s, .int .i64 a, .int .u8 c.toNat] w (UntilP s a c w) := by
  by_cases h0 : a < 0
  · go_enter Tryz.func138, Tryz.ntmps138
    go_wp2_with fail
    go_ret3
    exact ⟨_, _, _, rfl, .inl ⟨.inl h0, rfl, rfl, rfl⟩, rfl⟩
  by_cases h1 : (s.size : Int) < a
  · go_enter Tryz.func138, Tryz.ntmps138
    go_wp2_with fail
    go_ret3
    exact ⟨_, _, _, rfl, .inl ⟨.inr h1, rfl, rfl, rfl⟩, rfl⟩
  obtain ⟨k, rfl⟩ := Int.eq_ofNat_of_zero_le (Int.not_lt.1 h0)
  have hk : k ≤ s.size := by omega
  go_enter Tryz.func138, Tryz.ntmps138
  go_wp2_with fail
  refine (Tryz.strings_IndexByte _ _ _).mono ?_
  rintro e w' ⟨rfl, rfl⟩
  have hl : (s.data.toList.drop k).length = s.size - k := by simp
  have hi := indexByte_cases (s.data.toList.drop k) c
  have hge := Lib.indexByte_ge (s.data.toList.drop k) c
  rw [rest_list, show ((c.toNat : Int).toNat.toUInt8) = c from by simp]
  generalize hn : Lib.indexByte (s.data.toList.drop k) c = n at *
  have Hn := Lib.hid hn; clear hn
  by_cases hneg : n < 0
  · clear hi
    go_wp2_with fail
    go_ret3
    exact ⟨_, _, _, rfl, .inr (.inl ⟨k, rfl, hk, by rw [Hn.out]; exact hneg, rfl, rfl, rfl⟩), rfl⟩
  · obtain ⟨m, rfl, hm⟩ : ∃ m : Nat, n = m ∧ m < s.size - k := by
      rcases hi with ⟨h, _⟩ | ⟨m, h, hm, _⟩
      · omega
      · exact ⟨m, h, by omega⟩
    clear hi
    go_wp2_with fail
    go_ret3
    refine ⟨_, _, _, rfl, .inr (.inr ⟨k, m, rfl, by omega, Hn.out, ?_, ?_, rfl⟩), rfl⟩
    · rw [extract_list]; congr 1; omega
    · simp
theorem digitSet_ascii : ∀ (j : Nat) b, (⟨#[48, 49, 50, 51, 52, 53, 54, 55, 56, 57]⟩ : ByteArray).data.toList[j]? = some b → b.toNat < 128 := by
  intro j b h
  have : b ∈ digitSet := List.mem_of_getElem? h
  revert this
  revert b
  simp only [digitSet]
  intro b _ hb
  simp only [List.mem_cons, List.mem_nil_iff, or_false] at hb
  rcases hb with rfl | rfl | rfl | rfl | rfl | rfl | rfl | rfl | rfl | rfl <;> decide
theorem trim_digits_any (d : ByteArray) (w : World) (hs : d.size ≤ 9223372036854775807) :
    Calls Tryz.prog 173 #[.string d, .string ⟨#[48, 49, 50, 51, 52, 53, 54, 55, 56, 57]⟩] w fun e w' =>
      ∃ t : ByteArray, e = .returned (.string t) ∧ Hid (t.data.toList = [] ↔ d.data.toList.all isDig = true) ∧ Below w.heap.size w w' := by
  refine (Any.strings_Trim_laid Tryz.lays160 (by kernel_rfl) d ⟨#[48, 49, 50, 51, 52, 53, 54, 55, 56, 57]⟩ w hs (by decide) digitSet_ascii).mono ?_
  rintro e w1 ⟨rfl, hb⟩
  exact ⟨_, rfl, trim_digits _, hb⟩
set_option maxHeartbeats 400000 in
theorem decimal_any (s : ByteArray) (w : World) (hs : s.size ≤ 9223372036854775806) :
    Calls Tryz.prog 139 #[.string s] w fun e w' => ∃ b : Bool, e = .returned (.bool b) ∧ Hid (decB s.data.toList = b) ∧ Below w.heap.size w w' := by
  have hsl : (strip s.data.toList).length ≤ s.size := by
    unfold strip; split
    · simp
    · exact Nat.le_refl _
  go_enter Tryz.func139, Tryz.ntmps139
  go_wp2_with fail
  refine (Tryz.strings_TrimPrefix _ _ _).mono ?_
  rintro e w' ⟨rfl, rfl⟩
  rw [show Lib.trimPrefix s.data.toList (⟨#[45]⟩ : ByteArray).data.toList = strip s.data.toList from trimPrefix_strip _]
  generalize hl : strip s.data.toList = l at *
  obtain ⟨d, hdl, hds⟩ : ∃ d : ByteArray, Hid (d.data.toList = l) ∧ d.size = l.length := ⟨⟨l.toArray⟩, rfl, rfl⟩
  rw [show (⟨l.toArray⟩ : ByteArray) = d from list_inj hdl.out.symm]
  have Hl := Lib.hid hl; clear hl
  have hdsz : d.size ≤ 9223372036854775807 := by omega
  clear hds hsl
  by_cases h0 : l = []
  · have he : d.toList.isEmpty = true := by rw [isEmpty_list, hdl.out, h0]; rfl
    have H0 := Lib.hid h0; clear h0
    go_wp2_with fail
    go_ret
    exact ⟨_, rfl, decB_nil (Hl.out.trans H0.out), below_refl _⟩
  have hpos : 0 < d.size := size_pos (by rw [hdl.out]; exact h0)
  have he : d.toList.isEmpty = false := by rw [isEmpty_list, hdl.out]; simpa using h0
  have hd0 := get_list d 0 hpos
  rw [hdl.out] at hd0
  have hhead : l.head? = some d[0] := by rw [List.head?_eq_getElem?]; exact hd0
  have Hh := Lib.hid hhead
  have H0 := Lib.hid h0
  clear hd0 hhead h0
  go_wp2_with fail
  refine (trim_digits_any d _ hdsz).mono ?_
  rintro e w1 ⟨t, rfl, ht, hb⟩
  rw [hdl.out] at ht
  by_cases ha : l.all isDig = true
  · have hte : t.toList.isEmpty = true := by rw [isEmpty_list, ht.out.2 ha]; rfl
    have Ha := Lib.hid ha; clear ha
    by_cases h48 : d[0] = 48
    · obtain ⟨hb48, hn48⟩ := byte_is h48 (n := 48) rfl
      have H48 := Lib.hid h48; clear h48
      go_wp2_with fail
      go_ret
      refine ⟨_, rfl, ?_, hb⟩
      rw [beq_list]
      exact decB_zero (by rw [Hl.out]; exact H0.out) (by rw [Hl.out]; exact Ha.out) (by rw [Hl.out, Hh.out, H48.out])
    · obtain ⟨hb48, hn48⟩ := byte_not h48 (n := 48) rfl
      have H48 := Lib.hid h48; clear h48
      go_wp2_with fail
      go_ret
      refine ⟨_, rfl, ?_, hb⟩
      exact decB_ok (by rw [Hl.out]; exact H0.out) (by rw [Hl.out]; exact Ha.out) (by rw [Hl.out, Hh.out]; simpa using H48.out)
  · have hte : t.toList.isEmpty = false := by
      rw [isEmpty_list]
      have : ¬ t.data.toList = [] := fun e => ha (ht.out.1 e)
      simpa using this
    have Ha := Lib.hid ha; clear ha
    go_wp2_with fail
    go_ret
    exact ⟨_, rfl, decB_other (by rw [Hl.out]; exact Ha.out), hb⟩

theorem below_bytes (w : World) (s : ByteArray) (e : TypeId) : Below w.heap.size w (Lib.bytesWorld w e s) :=
  ⟨rfl, rfl, rfl, by rw [Lib.bytesWorld_size]; omega, fun j hj => Lib.bytesWorld_at_old w e s j hj⟩
theorem below_growN (w : World) (k : Nat) (os : Array Obj) : Below w.heap.size w (Sort.grow (w.drewN k) os) :=
  ⟨rfl, rfl, rfl, by show w.heap.size ≤ (w.heap ++ os).size; rw [Array.size_append]; omega, fun j hj => by show (w.heap ++ os)[j]? = _; rw [Array.getElem?_append_left hj]⟩
theorem itoa_any (n : Int) (w : World) (he : Env w) (h0 : -9223372036854775808 ≤ n) (h1 : n ≤ 9223372036854775807) :
    Calls Tryz.prog 100 #[.int .i64 n] w fun e w' => ∃ t : ByteArray, e = .returned (.string t) ∧ Hid (t.data.toList = Lib.itoa n) ∧ Below w.heap.size w w' := by
  refine (Tryz.strconv_Itoa n h0 h1 w he.pow).mono ?_
  rintro e w' ⟨rfl, k, os, rfl⟩
  exact ⟨_, rfl, rfl, below_growN _ _ _⟩
theorem atoi_in (s : ByteArray) (w : World) (hs : s.size ≤ 140737488355328) (hd : decB s.data.toList = true) (h0 : -9223372036854775808 ≤ decVal s.data.toList) (h1 : decVal s.data.toList ≤ 9223372036854775807) :
    Calls Tryz.prog 140 #[.string s] w fun e w' => ∃ n : Int, e = .returned (.tuple #[.int .i64 n, .nilIface]) ∧ Hid (n = decVal s.data.toList) ∧ Below w.heap.size w w' := by
  rcases atoi_dec hd with ⟨_, _, h⟩ | ⟨h, _⟩
  · refine (Tryz.strconv_Atoi_ok s (by omega) _ h w).mono ?_
    rintro e w' ⟨rfl, h⟩
    refine ⟨_, rfl, rfl, ?_⟩
    rcases h with rfl | ⟨t, rfl⟩
    · exact below_refl _
    · exact below_bytes _ _ _
  · omega
theorem atoi_out (s : ByteArray) (w : World) (he : Env w) (hs : s.size ≤ 140737488355328) (hd : decB s.data.toList = true) (h0 : decVal s.data.toList < -9223372036854775808 ∨ 9223372036854775807 < decVal s.data.toList) :
    Calls Tryz.prog 140 #[.string s] w fun e w' => ∃ (n : Int) (N : Nat), e = .returned (.tuple #[.int .i64 n, .iface 248 (.pointer (some ⟨N, 0, none⟩))]) ∧ Below w.heap.size w w' := by
  rcases atoi_dec hd with ⟨_, _, _⟩ | ⟨_, h⟩
  · omega
  · obtain ⟨tp, p, hp⟩ := he.rng
    refine (Tryz.strconv_Atoi_range_var s (by omega) h tp p w hp).mono ?_
    rintro e w' ⟨N, rfl, _, _, hb⟩
    exact ⟨_, N, rfl, hb⟩

set_option maxHeartbeats 400000 in
theorem readNumber_any (s : ByteArray) (a : Int) (w : World) (hs : s.size ≤ 140737488355328) (he : Env w) :
    Calls Tryz.prog 94 #[.string s, .int .i64 a] w fun e w' => ∃ n x y : Int, e = .returned (.tuple #[.int .i64 n, .int .i64 x, .int .i64 y]) ∧ Hid (rdNum s.data.toList a = (n, x, y)) ∧ Below w.heap.size w w' := by
  go_enter Tryz.func94, Tryz.ntmps94
  go_wp2_with fail
  refine (until_any s a 32 _ (by omega)).mono ?_
  rintro e w' ⟨t, n, x, rfl, hR, rfl⟩
  rcases hR with ⟨hb, rfl, rfl, rfl⟩ | ⟨j, rfl, hj, hk, rfl, rfl, rfl⟩ | ⟨j, k, rfl, hj, hk, ht, hn, rfl⟩
  · have Hb := Lib.hid hb; clear hb
    go_wp2_with fail
    go_ret3
    exact ⟨_, _, _, rfl, rdNum_arg Hb.out, below_refl _⟩
  · have Hk := Lib.hid hk; clear hk
    go_wp2_with fail
    go_ret3
    exact ⟨_, _, _, rfl, rdNum_short hj Hk.out, below_refl _⟩
  have hts : t.size ≤ 140737488355328 := by rw [← toList_size, ht]; simp; omega
  have Hk := Lib.hid hk
  have Ht := Lib.hid ht
  have Hn := Lib.hid hn
  clear hk ht hn
  go_wp2_with fail
  refine (decimal_any t _ (by omega)).mono ?_
  rintro e w1 ⟨b, rfl, hb, hB1⟩
  cases b
  · go_wp2_with fail
    go_ret3
    exact ⟨_, _, _, rfl, rdNum_syntax (by simp; omega) Hk.out (by rw [← Ht.out]; exact hb.out), hB1⟩
  have he1 := he.below hB1
  by_cases hr : -9223372036854775808 ≤ decVal t.data.toList ∧ decVal t.data.toList ≤ 9223372036854775807
  · go_wp2_with fail
    refine (atoi_in t _ hts hb.out hr.1 hr.2).mono ?_
    rintro e w2 ⟨v, rfl, hv, hB2⟩
    clear hr
    by_cases h1 : v < -2147483648
    · go_wp2_with fail
      go_ret3
      exact ⟨_, _, _, rfl, rdNum_range (by simp; omega) Hk.out (by rw [← Ht.out]; exact hb.out) (by rw [← Ht.out, ← hv.out]; exact .inl h1), step2 hB1 hB2⟩
    by_cases h2 : 2147483647 < v
    · go_wp2_with fail
      go_ret3
      exact ⟨_, _, _, rfl, rdNum_range (by simp; omega) Hk.out (by rw [← Ht.out]; exact hb.out) (by rw [← Ht.out, ← hv.out]; exact .inr h2), step2 hB1 hB2⟩
    · go_wp2_with fail
      go_ret3
      refine ⟨_, _, _, rfl, ?_, step2 hB1 hB2⟩
      rw [Hid, rdNum_ok (by simp; omega) Hk.out (by rw [← Ht.out]; exact hb.out) (by rw [← Ht.out, ← hv.out]; omega) (by rw [← Ht.out, ← hv.out]; omega), ← Ht.out, ← hv.out, Hn.out]
      simp
  · have Hr := Lib.hid hr; clear hr
    go_wp2_with fail
    refine (atoi_out t _ he1 hts hb.out (by have := Hr.out; omega)).mono ?_
    rintro e w2 ⟨v, N, rfl, hB2⟩
    go_wp2_with fail
    go_ret3
    exact ⟨_, _, _, rfl, rdNum_range (by simp; omega) Hk.out (by rw [← Ht.out]; exact hb.out) (by rw [← Ht.out]; have := Hr.out; omega), step2 hB1 hB2⟩

set_option maxHeartbeats 400000 in
theorem readString_any (s : ByteArray) (a : Int) (w : World) (hs : s.size ≤ 140737488355328) (he : Env w) :
    Calls Tryz.prog 96 #[.string s, .int .i64 a] w fun e w' => ∃ (u : ByteArray) (x y : Int), e = .returned (.tuple #[.string u, .int .i64 x, .int .i64 y]) ∧ Hid (rdStr s.data.toList a = (u.data.toList, x, y)) ∧ Below w.heap.size w w' := by
  go_enter Tryz.func96, Tryz.ntmps96
  go_wp2_with fail
  refine (until_any s a 58 _ (by omega)).mono ?_
  rintro e w' ⟨t, n, x, rfl, hR, rfl⟩
  rcases hR with ⟨hb, rfl, rfl, rfl⟩ | ⟨j, rfl, hj, hk, rfl, rfl, rfl⟩ | ⟨j, k, rfl, hj, hk, ht, hn, rfl⟩
  · have Hb := Lib.hid hb; clear hb
    go_wp2_with fail
    go_ret3
    exact ⟨_, _, _, rfl, rdStr_arg Hb.out, below_refl _⟩
  · have Hk := Lib.hid hk; clear hk
    go_wp2_with fail
    go_ret3
    exact ⟨_, _, _, rfl, rdStr_short hj Hk.out, below_refl _⟩
  have hts : t.size ≤ 140737488355328 := by rw [← toList_size, ht]; simp; omega
  have Htail := Lib.hid (rdStr_tail (l := s.data.toList) (by simp; omega) hk)
  have Ht := Lib.hid ht
  rw [← ht] at Htail
  obtain ⟨m, rfl⟩ : ∃ m : Nat, n = m := ⟨_, hn⟩
  have hm : m ≤ s.size := by omega
  have Hn := Lib.hid (Int.ofNat.inj hn)
  rw [← Hn.out] at Htail
  clear hk ht hn hj Hn
  go_wp2_with fail
  refine (decimal_any t _ (by omega)).mono ?_
  rintro e w1 ⟨b, rfl, hb, hB1⟩
  cases b
  · go_wp2_with fail
    go_ret3
    exact ⟨_, _, _, rfl, by rw [Hid, Htail.out, rdStr.rdTail, if_pos (.inl hb.out)]; try rfl, hB1⟩
  have he1 := he.below hB1
  have hpos : 0 < t.size := size_pos (fun e => by have := hb.out; rw [e] at this; cases this)
  have hh : t.data.toList.head? = some t[0] := by rw [List.head?_eq_getElem?]; exact get_list t 0 hpos
  have Hh := Lib.hid hh; clear hh
  by_cases h45 : t[0] = 45
  · obtain ⟨b1, b2⟩ := byte_is h45 (n := 45) rfl
    have H45 := Lib.hid h45; clear h45
    go_wp2_with fail
    go_ret3
    exact ⟨_, _, _, rfl, by rw [Hid, Htail.out, rdStr.rdTail, if_pos (.inr (by rw [Hh.out, H45.out]))]; try rfl, hB1⟩
  obtain ⟨b1, b2⟩ := byte_not h45 (n := 45) rfl
  have H45 : Hid (¬ (decB t.data.toList = false ∨ t.data.toList.head? = some 45)) := by
    intro h
    rcases h with h | h
    · rw [hb.out] at h; cases h
    · rw [Hh.out] at h; exact h45 (Option.some.inj h)
  have Hv : Hid (decVal t.data.toList = (val t.data.toList : Nat)) := by
    rw [Hid, decVal, if_neg (fun e => H45.out (.inr e))]
  clear h45
  rw [rdStr.rdTail, if_neg H45.out, toList_size] at Htail
  by_cases hr : decVal t.data.toList ≤ 9223372036854775807
  · have Hr := Lib.hid hr; clear hr
    go_wp2_with fail
    refine (atoi_in t _ hts hb.out (by rw [Hv.out]; omega) Hr.out).mono ?_
    rintro e w2 ⟨v, rfl, hv, hB2⟩
    obtain ⟨q, rfl⟩ : ∃ q : Nat, v = q := ⟨_, hv.out.trans Hv.out⟩
    have Hq : Hid (val t.data.toList = q) := by have h1 := hv.out; have h2 := Hv.out; rw [Hid]; omega
    rw [Hq.out] at Htail
    by_cases h1 : s.size ≤ m + q
    · go_wp2_with fail
      go_ret3
      exact ⟨_, _, _, rfl, by rw [Hid, Htail.out, if_pos h1]; try rfl, step2 hB1 hB2⟩
    have Hg := Lib.hid (getD_list s (m + q) (by omega))
    by_cases h44 : s[m + q] = 44
    · obtain ⟨c1, c2⟩ := byte_is h44 (n := 44) rfl
      have H44 := Lib.hid h44; clear h44
      go_wp2_with fail
      go_ret3
      refine ⟨_, _, _, rfl, ?_, step2 hB1 hB2⟩
      rw [Hid, Htail.out, if_neg h1, Hg.out, if_neg (by rw [H44.out]; simp), extract_list]
      simp
    · obtain ⟨c1, c2⟩ := byte_not h44 (n := 44) rfl
      have H44 := Lib.hid h44; clear h44
      go_wp2_with fail
      go_ret3
      refine ⟨_, _, _, rfl, ?_, step2 hB1 hB2⟩
      rw [Hid, Htail.out, if_neg h1, Hg.out, if_pos H44.out]; try rfl
  · have Hr := Lib.hid hr; clear hr
    go_wp2_with fail
    refine (atoi_out t _ he1 hts hb.out (by have := Hr.out; omega)).mono ?_
    rintro e w2 ⟨v, N, rfl, hB2⟩
    go_wp2_with fail
    go_ret3
    refine ⟨_, _, _, rfl, ?_, step2 hB1 hB2⟩
    have h1 := Hr.out; have h2 := Hv.out
    rw [Hid, Htail.out, if_pos (by omega)]; try rfl

/-- the reference's 'index' -/
theorem refIndex_any (s : ByteArray) (j : Nat) (c : UInt8) (w : World) (hs : s.size ≤ 9223372036854775806) (hj : j ≤ s.size) :
    Calls Tryz.prog 155 #[.string s, .int .i64 j, .int .u8 c.toNat] w fun e w' => ∃ n : Int, e = .returned (.int .i64 n) ∧
      ((n = -1 ∧ Hid (Lib.indexByte (s.data.toList.drop j) c < 0)) ∨ ∃ k : Nat, n = ((j + k : Nat) : Int) ∧ j + k < s.size ∧ Hid (Lib.indexByte (s.data.toList.drop j) c = k)) ∧ w = w' := by
  go_enter Tryz.func155, Tryz.ntmps155
  go_wp2_with fail
  go_loop [7] (fun i => ∃ k : Nat, j ≤ k ∧ k ≤ s.size ∧ i = .int .i64 k ∧ Hid (c ∉ (s.data.toList.drop j).take (k - j))) (fun i => s.size - (intOf i).toNat)
  case atStart => exact ⟨j, Nat.le_refl _, hj, rfl, by rw [Hid]; simp⟩
  case round =>
    obtain ⟨k, hjk, hk, rfl, hno⟩ := hrel
    by_cases hlt : k < s.size
    · have hg : (s.data.toList.drop j).getD (k - j) 0 = s[k] := by
        rw [← getD_list s k hlt, List.getD_eq_getElem?_getD, List.getD_eq_getElem?_getD, List.getElem?_drop, show j + (k - j) = k from by omega]
      have Hg := Lib.hid hg; clear hg
      have hl : k - j < (s.data.toList.drop j).length := by simp; omega
      have Hl := Lib.hid hl; clear hl
      by_cases hc : s[k] = c
      · have hb : ((s[k].toNat : Int) == (c.toNat : Int)) = true := by rw [hc]; simp
        have Hc := Lib.hid hc; clear hc
        go_wp2_with fail
        go_ret
        refine ⟨_, rfl, .inr ⟨k - j, by omega, by omega, ?_⟩, rfl⟩
        exact indexByte_at Hl.out (by rw [Hg.out, Hc.out]) hno.out
      · have hb : ((s[k].toNat : Int) == (c.toNat : Int)) = false := by
          have : ¬ (s[k].toNat : Int) = c.toNat := fun e => hc (UInt8.toNat_inj.1 (by omega))
          simpa using this
        have Hc := Lib.hid hc; clear hc
        go_wp2_with fail
        go_round
        case rel =>
          refine ⟨k + 1, by omega, by omega, by go_num, ?_⟩
          have h := List.take_succ_eq_append_getElem Hl.out
          rw [Hid, show k + 1 - j = (k - j) + 1 from by omega, h, List.mem_append]
          rintro (h | h)
          · exact hno.out h
          · have h2 := Hg.out
            rw [List.getD_eq_getElem?_getD, List.getElem?_eq_getElem Hl.out] at h2
            rw [List.mem_singleton] at h
            exact Hc.out (by rw [← h2]; exact h.symm)
        case measure => simp [intOf]; omega
    · go_wp2_with fail
      go_ret
      refine ⟨_, rfl, .inl ⟨rfl, ?_⟩, rfl⟩
      rcases indexByte_cases (s.data.toList.drop j) c with ⟨h, _⟩ | ⟨m, h, hm, hcm, _⟩
      · rw [Hid, h]; decide
      · exfalso
        have hle : (s.data.toList.drop j).length ≤ k - j := by simp; omega
        have := hno.out
        rw [List.take_of_length_le hle] at this
        apply this
        rw [← hcm, List.getD_eq_getElem?_getD, List.getElem?_eq_getElem hm]
        exact List.getElem_mem _

def RefDecR (l : List UInt8) (n : Nat) (b : Bool) : Prop := b = natOk l ∧ (b = true → n = min (val l) 1099511627776)

def RefDecP (l : List UInt8) (w : World) (e : Ending) (w' : World) : Prop := ∃ (n : Nat) (b : Bool), e = .returned (.tuple #[.int .i64 n, .bool b]) ∧ RefDecR l n b ∧ w = w'

theorem byte_lt (c : UInt8) : (c.toNat : Int) < 256 := by have := c.toNat_lt; omega

set_option maxHeartbeats 400000 in
theorem refDecimal_any (s : ByteArray) (w : World) (hs : s.size ≤ 9223372036854775806) :
    Calls Tryz.prog 156 #[.string s] w (RefDecP s.data.toList w) := by
  by_cases h0 : s.data.toList = []
  · have he : s.toList.isEmpty = true := by rw [isEmpty_list, h0]; rfl
    have H0 := Lib.hid h0; clear h0
    go_enter Tryz.func156, Tryz.ntmps156
    go_wp2_with fail
    go_ret2
    exact ⟨0, _, rfl, ⟨by rw [H0.out]; rfl, fun e => by cases e⟩, rfl⟩
  have he : s.toList.isEmpty = false := by rw [isEmpty_list]; simpa using h0
  have hpos : 0 < s.size := size_pos h0
  have hh : s.data.toList.head? = some s[0] := by rw [List.head?_eq_getElem?]; exact get_list s 0 hpos
  have Hh := Lib.hid hh; clear hh
  have H0 := Lib.hid h0; clear h0
  have loop : ∀ (hgood : s.data.toList.length ≤ 1 ∨ s.data.toList.head? ≠ some 48), Hid (natOk s.data.toList = s.data.toList.all isDig) := by
    intro hgood
    by_cases ha : s.data.toList.all isDig = true
    · rw [Hid, natOk_yes H0.out ha hgood, ha]
    · rw [Hid, natOk_no ha]; simpa using ha
  by_cases h1 : 1 < s.size
  · by_cases h48 : s[0] = 48
    · obtain ⟨b1, b2⟩ := byte_is h48 (n := 48) rfl
      have H48 := Lib.hid h48; clear h48
      go_enter Tryz.func156, Tryz.ntmps156
      go_wp2_with fail
      go_ret2
      exact ⟨0, _, rfl, ⟨(natOk_zero h1 (by rw [Hh.out, H48.out])).symm, fun e => by cases e⟩, rfl⟩
    · obtain ⟨b1, b2⟩ := byte_not h48 (n := 48) rfl
      have Hn := loop (.inr (by rw [Hh.out]; simpa using h48))
      clear h48 loop
      go_enter Tryz.func156, Tryz.ntmps156
      go_wp2_with fail
      go_loop [4, 5] (fun n i => ∃ k m : Nat, k ≤ s.size ∧ m ≤ 1099511627776 ∧ i = .int .i64 k ∧ n = .int .i64 m ∧ Hid (m = capVal (s.data.toList.take k)) ∧ Hid ((s.data.toList.take k).all isDig = true)) (fun _ i => s.size - (intOf i).toNat)
      case atStart => exact ⟨0, 0, by omega, by omega, rfl, rfl, rfl, rfl⟩
      case round =>
        obtain ⟨k, m, hk, hm, rfl, rfl, hcap, hall⟩ := hrel
        by_cases hlt : k < s.size
        · have hts : s.data.toList.take (k + 1) = s.data.toList.take k ++ [s[k]] := by
            rw [List.take_succ_eq_append_getElem (by rw [toList_size]; exact hlt)]; rfl
          have Hts := Lib.hid hts; clear hts
          by_cases hdg : 48 ≤ (s[k].toNat : Int) ∧ (s[k].toNat : Int) ≤ 57
          · obtain ⟨hd1, hd2⟩ := hdg
            have hdig : isDig s[k] = true := by simp only [isDig, decide_eq_true_eq]; omega
            have Hdig := Lib.hid hdig; clear hdig
            by_cases hbig : 1099511627776 < 10 * (m : Int) + ((s[k].toNat : Int) - 48)
            · go_wp2_with fail
              go_round
              case rel =>
                refine ⟨k + 1, 1099511627776, by omega, by omega, by go_num, rfl, ?_, ?_⟩
                · rw [Hid, Hts.out, capVal_snoc, ← hcap.out, capStep, if_pos (by omega)]
                · rw [Hid, Hts.out, List.all_append, hall.out]; simp [Hdig.out]
              case measure => simp [intOf]; omega
            · go_wp2_with fail
              go_round
              case rel =>
                refine ⟨k + 1, 10 * m + (s[k].toNat - 48), by omega, by omega, by go_num, by go_num, ?_, ?_⟩
                · rw [Hid, Hts.out, capVal_snoc, ← hcap.out, capStep, if_neg (by omega)]
                · rw [Hid, Hts.out, List.all_append, hall.out]; simp [Hdig.out]
              case measure => simp [intOf]; omega
          · have hdig : ¬ isDig s[k] = true := by simp only [isDig, decide_eq_true_eq]; omega
            have Hall : Hid (¬ s.data.toList.all isDig = true) := fun h => by
              have h2 : (s.data.toList.take (k + 1)).all isDig = true := by
                rw [List.all_eq_true] at h ⊢
                exact fun x hx => h x (List.mem_of_mem_take hx)
              rw [Hts.out, List.all_append] at h2
              simp [hdig] at h2
            clear hdig
            by_cases hlo : (s[k].toNat : Int) < 48
            · go_wp2_with fail
              go_ret2
              exact ⟨0, _, rfl, ⟨by rw [Hn.out]; have := Hall.out; simpa using this, fun e => by cases e⟩, rfl⟩
            · have hhi : 57 < (s[k].toNat : Int) := by omega
              go_wp2_with fail
              go_ret2
              exact ⟨0, _, rfl, ⟨by rw [Hn.out]; have := Hall.out; simpa using this, fun e => by cases e⟩, rfl⟩
        · have hall' : s.data.toList.take k = s.data.toList := List.take_of_length_le (by rw [toList_size]; omega)
          rw [hall'] at hcap hall
          clear hall'
          go_wp2_with fail
          go_ret2
          exact ⟨m, _, rfl, ⟨by rw [Hn.out, hall.out], fun _ => by rw [hcap.out, capVal_eq]⟩, rfl⟩
  · have Hn := loop (.inl (by rw [toList_size]; omega))
    clear loop
    go_enter Tryz.func156, Tryz.ntmps156
    go_wp2_with fail
    go_loop [4, 5] (fun n i => ∃ k m : Nat, k ≤ s.size ∧ m ≤ 1099511627776 ∧ i = .int .i64 k ∧ n = .int .i64 m ∧ Hid (m = capVal (s.data.toList.take k)) ∧ Hid ((s.data.toList.take k).all isDig = true)) (fun _ i => s.size - (intOf i).toNat)
    case atStart => exact ⟨0, 0, by omega, by omega, rfl, rfl, rfl, rfl⟩
    case round =>
      obtain ⟨k, m, hk, hm, rfl, rfl, hcap, hall⟩ := hrel
      by_cases hlt : k < s.size
      · have hts : s.data.toList.take (k + 1) = s.data.toList.take k ++ [s[k]] := by
          rw [List.take_succ_eq_append_getElem (by rw [toList_size]; exact hlt)]; rfl
        have Hts := Lib.hid hts; clear hts
        by_cases hdg : 48 ≤ (s[k].toNat : Int) ∧ (s[k].toNat : Int) ≤ 57
        · obtain ⟨hd1, hd2⟩ := hdg
          have hdig : isDig s[k] = true := by simp only [isDig, decide_eq_true_eq]; omega
          have Hdig := Lib.hid hdig; clear hdig
          by_cases hbig : 1099511627776 < 10 * (m : Int) + ((s[k].toNat : Int) - 48)
          · go_wp2_with fail
            go_round
            case rel =>
              refine ⟨k + 1, 1099511627776, by omega, by omega, by go_num, rfl, ?_, ?_⟩
              · rw [Hid, Hts.out, capVal_snoc, ← hcap.out, capStep, if_pos (by omega)]
              · rw [Hid, Hts.out, List.all_append, hall.out]; simp [Hdig.out]
            case measure => simp [intOf]; omega
          · go_wp2_with fail
            go_round
            case rel =>
              refine ⟨k + 1, 10 * m + (s[k].toNat - 48), by omega, by omega, by go_num, by go_num, ?_, ?_⟩
              · rw [Hid, Hts.out, capVal_snoc, ← hcap.out, capStep, if_neg (by omega)]
              · rw [Hid, Hts.out, List.all_append, hall.out]; simp [Hdig.out]
            case measure => simp [intOf]; omega
        · have hdig : ¬ isDig s[k] = true := by simp only [isDig, decide_eq_true_eq]; omega
          have Hall : Hid (¬ s.data.toList.all isDig = true) := fun h => by
            have h2 : (s.data.toList.take (k + 1)).all isDig = true := by
              rw [List.all_eq_true] at h ⊢
              exact fun x hx => h x (List.mem_of_mem_take hx)
            rw [Hts.out, List.all_append] at h2
            simp [hdig] at h2
          clear hdig
          by_cases hlo : (s[k].toNat : Int) < 48
          · go_wp2_with fail
            go_ret2
            exact ⟨0, _, rfl, ⟨by rw [Hn.out]; have := Hall.out; simpa using this, fun e => by cases e⟩, rfl⟩
          · have hhi : 57 < (s[k].toNat : Int) := by omega
            go_wp2_with fail
            go_ret2
            exact ⟨0, _, rfl, ⟨by rw [Hn.out]; have := Hall.out; simpa using this, fun e => by cases e⟩, rfl⟩
      · have hall' : s.data.toList.take k = s.data.toList := List.take_of_length_le (by rw [toList_size]; omega)
        rw [hall'] at hcap hall
        clear hall'
        go_wp2_with fail
        go_ret2
        exact ⟨m, _, rfl, ⟨by rw [Hn.out, hall.out], fun _ => by rw [hcap.out, capVal_eq]⟩, rfl⟩

def RdNumP (l : List UInt8) (a : Int) (w : World) (e : Ending) (w' : World) : Prop :=
  ∃ n x y : Int, e = .returned (.tuple #[.int .i64 n, .int .i64 x, .int .i64 y]) ∧ Hid (rdNum l a = (n, x, y)) ∧ w = w'
def RdStrP (l : List UInt8) (a : Int) (w : World) (e : Ending) (w' : World) : Prop :=
  ∃ (u : ByteArray) (x y : Int), e = .returned (.tuple #[.string u, .int .i64 x, .int .i64 y]) ∧ Hid (rdStr l a = (u.data.toList, x, y)) ∧ w = w'

set_option maxHeartbeats 400000 in
theorem refReadNumber_any (s : ByteArray) (a : Int) (w : World) (hs : s.size ≤ 140737488355328) :
    Calls Tryz.prog 112 #[.string s, .int .i64 a] w (RdNumP s.data.toList a w) := by
  by_cases h0 : a < 0
  · go_enter Tryz.func112, Tryz.ntmps112
    go_wp2_with fail
    go_ret3
    exact ⟨_, _, _, rfl, rdNum_arg (.inl h0), rfl⟩
  by_cases h1 : (s.size : Int) < a
  · go_enter Tryz.func112, Tryz.ntmps112
    go_wp2_with fail
    go_ret3
    exact ⟨_, _, _, rfl, rdNum_arg (.inr h1), rfl⟩
  obtain ⟨j, rfl⟩ := Int.eq_ofNat_of_zero_le (Int.not_lt.1 h0)
  have hj : j ≤ s.size := by omega
  have HJ := Lib.hid (show j ≤ s.data.toList.length from hj)
  go_enter Tryz.func112, Tryz.ntmps112
  go_wp2_with fail
  refine (refIndex_any s j 32 _ (by omega) hj).mono ?_
  rintro e w' ⟨n, rfl, ⟨rfl, hk⟩ | ⟨k, rfl, hjk, hk⟩, rfl⟩
  · go_wp2_with fail
    go_ret3
    exact ⟨_, _, _, rfl, rdNum_short HJ.out hk.out, rfl⟩
  obtain ⟨t, ht, hte⟩ : ∃ t : ByteArray, Hid (t.data.toList = (s.data.toList.drop j).take k) ∧ s.extract j (j + k) = t := by
    refine ⟨_, ?_, rfl⟩
    rw [Hid, extract_list]; congr 1; omega
  have hts : t.size ≤ 140737488355328 := by rw [← toList_size, ht.out]; simp; omega
  by_cases h45 : t.data.toList.head? = some 45
  · have hne : t.data.toList ≠ [] := by intro e; rw [e] at h45; cases h45
    have hpos : 0 < t.size := size_pos hne
    have he : t.toList.isEmpty = false := by rw [isEmpty_list]; simpa using hne
    have hg : t[0] = 45 := by
      have := get_list t 0 hpos
      rw [List.head?_eq_getElem?, this] at h45
      exact Option.some.inj h45
    obtain ⟨b1, b2⟩ := byte_is hg (n := 45) rfl
    obtain ⟨d, hd, hde⟩ : ∃ d : ByteArray, Hid (d.data.toList = strip t.data.toList) ∧ t.extract 1 t.size = d := by
      refine ⟨_, ?_, rfl⟩
      rw [Hid, rest_list, strip, if_pos h45, List.drop_one]
    have hds : d.size ≤ 140737488355328 := by rw [← toList_size, ← hde, rest_list]; simp; omega
    have H45 := Lib.hid h45
    clear h45 hne hg
    have Hde := Lib.hid hde
    clear hde
    go_wp2_with fail
    rw [hte, Hde.out]
    refine (refDecimal_any d _ (by omega)).mono ?_
    rintro e w1 ⟨v, b, rfl, ⟨hb, hv⟩, rfl⟩
    rw [hd.out] at hb hv
    have Hneg := Lib.hid (natOk_neg H45.out)
    cases b
    · have Hb := Lib.hid hb; clear hb hv
      go_wp2_with fail
      go_ret3
      refine ⟨_, _, _, rfl, rdNum_syntax HJ.out hk.out ?_, rfl⟩
      rw [← ht.out]
      have : ¬ decB t.data.toList = true := fun h => by have := (Hneg.out.2 h).1; rw [← Hb.out] at this; cases this
      simpa using this
    have Hb := Lib.hid hb; clear hb
    have Hv := Lib.hid (hv rfl); clear hv
    have hvle : v ≤ 1099511627776 := by rw [Hv.out]; omega
    by_cases hv0 : v = 0
    · subst hv0
      go_wp2_with fail
      go_ret3
      refine ⟨_, _, _, rfl, rdNum_syntax HJ.out hk.out ?_, rfl⟩
      rw [← ht.out]
      have : ¬ decB t.data.toList = true := fun h => by have h1 := (Hneg.out.2 h).2; have h2 := Hv.out; omega
      simpa using this
    have hvb : ((v : Int) == 0) = false := by simpa using hv0
    have Hd : Hid (decB t.data.toList = true) := Hneg.out.1 ⟨Hb.out.symm, fun e => hv0 (by rw [Hv.out, e]; rfl)⟩
    have Hdv : Hid (decVal t.data.toList = -(val (strip t.data.toList) : Int)) := neg_dec H45.out
    by_cases hr : -2147483648 ≤ -(v : Int)
    · go_wp2_with fail
      go_ret3
      have e1 := Hv.out; have e2 := Hdv.out
      refine ⟨_, _, _, rfl, ?_, rfl⟩
      rw [Hid, rdNum_ok HJ.out hk.out (by rw [← ht.out]; exact Hd.out) (by rw [← ht.out]; omega) (by rw [← ht.out]; omega), ← ht.out]
      rw [show decVal t.data.toList = -(v : Int) from by omega]
      try simp
    · go_wp2_with fail
      go_ret3
      have e1 := Hv.out; have e2 := Hdv.out
      exact ⟨_, _, _, rfl, rdNum_range HJ.out hk.out (by rw [← ht.out]; exact Hd.out) (by rw [← ht.out]; omega), rfl⟩
  · have Hs : Hid (strip t.data.toList = t.data.toList) := strip_pos h45
    have Hok : Hid (natOk t.data.toList = decB t.data.toList) := natOk_pos h45
    have Hdv : Hid (decVal t.data.toList = (val t.data.toList : Int)) := pos_dec h45
    have fin : ∀ (v : Nat) (b : Bool), RefDecR t.data.toList v b → (b = false → Hid (rdNum s.data.toList j = (0, 0, 3))) ∧
        (b = true → v ≤ 1099511627776 ∧ (2147483647 < v → Hid (rdNum s.data.toList j = (0, 0, 2))) ∧ (v ≤ 2147483647 → Hid (rdNum s.data.toList j = ((v : Int), (j : Int) + k + 1, 0)))) := by
      rintro v b ⟨hb, hv⟩
      rw [Hok.out] at hb
      refine ⟨fun e => ?_, fun e => ?_⟩
      · subst e
        exact rdNum_syntax HJ.out hk.out (by rw [← ht.out]; exact hb.symm)
      · have e1 := hv e
        have e2 := Hdv.out
        subst e
        refine ⟨by omega, fun h => rdNum_range HJ.out hk.out (by rw [← ht.out]; exact hb.symm) (by rw [← ht.out]; omega), fun h => ?_⟩
        rw [Hid, rdNum_ok HJ.out hk.out (by rw [← ht.out]; exact hb.symm) (by rw [← ht.out]; omega) (by rw [← ht.out]; omega), ← ht.out]
        rw [show decVal t.data.toList = (v : Int) from by omega]
    have Fin := Lib.hid fin
    clear fin Hs Hok Hdv
    have tail : Hid (t.toList.isEmpty = true ∨ (t.toList.isEmpty = false ∧ ∃ h : 0 < t.size, ((t[0].toNat : Int) == 45) = false ∧ ((t[0].toNat : Int) != 45) = true)) := by
      by_cases he : t.data.toList = []
      · exact .inl (by rw [isEmpty_list, he]; rfl)
      · have hpos : 0 < t.size := size_pos he
        refine .inr ⟨by rw [isEmpty_list]; simpa using he, hpos, byte_not (k := 45) (fun e => h45 ?_) rfl⟩
        rw [List.head?_eq_getElem?, get_list t 0 hpos, e]
    clear h45
    rcases tail.out with he | ⟨he, hpos, b1, b2⟩
    all_goals
      go_wp2_with fail
      rw [hte]
      refine (refDecimal_any t _ (by omega)).mono ?_
      rintro e w1 ⟨v, b, rfl, hR, rfl⟩
      obtain ⟨f1, f2⟩ := Fin.out v b hR
      clear hR
      cases b
      · have F1 := f1 rfl
        clear f1 f2
        go_wp2_with fail
        go_ret3
        exact ⟨_, _, _, rfl, F1, rfl⟩
      obtain ⟨hv, f3, f4⟩ := f2 rfl
      by_cases hr : v ≤ 2147483647
      · have F4 := f4 hr
        clear f1 f2 f3 f4
        go_wp2_with fail
        go_ret3
        refine ⟨_, _, _, rfl, ?_, rfl⟩
        rw [Hid, F4.out]
        try simp
      · have F3 := f3 (by omega)
        clear f1 f2 f3 f4
        go_wp2_with fail
        go_ret3
        exact ⟨_, _, _, rfl, F3, rfl⟩

theorem natOk_not {l : List UInt8} : natOk l = false ↔ (decB l = false ∨ l.head? = some 45) := by
  by_cases h : l.head? = some 45
  · have : natOk l = false := by
      cases l with
      | nil => rfl
      | cons c r =>
        simp only [List.head?_cons, Option.some.injEq] at h
        subst h
        exact natOk_no (by simp [isDig])
    simp [this, h]
  · rw [natOk_pos h]; simp [h]

set_option maxHeartbeats 400000 in
theorem refReadString_any (s : ByteArray) (a : Int) (w : World) (hs : s.size ≤ 1099511627776) :
    Calls Tryz.prog 113 #[.string s, .int .i64 a] w (RdStrP s.data.toList a w) := by
  by_cases h0 : a < 0
  · go_enter Tryz.func113, Tryz.ntmps113
    go_wp2_with fail
    go_ret3
    exact ⟨_, _, _, rfl, rdStr_arg (.inl h0), rfl⟩
  by_cases h1 : (s.size : Int) < a
  · go_enter Tryz.func113, Tryz.ntmps113
    go_wp2_with fail
    go_ret3
    exact ⟨_, _, _, rfl, rdStr_arg (.inr h1), rfl⟩
  obtain ⟨j, rfl⟩ := Int.eq_ofNat_of_zero_le (Int.not_lt.1 h0)
  have hj : j ≤ s.size := by omega
  have HJ := Lib.hid (show j ≤ s.data.toList.length from hj)
  go_enter Tryz.func113, Tryz.ntmps113
  go_wp2_with fail
  refine (refIndex_any s j 58 _ (by omega) hj).mono ?_
  rintro e w' ⟨n, rfl, ⟨rfl, hk⟩ | ⟨k, rfl, hjk, hk⟩, rfl⟩
  · go_wp2_with fail
    go_ret3
    exact ⟨_, _, _, rfl, rdStr_short HJ.out hk.out, rfl⟩
  obtain ⟨t, ht, hte⟩ : ∃ t : ByteArray, Hid (t.data.toList = (s.data.toList.drop j).take k) ∧ s.extract j (j + k) = t := by
    refine ⟨_, ?_, rfl⟩
    rw [Hid, extract_list]; congr 1; omega
  have Hte := Lib.hid hte; clear hte
  have hts : t.size ≤ 1099511627776 := by rw [← toList_size, ht.out]; simp; omega
  have Htail := Lib.hid (rdStr_tail (l := s.data.toList) HJ.out hk.out)
  rw [← ht.out] at Htail
  go_wp2_with fail
  rw [Hte.out]
  refine (refDecimal_any t _ (by omega)).mono ?_
  rintro e w1 ⟨v, b, rfl, ⟨hb, hv⟩, rfl⟩
  cases b
  · have Hb := Lib.hid (natOk_not.1 hb.symm); clear hb hv
    go_wp2_with fail
    go_ret3
    exact ⟨_, _, _, rfl, by rw [Hid, Htail.out, rdStr.rdTail, if_pos Hb.out]; try rfl, rfl⟩
  have hno : ¬ (decB t.data.toList = false ∨ t.data.toList.head? = some 45) := fun h => by rw [natOk_not.2 h] at hb; cases hb
  rw [rdStr.rdTail, if_neg hno, toList_size] at Htail
  clear hno
  obtain ⟨q, hq⟩ : ∃ q : Nat, val t.data.toList = q := ⟨_, rfl⟩
  rw [hq] at Htail hv
  have hvq := hv rfl
  clear hb hq hv
  by_cases hsh : s.size ≤ j + k + 1 + q
  · have hvs : s.size ≤ j + k + 1 + v := by omega
    have Hvq := Lib.hid hvq; clear hvq
    go_wp2_with fail
    go_ret3
    exact ⟨_, _, _, rfl, by rw [Hid, Htail.out, if_pos hsh]; try rfl, rfl⟩
  obtain rfl : v = q := by omega
  clear hvq
  have Hg := Lib.hid (getD_list s (j + k + 1 + v) (by omega))
  by_cases h44 : s[j + k + 1 + v] = 44
  · obtain ⟨c1, c2⟩ := byte_is h44 (n := 44) rfl
    have H44 := Lib.hid h44; clear h44
    go_wp2_with fail
    go_ret3
    refine ⟨_, _, _, rfl, ?_, rfl⟩
    rw [Hid, Htail.out, if_neg hsh, Hg.out, if_neg (by rw [H44.out]; simp), extract_list]
    simp only [Prod.mk.injEq, and_true]
    exact ⟨by congr 1; omega, by omega⟩
  · obtain ⟨c1, c2⟩ := byte_not h44 (n := 44) rfl
    have H44 := Lib.hid h44; clear h44
    go_wp2_with fail
    go_ret3
    exact ⟨_, _, _, rfl, by rw [Hid, Htail.out, if_neg hsh, Hg.out, if_pos H44.out]; try rfl, rfl⟩

def StrP (l : List UInt8) (w : World) (e : Ending) (w' : World) : Prop := ∃ t : ByteArray, e = .returned (.string t) ∧ Hid (t.data.toList = l) ∧ Below w.heap.size w w'
def StrS (l : List UInt8) (w : World) (e : Ending) (w' : World) : Prop := ∃ t : ByteArray, e = .returned (.string t) ∧ Hid (t.data.toList = l) ∧ w = w'

theorem digit_at : ∀ u : Nat, u < 10 → ((⟨#[48, 49, 50, 51, 52, 53, 54, 55, 56, 57]⟩ : ByteArray).extract u (u + 1)).data.toList = [UInt8.ofNat (48 + u)] := by
  intro u hu
  have : ∀ v : Fin 10, ((⟨#[48, 49, 50, 51, 52, 53, 54, 55, 56, 57]⟩ : ByteArray).extract v.val (v.val + 1)).data.toList = [UInt8.ofNat (48 + v.val)] := by decide +kernel
  exact this ⟨u, hu⟩

set_option maxHeartbeats 400000 in
theorem refDigits_any : ∀ (k u : Nat) (w : World), u < 10 ^ (k + 1) → u < 18446744073709551616 →
    Calls Tryz.prog 91 #[.int .u64 u] w (StrS (Lib.decDigits u) w) := by
  intro k
  induction k with
  | zero =>
    intro u w hu hu2
    have hu1 : u < 10 := by simpa using hu
    have Hd := Lib.hid (digit_at u hu1)
    clear hu
    go_enter Tryz.func91, Tryz.ntmps91
    go_wp2_with fail
    go_ret
    refine ⟨_, rfl, ?_, rfl⟩
    rw [Lib.decDigits, dif_pos hu1]
    exact Hd.out
  | succ k ih =>
    intro u w hu hu2
    by_cases hu1 : u < 10
    · have Hd := Lib.hid (digit_at u hu1)
      clear hu ih
      go_enter Tryz.func91, Tryz.ntmps91
      go_wp2_with fail
      go_ret
      refine ⟨_, rfl, ?_, rfl⟩
      rw [Lib.decDigits, dif_pos hu1]
      exact Hd.out
    · have h1 := Lib.hid (fun w => ih (u / 10) w (by rw [Nat.pow_succ] at hu; omega) (by omega))
      have h2 := Lib.hid (fun w => ih (u % 10) w (Nat.lt_of_lt_of_le (Nat.mod_lt _ (by omega)) (by rw [Nat.pow_succ]; have := Nat.one_le_pow k 10 (by omega); omega)) (by omega))
      clear ih hu
      go_enter Tryz.func91, Tryz.ntmps91
      go_wp2_with fail
      refine (h1.out _).mono ?_
      rintro e w1 ⟨t, rfl, ht, rfl⟩
      have hts : t.size ≤ 20 := by rw [← toList_size, ht.out]; exact decDigits_len 19 _ (by omega)
      go_wp2_with fail
      refine (h2.out _).mono ?_
      rintro e w1 ⟨t2, rfl, ht2, rfl⟩
      have hts2 : t2.size ≤ 20 := by rw [← toList_size, ht2.out]; exact decDigits_len 19 _ (by omega)
      go_wp2_with fail
      go_ret
      refine ⟨_, rfl, ?_, rfl⟩
      rw [Hid, append_list, ht.out, ht2.out]
      conv => rhs; rw [Lib.decDigits, dif_neg hu1]
      congr 1
      rw [Lib.decDigits, dif_pos (by omega)]
theorem refDigits (u : Nat) (w : World) (h : u < 18446744073709551616) : Calls Tryz.prog 91 #[.int .u64 u] w (StrS (Lib.decDigits u) w) :=
  refDigits_any 19 u w (by omega) h

set_option maxHeartbeats 400000 in
theorem refDec_any (n : Int) (w : World) (h0 : -9223372036854775808 ≤ n) (h1 : n ≤ 9223372036854775807) : Calls Tryz.prog 57 #[.int .i64 n] w (StrS (Lib.itoa n) w) := by
  by_cases hn : n < 0
  · obtain ⟨k, hk⟩ : ∃ k : Nat, -(n + 1) + 1 = (k : Int) := ⟨(-n).toNat, by omega⟩
    have hkb : k < 18446744073709551616 := by omega
    have hkb' : k < 10 ^ 20 := by omega
    have Hkn : Hid (n.natAbs = k) := by rw [Hid]; omega
    have Hk := Lib.hid hk; clear hk
    go_enter Tryz.func57, Tryz.ntmps57
    go_wp2_with fail
    rw [Hk.out]
    refine (refDigits k _ hkb).mono ?_
    rintro e w1 ⟨t, rfl, ht, rfl⟩
    have hts : t.size ≤ 20 := by rw [← toList_size, ht.out]; exact decDigits_len 19 _ hkb'
    go_wp2_with fail
    go_ret
    refine ⟨_, rfl, ?_, rfl⟩
    rw [Hid, append_list, ht.out, Lib.itoa, if_pos hn, Hkn.out]; rfl
  · obtain ⟨k, rfl⟩ := Int.eq_ofNat_of_zero_le (Int.not_lt.1 hn)
    have hkb : k < 18446744073709551616 := by omega
    go_enter Tryz.func57, Tryz.ntmps57
    go_wp2_with fail
    refine (refDigits k _ hkb).mono ?_
    rintro e w1 ⟨t, rfl, ht, rfl⟩
    go_wp2_with fail
    go_ret
    refine ⟨_, rfl, ?_, rfl⟩
    rw [Hid, ht.out, Lib.itoa, if_neg (by omega)]; rfl

set_option maxHeartbeats 400000 in
theorem refNumber_any (n : Int) (w : World) (h0 : -9223372036854775808 ≤ n) (h1 : n ≤ 9223372036854775807) : Calls Tryz.prog 51 #[.int .i64 n] w (StrS (numL n) w) := by
  go_enter Tryz.func51, Tryz.ntmps51
  go_wp2_with fail
  refine (refDec_any n _ h0 h1).mono ?_
  rintro e w1 ⟨t, rfl, ht, rfl⟩
  have hts : t.size ≤ 20 := by rw [← toList_size, ht.out]; exact itoa_len h0 h1
  go_wp2_with fail
  go_ret
  exact ⟨_, rfl, by rw [Hid, append_list, ht.out]; rfl, rfl⟩
set_option maxHeartbeats 400000 in
theorem string_any (s : ByteArray) (w : World) (he : Env w) (hs : s.size ≤ 140737488355328) : Calls Tryz.prog 62 #[.string s] w (StrP (strL s.data.toList) w) := by
  go_enter Tryz.func62, Tryz.ntmps62
  go_wp2_with fail
  refine (itoa_any s.size _ he (by omega) (by omega)).mono ?_
  rintro e w1 ⟨t, rfl, ht, hb⟩
  have hts : t.size ≤ 20 := by rw [← toList_size, ht.out]; exact itoa_len (by omega) (by omega)
  go_wp2_with fail
  go_ret
  exact ⟨_, rfl, by rw [Hid, append_list, append_list, append_list, ht.out]; rfl, hb⟩
set_option maxHeartbeats 400000 in
theorem refString_any (s : ByteArray) (w : World) (hs : s.size ≤ 140737488355328) : Calls Tryz.prog 30 #[.string s] w (StrS (strL s.data.toList) w) := by
  go_enter Tryz.func30, Tryz.ntmps30
  go_wp2_with fail
  refine (refDec_any s.size _ (by omega) (by omega)).mono ?_
  rintro e w1 ⟨t, rfl, ht, rfl⟩
  have hts : t.size ≤ 20 := by rw [← toList_size, ht.out]; exact itoa_len (by omega) (by omega)
  go_wp2_with fail
  go_ret
  exact ⟨_, rfl, by rw [Hid, append_list, append_list, append_list, ht.out]; rfl, rfl⟩
end Go.Proofs.YtpkapcijgldhhaaGreatDoor
