/-
  The walks of the netstring package and of its reference: the readers.
-/
import Derived.Test.YtpkapcijgldhhaaGreatDoorCe02
import Derived.Test.YtpkapcijgldhhaaGreatDoorCe03
namespace Go.Proofs.YtpkapcijgldhhaaGreatDoor
open Go.RowKit

/-- what 'until' gives -/
def UntilR (s : ByteArray) (a : Int) (c : UInt8) (t : ByteArray) (n e : Int) : Prop :=
  ((a < 0 ∨ (s.size : Int) < a) ∧ t = ⟨#[]⟩ ∧ n = 0 ∧ e = 1) ∨
  (∃ j : Nat, a = j ∧ j ≤ s.size ∧ Lib.indexByte (s.data.toList.drop j) c < 0 ∧ t = ⟨#[]⟩ ∧ n = 0 ∧ e = 4) ∨
  (∃ j k : Nat, a = j ∧ j + k < s.size ∧ Lib.indexByte (s.data.toList.drop j) c = k ∧ t.data.toList = (s.data.toList.drop j).take k ∧ n = ((j + k + 1 : Nat) : Int) ∧ e = 0)

def UntilP (s : ByteArray) (a : Int) (c : UInt8) (w : World) (e : Ending) (w' : World) : Prop :=
  ∃ t n x, e = .returned (.tuple #[.string t, .int .i64 n, .int .i64 x]) ∧ UntilR s a c t n x ∧ w = w'

theorem rest_list (s : ByteArray) (k : Nat) : (s.extract k s.size).data.toList = s.data.toList.drop k := by
  rw [extract_list, List.take_of_length_le (by simp)]

set_option maxHeartbeats 400000 in
theorem until_any (s : ByteArray) (a : Int) (c : UInt8) (w : World) (hs : s.size ≤ 9223372036854775806) :
    Calls Tryz.prog 138 #[.string s, .int .i64 a, .int .u8 c.toNat] w (UntilP s a c w) := by
  by_cases h0 : a < 0
  · go_enter Tryz.func138, Tryz.ntmps138
    go_wp2_with fail
    go_ret3
    exact ⟨_, _, _, rfl, .inl ⟨.inl h0, rfl, rfl, rfl⟩, rfl⟩
  by_cases h1 : (s.size : Int) < a
  · go_enter Tryz.func138, Tryz.ntmps138
    go_wp2_with fail
    go_ret3
    exact ⟨_, _, _, rfl, .inl ⟨.inr h1, rfl, rfl, rfl⟩, rfl⟩
  obtain ⟨k, rfl⟩ := Int.eq_ofNat_of_zero_le (Int.not_lt.1 h0)
  have hk : k ≤ s.size := by omega
  go_enter Tryz.func138, Tryz.ntmps138
  go_wp2_with fail
  refine (Tryz.strings_IndexByte _ _ _).mono ?_
  rintro e w' ⟨rfl, rfl⟩
  have hl : (s.data.toList.drop k).length = s.size - k := by simp
  have hi := indexByte_cases (s.data.toList.drop k) c
  have hge := Lib.indexByte_ge (s.data.toList.drop k) c
  rw [rest_list, show ((c.toNat : Int).toNat.toUInt8) = c from by simp]
  generalize hn : Lib.indexByte (s.data.toList.drop k) c = n at *
  have Hn := Lib.hid hn; clear hn
  by_cases hneg : n < 0
  · clear hi
    go_wp2_with fail
    go_ret3
    exact ⟨_, _, _, rfl, .inr (.inl ⟨k, rfl, hk, by rw [Hn.out]; exact hneg, rfl, rfl, rfl⟩), rfl⟩
  · obtain ⟨m, rfl, hm⟩ : ∃ m : Nat, n = m ∧ m < s.size - k := by
      rcases hi with ⟨h, _⟩ | ⟨m, h, hm, _⟩
      · omega
      · exact ⟨m, h, by omega⟩
    clear hi
    go_wp2_with fail
    go_ret3
    refine ⟨_, _, _, rfl, .inr (.inr ⟨k, m, rfl, by omega, Hn.out, ?_, ?_, rfl⟩), rfl⟩
    · rw [extract_list]; congr 1; omega
    · simp
theorem digitSet_ascii : ∀ (j : Nat) b, (⟨#[48, 49, 50, 51, 52, 53, 54, 55, 56, 57]⟩ : ByteArray).data.toList[j]? = some b → b.toNat < 128 := by
  intro j b h
  have : b ∈ digitSet := List.mem_of_getElem? h
  revert this
  revert b
  simp only [digitSet]
  intro b _ hb
  simp only [List.mem_cons, List.mem_nil_iff, or_false] at hb
  rcases hb with rfl | rfl | rfl | rfl | rfl | rfl | rfl | rfl | rfl | rfl <;> decide
theorem trim_digits_any (d : ByteArray) (w : World) (hs : d.size ≤ 9223372036854775807) :
    Calls Tryz.prog 173 #[.string d, .string ⟨#[48, 49, 50, 51, 52, 53, 54, 55, 56, 57]⟩] w fun e w' =>
      ∃ t : ByteArray, e = .returned (.string t) ∧ Hid (t.data.toList = [] ↔ d.data.toList.all isDig = true) ∧ Below w.heap.size w w' := by
  refine (Any.strings_Trim_laid Tryz.lays160 (by kernel_rfl) d ⟨#[48, 49, 50, 51, 52, 53, 54, 55, 56, 57]⟩ w hs (by decide) digitSet_ascii).mono ?_
  rintro e w1 ⟨rfl, hb⟩
  exact ⟨_, rfl, trim_digits _, hb⟩
set_option maxHeartbeats 400000 in
theorem decimal_any (s : ByteArray) (w : World) (hs : s.size ≤ 9223372036854775806) :
    Calls Tryz.prog 139 #[.string s] w fun e w' => ∃ b : Bool, e = .returned (.bool b) ∧ Hid (decB s.data.toList = b) ∧ Below w.heap.size w w' := by
  have hsl : (strip s.data.toList).length ≤ s.size := by
    unfold strip; split
    · simp
    · exact Nat.le_refl _
  go_enter Tryz.func139, Tryz.ntmps139
  go_wp2_with fail
  refine (Tryz.strings_TrimPrefix _ _ _).mono ?_
  rintro e w' ⟨rfl, rfl⟩
  rw [show Lib.trimPrefix s.data.toList (⟨#[45]⟩ : ByteArray).data.toList = strip s.data.toList from trimPrefix_strip _]
  generalize hl : strip s.data.toList = l at *
  obtain ⟨d, hdl, hds⟩ : ∃ d : ByteArray, Hid (d.data.toList = l) ∧ d.size = l.length := ⟨⟨l.toArray⟩, rfl, rfl⟩
  rw [show (⟨l.toArray⟩ : ByteArray) = d from list_inj hdl.out.symm]
  have Hl := Lib.hid hl; clear hl
  have hdsz : d.size ≤ 9223372036854775807 := by omega
  clear hds hsl
  by_cases h0 : l = []
  · have he : d.toList.isEmpty = true := by rw [isEmpty_list, hdl.out, h0]; rfl
    have H0 := Lib.hid h0; clear h0
    go_wp2_with fail
    go_ret
    exact ⟨_, rfl, decB_nil (Hl.out.trans H0.out), below_refl _⟩
  have hpos : 0 < d.size := size_pos (by rw [hdl.out]; exact h0)
  have he : d.toList.isEmpty = false := by rw [isEmpty_list, hdl.out]; simpa using h0
  have hd0 := get_list d 0 hpos
  rw [hdl.out] at hd0
  have hhead : l.head? = some d[0] := by rw [List.head?_eq_getElem?]; exact hd0
  have Hh := Lib.hid hhead
  have H0 := Lib.hid h0
  clear hd0 hhead h0
  go_wp2_with fail
  refine (trim_digits_any d _ hdsz).mono ?_
  rintro e w1 ⟨t, rfl, ht, hb⟩
  rw [hdl.out] at ht
  by_cases ha : l.all isDig = true
  · have hte : t.toList.isEmpty = true := by rw [isEmpty_list, ht.out.2 ha]; rfl
    have Ha := Lib.hid ha; clear ha
    by_cases h48 : d[0] = 48
    · obtain ⟨hb48, hn48⟩ := byte_is h48 (n := 48) rfl
      have H48 := Lib.hid h48; clear h48
      go_wp2_with fail
      go_ret
      refine ⟨_, rfl, ?_, hb⟩
      rw [beq_list]
      exact decB_zero (by rw [Hl.out]; exact H0.out) (by rw [Hl.out]; exact Ha.out) (by rw [Hl.out, Hh.out, H48.out])
    · obtain ⟨hb48, hn48⟩ := byte_not h48 (n := 48) rfl
      have H48 := Lib.hid h48; clear h48
      go_wp2_with fail
      go_ret
      refine ⟨_, rfl, ?_, hb⟩
      exact decB_ok (by rw [Hl.out]; exact H0.out) (by rw [Hl.out]; exact Ha.out) (by rw [Hl.out, Hh.out]; simpa using H48.out)
  · have hte : t.toList.isEmpty = false := by
      rw [isEmpty_list]
      have : ¬ t.data.toList = [] := fun e => ha (ht.out.1 e)
      simpa using this
    have Ha := Lib.hid ha; clear ha
    go_wp2_with fail
    go_ret
    exact ⟨_, rfl, decB_other (by rw [Hl.out]; exact Ha.out), hb⟩

theorem below_bytes (w : World) (s : ByteArray) (e : TypeId) : Below w.heap.size w (Lib.bytesWorld w e s) :=
  ⟨rfl, rfl, rfl, by rw [Lib.bytesWorld_size]; omega, fun j hj => Lib.bytesWorld_at_old w e s j hj⟩
theorem below_growN (w : World) (k : Nat) (os : Array Obj) : Below w.heap.size w (Sort.grow (w.drewN k) os) :=
  ⟨rfl, rfl, rfl, by show w.heap.size ≤ (w.heap ++ os).size; rw [Array.size_append]; omega, fun j hj => by show (w.heap ++ os)[j]? = _; rw [Array.getElem?_append_left hj]⟩
theorem itoa_any (n : Int) (w : World) (he : Env w) (h0 : -9223372036854775808 ≤ n) (h1 : n ≤ 9223372036854775807) :
    Calls Tryz.prog 100 #[.int .i64 n] w fun e w' => ∃ t : ByteArray, e = .returned (.string t) ∧ Hid (t.data.toList = Lib.itoa n) ∧ Below w.heap.size w w' := by
  refine (Tryz.strconv_Itoa n h0 h1 w he.pow).mono ?_
  rintro e w' ⟨rfl, k, os, rfl⟩
  exact ⟨_, rfl, rfl, below_growN _ _ _⟩
theorem atoi_in (s : ByteArray) (w : World) (hs : s.size ≤ 140737488355328) (hd : decB s.data.toList = true) (h0 : -9223372036854775808 ≤ decVal s.data.toList) (h1 : decVal s.data.toList ≤ 9223372036854775807) :
    Calls Tryz.prog 140 #[.string s] w fun e w' => ∃ n : Int, e = .returned (.tuple #[.int .i64 n, .nilIface]) ∧ Hid (n = decVal s.data.toList) ∧ Below w.heap.size w w' := by
  rcases atoi_dec hd with ⟨_, _, h⟩ | ⟨h, _⟩
  · refine (Tryz.strconv_Atoi_ok s (by omega) _ h w).mono ?_
    rintro e w' ⟨rfl, h⟩
    refine ⟨_, rfl, rfl, ?_⟩
    rcases h with rfl | ⟨t, rfl⟩
    · exact below_refl _
    · exact below_bytes _ _ _
  · omega
theorem atoi_out (s : ByteArray) (w : World) (he : Env w) (hs : s.size ≤ 140737488355328) (hd : decB s.data.toList = true) (h0 : decVal s.data.toList < -9223372036854775808 ∨ 9223372036854775807 < decVal s.data.toList) :
    Calls Tryz.prog 140 #[.string s] w fun e w' => ∃ (n : Int) (N : Nat), e = .returned (.tuple #[.int .i64 n, .iface 248 (.pointer (some ⟨N, 0, none⟩))]) ∧ Below w.heap.size w w' := by
  rcases atoi_dec hd with ⟨_, _, _⟩ | ⟨_, h⟩
  · omega
  · obtain ⟨tp, p, hp⟩ := he.rng
    refine (Tryz.strconv_Atoi_range_var s (by omega) h tp p w hp).mono ?_
    rintro e w' ⟨N, rfl, _, _, hb⟩
    exact ⟨_, N, rfl, hb⟩

set_option maxHeartbeats 400000 in
theorem readNumber_any (s : ByteArray) (a : Int) (w : World) (hs : s.size ≤ 140737488355328) (he : Env w) :
    Calls Tryz.prog 94 #[.string s, .int .i64 a] w fun e w' => ∃ n x y : Int, e = .returned (.tuple #[.int .i64 n, .int .i64 x, .int .i64 y]) ∧ Hid (rdNum s.data.toList a = (n, x, y)) ∧ Below w.heap.size w w' := by
  go_enter Tryz.func94, Tryz.ntmps94
  go_wp2_with fail
  refine (until_any s a 32 _ (by omega)).mono ?_
  rintro e w' ⟨t, n, x, rfl, hR, rfl⟩
  rcases hR with ⟨hb, rfl, rfl, rfl⟩ | ⟨j, rfl, hj, hk, rfl, rfl, rfl⟩ | ⟨j, k, rfl, hj, hk, ht, hn, rfl⟩
  · have Hb := Lib.hid hb; clear hb
    go_wp2_with fail
    go_ret3
    exact ⟨_, _, _, rfl, rdNum_arg Hb.out, below_refl _⟩
  · have Hk := Lib.hid hk; clear hk
    go_wp2_with fail
    go_ret3
    exact ⟨_, _, _, rfl, rdNum_short hj Hk.out, below_refl _⟩
  have hts : t.size ≤ 140737488355328 := by rw [← toList_size, ht]; simp; omega
  have Hk := Lib.hid hk
  have Ht := Lib.hid ht
  have Hn := Lib.hid hn
  clear hk ht hn
  go_wp2_with fail
  refine (decimal_any t _ (by omega)).mono ?_
  rintro e w1 ⟨b, rfl, hb, hB1⟩
  cases b
  · go_wp2_with fail
    go_ret3
    exact ⟨_, _, _, rfl, rdNum_syntax (by simp; omega) Hk.out (by rw [← Ht.out]; exact hb.out), hB1⟩
  have he1 := he.below hB1
  by_cases hr : -9223372036854775808 ≤ decVal t.data.toList ∧ decVal t.data.toList ≤ 9223372036854775807
  · go_wp2_with fail
    refine (atoi_in t _ hts hb.out hr.1 hr.2).mono ?_
    rintro e w2 ⟨v, rfl, hv, hB2⟩
    clear hr
    by_cases h1 : v < -2147483648
    · go_wp2_with fail
      go_ret3
      exact ⟨_, _, _, rfl, rdNum_range (by simp; omega) Hk.out (by rw [← Ht.out]; exact hb.out) (by rw [← Ht.out, ← hv.out]; exact .inl h1), step2 hB1 hB2⟩
    by_cases h2 : 2147483647 < v
    · go_wp2_with fail
      go_ret3
      exact ⟨_, _, _, rfl, rdNum_range (by simp; omega) Hk.out (by rw [← Ht.out]; exact hb.out) (by rw [← Ht.out, ← hv.out]; exact .inr h2), step2 hB1 hB2⟩
    · go_wp2_with fail
      go_ret3
      refine ⟨_, _, _, rfl, ?_, step2 hB1 hB2⟩
      rw [Hid, rdNum_ok (by simp; omega) Hk.out (by rw [← Ht.out]; exact hb.out) (by rw [← Ht.out, ← hv.out]; omega) (by rw [← Ht.out, ← hv.out]; omega), ← Ht.out, ← hv.out, Hn.out]
      simp
  · have Hr := Lib.hid hr; clear hr
    go_wp2_with fail
    refine (atoi_out t _ he1 hts hb.out (by have := Hr.out; omega)).mono ?_
    rintro e w2 ⟨v, N, rfl, hB2⟩
    go_wp2_with fail
    go_ret3
    exact ⟨_, _, _, rfl, rdNum_range (by simp; omega) Hk.out (by rw [← Ht.out]; exact hb.out) (by rw [← Ht.out]; have := Hr.out; omega), step2 hB1 hB2⟩

set_option maxHeartbeats 400000 in
theorem readString_any (s : ByteArray) (a : Int) (w : World) (hs : s.size ≤ 140737488355328) (he : Env w) :
    Calls Tryz.prog 96 #[.string s, .int .i64 a] w fun e w' => ∃ (u : ByteArray) (x y : Int), e = .returned (.tuple #[.string u, .int .i64 x, .int .i64 y]) ∧ Hid (rdStr s.data.toList a = (u.data.toList, x, y)) ∧ Below w.heap.size w w' := by
  go_enter Tryz.func96, Tryz.ntmps96
  go_wp2_with fail
  refine (until_any s a 58 _ (by omega)).mono ?_
  rintro e w' ⟨t, n, x, rfl, hR, rfl⟩
  rcases hR with ⟨hb, rfl, rfl, rfl⟩ | ⟨j, rfl, hj, hk, rfl, rfl, rfl⟩ | ⟨j, k, rfl, hj, hk, ht, hn, rfl⟩
  · have Hb := Lib.hid hb; clear hb
    go_wp2_with fail
    go_ret3
    exact ⟨_, _, _, rfl, rdStr_arg Hb.out, below_refl _⟩
  · have Hk := Lib.hid hk; clear hk
    go_wp2_with fail
    go_ret3
    exact ⟨_, _, _, rfl, rdStr_short hj Hk.out, below_refl _⟩
  have hts : t.size ≤ 140737488355328 := by rw [← toList_size, ht]; simp; omega
  have Htail := Lib.hid (rdStr_tail (l := s.data.toList) (by simp; omega) hk)
  have Ht := Lib.hid ht
  rw [← ht] at Htail
  obtain ⟨m, rfl⟩ : ∃ m : Nat, n = m := ⟨_, hn⟩
  have hm : m ≤ s.size := by omega
  have Hn := Lib.hid (Int.ofNat.inj hn)
  rw [← Hn.out] at Htail
  clear hk ht hn hj Hn
  go_wp2_with fail
  refine (decimal_any t _ (by omega)).mono ?_
  rintro e w1 ⟨b, rfl, hb, hB1⟩
  cases b
  · go_wp2_with fail
    go_ret3
    exact ⟨_, _, _, rfl, by rw [Hid, Htail.out, rdStr.rdTail, if_pos (.inl hb.out)]; try rfl, hB1⟩
  have he1 := he.below hB1
  have hpos : 0 < t.size := size_pos (fun e => by have := hb.out; rw [e] at this; cases this)
  have hh : t.data.toList.head? = some t[0] := by rw [List.head?_eq_getElem?]; exact get_list t 0 hpos
  have Hh := Lib.hid hh; clear hh
  by_cases h45 : t[0] = 45
  · obtain ⟨b1, b2⟩ := byte_is h45 (n := 45) rfl
    have H45 := Lib.hid h45; clear h45
    go_wp2_with fail
    go_ret3
    exact ⟨_, _, _, rfl, by rw [Hid, Htail.out, rdStr.rdTail, if_pos (.inr (by rw [Hh.out, H45.out]))]; try rfl, hB1⟩
  obtain ⟨b1, b2⟩ := byte_not h45 (n := 45) rfl
  have H45 : Hid (¬ (decB t.data.toList = false ∨ t.data.toList.head? = some 45)) := by
    intro h
    rcases h with h | h
    · rw [hb.out] at h; cases h
    · rw [Hh.out] at h; exact h45 (Option.some.inj h)
  have Hv : Hid (decVal t.data.toList = (val t.data.toList : Nat)) := by
    rw [Hid, decVal, if_neg (fun e => H45.out (.inr e))]
  clear h45
  rw [rdStr.rdTail, if_neg H45.out, toList_size] at Htail
  by_cases hr : decVal t.data.toList ≤ 9223372036854775807
  · have Hr := Lib.hid hr; clear hr
    go_wp2_with fail
    refine (atoi_in t _ hts hb.out (by rw [Hv.out]; omega) Hr.out).mono ?_
    rintro e w2 ⟨v, rfl, hv, hB2⟩
    obtain ⟨q, rfl⟩ : ∃ q : Nat, v = q := ⟨_, hv.out.trans Hv.out⟩
    have Hq : Hid (val t.data.toList = q) := by have h1 := hv.out; have h2 := Hv.out; rw [Hid]; omega
    rw [Hq.out] at Htail
    by_cases h1 : s.size ≤ m + q
    · go_wp2_with fail
      go_ret3
      exact ⟨_, _, _, rfl, by rw [Hid, Htail.out, if_pos h1]; try rfl, step2 hB1 hB2⟩
    have Hg := Lib.hid (getD_list s (m + q) (by omega))
    by_cases h44 : s[m + q] = 44
    · obtain ⟨c1, c2⟩ := byte_is h44 (n := 44) rfl
      have H44 := Lib.hid h44; clear h44
      go_wp2_with fail
      go_ret3
      refine ⟨_, _, _, rfl, ?_, step2 hB1 hB2⟩
      rw [Hid, Htail.out, if_neg h1, Hg.out, if_neg (by rw [H44.out]; simp), extract_list]
      simp
    · obtain ⟨c1, c2⟩ := byte_not h44 (n := 44) rfl
      have H44 := Lib.hid h44; clear h44
      go_wp2_with fail
      go_ret3
      refine ⟨_, _, _, rfl, ?_, step2 hB1 hB2⟩
      rw [Hid, Htail.out, if_neg h1, Hg.out, if_pos H44.out]; try rfl
  · have Hr := Lib.hid hr; clear hr
    go_wp2_with fail
    refine (atoi_out t _ he1 hts hb.out (by have := Hr.out; omega)).mono ?_
    rintro e w2 ⟨v, N, rfl, hB2⟩
    go_wp2_with fail
    go_ret3
    refine ⟨_, _, _, rfl, ?_, step2 hB1 hB2⟩
    have h1 := Hr.out; have h2 := Hv.out
    rw [Hid, Htail.out, if_pos (by omega)]; try rfl

def StrP (l : List UInt8) (w : World) (e : Ending) (w' : World) : Prop := ∃ t : ByteArray, e = .returned (.string t) ∧ Hid (t.data.toList = l) ∧ Below w.heap.size w w'
set_option maxHeartbeats 400000 in
theorem string_any (s : ByteArray) (w : World) (he : Env w) (hs : s.size ≤ 140737488355328) : Calls Tryz.prog 62 #[.string s] w (StrP (strL s.data.toList) w) := by
  go_enter Tryz.func62, Tryz.ntmps62
  go_wp2_with fail
  refine (itoa_any s.size _ he (by omega) (by omega)).mono ?_
  rintro e w1 ⟨t, rfl, ht, hb⟩
  have hts : t.size ≤ 20 := by rw [← toList_size, ht.out]; exact itoa_len (by omega) (by omega)
  go_wp2_with fail
  go_ret
  exact ⟨_, rfl, by rw [Hid, append_list, append_list, append_list, ht.out]; rfl, hb⟩
end Go.Proofs.YtpkapcijgldhhaaGreatDoor
