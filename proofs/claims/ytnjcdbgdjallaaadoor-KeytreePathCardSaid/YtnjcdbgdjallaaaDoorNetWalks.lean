/-
  The walks of the netstring package and of its reference: the readers.
-/
import Derived.Test.YtnjcdbgdjallaaaDoorBase
import Derived.Test.YtnjcdbgdjallaaaDoorNetPlain
namespace Go.Proofs.YtnjcdbgdjallaaaDoor
open Go.RowKit

/-- what 'until' gives -/
def UntilR (s : ByteArray) (a : Int) (c : UInt8) (t : ByteArray) (n e : Int) : Prop :=
  ((a < 0 ∨ (s.size : Int) < a) ∧ t = ⟨#[]⟩ ∧ n = 0 ∧ e = 1) ∨
  (∃ j : Nat, a = j ∧ j ≤ s.size ∧ Lib.indexByte (s.data.toList.drop j) c < 0 ∧ t = ⟨#[]⟩ ∧ n = 0 ∧ e = 4) ∨
  (∃ j k : Nat, a = j ∧ j + k < s.size ∧ Lib.indexByte (s.data.toList.drop j) c = k ∧ t.data.toList = (s.data.toList.drop j).take k ∧ n = ((j + k + 1 : Nat) : Int) ∧ e = 0)

def UntilP (s : ByteArray) (a : Int) (c : UInt8) (w : World) (e : Ending) (w' : World) : Prop :=
  ∃ t n x, e = .returned (.tuple #[.string t, .int .i64 n, .int .i64 x]) ∧ UntilR s a c t n x ∧ w = w'

theorem rest_list (s : ByteArray) (k : Nat) : (s.extract k s.size).data.toList = s.data.toList.drop k := by
  rw [extract_list, List.take_of_length_le (by simp)]

theorem digitSet_ascii : ∀ (j : Nat) b, (⟨#[48, 49, 50, 51, 52, 53, 54, 55, 56, 57]⟩ : ByteArray).data.toList[j]? = some b → b.toNat < 128 := by
  intro j b h
  have : b ∈ digitSet := List.mem_of_getElem? h
  revert this
  revert b
  simp only [digitSet]
  intro b _ hb
  simp only [List.mem_cons, List.mem_nil_iff, or_false] at hb
  rcases hb with rfl | rfl | rfl | rfl | rfl | rfl | rfl | rfl | rfl | rfl <;> decide
theorem below_bytes (w : World) (s : ByteArray) (e : TypeId) : Below w.heap.size w (Lib.bytesWorld w e s) :=
  ⟨rfl, rfl, rfl, by rw [Lib.bytesWorld_size]; omega, fun j hj => Lib.bytesWorld_at_old w e s j hj⟩
theorem below_growN (w : World) (k : Nat) (os : Array Obj) : Below w.heap.size w (Sort.grow (w.drewN k) os) :=
  ⟨rfl, rfl, rfl, by show w.heap.size ≤ (w.heap ++ os).size; rw [Array.size_append]; omega, fun j hj => by show (w.heap ++ os)[j]? = _; rw [Array.getElem?_append_left hj]⟩
theorem itoa_any (n : Int) (w : World) (he : Env w) (h0 : -9223372036854775808 ≤ n) (h1 : n ≤ 9223372036854775807) :
    Calls Tryd.prog 30 #[.int .i64 n] w fun e w' => ∃ t : ByteArray, e = .returned (.string t) ∧ Hid (t.data.toList = Lib.itoa n) ∧ Below w.heap.size w w' := by
  refine (Tryd.strconv_Itoa n h0 h1 w he.pow).mono ?_
  rintro e w' ⟨rfl, k, os, rfl⟩
  exact ⟨_, rfl, rfl, below_growN _ _ _⟩
def RefDecR (l : List UInt8) (n : Nat) (b : Bool) : Prop := b = natOk l ∧ (b = true → n = min (val l) 1099511627776)

def RefDecP (l : List UInt8) (w : World) (e : Ending) (w' : World) : Prop := ∃ (n : Nat) (b : Bool), e = .returned (.tuple #[.int .i64 n, .bool b]) ∧ RefDecR l n b ∧ w = w'

theorem byte_lt (c : UInt8) : (c.toNat : Int) < 256 := by have := c.toNat_lt; omega

def RdNumP (l : List UInt8) (a : Int) (w : World) (e : Ending) (w' : World) : Prop :=
  ∃ n x y : Int, e = .returned (.tuple #[.int .i64 n, .int .i64 x, .int .i64 y]) ∧ Hid (rdNum l a = (n, x, y)) ∧ w = w'
def RdStrP (l : List UInt8) (a : Int) (w : World) (e : Ending) (w' : World) : Prop :=
  ∃ (u : ByteArray) (x y : Int), e = .returned (.tuple #[.string u, .int .i64 x, .int .i64 y]) ∧ Hid (rdStr l a = (u.data.toList, x, y)) ∧ w = w'

theorem natOk_not {l : List UInt8} : natOk l = false ↔ (decB l = false ∨ l.head? = some 45) := by
  by_cases h : l.head? = some 45
  · have : natOk l = false := by
      cases l with
      | nil => rfl
      | cons c r =>
        simp only [List.head?_cons, Option.some.injEq] at h
        subst h
        exact natOk_no (by simp [isDig])
    simp [this, h]
  · rw [natOk_pos h]; simp [h]

def StrP (l : List UInt8) (w : World) (e : Ending) (w' : World) : Prop := ∃ t : ByteArray, e = .returned (.string t) ∧ Hid (t.data.toList = l) ∧ Below w.heap.size w w'
def StrS (l : List UInt8) (w : World) (e : Ending) (w' : World) : Prop := ∃ t : ByteArray, e = .returned (.string t) ∧ Hid (t.data.toList = l) ∧ w = w'

theorem digit_at : ∀ u : Nat, u < 10 → ((⟨#[48, 49, 50, 51, 52, 53, 54, 55, 56, 57]⟩ : ByteArray).extract u (u + 1)).data.toList = [UInt8.ofNat (48 + u)] := by
  intro u hu
  have : ∀ v : Fin 10, ((⟨#[48, 49, 50, 51, 52, 53, 54, 55, 56, 57]⟩ : ByteArray).extract v.val (v.val + 1)).data.toList = [UInt8.ofNat (48 + v.val)] := by decide +kernel
  exact this ⟨u, hu⟩

set_option maxHeartbeats 400000 in
theorem refDigits_any : ∀ (k u : Nat) (w : World), u < 10 ^ (k + 1) → u < 18446744073709551616 →
    Calls Tryd.prog 50 #[.int .u64 u] w (StrS (Lib.decDigits u) w) := by
  intro k
  induction k with
  | zero =>
    intro u w hu hu2
    have hu1 : u < 10 := by simpa using hu
    have Hd := Lib.hid (digit_at u hu1)
    clear hu
    go_enter Tryd.func50, Tryd.ntmps50
    go_wp2_with fail
    go_ret
    refine ⟨_, rfl, ?_, rfl⟩
    rw [Lib.decDigits, dif_pos hu1]
    exact Hd.out
  | succ k ih =>
    intro u w hu hu2
    by_cases hu1 : u < 10
    · have Hd := Lib.hid (digit_at u hu1)
      clear hu ih
      go_enter Tryd.func50, Tryd.ntmps50
      go_wp2_with fail
      go_ret
      refine ⟨_, rfl, ?_, rfl⟩
      rw [Lib.decDigits, dif_pos hu1]
      exact Hd.out
    · have h1 := Lib.hid (fun w => ih (u / 10) w (by rw [Nat.pow_succ] at hu; omega) (by omega))
      have h2 := Lib.hid (fun w => ih (u % 10) w (Nat.lt_of_lt_of_le (Nat.mod_lt _ (by omega)) (by rw [Nat.pow_succ]; have := Nat.one_le_pow k 10 (by omega); omega)) (by omega))
      clear ih hu
      go_enter Tryd.func50, Tryd.ntmps50
      go_wp2_with fail
      refine (h1.out _).mono ?_
      rintro e w1 ⟨t, rfl, ht, rfl⟩
      have hts : t.size ≤ 20 := by rw [← toList_size, ht.out]; exact decDigits_len 19 _ (by omega)
      go_wp2_with fail
      refine (h2.out _).mono ?_
      rintro e w1 ⟨t2, rfl, ht2, rfl⟩
      have hts2 : t2.size ≤ 20 := by rw [← toList_size, ht2.out]; exact decDigits_len 19 _ (by omega)
      go_wp2_with fail
      go_ret
      refine ⟨_, rfl, ?_, rfl⟩
      rw [Hid, append_list, ht.out, ht2.out]
      conv => rhs; rw [Lib.decDigits, dif_neg hu1]
      congr 1
      rw [Lib.decDigits, dif_pos (by omega)]
theorem refDigits (u : Nat) (w : World) (h : u < 18446744073709551616) : Calls Tryd.prog 50 #[.int .u64 u] w (StrS (Lib.decDigits u) w) :=
  refDigits_any 19 u w (by omega) h

set_option maxHeartbeats 400000 in
theorem refDec_any (n : Int) (w : World) (h0 : -9223372036854775808 ≤ n) (h1 : n ≤ 9223372036854775807) : Calls Tryd.prog 38 #[.int .i64 n] w (StrS (Lib.itoa n) w) := by
  by_cases hn : n < 0
  · obtain ⟨k, hk⟩ : ∃ k : Nat, -(n + 1) + 1 = (k : Int) := ⟨(-n).toNat, by omega⟩
    have hkb : k < 18446744073709551616 := by omega
    have hkb' : k < 10 ^ 20 := by omega
    have Hkn : Hid (n.natAbs = k) := by rw [Hid]; omega
    have Hk := Lib.hid hk; clear hk
    go_enter Tryd.func38, Tryd.ntmps38
    go_wp2_with fail
    rw [Hk.out]
    refine (refDigits k _ hkb).mono ?_
    rintro e w1 ⟨t, rfl, ht, rfl⟩
    have hts : t.size ≤ 20 := by rw [← toList_size, ht.out]; exact decDigits_len 19 _ hkb'
    go_wp2_with fail
    go_ret
    refine ⟨_, rfl, ?_, rfl⟩
    rw [Hid, append_list, ht.out, Lib.itoa, if_pos hn, Hkn.out]; rfl
  · obtain ⟨k, rfl⟩ := Int.eq_ofNat_of_zero_le (Int.not_lt.1 hn)
    have hkb : k < 18446744073709551616 := by omega
    go_enter Tryd.func38, Tryd.ntmps38
    go_wp2_with fail
    refine (refDigits k _ hkb).mono ?_
    rintro e w1 ⟨t, rfl, ht, rfl⟩
    go_wp2_with fail
    go_ret
    refine ⟨_, rfl, ?_, rfl⟩
    rw [Hid, ht.out, Lib.itoa, if_neg (by omega)]; rfl

set_option maxHeartbeats 400000 in
theorem number_any (n : Int) (w : World) (he : Env w) (h0 : -9223372036854775808 ≤ n) (h1 : n ≤ 9223372036854775807) : Calls Tryd.prog 16 #[.int .i64 n] w (StrP (numL n) w) := by
  go_enter Tryd.func16, Tryd.ntmps16
  go_wp2_with fail
  refine (itoa_any n _ he h0 h1).mono ?_
  rintro e w1 ⟨t, rfl, ht, hb⟩
  have hts : t.size ≤ 20 := by rw [← toList_size, ht.out]; exact itoa_len h0 h1
  go_wp2_with fail
  go_ret
  exact ⟨_, rfl, by rw [Hid, append_list, ht.out]; rfl, hb⟩
set_option maxHeartbeats 400000 in
theorem refNumber_any (n : Int) (w : World) (h0 : -9223372036854775808 ≤ n) (h1 : n ≤ 9223372036854775807) : Calls Tryd.prog 22 #[.int .i64 n] w (StrS (numL n) w) := by
  go_enter Tryd.func22, Tryd.ntmps22
  go_wp2_with fail
  refine (refDec_any n _ h0 h1).mono ?_
  rintro e w1 ⟨t, rfl, ht, rfl⟩
  have hts : t.size ≤ 20 := by rw [← toList_size, ht.out]; exact itoa_len h0 h1
  go_wp2_with fail
  go_ret
  exact ⟨_, rfl, by rw [Hid, append_list, ht.out]; rfl, rfl⟩
set_option maxHeartbeats 400000 in
theorem string_any (s : ByteArray) (w : World) (he : Env w) (hs : s.size ≤ 140737488355328) : Calls Tryd.prog 15 #[.string s] w (StrP (strL s.data.toList) w) := by
  go_enter Tryd.func15, Tryd.ntmps15
  go_wp2_with fail
  refine (itoa_any s.size _ he (by omega) (by omega)).mono ?_
  rintro e w1 ⟨t, rfl, ht, hb⟩
  have hts : t.size ≤ 20 := by rw [← toList_size, ht.out]; exact itoa_len (by omega) (by omega)
  go_wp2_with fail
  go_ret
  exact ⟨_, rfl, by rw [Hid, append_list, append_list, append_list, ht.out]; rfl, hb⟩
set_option maxHeartbeats 400000 in
theorem refString_any (s : ByteArray) (w : World) (hs : s.size ≤ 140737488355328) : Calls Tryd.prog 23 #[.string s] w (StrS (strL s.data.toList) w) := by
  go_enter Tryd.func23, Tryd.ntmps23
  go_wp2_with fail
  refine (refDec_any s.size _ (by omega) (by omega)).mono ?_
  rintro e w1 ⟨t, rfl, ht, rfl⟩
  have hts : t.size ≤ 20 := by rw [← toList_size, ht.out]; exact itoa_len (by omega) (by omega)
  go_wp2_with fail
  go_ret
  exact ⟨_, rfl, by rw [Hid, append_list, append_list, append_list, ht.out]; rfl, rfl⟩
end Go.Proofs.YtnjcdbgdjallaaaDoor
