/-
  What the frames of this seat's statements share: the world of the witness, and what the listed variables give.
  Plain laws of netstrings: lists of bytes, no program.
  The walks of the netstring package and of its reference: the readers.
  Lists of strings in memory; netstrings of lists (what the laws of other chapters use).
  Entries as plain data: their check, their encoding, their decoding.
  The walks of the reference's check of a path.
  The walks of the reference's check of attributes, and of Same and Great.
  The walks of Great and of Equal, the program's and the reference's.
  Chapter 36: an entry among the arguments, opened: a struct with two slices of structs.
-/
import Derived.Test.YtpkapcijgldhhaaGreatDoorCe02
import Derived.Test.YtpkapcijgldhhaaGreatDoorCards
import Derived.Test.YtpkapcijgldhhaaGreatDoorTie
import Derived.ProofKit
import Derived.OpenShut
import Derived.LaidMore
import Derived.Deep.DeepHandedRow
import Derived.Deep.DeepWitnessRowRef
import Derived.Lib.LaidTab
import Derived.Stop.LaidErr
import Derived.SizedLaws
import Derived.Test.YtpkapcijgldhhaaGreatDoorCe03
import Derived.Lib.AtoiAll
import Derived.Lib.ItoaNum
import Derived.Lib.Bytealg
import Derived.Lib.SlTrimSet
import Derived.Test.YtpkapcijgldhhaaGreatDoorCe04
import Derived.Test.YtpkapcijgldhhaaGreatDoorCe05
import Derived.Deep.RegionWith
import Derived.Deep.QuietTactic
import Derived.BigQuiet
import Derived.Laws.AppendOwnNone
import Derived.Test.YtpkapcijgldhhaaGreatDoorCe06
import Derived.Test.YtpkapcijgldhhaaGreatDoorCe07
import Derived.Deep.Slices
import Derived.Deep.Fields
import Derived.ChangeSame
namespace Go.Proofs.YtpkapcijgldhhaaGreatDoor
open Go.ChangeShapes Go.WideShapes Go.ChangeAt Go.RowKit
theorem wf_boundsu8 {x : Int} (h : (Lit.int .u8 x).wf = true) : 0 ≤ x ∧ x ≤ 255 := bounds_u8 h
end Go.Proofs.YtpkapcijgldhhaaGreatDoor

namespace Go.Proofs.YtpkapcijgldhhaaGreatDoor
/-! ### the readers -/
/-! ### the reference's 'decimal' -/
/-! ### lengths of numerals; encodings -/
/-! ### numerals are read back -/
theorem numL_length (n : Int) : (numL n).length = (Lib.itoa n).length + 1 := by simp [numL]
end Go.Proofs.YtpkapcijgldhhaaGreatDoor

namespace Go.Proofs.YtpkapcijgldhhaaGreatDoor
open Go.RowKit

def StrS (l : List UInt8) (w : World) (e : Ending) (w' : World) : Prop := ∃ t : ByteArray, e = .returned (.string t) ∧ Hid (t.data.toList = l) ∧ w = w'

theorem digit_at : ∀ u : Nat, u < 10 → ((⟨#[48, 49, 50, 51, 52, 53, 54, 55, 56, 57]⟩ : ByteArray).extract u (u + 1)).data.toList = [UInt8.ofNat (48 + u)] := by
  intro u hu
  have : ∀ v : Fin 10, ((⟨#[48, 49, 50, 51, 52, 53, 54, 55, 56, 57]⟩ : ByteArray).extract v.val (v.val + 1)).data.toList = [UInt8.ofNat (48 + v.val)] := by decide +kernel
  exact this ⟨u, hu⟩

set_option maxHeartbeats 400000 in
theorem refDigits_any : ∀ (k u : Nat) (w : World), u < 10 ^ (k + 1) → u < 18446744073709551616 →
    Calls Tryz.prog 91 #[.int .u64 u] w (StrS (Lib.decDigits u) w) := by
  intro k
  induction k with
  | zero =>
    intro u w hu hu2
    have hu1 : u < 10 := by simpa using hu
    have Hd := Lib.hid (digit_at u hu1)
    clear hu
    go_enter Tryz.func91, Tryz.ntmps91
    go_wp2_with fail
    go_ret
    refine ⟨_, rfl, ?_, rfl⟩
    rw [Lib.decDigits, dif_pos hu1]
    exact Hd.out
  | succ k ih =>
    intro u w hu hu2
    by_cases hu1 : u < 10
    · have Hd := Lib.hid (digit_at u hu1)
      clear hu ih
      go_enter Tryz.func91, Tryz.ntmps91
      go_wp2_with fail
      go_ret
      refine ⟨_, rfl, ?_, rfl⟩
      rw [Lib.decDigits, dif_pos hu1]
      exact Hd.out
    · have h1 := Lib.hid (fun w => ih (u / 10) w (by rw [Nat.pow_succ] at hu; omega) (by omega))
      have h2 := Lib.hid (fun w => ih (u % 10) w (Nat.lt_of_lt_of_le (Nat.mod_lt _ (by omega)) (by rw [Nat.pow_succ]; have := Nat.one_le_pow k 10 (by omega); omega)) (by omega))
      clear ih hu
      go_enter Tryz.func91, Tryz.ntmps91
      go_wp2_with fail
      refine (h1.out _).mono ?_
      rintro e w1 ⟨t, rfl, ht, rfl⟩
      have hts : t.size ≤ 20 := by rw [← toList_size, ht.out]; exact decDigits_len 19 _ (by omega)
      go_wp2_with fail
      refine (h2.out _).mono ?_
      rintro e w1 ⟨t2, rfl, ht2, rfl⟩
      have hts2 : t2.size ≤ 20 := by rw [← toList_size, ht2.out]; exact decDigits_len 19 _ (by omega)
      go_wp2_with fail
      go_ret
      refine ⟨_, rfl, ?_, rfl⟩
      rw [Hid, append_list, ht.out, ht2.out]
      conv => rhs; rw [Lib.decDigits, dif_neg hu1]
      congr 1
      rw [Lib.decDigits, dif_pos (by omega)]
theorem refDigits (u : Nat) (w : World) (h : u < 18446744073709551616) : Calls Tryz.prog 91 #[.int .u64 u] w (StrS (Lib.decDigits u) w) :=
  refDigits_any 19 u w (by omega) h

set_option maxHeartbeats 400000 in
theorem refDec_any (n : Int) (w : World) (h0 : -9223372036854775808 ≤ n) (h1 : n ≤ 9223372036854775807) : Calls Tryz.prog 57 #[.int .i64 n] w (StrS (Lib.itoa n) w) := by
  by_cases hn : n < 0
  · obtain ⟨k, hk⟩ : ∃ k : Nat, -(n + 1) + 1 = (k : Int) := ⟨(-n).toNat, by omega⟩
    have hkb : k < 18446744073709551616 := by omega
    have hkb' : k < 10 ^ 20 := by omega
    have Hkn : Hid (n.natAbs = k) := by rw [Hid]; omega
    have Hk := Lib.hid hk; clear hk
    go_enter Tryz.func57, Tryz.ntmps57
    go_wp2_with fail
    rw [Hk.out]
    refine (refDigits k _ hkb).mono ?_
    rintro e w1 ⟨t, rfl, ht, rfl⟩
    have hts : t.size ≤ 20 := by rw [← toList_size, ht.out]; exact decDigits_len 19 _ hkb'
    go_wp2_with fail
    go_ret
    refine ⟨_, rfl, ?_, rfl⟩
    rw [Hid, append_list, ht.out, Lib.itoa, if_pos hn, Hkn.out]; rfl
  · obtain ⟨k, rfl⟩ := Int.eq_ofNat_of_zero_le (Int.not_lt.1 hn)
    have hkb : k < 18446744073709551616 := by omega
    go_enter Tryz.func57, Tryz.ntmps57
    go_wp2_with fail
    refine (refDigits k _ hkb).mono ?_
    rintro e w1 ⟨t, rfl, ht, rfl⟩
    go_wp2_with fail
    go_ret
    refine ⟨_, rfl, ?_, rfl⟩
    rw [Hid, ht.out, Lib.itoa, if_neg (by omega)]; rfl

set_option maxHeartbeats 400000 in
theorem refNumber_any (n : Int) (w : World) (h0 : -9223372036854775808 ≤ n) (h1 : n ≤ 9223372036854775807) : Calls Tryz.prog 51 #[.int .i64 n] w (StrS (numL n) w) := by
  go_enter Tryz.func51, Tryz.ntmps51
  go_wp2_with fail
  refine (refDec_any n _ h0 h1).mono ?_
  rintro e w1 ⟨t, rfl, ht, rfl⟩
  have hts : t.size ≤ 20 := by rw [← toList_size, ht.out]; exact itoa_len h0 h1
  go_wp2_with fail
  go_ret
  exact ⟨_, rfl, by rw [Hid, append_list, ht.out]; rfl, rfl⟩
set_option maxHeartbeats 400000 in
theorem refString_any (s : ByteArray) (w : World) (hs : s.size ≤ 140737488355328) : Calls Tryz.prog 30 #[.string s] w (StrS (strL s.data.toList) w) := by
  go_enter Tryz.func30, Tryz.ntmps30
  go_wp2_with fail
  refine (refDec_any s.size _ (by omega) (by omega)).mono ?_
  rintro e w1 ⟨t, rfl, ht, rfl⟩
  have hts : t.size ≤ 20 := by rw [← toList_size, ht.out]; exact itoa_len (by omega) (by omega)
  go_wp2_with fail
  go_ret
  exact ⟨_, rfl, by rw [Hid, append_list, append_list, append_list, ht.out]; rfl, rfl⟩
end Go.Proofs.YtpkapcijgldhhaaGreatDoor

namespace Go.Proofs.YtpkapcijgldhhaaGreatDoor
open Go.RowKit
/-! ### slices whose elements are one cell each -/
/-! ### reading all strings -/
set_option maxHeartbeats 1000000 in
theorem refStrings_any (va : Value) (la : List ByteArray) (w : World) (ha : Strs w va la) (ht : totS la ≤ 1099511627776) :
    Calls Tryz.prog 170 #[va] w (StrS (strsL la) w) := by
  obtain ⟨hla, ha'⟩ := row_cases ha
  simp only [List.length_map] at hla ha'
  unfold maxLen at hla
  rcases ha' with ⟨h0', aa, ca, rfl, _⟩ | ⟨h0', ba, oa, ca, rfl, hca, hca2, hcella⟩
  · have hla0 : la = [] := by simpa using h0'
    subst hla0
    go_enter Tryz.func170, Tryz.ntmps170
    go_wp2_with fail
    refine wp_loop_rounds 1 ?_; rw [rounds_succ]
    go_wp2_with fail
    go_ret
    exact ⟨_, rfl, rfl, rfl⟩
  · go_enter Tryz.func170, Tryz.ntmps170
    go_wp2_with fail
    go_loop [3, 4] (fun o i => ∃ (k : Nat) (u : ByteArray), k ≤ la.length ∧ i = .int .i64 k ∧ o = .string u ∧ Hid (u.data.toList = strsL (la.take k))) (fun _ i => la.length - (intOf i).toNat)
    case atStart => exact ⟨0, ⟨#[]⟩, by omega, rfl, rfl, rfl⟩
    case round =>
      obtain ⟨k, u, hk, rfl, rfl, hu⟩ := hrel
      by_cases hlt : k < la.length
      · have c1 : w.cell? ⟨ba, oa + k, none⟩ = some (.string la[k]) := hcella k (.string la[k]) (by simp [hlt])
        have h1 := strsL_take la k hlt
        have h2 := totS_le la (k + 1)
        have h3 := totS_take la k hlt
        have h4 := strsL_le (la.take k) (by omega)
        have h5 := strL_le la[k] (by omega)
        generalize la[k] = x at *
        have hxs : x.size ≤ 1099511627776 := by omega
        have hus : u.size ≤ 10995116277760 := by rw [← toList_size, hu.out]; omega
        have hlen : (strL x.data.toList).length ≤ 10995116277760 := by omega
        have H1 := Lib.hid h1
        have Hlen := Lib.hid hlen
        have Hcella := Lib.hid hcella
        clear h1 h2 h3 h4 h5 hlen hcella
        go_wp2_with fail
        refine (refString_any x _ (by omega)).mono ?_
        rintro e w1 ⟨t, rfl, hts, rfl⟩
        have htz : t.size ≤ 10995116277760 := by rw [← toList_size, hts.out]; exact Hlen.out
        go_wp2_with fail
        go_round
        case rel => exact ⟨k + 1, _, by omega, by go_num, rfl, by rw [Hid, append_list, H1.out, hu.out, hts.out]⟩
        case measure => simp [intOf]; omega
      · have ht2 : la.take k = la := List.take_of_length_le (by omega)
        rw [ht2] at hu
        clear ht2
        go_wp2_with fail
        go_ret
        exact ⟨_, rfl, hu, rfl⟩
/-! ### reading an encoding -/
theorem rdAll_strsL : ∀ (l : List ByteArray) (fuel : Nat) (pre : List UInt8) (acc : List (List UInt8)), l.length < fuel →
    rdAll fuel (pre ++ strsL l) pre.length acc = (acc ++ l.map (·.data.toList), 0)
  | [], fuel + 1, pre, acc, _ => by rw [rdAll_end (by simp [strsL])]; simp
  | s :: l, fuel + 1, pre, acc, h => by
    have e : strsL (s :: l) = strL s.data.toList ++ strsL l := by simp [strsL]
    have h1 := rdStr_strL pre s.data.toList (strsL l)
    rw [List.append_assoc] at h1
    have hlt : pre.length < (pre ++ strsL (s :: l)).length := by rw [e]; simp [strL_length]; omega
    rw [rdAll_step hlt (by rw [e]; exact h1), e, ← List.append_assoc]
    have := rdAll_strsL l fuel (pre ++ strL s.data.toList) (acc ++ [s.data.toList]) (by simp at h; omega)
    rw [List.length_append] at this
    rw [this]; simp
theorem strsL_length (l : List ByteArray) : l.length ≤ (strsL l).length := by
  induction l with
  | nil => simp [strsL]
  | cons s l ih =>
    have e : strsL (s :: l) = strL s.data.toList ++ strsL l := by simp [strsL]
    rw [e, List.length_append, strL_length, List.length_cons]; omega
theorem rdStrs_strsL (l : List ByteArray) : rdStrs (strsL l) = (l.map (·.data.toList), 0) := by
  have := rdAll_strsL l ((strsL l).length + 1) [] [] (by have := strsL_length l; omega)
  simpa [rdStrs] using this
end Go.Proofs.YtpkapcijgldhhaaGreatDoor

namespace Go.Proofs.YtpkapcijgldhhaaGreatDoor

theorem atAt_get {A : List At} {i : Nat} (h : i < A.length) : atAt A i = A[i] := by
  rw [atAt, List.getD_eq_getElem?_getD, List.getElem?_eq_getElem h]; rfl
/-! ### the check -/
/-! ### the encoding -/
/-! ### the decoding: up to the first error -/
end Go.Proofs.YtpkapcijgldhhaaGreatDoor

namespace Go.Proofs.YtpkapcijgldhhaaGreatDoor
open Go.RowKit Go.Shelf

theorem take_snoc (s : ByteArray) (k : Nat) (h : k < s.size) : s.data.toList.take (k + 1) = s.data.toList.take k ++ [s[k]] := by
  rw [List.take_succ_eq_append_getElem (by simpa using h)]; rfl
theorem one_extract (s : ByteArray) (k : Nat) (h : k < s.size) : (s.extract k (k + 1)).data.toList = [s[k]] := by
  rw [extract_list, show k + 1 - k = 1 from by omega]
  have hl : k < s.data.toList.length := h
  rw [List.drop_eq_getElem_cons hl]
  rfl
theorem ElSt.slash {l : List UInt8} {L : List ByteArray} {p : ByteArray} (h : ElSt l L p) : ElSt (l ++ [47]) (L ++ [p]) ⟨#[]⟩ := by
  unfold ElSt
  rw [elSt_snoc, if_pos rfl, List.map_append, h.1, List.map_singleton, h.2]
  exact ⟨rfl, rfl⟩
def ElemsQ (l : List UInt8) (w : World) (e : Ending) (w' : World) : Prop :=
  ∃ (v : Value) (L : List ByteArray), e = .returned v ∧ Strs w' v L ∧ Hid (L.map (·.data.toList) = elemsL l) ∧ Below w.heap.size w w'
set_option maxRecDepth 100000 in
set_option maxHeartbeats 1000000 in
theorem refElements_any (s : ByteArray) (w : World) (hs : s.size ≤ 1000000) : Calls Tryz.prog 165 #[.string s] w (ElemsQ s.data.toList w) := by
  obtain ⟨i0, hi, hz0, hz1, hz2⟩ := info_parts infoStr
  have hown0 : (w.alloc (.cells #[] 9)).ownsRow w.heap.size 9 1 (.slice (some ⟨w.heap.size, 0, none⟩) 0 0) 0 [] := World.ownsRow_made w #[] 0 (Nat.le_refl _) (by decide) rfl
  have hb0 : Below w.heap.size w (w.alloc (.cells #[] 9)) := (below_refl _).alloc (Nat.le_refl _) _
  by_cases h0 : s.data.toList = []
  · have he : s.toList.isEmpty = true := by rw [isEmpty_list, h0]; rfl
    have H0 := Lib.hid h0; clear h0
    go_enter Tryz.func165, Tryz.ntmps165
    go_wp2_with fail
    go_ret
    exact ⟨_, [], rfl, Row.of_owns hown0, by rw [Hid, H0.out]; rfl, hb0⟩
  · have he : s.toList.isEmpty = false := by rw [isEmpty_list]; simpa using h0
    have H0 := Lib.hid h0; clear h0
    go_enter Tryz.func165, Tryz.ntmps165
    go_wp2_with fail
    go_loopw [3, 4, 5] (fun v p i wr => ∃ (k : Nat) (L : List ByteArray) (q : ByteArray), k ≤ s.size ∧ i = .int .i64 k ∧ p = .string q ∧ Hid (ElSt (s.data.toList.take k) L q) ∧ wr.ownsRow w.heap.size 9 1 v L.length (L.map Value.string) ∧ Below w.heap.size w wr)
      (fun _ _ i _ => s.size - (intOf i).toNat)
    case atStart => exact ⟨0, [], ⟨#[]⟩, by omega, rfl, rfl, ⟨rfl, rfl⟩, hown0, hb0⟩
    case round =>
      obtain ⟨k, L, q, hk, rfl, rfl, hst, hown, hbw⟩ := hrel
      have hll := hst.out.len
      have htk : (s.data.toList.take k).length ≤ k := List.length_take_le _ _
      have hL : L.length ≤ 1000000 := by omega
      have hq : q.size ≤ 1000000 := by omega
      clear hll htk hown0 hb0
      by_cases hlt : k < s.size
      · have HT := Lib.hid (take_snoc s k hlt)
        have HX := Lib.hid (one_extract s k hlt)
        by_cases h47 : s[k] = 47
        · obtain ⟨b1, b2⟩ := byte_is h47 (n := 47) rfl
          rw [h47] at HT
          have H47 := Lib.hid h47; clear h47
          have hst2 := Lib.hid hst.out.slash
          rw [← HT.out] at hst2
          clear HT HX hst
          go_wp2_with (at_builtin; refine wpList_append_own _ rfl _ _ 57 rfl w.heap.size 9 i0 (.string ⟨#[]⟩) 1 16 Tryz.underlying57 hi hz0 hz1 hz2 rfl (by decide) _ _ _ rfl (hown.alloc _) ⟨wr.heap.size, 0, none⟩ 1 1 [.string q] rfl rfl ?c1 ?c2 ?c3 ?c4 ?c5 ?_)
          case c1 => exact cell_one_new _ _ _
          case c2 => simp [Value.oneCell']
          case c3 => unfold maxLen; omega
          case c4 => omega
          case c5 => have := hbw.size; simp; omega
          intro v' w2 hown2 hgrow2 _
          have hbw2 : Below w.heap.size w w2 := below_grownBy (hbw.alloc hbw.size _) (hown.alloc _) hgrow2 (by have := hbw.size; simp; omega)
          have hown3 : w2.ownsRow w.heap.size 9 1 v' (L ++ [q]).length ((L ++ [q]).map Value.string) := by simpa using hown2
          clear hown2 hgrow2 hown hi hz0 hz1 hz2
          go_wp2_with fail
          go_roundw
          case rel => exact ⟨k + 1, L ++ [q], ⟨#[]⟩, by omega, by go_num, rfl, hst2, hown3, hbw2⟩
          case measure => simp [intOf]; omega
        · obtain ⟨b1, b2⟩ := byte_not h47 (n := 47) rfl
          have hst2 := Lib.hid (hst.out.other h47 HX.out)
          rw [← HT.out] at hst2
          have hxs : (s.extract k (k + 1)).size = 1 := by rw [← toList_size, HX.out]; rfl
          have hxs1 : (s.extract k (k + 1)).size ≤ 1 := by omega
          clear HT HX hst h47 hxs
          go_wp2_with fail
          go_roundw
          case rel => exact ⟨k + 1, L, _, by omega, by go_num, rfl, hst2, hown, hbw⟩
          case measure => simp [intOf]; omega
      · have htk : s.data.toList.take k = s.data.toList := List.take_of_length_le (by rw [toList_size]; omega)
        rw [htk] at hst
        have hall := Lib.hid hst.out.all
        clear hst htk
        go_wp2_with (at_builtin; refine wpList_append_own _ rfl _ _ 57 rfl w.heap.size 9 i0 (.string ⟨#[]⟩) 1 16 Tryz.underlying57 hi hz0 hz1 hz2 rfl (by decide) _ _ _ rfl (hown.alloc _) ⟨wr.heap.size, 0, none⟩ 1 1 [.string q] rfl rfl ?d1 ?d2 ?d3 ?d4 ?d5 ?_)
        case d1 => exact cell_one_new _ _ _
        case d2 => simp [Value.oneCell']
        case d3 => unfold maxLen; omega
        case d4 => omega
        case d5 => have := hbw.size; simp; omega
        intro v' w2 hown2 hgrow2 _
        have hbw2 : Below w.heap.size w w2 := below_grownBy (hbw.alloc hbw.size _) (hown.alloc _) hgrow2 (by have := hbw.size; simp; omega)
        have hown3 : w2.ownsRow w.heap.size 9 1 v' (L ++ [q]).length ((L ++ [q]).map Value.string) := by simpa using hown2
        clear hown2 hgrow2 hown hi hz0 hz1 hz2
        go_wp2_with fail
        go_ret
        exact ⟨_, L ++ [q], rfl, Row.of_owns hown3, by rw [Hid, hall.out, elemsL, if_neg H0.out], hbw2⟩

def compPre (s : ByteArray) : Bool := decide (0 < s.size) && decide (s.size ≤ 32) && !(s.data.toList == [46]) && !(s.data.toList == [46, 46])
theorem compPre_walk (s : ByteArray) : compPre s = (decide (0 < s.size) && decide ((s.size : Int) ≤ 32) && !(s.toList == [46]) && !(s.toList == [46, 46])) := by
  rw [compPre, ByteArray.toList_eq]
  congr 3
  rw [decide_eq_decide]; omega
theorem compB_pre (s : ByteArray) : compB s.data.toList = (compPre s && s.data.toList.all okC) := rfl
theorem okC_int (c : UInt8) : okC c = (decide (97 ≤ (c.toNat : Int)) && decide ((c.toNat : Int) ≤ 122) || decide (48 ≤ (c.toNat : Int)) && decide ((c.toNat : Int) ≤ 57) || ((c.toNat : Int) == 46) || ((c.toNat : Int) == 95) || ((c.toNat : Int) == 45)) := by
  rw [okC, Bool.eq_iff_iff]
  simp only [Bool.or_eq_true, Bool.and_eq_true, decide_eq_true_eq, beq_iff_eq]
  omega
theorem all_take_c (s : ByteArray) (k : Nat) (h : k < s.size) : ((s.data.toList.take (k + 1)).all okC) = ((s.data.toList.take k).all okC && okC s[k]) := by
  rw [take_snoc s k h, List.all_append]; simp
theorem all_hit_c (s : ByteArray) (k : Nat) (h : k < s.size) (hb : okC s[k] = false) : s.data.toList.all okC = false := by
  rw [List.all_eq_false]
  exact ⟨s[k], List.mem_of_getElem? (get_list s k h), by rw [hb]; decide⟩
theorem comp_next (s : ByteArray) (k : Nat) (h : k < s.size) (hc : (s.data.toList.take k).all okC = true) (c : Bool) (e : c = okC s[k]) : (c = true ∧ (s.data.toList.take (k + 1)).all okC = true) ∨ (c = false ∧ s.data.toList.all okC = false) := by
  cases hok : okC s[k]
  · exact .inr ⟨e.trans hok, all_hit_c s k h hok⟩
  · exact .inl ⟨e.trans hok, by rw [all_take_c s k h, hc, hok]; rfl⟩
set_option maxHeartbeats 1000000 in
theorem refComponent_any (s : ByteArray) (w : World) (hs : s.size ≤ 1000000) : Calls Tryz.prog 166 #[.string s] w (BoolS (compB s.data.toList) w) := by
  have HC := Lib.hid (compB_pre s)
  have HP := Lib.hid (compPre_walk s)
  go_enter Tryz.func166, Tryz.ntmps166
  go_upto_region 1 with (fail)
  go_cut [3] from 6 to 21 (fun v wc => v = .bool (compPre s) ∧ w = wc)
  case first =>
    go_wp2_with fail
    all_goals
      go_meet
      case rel =>
        refine ⟨congrArg Value.bool ?_, rfl⟩
        rw [HP.out]
        clear HP HC
        simp_all
        try (intros; omega)
  case rest =>
    obtain ⟨rfl, rfl⟩ := hcut
    cases hpre : compPre s
    · rw [hpre] at HC
      clear HP hpre
      go_wp2_with fail
      refine wp_loop_rounds 1 ?_; rw [rounds_succ]
      go_wp2_with fail
      go_ret
      exact ⟨ret_bool (by rw [HC.out]; rfl), rfl⟩
    · rw [hpre, Bool.true_and] at HC
      clear HP hpre
      go_wp2_with fail
      go_loop [3, 4] (fun b i => ∃ (k : Nat) (c : Bool), k ≤ s.size ∧ i = .int .i64 k ∧ b = .bool c ∧ Hid ((c = true ∧ (s.data.toList.take k).all okC = true) ∨ (c = false ∧ s.data.toList.all okC = false))) (fun _ i => s.size - (intOf i).toNat)
      case atStart => exact ⟨0, true, by omega, rfl, rfl, .inl ⟨rfl, rfl⟩⟩
      case round =>
        obtain ⟨k, c, hk, rfl, rfl, hc⟩ := hrel
        cases c
        · have hc2 : Hid (s.data.toList.all okC = false) := by rcases hc.out with ⟨h, _⟩ | ⟨_, h⟩; cases h; exact h
          go_wp2_with fail
          go_ret
          exact ⟨ret_bool (by rw [HC.out, hc2.out]), rfl⟩
        have hc2 : Hid ((s.data.toList.take k).all okC = true) := by rcases hc.out with ⟨_, h⟩ | ⟨h, _⟩; exact h; cases h
        clear hc
        by_cases hlt : k < s.size
        · have HN := Lib.hid (comp_next s k hlt hc2.out)
          have H3 := Lib.hid (okC_int s[k])
          have hb : s[k].toNat < 256 := s[k].toNat_lt
          go_wp2_with fail
          all_goals
            go_round
            case rel =>
              refine ⟨k + 1, _, by omega, by go_num, rfl, HN.out _ ?_⟩
              rw [H3.out, Bool.eq_iff_iff]
              simp
              omega
            case measure => simp [intOf]; omega
        · have ht : s.data.toList.take k = s.data.toList := List.take_of_length_le (by rw [toList_size]; omega)
          rw [ht] at hc2
          clear ht
          go_wp2_with fail
          go_ret
          exact ⟨ret_bool (by rw [HC.out, hc2.out]), rfl⟩
end Go.Proofs.YtpkapcijgldhhaaGreatDoor

namespace Go.Proofs.YtpkapcijgldhhaaGreatDoor
open Go.RowKit Go.Shelf
theorem cmp_eq0 : ∀ (a b : List UInt8), (b == a) = decide (Lib.compareBytes a b = 0)
  | [], [] => rfl
  | [], _ :: _ => rfl
  | _ :: _, [] => rfl
  | a :: r, b :: s => by
    have ih := cmp_eq0 r s
    rw [Lib.compareBytes, List.cons_beq_cons]
    by_cases h1 : a < b
    · have : ¬ b = a := fun e => by subst e; exact absurd h1 (UInt8.lt_irrefl _)
      simp [h1, this]
    · by_cases h2 : b < a
      · have : ¬ b = a := fun e => by subst e; exact absurd h2 (UInt8.lt_irrefl _)
        simp [h1, h2, this]
      · have : b = a := UInt8.le_antisymm (UInt8.not_lt.1 h1) (UInt8.not_lt.1 h2)
        subst this
        simp only [h1, if_false, beq_self_eq_true, Bool.true_and]
        exact ih
theorem cmp_less : ∀ (a b : List UInt8), Op.bytesLess b a = decide (Lib.compareBytes a b = 1)
  | [], [] => rfl
  | [], _ :: _ => rfl
  | _ :: _, [] => rfl
  | a :: r, b :: s => by
    have ih := cmp_less r s
    rw [Lib.compareBytes, Op.bytesLess]
    by_cases h1 : a < b
    · have h3 : ¬ b < a := fun e => absurd (UInt8.lt_trans h1 e) (UInt8.lt_irrefl _)
      have : ¬ b = a := fun e => by subst e; exact absurd h1 (UInt8.lt_irrefl _)
      simp [h1, h3, this]
    · by_cases h2 : b < a
      · simp [h1, h2]
      · have : b = a := UInt8.le_antisymm (UInt8.not_lt.1 h1) (UInt8.not_lt.1 h2)
        subst this
        simp only [h1, if_false, beq_self_eq_true, Bool.true_and, decide_false, Bool.false_or]
        exact ih
/-! equality -/
end Go.Proofs.YtpkapcijgldhhaaGreatDoor

namespace Go.Proofs.YtpkapcijgldhhaaGreatDoor
open Go.RowKit Go.Shelf

/-- what Great = 0 says of attributes -/
def SmallA (A : List At) : Prop := A.length ≤ 30 ∧ ∀ i, i < A.length → (atAt A i).key.size ≤ 100 ∧ (atAt A i).value.size ≤ 100
def GreatP (p : Prop) (w : World) (e : Ending) (w' : World) : Prop := ∃ g : Int, e = .returned (.int .i64 g) ∧ Hid (g = 0 ∨ g = 1) ∧ Hid (g = 0 → p) ∧ Below w.heap.size w w'
set_option maxRecDepth 100000 in
set_option maxHeartbeats 1000000 in
theorem greatA1 (b o cap : Nat) (A : List At) (w : World) (h0 : 0 < A.length) (h30 : ¬ 30 < A.length) (_hb : b < w.heap.size) (hA : AtAt w b o A) (hs : ∀ i, (atAt A i).key.size ≤ 9223372036854775807 ∧ (atAt A i).value.size ≤ 9223372036854775807) :
    Calls Tryz.prog 82 #[.slice (some ⟨b, o, none⟩) A.length cap] w (GreatP (SmallA A) w) := by
  have HA := Lib.hid hA
  have HS := Lib.hid hs
  clear hA hs
  go_enter Tryz.func82, Tryz.ntmps82
  go_wp2_with fail
  go_loop [3] (fun i => ∃ k : Nat, k ≤ A.length ∧ i = .int .i64 k ∧ Hid (∀ j, j < k → (atAt A j).key.size ≤ 100 ∧ (atAt A j).value.size ≤ 100)) (fun i => A.length - (intOf i).toNat)
  case atStart => exact ⟨0, by omega, rfl, fun j hj => absurd hj (Nat.not_lt_zero _)⟩
  case round =>
    obtain ⟨k, hk, rfl, hE⟩ := hrel
    by_cases hlt : k < A.length
    · obtain ⟨c0, c1⟩ := atCells HA.out hlt
      obtain ⟨z0, z1⟩ := HS.out k
      have HN := Lib.hid (show (atAt A k).key.size ≤ 100 → (atAt A k).value.size ≤ 100 → ∀ j, j < k + 1 → (atAt A j).key.size ≤ 100 ∧ (atAt A j).value.size ≤ 100 from fun h1 h2 j hj => by
        by_cases e : j = k
        · rw [e]; exact ⟨h1, h2⟩
        · exact hE.out j (by omega))
      generalize (atAt A k).key = ka at *
      generalize (atAt A k).value = va at *
      by_cases h1 : 100 < ka.size
      · go_wp2_with fail
        go_ret
        exact ⟨1, rfl, .inr rfl, fun e => (by cases e), below_refl _⟩
      by_cases h2 : 100 < va.size
      · go_wp2_with fail
        go_ret
        exact ⟨1, rfl, .inr rfl, fun e => (by cases e), below_refl _⟩
      have HE2 := Lib.hid (HN.out (by omega) (by omega))
      go_wp2_with fail
      go_round
      case rel => exact ⟨k + 1, by omega, by go_num, HE2⟩
      case measure => simp [intOf]; omega
    · obtain rfl : k = A.length := by omega
      have HR : Hid (SmallA A) := ⟨by omega, hE.out⟩
      go_wp2_with fail
      go_ret
      exact ⟨0, rfl, .inl rfl, fun _ => HR.out, below_refl _⟩
theorem greatA_any (v : Value) (A : List At) (w : World) (hr : AtRow w v A) (hs : ∀ i, (atAt A i).key.size ≤ 9223372036854775807 ∧ (atAt A i).value.size ≤ 9223372036854775807) :
    Calls Tryz.prog 82 #[v] w (GreatP (SmallA A) w) := by
  obtain ⟨a, c, rfl⟩ := hr.form
  have hmax := hr.1
  unfold maxLen at hmax
  by_cases h30 : 30 < A.length
  · clear hr hs
    generalize SmallA A = p at *
    generalize A.length = n at *
    go_enter Tryz.func82, Tryz.ntmps82
    go_wp2_with fail
    go_ret
    exact ⟨1, rfl, .inr rfl, fun e => (by cases e), below_refl _⟩
  rcases hr.2 with ⟨rfl, _⟩ | ⟨h0, b, o, c1, e, _, _, hb, hA⟩
  · have HR : Hid (SmallA []) := ⟨by decide, fun i hi => absurd hi (Nat.not_lt_zero _)⟩
    clear hr hs
    go_enter Tryz.func82, Tryz.ntmps82
    go_wp2_with fail
    refine wp_loop_rounds 1 ?_; rw [rounds_succ]
    go_wp2_with fail
    go_ret
    exact ⟨0, rfl, .inl rfl, fun _ => HR.out, below_refl _⟩
  · cases e
    exact greatA1 b o c A w h0 h30 hb hA hs
/-- what Great = 0 says of an entry -/
def SmallE (e : En) : Prop := e.path.size ≤ 300 ∧ e.target.size ≤ 300 ∧ e.digest.size ≤ 100 ∧ e.exts.length ≤ 30 ∧ SmallA e.attrs
/-- the bounds of what came in -/
structure EnWf (e : En) : Prop where
  kind : -9223372036854775808 ≤ e.kind ∧ e.kind ≤ 9223372036854775807
  path : e.path.size ≤ 9223372036854775807
  attrs : ∀ i, (atAt e.attrs i).key.size ≤ 9223372036854775807 ∧ (atAt e.attrs i).value.size ≤ 9223372036854775807
  target : e.target.size ≤ 9223372036854775807
  size : -9223372036854775808 ≤ e.size ∧ e.size ≤ 9223372036854775807
  digest : e.digest.size ≤ 9223372036854775807
  exts : ∀ i, ExOk (exAt e.exts i)
set_option maxRecDepth 100000 in
set_option maxHeartbeats 1000000 in
theorem great_any (e : En) (va vx : Value) (w : World) (hwf : EnWf e) (ha : AtRow w va e.attrs) (hx : ExRow w vx e.exts) :
    Calls Tryz.prog 50 #[.agg #[.int .i64 e.kind, .string e.path, va, .string e.target, .int .i64 e.size, .string e.digest, vx]] w (GreatP (SmallE e) w) := by
  obtain ⟨x, cx, rfl⟩ := hx.form
  have hmax := hx.1
  unfold maxLen at hmax
  have hb0 : Below w.heap.size w (w.alloc (.cells #[.int .i64 e.kind, .string e.path, va, .string e.target, .int .i64 e.size, .string e.digest, .slice x e.exts.length cx] 109)) := (below_refl _).alloc (Nat.le_refl _) _
  have HG := Lib.hid (greatA_any va e.attrs _ (ha.below hb0) hwf.attrs)
  have hp := hwf.path
  have ht := hwf.target
  have hd := hwf.digest
  have HS : Hid (SmallE e = (e.path.size ≤ 300 ∧ e.target.size ≤ 300 ∧ e.digest.size ≤ 100 ∧ e.exts.length ≤ 30 ∧ SmallA e.attrs)) := rfl
  clear ha hx hwf
  generalize SmallE e = pe at *
  generalize SmallA e.attrs = pa at *
  generalize e.kind = kd at *
  generalize e.path = pt at *
  generalize e.target = tg at *
  generalize e.size = sz at *
  generalize e.digest = dg at *
  generalize e.exts.length = n at *
  by_cases h1 : 300 < pt.size
  · go_enter Tryz.func50, Tryz.ntmps50
    go_wp2_with fail
    go_ret
    exact ⟨1, rfl, .inr rfl, fun e => (by cases e), hb0⟩
  by_cases h2 : 300 < tg.size
  · go_enter Tryz.func50, Tryz.ntmps50
    go_wp2_with fail
    go_ret
    exact ⟨1, rfl, .inr rfl, fun e => (by cases e), hb0⟩
  by_cases h3 : 100 < dg.size
  · go_enter Tryz.func50, Tryz.ntmps50
    go_wp2_with fail
    go_ret
    exact ⟨1, rfl, .inr rfl, fun e => (by cases e), hb0⟩
  by_cases h4 : 30 < n
  · go_enter Tryz.func50, Tryz.ntmps50
    go_wp2_with fail
    go_ret
    exact ⟨1, rfl, .inr rfl, fun e => (by cases e), hb0⟩
  go_enter Tryz.func50, Tryz.ntmps50
  go_wp2_with fail
  refine HG.out.mono ?_
  rintro e w1 ⟨g, rfl, hg, hgs, hb1⟩
  rcases hg.out with rfl | rfl
  · have HP := Lib.hid (hgs.out rfl)
    go_wp2_with fail
    go_ret
    exact ⟨0, rfl, .inl rfl, fun _ => by rw [HS.out]; exact ⟨by omega, by omega, by omega, by omega, HP.out⟩, step2 hb0 hb1⟩
  · go_wp2_with fail
    go_ret
    exact ⟨1, rfl, .inr rfl, fun e => (by cases e), step2 hb0 hb1⟩
end Go.Proofs.YtpkapcijgldhhaaGreatDoor

namespace Go.Proofs.YtpkapcijgldhhaaGreatDoor
open Go.ChangeShapes Go.WideShapes Go.ChangeAt Go.RowKit Go.Deep
theorem en_ats_cells : Tryz.prog.cellsOf 106 = 1 := by kernel_rfl
theorem en_exs_cells : Tryz.prog.cellsOf 107 = 1 := by kernel_rfl
def AtWf (x : At) : Prop := x.key.size ≤ 9223372036854775807 ∧ x.value.size ≤ 9223372036854775807
theorem at0_wf : AtWf at0 := ⟨Nat.zero_le _, Nat.zero_le _⟩
theorem ex0_okE : ExOk ex0 := by unfold ex0; constructor <;> decide
section
variable {H : Type} {enc : TypeId × Value → H} {w : World} {base : Nat} {spare : Nat → Bool} {held : Bool}
set_option maxRecDepth 100000 in
theorem at_elem {n : Nat} {cs : List Value} {y : DataW H × List MemPlace} (hl : cs.length = 2) (h : DataW.trod enc Tryz.prog w base spare held n 192 cs = some y) : ∃ c : At, cs = c.vals ∧ AtWf c := by
  obtain ⟨xs, k, _, hy, _, hxl, hf⟩ := DataW.trod_struct Tryz.underlying192 h
  match xs, hxl, cs, hl with
  | [y0, y1], _, [v0, v1], _ =>
    have g0 := hf 0 _ rfl
    have g1 := hf 1 _ rfl
    simp [en_str_cells] at g0 g1
    obtain ⟨s0, e0, q0, z0⟩ := DataW.trod_string Tryz.underlying9 g0
    obtain ⟨s1, e1, q1, z1⟩ := DataW.trod_string Tryz.underlying9 g1
    simp only [List.cons.injEq, and_true] at e0 e1
    subst e0 e1
    unfold maxLen at z0 z1
    exact ⟨⟨s0, s1⟩, rfl, z0, z1⟩
set_option maxRecDepth 100000 in
theorem ex_elem {n : Nat} {cs : List Value} {y : DataW H × List MemPlace} (hl : cs.length = 3) (h : DataW.trod enc Tryz.prog w base spare held n 34 cs = some y) : ∃ c : Ex, cs = c.vals ∧ ExOk c := by
  obtain ⟨xs, k, _, hy, _, hxl, hf⟩ := DataW.trod_struct Tryz.underlying34 h
  match xs, hxl, cs, hl with
  | [y0, y1, y2], _, [v0, v1, v2], _ =>
    have g0 := hf 0 _ rfl
    have g1 := hf 1 _ rfl
    have g2 := hf 2 _ rfl
    simp [en_int_cells] at g0 g1 g2
    obtain ⟨s0, e0, q0, z0⟩ := DataW.trod_int Tryz.underlying3 g0
    obtain ⟨s1, e1, q1, z1⟩ := DataW.trod_int Tryz.underlying3 g1
    obtain ⟨s2, e2, q2, z2⟩ := DataW.trod_int Tryz.underlying3 g2
    simp only [List.cons.injEq, and_true] at e0 e1 e2
    subst e0 e1 e2
    exact ⟨⟨s0, s1, s2⟩, rfl, wf_boundsi64 z0, wf_boundsi64 z1, wf_boundsi64 z2⟩
end
end Go.Proofs.YtpkapcijgldhhaaGreatDoor
