/-
  H: the first sixteen bytes of the digest of netstrings, in the program and in the reference; chains.
  Digits: the digits of a message and its checksum, in the program and in the reference; the reference's public key; signatures.
  Digits: the digits of a message and its checksum, in the program and in the reference; the reference's public key; signatures.
  The reference's public key and the signatures.
  The program's signatures; the nodes of key trees.
  Key trees: the levels, in the program.
  Key trees: levels and roots, in the program.
-/
import Derived.Test.YtpkapcijgldhhaaGreatDoorCa27
import Derived.Deep.CutBlock
import Derived.Deep.CutRange
import Derived.Shelf.Strings.BuilderK
import Derived.Deep.RegionLaw
import Derived.Deep.AppendLies
import Derived.OneCell
import Derived.Lib.OthersKept
import Derived.Laws.EntriesVeiled
namespace Go.Proofs.YtpkapcijgldhhaaGreatDoor
open Go.RowKit
theorem strs_newH (w : World) (la : List ByteArray) (cs : Array Value) (T : TypeId) (n : Nat) (hcs : cs.toList = la.map Value.string) (hn : n = la.length) (hl : la.length ≤ maxLen) :
    Strs (w.alloc (.cells cs T)) (.slice (some ⟨w.heap.size, 0, none⟩) n n) la := by
  subst hn
  refine ⟨some ⟨w.heap.size, 0, none⟩, la.length, by simp, by simp, by simpa using hl, .inr ⟨w.heap.size, 0, rfl, fun i u hu => ?_⟩⟩
  rw [Nat.zero_add, alloc_new_cell, ← hu, ← hcs, Array.getElem?_toList]
theorem flat_one (t : ByteArray) : (([t] : List ByteArray).map fun s => s.data.toList).flatten = t.data.toList := by simp
/-- H -/
def hashL (l : List (List UInt8)) : List UInt8 := (sumB (l.map strL).flatten).take 16
theorem hashL_length (l : List (List UInt8)) : (hashL l).length = 16 := by simp [hashL, sumB_length]
theorem strsL_map (la : List ByteArray) : strsL la = ((la.map fun s => s.data.toList).map strL).flatten := by
  unfold strsL; rw [List.map_map]; rfl
theorem hash_any (va : Value) (la : List ByteArray) (w : World) (he : Env w) (ha : Strs w va la) (ht : totS la ≤ 68719476736) :
    Calls Tryz.prog 187 #[va] w (StrP (hashL (la.map fun s => s.data.toList)) w) := by
  have hln := strsL_le la (by omega)
  have hs := Lib.hid (strings_any va la w he ha (by omega))
  go_enter Tryz.func187, Tryz.ntmps187
  go_wp2_with fail
  refine hs.out.mono ?_
  rintro e w1 ⟨t, rfl, hts, hb1⟩
  have htz : t.data.toList.length ≤ 1099511627776 := by rw [hts.out]; omega
  clear hs hln
  go_wp2_with fail
  refine (sum_any _ [t] _ (strs_newH w1 [t] _ _ _ rfl rfl (by simp [maxLen])) (by simp) (by rw [flat_one]; exact htz)).mono ?_
  rintro e w2 ⟨u, rfl, hus, hb2⟩
  have huz : (16 : Int) ≤ u.size := by rw [← toList_size, hus.out, sumB_length]; decide
  go_wp2_with fail
  go_ret
  refine ⟨_, rfl, ?_, (hb1.alloc hb1.size _).trans (hb2.mono (by have := hb1.size; simp; omega))⟩
  rw [Hid, extract_list, hus.out, flat_one, hts.out, strsL_map]; rfl
/-- H of a list just built -/
theorem hash_new (w : World) (la : List ByteArray) (cs : Array Value) (T : TypeId) (n : Nat) (he : Env w) (hcs : cs.toList = la.map Value.string) (hn : n = la.length) (ht : totS la ≤ 68719476736) :
    Calls Tryz.prog 187 #[.slice (some ⟨w.heap.size, 0, none⟩) n n] (w.alloc (.cells cs T)) (StrP (hashL (la.map fun s => s.data.toList)) w) := by
  have hb0 : Below w.heap.size w (w.alloc (.cells cs T)) := (Below.refl _ w).alloc (Nat.le_refl _) _
  refine (hash_any _ la _ (he.below hb0) (strs_newH w la cs T n hcs hn (by have := totS_len la; unfold maxLen; omega)) ht).mono ?_
  rintro e w1 ⟨t, rfl, hts, hb1⟩
  exact ⟨t, rfl, hts, hb0.trans (hb1.mono (by simp))⟩
theorem totS_cons (a : ByteArray) (l : List ByteArray) : totS (a :: l) = 10 + a.size + totS l := by simp [totS]
theorem totS_nil : totS [] = 0 := rfl
/-- 'chain', 'wots', 'public', 'message' -/
def lChain : List UInt8 := [99, 104, 97, 105, 110]
def lPublic : List UInt8 := [112, 117, 98, 108, 105, 99]
def chainL (x : List UInt8) : Nat → List UInt8
  | 0 => x
  | n + 1 => hashL [lChain, chainL x n]
theorem chainL_length {x : List UInt8} (n : Nat) (h : x.length ≤ 1073741824) : (chainL x n).length ≤ 1073741824 := by
  cases n with
  | zero => exact h
  | succ n => rw [chainL, hashL_length]; decide
theorem step_any (b : Nat) (x : ByteArray) (w : World) (he : Env w) (hx : w.cell? ⟨b, 0, none⟩ = some (.string x)) (hf : w.frozen? ⟨b, 0, none⟩ = false) (hs : x.size ≤ 1073741824) :
    Calls Tryz.prog 188 #[.pointer (some ⟨b, 0, none⟩)] w fun e w' => ∃ y : ByteArray, e = .returned (.tuple #[]) ∧ Hid (y.data.toList = hashL [lChain, x.data.toList]) ∧ w'.cell? ⟨b, 0, none⟩ = some (.string y) ∧ w'.frozen? ⟨b, 0, none⟩ = false ∧ Save b w w' := by
  have hlt := World.block_lt_of_cell? w _ hx
  go_enter Tryz.func188, Tryz.ntmps188
  go_wp2_with fail
  refine (hash_new w [⟨#[99, 104, 97, 105, 110]⟩, x] _ _ _ he rfl rfl (by rw [totS_cons, totS_cons, totS_nil]; show 10 + 5 + _ ≤ _; omega)).mono ?_
  rintro e w1 ⟨y, rfl, hy, hb'⟩
  have c1 : w1.cell? ⟨b, 0, none⟩ = some (.string x) := (hb'.cell (p := ⟨b, 0, none⟩) hlt).trans hx
  have f1 : w1.frozen? ⟨b, 0, none⟩ = false := (hb'.frozen (p := ⟨b, 0, none⟩) hlt).trans hf
  clear hx hf
  go_wp2_with fail
  refine bodyPost_end (results_none rfl _ _ _) rfl ?_
  exact ⟨y, rfl, hy, css c1, by simpa using f1, (below_save hb' b (Nat.le_refl _)).trans (Save.setCell w1 ⟨b, 0, none⟩ _)⟩
set_option maxHeartbeats 1000000 in
theorem walk_any (x : ByteArray) (n : Nat) (w : World) (he : Env w) (hs : x.size ≤ 1073741824) (hn : n ≤ 1000000) :
    Calls Tryz.prog 148 #[.string x, .int .i64 n] w (StrP (chainL x.data.toList n) w) := by
  have hmf : ∀ (fn : Fn) (first cap : Array Value) (w : World), (Instr.makeFunc fn first cap).run Tryz.prog w = .ok (.func fn first cap) w := fun _ _ _ _ => rfl
  go_enter Tryz.func148, Tryz.ntmps148
  go_wp2_with fail
  go_loopw [8] (fun i wr => ∃ (k : Nat) (y : ByteArray), k ≤ n ∧ i = .int .i64 k ∧ Hid (wr.cell? ⟨w.heap.size, 0, none⟩ = some (.string y)) ∧ Hid (wr.frozen? ⟨w.heap.size, 0, none⟩ = false) ∧ Hid (y.data.toList = chainL x.data.toList k) ∧ Save w.heap.size (w.alloc (.cells #[.string x] 9)) wr) (fun i _ => n - (intOf i).toNat)
  case atStart => exact ⟨0, x, by omega, rfl, by rw [Hid, alloc_new_cell]; rfl, alloc_new_frozen _ _ _ _, rfl, Save.refl _ _⟩
  case round =>
    obtain ⟨k, y, hk, rfl, hc, hf, hy, hsv⟩ := hrel
    have hbw := ((Below.refl _ w).alloc (Nat.le_refl _) (.cells #[.string x] 9)).trans (hsv.below (n := w.heap.size) (Nat.le_refl _) (by simp))
    by_cases hlt : k < n
    · have hys : y.size ≤ 1073741824 := by rw [← toList_size, hy.out]; exact chainL_length k hs
      have hst := Lib.hid (step_any w.heap.size y wr (he.below hbw) hc.out hf.out hys)
      go_wp2_with fail
      refine hst.out.mono ?_
      rintro e w1 ⟨z, rfl, hz, c1, f1, s1⟩
      have C1 := Lib.hid c1
      have F1 := Lib.hid f1
      clear c1 f1
      go_wp2_with fail
      go_roundw
      case rel => exact ⟨k + 1, z, by omega, by go_num, C1, F1, by rw [Hid, hz.out, hy.out]; rfl, hsv.trans s1⟩
      case measure => simp [intOf]; omega
    · obtain rfl : k = n := by omega
      have hc1 := hc.out
      go_wp2_with fail
      go_ret
      exact ⟨_, rfl, hy, hbw⟩
/-- a list of bytes as a string -/
def bA (l : List UInt8) : ByteArray := ⟨l.toArray⟩
theorem map_bA (L : List (List UInt8)) : ((L.map bA).map fun s => s.data.toList) = L := by
  rw [List.map_map]; exact List.map_id _
theorem eq_bA {s : ByteArray} {l : List UInt8} (h : s.data.toList = l) : s = bA l := list_inj h
theorem totS_snoc (l : List ByteArray) (a : ByteArray) : totS (l ++ [a]) = totS l + 10 + a.size := by rw [totS_append, totS_cons, totS_nil]; omega
theorem owns_full {base : Nat} {e : TypeId} (w : World) (cs : Array Value) (n : Nat) (hb : base ≤ w.heap.size) (hm : n ≤ maxLen) (hs : cs.size = n) :
    (w.alloc (.cells cs e)).ownsRow base e 1 (.slice (some ⟨w.heap.size, 0, none⟩) n n) n cs.toList :=
  ⟨by simp [hs], .inr ⟨w.heap.size, n, cs, rfl, hb, heap_alloc_new w _, Nat.le_refl _, hm, by simp [hs], by rw [Nat.mul_one, List.take_of_length_le (by simp [hs])]⟩⟩
theorem cell_str1 (w : World) (u : ByteArray) (T : TypeId) (j : Nat) (x : Value) (h : [Value.string u][j]? = some x) : (w.alloc (.cells #[.string u] T)).cell? ((⟨w.heap.size, 0, none⟩ : Addr).add j) = some x := cell_new1 w _ T _ j x h
set_option maxHeartbeats 1000000 in
set_option maxRecDepth 100000 in
theorem public_any (ve : Value) (L : List (List UInt8)) (w : World) (he : Env w) (ha : Strs w ve (L.map bA)) (ht : totS (L.map bA) ≤ 1000000) :
    Calls Tryz.prog 149 #[ve] w (StrP (hashL (lPublic :: L)) w) := by
  obtain ⟨i0, hi, hz0, hz1, hz2⟩ := info_parts infoStr
  have hla := totS_len (L.map bA)
  have hown0 := owns_full (base := w.heap.size) (e := 9) w #[.string ⟨#[112, 117, 98, 108, 105, 99]⟩] 1 (Nat.le_refl _) (by decide) rfl
  have hbel0 : Below w.heap.size w (w.alloc (.cells #[.string ⟨#[112, 117, 98, 108, 105, 99]⟩] 9)) := (below_refl w).alloc (Nat.le_refl _) _
  have HO := Lib.hid hown0; clear hown0
  have HLA := Lib.hid hla; clear hla
  go_enter Tryz.func149, Tryz.ntmps149
  go_wp2_with (at_builtin; refine wpList_append_row rfl _ _ 57 rfl w.heap.size 9 i0 (.string ⟨#[]⟩) 16 Tryz.underlying57 hi hz0 hz1 hz2 rfl _ _ _ rfl HO.out ve ((L.map bA).map Value.string) rfl (ha.below hbel0) (oneCell_strs (L.map bA)) ?c1 ?c2 ?c3 ?_)
  case c1 => have hla := HLA.out; simp only [List.length_map] at hla ⊢; unfold maxLen; omega
  case c2 => have hla := HLA.out; simp only [List.length_map] at hla ⊢; omega
  intro v1 w1 hown1 hg1
  have hb1 : Below w.heap.size w w1 := below_grownBy hbel0 HO.out hg1 (by simp)
  have hs1 : OwnStrs w.heap.size w1 v1 ((lPublic :: L).map bA) := by
    unfold OwnStrs
    rw [show ((lPublic :: L).map bA).length = 1 + L.length from by simp; omega, List.map_map]
    exact hown1
  have ht2 : totS ((lPublic :: L).map bA) ≤ 2000000 := by
    rw [List.map_cons, totS_cons]; show 10 + 6 + _ ≤ _; omega
  clear hg1 HO hown1
  go_wp2_with fail
  refine (hash_any v1 _ _ (he.below hb1) hs1.strs (by omega)).mono ?_
  rintro e w2 ⟨t, rfl, hts, hb2⟩
  go_wp2_with fail
  go_ret
  exact ⟨_, rfl, by rw [Hid, hts.out, map_bA], step2 hb1 hb2⟩
end Go.Proofs.YtpkapcijgldhhaaGreatDoor

namespace Go.Proofs.YtpkapcijgldhhaaGreatDoor
open Go.RowKit
def lMessage : List UInt8 := [109, 101, 115, 115, 97, 103, 101]
def digs (h : List UInt8) : Nat → List Nat
  | 0 => []
  | k + 1 => digs h k ++ [(h.getD k 0).toNat / 16, (h.getD k 0).toNat % 16]
def cks (h : List UInt8) : Nat → Nat
  | 0 => 0
  | k + 1 => cks h k + (30 - (h.getD k 0).toNat / 16 - (h.getD k 0).toNat % 16)
def digitsL (m : List UInt8) : List Nat :=
  digs (hashL [lMessage, m]) 16 ++ [cks (hashL [lMessage, m]) 16 / 256, cks (hashL [lMessage, m]) 16 / 16 % 16, cks (hashL [lMessage, m]) 16 % 16]
theorem digs_length (h : List UInt8) : ∀ k, (digs h k).length = 2 * k
  | 0 => rfl
  | k + 1 => by rw [digs, List.length_append, digs_length h k]; simp; omega
theorem digitsL_length (m : List UInt8) : (digitsL m).length = 35 := by rw [digitsL, List.length_append, digs_length]; rfl
theorem cks_le (h : List UInt8) : ∀ k, cks h k ≤ 30 * k
  | 0 => Nat.le_refl _
  | k + 1 => by have := cks_le h k; rw [cks]; omega
theorem digs_le (h : List UInt8) : ∀ k, ∀ d ∈ digs h k, d ≤ 15
  | 0 => by intro d hd; cases hd
  | k + 1 => by
    intro d hd
    rw [digs, List.mem_append] at hd
    rcases hd with hd | hd
    · exact digs_le h k d hd
    · have := (h.getD k 0).toNat_lt
      simp only [List.mem_cons, List.mem_nil_iff, or_false] at hd
      rcases hd with rfl | rfl <;> omega
theorem digitsL_le (m : List UInt8) : ∀ d ∈ digitsL m, d ≤ 15 := by
  intro d hd
  rw [digitsL, List.mem_append] at hd
  have := cks_le (hashL [lMessage, m]) 16
  rcases hd with hd | hd
  · exact digs_le _ _ d hd
  · simp only [List.mem_cons, List.mem_nil_iff, or_false] at hd
    rcases hd with rfl | rfl | rfl <;> omega
def nats (l : List Nat) : List Value := l.map fun (n : Nat) => Value.int .i64 (n : Int)
def DigP (l : List Nat) (w : World) (e : Ending) (w' : World) : Prop := ∃ v, e = .returned v ∧ w'.ownsRow 0 3 1 v l.length (nats l) ∧ Below w.heap.size w w'
theorem owns_zero {w : World} {base : Nat} {e : TypeId} {v : Value} {n : Nat} {xs : List Value} (h : w.ownsRow base e 1 v n xs) : w.ownsRow 0 e 1 v n xs :=
  ⟨h.1, h.2.imp id fun ⟨g, cap, cur, e1, _, r⟩ => ⟨g, cap, cur, e1, Nat.zero_le _, r⟩⟩
theorem infoInt : (Tryz.prog.info? 3).map (fun i => (i.zero, i.size, i.bytes)) = some (some (.int .i64 0), 1, 8) := by kernel_rfl
theorem nats_append (a b : List Nat) : nats (a ++ b) = nats a ++ nats b := List.map_append
theorem nats_length (a : List Nat) : (nats a).length = a.length := List.length_map ..
theorem cell_new2 (w : World) (a b : Value) (T : TypeId) (j : Nat) (u : Value) (h : [a, b][j]? = some u) : (w.alloc (.cells #[a, b] T)).cell? ((⟨w.heap.size, 0, none⟩ : Addr).add j) = some u := by
  have hadd : (⟨w.heap.size, 0, none⟩ : Addr).add j = ⟨w.heap.size, j, none⟩ := by unfold Addr.add; split <;> simp_all
  rw [hadd, alloc_new_cell]; simpa using h
theorem cell_new3 (w : World) (a b c : Value) (T : TypeId) (j : Nat) (u : Value) (h : [a, b, c][j]? = some u) : (w.alloc (.cells #[a, b, c] T)).cell? ((⟨w.heap.size, 0, none⟩ : Addr).add j) = some u := by
  have hadd : (⟨w.heap.size, 0, none⟩ : Addr).add j = ⟨w.heap.size, j, none⟩ := by unfold Addr.add; split <;> simp_all
  rw [hadd, alloc_new_cell]; simpa using h
end Go.Proofs.YtpkapcijgldhhaaGreatDoor

namespace Go.Proofs.YtpkapcijgldhhaaGreatDoor
open Go.RowKit
set_option maxHeartbeats 1000000 in
set_option maxRecDepth 100000 in
theorem digits_any (m : ByteArray) (w : World) (he : Env w) (hm : m.size ≤ 1073741824) :
    Calls Tryz.prog 147 #[.string m] w (DigP (digitsL m.data.toList) w) := by
  obtain ⟨i0, hi, hz0, hz1, hz2⟩ := info_parts infoInt
  go_enter Tryz.func147, Tryz.ntmps147
  go_wp2_with fail
  refine (hash_new w [⟨#[109, 101, 115, 115, 97, 103, 101]⟩, m] _ _ _ he rfl rfl (by rw [totS_cons, totS_cons, totS_nil]; show 10 + 7 + _ ≤ _; omega)).mono ?_
  rintro e w1 ⟨h, rfl, hh, hb1⟩
  have hh' : h.data.toList = hashL [lMessage, m.data.toList] := hh.out
  have hhs : h.size = 16 := by rw [← toList_size, hh']; exact hashL_length _
  have HH := Lib.hid hh'
  have HS := Lib.hid hhs
  clear hh hh' hhs
  have hcv := fun (W : World) => Lib.run_convert_string_bytes (P := Tryz.prog) W 9 60 5 h Tryz.underlying9 Tryz.underlying60 Tryz.underlying5
  go_wp2_with fail
  obtain ⟨B, hB⟩ : ∃ B, w1.heap.size = B := ⟨_, rfl⟩
  have hBw : w.heap.size ≤ B := by rw [← hB]; exact hb1.size
  have hcell : ∀ j, j < 16 → (Lib.bytesWorld w1 5 h).cell? ⟨B, j, none⟩ = some (.int .u8 (h.data.toList.getD j 0).toNat) := fun j hj => by
    rw [← hB]; exact Lib.bytesWorld_cell w1 _ h j (by rw [HS.out]; exact hj)
  have hbW := hb1.trans ((below_bytes w1 h 5).mono hb1.size)
  have hzW : (Lib.bytesWorld w1 5 h).heap.size = B + 1 := by rw [Lib.bytesWorld_size, hB]
  rw [hB]
  clear hcv hb1 hB
  generalize Lib.bytesWorld w1 5 h = W1 at hcell hbW hzW ⊢
  have HCELL := Lib.hid hcell
  have HZW := Lib.hid hzW
  clear hcell hzW
  have hb0 : Below (B + 1) W1 W1 := Below.refl _ _
  go_loopw [3, 4, 14] (fun v c i wr => ∃ k : Nat, k ≤ 16 ∧ i = .int .i64 k ∧ c = .int .i64 (cks h.data.toList k) ∧ wr.ownsRow (B + 1) 3 1 v (digs h.data.toList k).length (nats (digs h.data.toList k)) ∧ Below (B + 1) W1 wr) (fun _ _ i _ => 16 - (intOf i).toNat)
  case atStart => exact ⟨0, by omega, rfl, rfl, World.ownsRow_nil _ _ _ _, hb0⟩
  case round =>
    obtain ⟨k, hk, rfl, rfl, hown, hbw⟩ := hrel
    have hzr : B + 1 ≤ wr.heap.size := by have := hbw.size; have := HZW.out; omega
    by_cases hlt : k < 16
    · have hcl := cks_le h.data.toList k
      have hbl := (h.data.toList.getD k 0).toNat_lt
      have ck : wr.cell? ⟨B, k, none⟩ = some (.int .u8 (h.data.toList.getD k 0).toNat) := (hbw.cell (p := ⟨B, k, none⟩) (Nat.lt_succ_self B)).trans (HCELL.out k hlt)
      have hn1 : digs h.data.toList (k + 1) = digs h.data.toList k ++ [(h.data.toList.getD k 0).toNat / 16, (h.data.toList.getD k 0).toNat % 16] := by rw [digs]
      have hn2 : cks h.data.toList (k + 1) = cks h.data.toList k + (30 - (h.data.toList.getD k 0).toNat / 16 - (h.data.toList.getD k 0).toNat % 16) := by rw [cks]
      have hdl := digs_length h.data.toList k
      rw [hdl] at hown
      obtain ⟨C, hC⟩ : ∃ C, cks h.data.toList k = C := ⟨_, rfl⟩
      obtain ⟨D, hD⟩ : ∃ D, digs h.data.toList k = D := ⟨_, rfl⟩
      rw [hC] at hcl hn2 ⊢
      rw [hD] at hown hn1
      have HN1 := Lib.hid hn1
      have HN2 := Lib.hid hn2
      have HDL := Lib.hid hdl
      have HC := Lib.hid hC
      have HD := Lib.hid hD
      clear hn1 hn2 hdl hC hD
      obtain ⟨b, hb⟩ : ∃ b, (h.data.toList.getD k 0).toNat = b := ⟨_, rfl⟩
      rw [hb] at hbl HN1 HN2 ck
      have HBB := Lib.hid hb; clear hb
      obtain ⟨q, hq⟩ : ∃ q, b / 16 = q := ⟨_, rfl⟩
      obtain ⟨r, hr⟩ : ∃ r, b % 16 = r := ⟨_, rfl⟩
      have hq1 : q ≤ 15 := by omega
      have hr1 : r ≤ 15 := by omega
      have d1 : (b : Int) / 16 = q := by omega
      have d2 : (b : Int) % 16 = r := by omega
      have d3 : (b : Int).tdiv 16 = q := by rw [Int.tdiv_eq_ediv_of_nonneg (by omega)]; exact d1
      have d4 : (b : Int).tmod 16 = r := by rw [Int.tmod_eq_emod_of_nonneg (by omega)]; exact d2
      have d5 : IntKind.i64.wrap (b : Int) = b := IntWalk.i64_in _ (by omega)
      have d6 : IntKind.i64.wrap (q : Int) = q := IntWalk.i64_in _ (by omega)
      have d7 : IntKind.i64.wrap (r : Int) = r := IntWalk.i64_in _ (by omega)
      have d8 : (k : Int) < h.size := by rw [HS.out]; omega
      rw [hq, hr] at HN1 HN2
      have HQ := Lib.hid hq
      have HR := Lib.hid hr
      clear hq hr
      go_wp2_with (at_builtin; refine wpList_append_own _ rfl _ _ 150 rfl (B + 1) 3 i0 (.int .i64 0) 1 8 Tryz.underlying150 hi hz0 hz1 hz2 rfl (by decide) _ _ _ rfl (hown.alloc _) ⟨wr.heap.size, 0, none⟩ 2 2 [.int .i64 q, .int .i64 r] rfl rfl (fun j x h => cell_new2 wr _ _ _ j x h) ?c2 ?c3 ?c4 ?c5 ?_)
      case c2 => intro x hx; simp only [List.mem_cons, List.mem_nil_iff, or_false] at hx; rcases hx with rfl | rfl <;> rfl
      case c3 => unfold maxLen; omega
      case c4 => omega
      case c5 => simp; omega
      intro v' w3 hown2 hgrow _
      have hb3 := below_grownBy (hbw.alloc hzr _) (hown.alloc _) hgrow (by simp; omega)
      have hown3 : w3.ownsRow (B + 1) 3 1 v' (digs h.data.toList (k + 1)).length (nats (digs h.data.toList (k + 1))) := by
        rw [HN1.out, nats_append, List.length_append, ← HD.out, HDL.out, HD.out]
        exact hown2
      clear hgrow hown2
      go_wp2_with fail
      go_roundw
      case rel => exact ⟨k + 1, by omega, by go_num, by rw [HN2.out]; congr 1; omega, hown3, hb3⟩
      case measure => simp [intOf]; omega
    · obtain rfl : k = 16 := by omega
      have d9 : (16 : Int) = h.size := by rw [HS.out]; rfl
      have D9 := Lib.hid d9
      have d10 : (h.size : Int) ≤ 16 := by omega
      clear d9
      have hcl := cks_le h.data.toList 16
      have hdl := digs_length h.data.toList 16
      rw [hdl] at hown
      obtain ⟨C, hC⟩ : ∃ C, cks h.data.toList 16 = C := ⟨_, rfl⟩
      obtain ⟨D, hD⟩ : ∃ D, digs h.data.toList 16 = D := ⟨_, rfl⟩
      rw [hC] at hcl ⊢
      rw [hD] at hown
      have HDL := Lib.hid hdl
      have HC := Lib.hid hC
      have HD := Lib.hid hD
      clear hdl hC hD
      obtain ⟨q, hq⟩ : ∃ q, C / 256 = q := ⟨_, rfl⟩
      obtain ⟨r, hr⟩ : ∃ r, C / 16 % 16 = r := ⟨_, rfl⟩
      obtain ⟨z, hz⟩ : ∃ z, C % 16 = z := ⟨_, rfl⟩
      have d1 : (C : Int) / 256 = q := by omega
      have d2 : (C : Int) / 16 % 16 = r := by omega
      have d3 : (C : Int) % 16 = z := by omega
      have HQ := Lib.hid hq
      have HR := Lib.hid hr
      have HZ := Lib.hid hz
      clear hq hr hz
      go_wp2_with (at_builtin; refine wpList_append_own _ rfl _ _ 150 rfl (B + 1) 3 i0 (.int .i64 0) 1 8 Tryz.underlying150 hi hz0 hz1 hz2 rfl (by decide) _ _ _ rfl (hown.alloc _) ⟨wr.heap.size, 0, none⟩ 3 3 [.int .i64 q, .int .i64 r, .int .i64 z] rfl rfl (fun j x h => cell_new3 wr _ _ _ _ j x h) ?c2 ?c3 ?c4 ?c5 ?_)
      case c2 => intro x hx; simp only [List.mem_cons, List.mem_nil_iff, or_false] at hx; rcases hx with rfl | rfl | rfl <;> rfl
      case c3 => unfold maxLen; omega
      case c4 => omega
      case c5 => simp; omega
      intro v' w3 hown2 hgrow _
      have hb3 := below_grownBy (hbw.alloc hzr _) (hown.alloc _) hgrow (by simp; omega)
      have hrow : w3.ownsRow 0 3 1 v' (digitsL m.data.toList).length (nats (digitsL m.data.toList)) := by
        rw [digitsL_length, digitsL, ← HH.out, HC.out, HQ.out, HR.out, HZ.out, HD.out, nats_append]
        exact owns_zero hown2
      clear hgrow hown2
      go_wp2_with fail
      go_ret
      exact ⟨_, rfl, hrow, hbW.trans (hb3.mono (by omega))⟩
end Go.Proofs.YtpkapcijgldhhaaGreatDoor

namespace Go.Proofs.YtpkapcijgldhhaaGreatDoor
open Go.RowKit
theorem digitsL_getD (m : List UInt8) (k : Nat) : (digitsL m).getD k 0 ≤ 15 := by
  rw [List.getD_eq_getElem?_getD]
  cases h : (digitsL m)[k]? with
  | none => decide
  | some x => exact digitsL_le m x (List.mem_of_getElem? h)
theorem nats_get (D : List Nat) (k : Nat) (h : k < D.length) : (nats D)[k]? = some (.int .i64 (D.getD k 0 : Nat)) := by
  unfold nats
  rw [List.getElem?_map, List.getElem?_eq_getElem h, List.getD_eq_getElem?_getD, List.getElem?_eq_getElem h]; rfl
end Go.Proofs.YtpkapcijgldhhaaGreatDoor

namespace Go.Proofs.YtpkapcijgldhhaaGreatDoor
open Go.RowKit
theorem node_any (a b : ByteArray) (w : World) (he : Env w) (ha : a.size ≤ 1073741824) (hb : b.size ≤ 1073741824) :
    Calls Tryz.prog 103 #[.string a, .string b] w (StrP (hashL [[110, 111, 100, 101], a.data.toList, b.data.toList]) w) := by
  have hb0 : ∀ cs, Below w.heap.size w (w.alloc (.cells cs 9)) := fun cs => (Below.refl _ w).alloc (Nat.le_refl _) _
  have ht : totS [⟨#[110, 111, 100, 101]⟩, a, b] ≤ 68719476736 := by rw [totS_cons, totS_cons, totS_cons, totS_nil]; show 10 + 4 + _ ≤ _; omega
  have hln := strsL_le [⟨#[110, 111, 100, 101]⟩, a, b] (by omega)
  have hst := Lib.hid (strings_any (.slice (some ⟨w.heap.size, 0, none⟩) 3 3) [⟨#[110, 111, 100, 101]⟩, a, b] (w.alloc (.cells #[.string ⟨#[110, 111, 100, 101]⟩, .string a, .string b] 9)) (he.below (hb0 _)) (strs_newH w _ _ _ 3 rfl rfl (by simp [maxLen])) (by omega))
  have H0 := Lib.hid (hb0 #[.string ⟨#[110, 111, 100, 101]⟩, .string a, .string b])
  clear hb0
  go_enter Tryz.func103, Tryz.ntmps103
  go_wp2_with fail
  refine hst.out.mono ?_
  rintro e w1 ⟨t, rfl, hts, hb1⟩
  have htz : t.data.toList.length ≤ 1099511627776 := by rw [hts.out]; omega
  have hb1' := H0.out.trans (hb1.mono (by simp))
  clear hst hln H0 hb1
  go_wp2_with fail
  refine (sum_any _ [t] _ (strs_newH w1 [t] _ _ _ rfl rfl (by simp [maxLen])) (by simp) (by rw [flat_one]; exact htz)).mono ?_
  rintro e w2 ⟨u, rfl, hus, hb2⟩
  have huz : (16 : Int) ≤ u.size := by rw [← toList_size, hus.out, sumB_length]; decide
  go_wp2_with fail
  go_ret
  refine ⟨_, rfl, ?_, (hb1'.alloc hb1'.size _).trans (hb2.mono (by have := hb1'.size; simp; omega))⟩
  rw [Hid, extract_list, hus.out, flat_one, hts.out, strsL_map]; rfl
end Go.Proofs.YtpkapcijgldhhaaGreatDoor

namespace Go.Proofs.YtpkapcijgldhhaaGreatDoor
open Go.RowKit
def nodeL (a b : List UInt8) : List UInt8 := hashL [[110, 111, 100, 101], a, b]
/-- v is a slice of strings in a row of strings -/
def OwnS (w : World) (v : Value) (l : List (List UInt8)) : Prop := w.ownsRow 0 9 1 v l.length ((l.map bA).map Value.string)
theorem OwnS.strs {w : World} {v : Value} {l : List (List UInt8)} (h : OwnS w v l) : Strs w v (l.map bA) := Row.of_owns h
theorem OwnS.below {w w' : World} {v : Value} {l : List (List UInt8)} (h : OwnS w v l) (hb : Below w.heap.size w w') : OwnS w' v l := owns_below h hb
theorem OwnS.others {w w' : World} {v : Value} {l : List (List UInt8)} {bo : Nat} {cs : Array Value} {fz : Nat × Nat} (h : OwnS w v l) (hbo : w.heap[bo]? = some (.cells cs 99 fz)) (ho : Lib.OthersKept 57 (some bo) w w') : OwnS w' v l := by
  refine ⟨h.1, h.2.imp id fun ⟨g, cap, cur, e1, e2, hg, r⟩ => ⟨g, cap, cur, e1, e2, ho g _ hg ?_ ?_, r⟩⟩
  · intro e
    rw [Option.some.inj e, hbo] at hg
    injection hg with h1
    injection h1 with _ h3 _
    revert h3; decide
  · intro c fz e
    injection e with _ h3 _
    revert h3; decide
/-- the slice values vs are the levels L -/
def LvlIs (w : World) (vs : List Value) (L : List (List (List UInt8))) : Prop := vs.length = L.length ∧ ∀ (i : Nat) (x : Value) (m : List (List UInt8)), vs[i]? = some x → L[i]? = some m → OwnS w x m
theorem LvlIs.others {w w' : World} {vs : List Value} {L : List (List (List UInt8))} {bo : Nat} {cs : Array Value} {fz : Nat × Nat} (h : LvlIs w vs L) (hbo : w.heap[bo]? = some (.cells cs 99 fz)) (ho : Lib.OthersKept 57 (some bo) w w') : LvlIs w' vs L :=
  ⟨h.1, fun i x m hx hm => (h.2 i x m hx hm).others hbo ho⟩
end Go.Proofs.YtpkapcijgldhhaaGreatDoor

namespace Go.Proofs.YtpkapcijgldhhaaGreatDoor
open Go.RowKit
theorem wrap_pow (h : Nat) (hh : h ≤ 6) : wrap64 ((2 : Int) ^ h) = ((2 ^ h : Nat) : Int) := by
  rcases h with _|_|_|_|_|_|_|h <;> first | (exfalso; omega; done) | decide +kernel
theorem pow_le (h : Nat) (hh : h ≤ 6) : 2 ^ h ≤ 64 := by
  rcases h with _|_|_|_|_|_|_|h <;> first | decide | omega
def RootP (l : List UInt8) (c : Int) (w : World) (e : Ending) (w' : World) : Prop := ∃ t : ByteArray, e = .returned (.tuple #[.string t, .int .i64 c]) ∧ Hid (t.data.toList = l) ∧ Below w.heap.size w w'
end Go.Proofs.YtpkapcijgldhhaaGreatDoor
