/-
  H: the first sixteen bytes of the digest of netstrings, in the program and in the reference; chains.
-/
import Derived.Test.YtpkapcijgldhhaaGreatDoorDigest
import Derived.Deep.CutBlock
import Derived.Deep.CutRange
namespace Go.Proofs.YtpkapcijgldhhaaGreatDoor
open Go.RowKit
theorem strs_newH (w : World) (la : List ByteArray) (cs : Array Value) (T : TypeId) (n : Nat) (hcs : cs.toList = la.map Value.string) (hn : n = la.length) (hl : la.length ≤ maxLen) :
    Strs (w.alloc (.cells cs T)) (.slice (some ⟨w.heap.size, 0, none⟩) n n) la := by
  subst hn
  refine ⟨some ⟨w.heap.size, 0, none⟩, la.length, by simp, by simp, by simpa using hl, .inr ⟨w.heap.size, 0, rfl, fun i u hu => ?_⟩⟩
  rw [Nat.zero_add, alloc_new_cell, ← hu, ← hcs, Array.getElem?_toList]
theorem flat_one (t : ByteArray) : (([t] : List ByteArray).map fun s => s.data.toList).flatten = t.data.toList := by simp
/-- H -/
def hashL (l : List (List UInt8)) : List UInt8 := (sumB (l.map strL).flatten).take 16
theorem hashL_length (l : List (List UInt8)) : (hashL l).length = 16 := by simp [hashL, sumB_length]
theorem strsL_map (la : List ByteArray) : strsL la = ((la.map fun s => s.data.toList).map strL).flatten := by
  unfold strsL; rw [List.map_map]; rfl
set_option maxHeartbeats 1000000 in
theorem sumR_any (va : Value) (la : List ByteArray) (w : World) (ha : Strs w va la) (ht : (la.map fun s => s.data.toList).flatten.length ≤ 1099511627776) :
    Calls Tryz.prog 28 #[va] w (StrP (sumB (la.map fun s => s.data.toList).flatten) w) := by
  obtain ⟨hla, ha'⟩ := row_cases ha
  simp only [List.length_map] at hla ha'
  unfold maxLen at hla
  rcases ha' with ⟨h0', aa, ca, rfl, _⟩ | ⟨h0', ba, oa, ca, rfl, hca, hca2, hcella⟩
  · have hla0 : la = [] := by simpa using h0'
    subst hla0
    go_enter Tryz.func28, Tryz.ntmps28
    go_wp2_with fail
    refine wp_loop_rounds 1 ?_; rw [rounds_succ]
    go_wp2_with fail
    refine (digest_any ⟨#[]⟩ _ (by decide)).mono ?_
    rintro e w1 ⟨t, rfl, hts, hb1⟩
    go_wp2_with fail
    go_ret
    exact ⟨_, rfl, hts, hb1⟩
  · have hflat : ∀ k, (((la.take k).map fun s => s.data.toList).flatten).length ≤ (la.map fun s => s.data.toList).flatten.length := fun k => by
      have h : (la.map fun s => s.data.toList).flatten = ((la.take k).map fun s => s.data.toList).flatten ++ ((la.drop k).map fun s => s.data.toList).flatten := by
        rw [← List.flatten_append, ← List.map_append, List.take_append_drop]
      rw [h, List.length_append]; omega
    have HFL := Lib.hid hflat; clear hflat
    go_enter Tryz.func28, Tryz.ntmps28
    go_wp2_with fail
    go_loop [3, 4] (fun o i => ∃ (k : Nat) (u : ByteArray), k ≤ la.length ∧ i = .int .i64 k ∧ o = .string u ∧ Hid (u.data.toList = ((la.take k).map fun s => s.data.toList).flatten)) (fun _ i => la.length - (intOf i).toNat)
    case atStart => exact ⟨0, ⟨#[]⟩, by omega, rfl, rfl, rfl⟩
    case round =>
      obtain ⟨k, u, hk, rfl, rfl, hu⟩ := hrel
      by_cases hlt : k < la.length
      · have c1 : w.cell? ⟨ba, oa + k, none⟩ = some (.string la[k]) := hcella k (.string la[k]) (by simp [hlt])
        have h1 : ((la.take (k + 1)).map fun s => s.data.toList).flatten = ((la.take k).map fun s => s.data.toList).flatten ++ la[k].data.toList := by
          rw [List.take_succ_eq_append_getElem hlt, List.map_append, List.flatten_append]; simp only [List.map_cons, List.map_nil, List.flatten_cons, List.flatten_nil, List.append_nil]
        have h2 := HFL.out (k + 1)
        rw [h1, List.length_append] at h2
        generalize la[k] = x at *
        have hus : u.size ≤ 1099511627776 := by rw [← toList_size, hu.out]; omega
        have hxs : x.size ≤ 1099511627776 := by rw [← toList_size]; omega
        have H1 := Lib.hid h1
        have Hcella := Lib.hid hcella
        have HT := Lib.hid ht
        clear h1 h2 hcella ht
        go_wp2_with fail
        go_round
        case rel => exact ⟨k + 1, _, by omega, by go_num, rfl, by rw [Hid, append_list, H1.out, hu.out]⟩
        case measure => simp [intOf]; omega
      · have ht2 : la.take k = la := List.take_of_length_le (by omega)
        rw [ht2] at hu
        clear ht2
        have hus : u.size ≤ 1099511627776 := by rw [← toList_size, hu.out]; omega
        go_wp2_with fail
        refine (digest_any u _ hus).mono ?_
        rintro e w1 ⟨t, rfl, hts, hb1⟩
        go_wp2_with fail
        go_ret
        exact ⟨_, rfl, by rw [Hid, hts.out, hu.out], hb1⟩
theorem hash_any (va : Value) (la : List ByteArray) (w : World) (he : Env w) (ha : Strs w va la) (ht : totS la ≤ 68719476736) :
    Calls Tryz.prog 187 #[va] w (StrP (hashL (la.map fun s => s.data.toList)) w) := by
  have hln := strsL_le la (by omega)
  have hs := Lib.hid (strings_any va la w he ha (by omega))
  go_enter Tryz.func187, Tryz.ntmps187
  go_wp2_with fail
  refine hs.out.mono ?_
  rintro e w1 ⟨t, rfl, hts, hb1⟩
  have htz : t.data.toList.length ≤ 1099511627776 := by rw [hts.out]; omega
  clear hs hln
  go_wp2_with fail
  refine (sum_any _ [t] _ (strs_newH w1 [t] _ _ _ rfl rfl (by simp [maxLen])) (by simp) (by rw [flat_one]; exact htz)).mono ?_
  rintro e w2 ⟨u, rfl, hus, hb2⟩
  have huz : (16 : Int) ≤ u.size := by rw [← toList_size, hus.out, sumB_length]; decide
  go_wp2_with fail
  go_ret
  refine ⟨_, rfl, ?_, (hb1.alloc hb1.size _).trans (hb2.mono (by have := hb1.size; simp; omega))⟩
  rw [Hid, extract_list, hus.out, flat_one, hts.out, strsL_map]; rfl
theorem H_any (va : Value) (la : List ByteArray) (w : World) (ha : Strs w va la) (ht : totS la ≤ 68719476736) :
    Calls Tryz.prog 137 #[va] w (StrP (hashL (la.map fun s => s.data.toList)) w) := by
  have hln := strsL_le la (by omega)
  have hs := Lib.hid (refStrings_any va la w ha (by omega))
  go_enter Tryz.func137, Tryz.ntmps137
  go_wp2_with fail
  refine hs.out.mono ?_
  rintro e w1 ⟨t, rfl, hts, rfl⟩
  have htz : t.data.toList.length ≤ 1099511627776 := by rw [hts.out]; omega
  clear hs hln
  go_wp2_with fail
  refine (sumR_any _ [t] _ (strs_newH w [t] _ _ _ rfl rfl (by simp [maxLen])) (by rw [flat_one]; exact htz)).mono ?_
  rintro e w2 ⟨u, rfl, hus, hb2⟩
  have huz : (16 : Int) ≤ u.size := by rw [← toList_size, hus.out, sumB_length]; decide
  go_wp2_with fail
  go_ret
  refine ⟨_, rfl, ?_, ((Below.refl _ w).alloc (Nat.le_refl _) _).trans (hb2.mono (by simp))⟩
  rw [Hid, extract_list, hus.out, flat_one, hts.out, strsL_map]; rfl
/-- H of a list just built -/
theorem hash_new (w : World) (la : List ByteArray) (cs : Array Value) (T : TypeId) (n : Nat) (he : Env w) (hcs : cs.toList = la.map Value.string) (hn : n = la.length) (ht : totS la ≤ 68719476736) :
    Calls Tryz.prog 187 #[.slice (some ⟨w.heap.size, 0, none⟩) n n] (w.alloc (.cells cs T)) (StrP (hashL (la.map fun s => s.data.toList)) w) := by
  have hb0 : Below w.heap.size w (w.alloc (.cells cs T)) := (Below.refl _ w).alloc (Nat.le_refl _) _
  refine (hash_any _ la _ (he.below hb0) (strs_newH w la cs T n hcs hn (by have := totS_len la; unfold maxLen; omega)) ht).mono ?_
  rintro e w1 ⟨t, rfl, hts, hb1⟩
  exact ⟨t, rfl, hts, hb0.trans (hb1.mono (by simp))⟩
theorem H_new (w : World) (la : List ByteArray) (cs : Array Value) (T : TypeId) (n : Nat) (hcs : cs.toList = la.map Value.string) (hn : n = la.length) (ht : totS la ≤ 68719476736) :
    Calls Tryz.prog 137 #[.slice (some ⟨w.heap.size, 0, none⟩) n n] (w.alloc (.cells cs T)) (StrP (hashL (la.map fun s => s.data.toList)) w) := by
  have hb0 : Below w.heap.size w (w.alloc (.cells cs T)) := (Below.refl _ w).alloc (Nat.le_refl _) _
  refine (H_any _ la _ (strs_newH w la cs T n hcs hn (by have := totS_len la; unfold maxLen; omega)) ht).mono ?_
  rintro e w1 ⟨t, rfl, hts, hb1⟩
  exact ⟨t, rfl, hts, hb0.trans (hb1.mono (by simp))⟩
theorem totS_cons (a : ByteArray) (l : List ByteArray) : totS (a :: l) = 10 + a.size + totS l := by simp [totS]
theorem totS_nil : totS [] = 0 := rfl
/-- 'chain', 'wots', 'public', 'message' -/
def lChain : List UInt8 := [99, 104, 97, 105, 110]
def lWots : List UInt8 := [119, 111, 116, 115]
def lPublic : List UInt8 := [112, 117, 98, 108, 105, 99]
def chainL (x : List UInt8) : Nat → List UInt8
  | 0 => x
  | n + 1 => hashL [lChain, chainL x n]
theorem chainL_length {x : List UInt8} (n : Nat) (h : x.length ≤ 1073741824) : (chainL x n).length ≤ 1073741824 := by
  cases n with
  | zero => exact h
  | succ n => rw [chainL, hashL_length]; decide
def secretL (seed : List UInt8) (key chain : Int) : List UInt8 := hashL [lWots, seed, numL key, numL chain]
theorem step_any (b : Nat) (x : ByteArray) (w : World) (he : Env w) (hx : w.cell? ⟨b, 0, none⟩ = some (.string x)) (hf : w.frozen? ⟨b, 0, none⟩ = false) (hs : x.size ≤ 1073741824) :
    Calls Tryz.prog 188 #[.pointer (some ⟨b, 0, none⟩)] w fun e w' => ∃ y : ByteArray, e = .returned (.tuple #[]) ∧ Hid (y.data.toList = hashL [lChain, x.data.toList]) ∧ w'.cell? ⟨b, 0, none⟩ = some (.string y) ∧ w'.frozen? ⟨b, 0, none⟩ = false ∧ Save b w w' := by
  have hlt := World.block_lt_of_cell? w _ hx
  go_enter Tryz.func188, Tryz.ntmps188
  go_wp2_with fail
  refine (hash_new w [⟨#[99, 104, 97, 105, 110]⟩, x] _ _ _ he rfl rfl (by rw [totS_cons, totS_cons, totS_nil]; show 10 + 5 + _ ≤ _; omega)).mono ?_
  rintro e w1 ⟨y, rfl, hy, hb'⟩
  have c1 : w1.cell? ⟨b, 0, none⟩ = some (.string x) := (hb'.cell (p := ⟨b, 0, none⟩) hlt).trans hx
  have f1 : w1.frozen? ⟨b, 0, none⟩ = false := (hb'.frozen (p := ⟨b, 0, none⟩) hlt).trans hf
  clear hx hf
  go_wp2_with fail
  refine bodyPost_end (results_none rfl _ _ _) rfl ?_
  exact ⟨y, rfl, hy, css c1, by simpa using f1, (below_save hb' b (Nat.le_refl _)).trans (Save.setCell w1 ⟨b, 0, none⟩ _)⟩
set_option maxHeartbeats 1000000 in
theorem walk_any (x : ByteArray) (n : Nat) (w : World) (he : Env w) (hs : x.size ≤ 1073741824) (hn : n ≤ 1000000) :
    Calls Tryz.prog 148 #[.string x, .int .i64 n] w (StrP (chainL x.data.toList n) w) := by
  have hmf : ∀ (fn : Fn) (first cap : Array Value) (w : World), (Instr.makeFunc fn first cap).run Tryz.prog w = .ok (.func fn first cap) w := fun _ _ _ _ => rfl
  go_enter Tryz.func148, Tryz.ntmps148
  go_wp2_with fail
  go_loopw [8] (fun i wr => ∃ (k : Nat) (y : ByteArray), k ≤ n ∧ i = .int .i64 k ∧ Hid (wr.cell? ⟨w.heap.size, 0, none⟩ = some (.string y)) ∧ Hid (wr.frozen? ⟨w.heap.size, 0, none⟩ = false) ∧ Hid (y.data.toList = chainL x.data.toList k) ∧ Save w.heap.size (w.alloc (.cells #[.string x] 9)) wr) (fun i _ => n - (intOf i).toNat)
  case atStart => exact ⟨0, x, by omega, rfl, by rw [Hid, alloc_new_cell]; rfl, alloc_new_frozen _ _ _ _, rfl, Save.refl _ _⟩
  case round =>
    obtain ⟨k, y, hk, rfl, hc, hf, hy, hsv⟩ := hrel
    have hbw := ((Below.refl _ w).alloc (Nat.le_refl _) (.cells #[.string x] 9)).trans (hsv.below (n := w.heap.size) (Nat.le_refl _) (by simp))
    by_cases hlt : k < n
    · have hys : y.size ≤ 1073741824 := by rw [← toList_size, hy.out]; exact chainL_length k hs
      have hst := Lib.hid (step_any w.heap.size y wr (he.below hbw) hc.out hf.out hys)
      go_wp2_with fail
      refine hst.out.mono ?_
      rintro e w1 ⟨z, rfl, hz, c1, f1, s1⟩
      have C1 := Lib.hid c1
      have F1 := Lib.hid f1
      clear c1 f1
      go_wp2_with fail
      go_roundw
      case rel => exact ⟨k + 1, z, by omega, by go_num, C1, F1, by rw [Hid, hz.out, hy.out]; rfl, hsv.trans s1⟩
      case measure => simp [intOf]; omega
    · obtain rfl : k = n := by omega
      have hc1 := hc.out
      go_wp2_with fail
      go_ret
      exact ⟨_, rfl, hy, hbw⟩
set_option maxHeartbeats 1000000 in
theorem steps_any (x : ByteArray) (n : Nat) (w : World) (hs : x.size ≤ 1073741824) (hn : n ≤ 1000000) :
    Calls Tryz.prog 89 #[.string x, .int .i64 n] w (StrP (chainL x.data.toList n) w) := by
  go_enter Tryz.func89, Tryz.ntmps89
  go_wp2_with fail
  go_loopw [0, 5] (fun s i wr => ∃ (k : Nat) (y : ByteArray), k ≤ n ∧ i = .int .i64 k ∧ s = .string y ∧ Hid (y.data.toList = chainL x.data.toList k) ∧ Below w.heap.size w wr) (fun _ i _ => n - (intOf i).toNat)
  case atStart => exact ⟨0, x, by omega, rfl, rfl, rfl, below_refl _⟩
  case round =>
    obtain ⟨k, y, hk, rfl, rfl, hy, hbw⟩ := hrel
    by_cases hlt : k < n
    · have hys : y.size ≤ 1073741824 := by rw [← toList_size, hy.out]; exact chainL_length k hs
      go_wp2_with fail
      refine (H_new wr [⟨#[99, 104, 97, 105, 110]⟩, y] _ _ _ rfl rfl (by rw [totS_cons, totS_cons, totS_nil]; show 10 + 5 + _ ≤ _; omega)).mono ?_
      rintro e w1 ⟨z, rfl, hz, hb⟩
      go_wp2_with fail
      go_roundw
      case rel => exact ⟨k + 1, z, by omega, by go_num, rfl, by rw [Hid, hz.out]; simp only [List.map_cons, List.map_nil]; rw [hy.out]; rfl, step2 hbw hb⟩
      case measure => simp [intOf]; omega
    · obtain rfl : k = n := by omega
      go_wp2_with fail
      go_ret
      exact ⟨_, rfl, hy, hbw⟩
theorem secretR_any (s : ByteArray) (k c : Int) (w : World) (hs : s.size ≤ 1073741824) (hk : -9223372036854775808 ≤ k ∧ k ≤ 9223372036854775807) (hc : 0 ≤ c ∧ c ≤ 1000000) :
    Calls Tryz.prog 90 #[.string s, .int .i64 k, .int .i64 c] w (StrP (secretL s.data.toList k c) w) := by
  have hn1 := numL_length k
  have hn2 := itoa_len hk.1 hk.2
  have hn3 := numL_length c
  have hn4 := itoa_len (n := c) (by omega) (by omega)
  have h1 : (numL k).length ≤ 30 := by omega
  have h2 : (numL c).length ≤ 30 := by omega
  clear hn1 hn2 hn3 hn4
  go_enter Tryz.func90, Tryz.ntmps90
  go_wp2_with fail
  refine (refNumber_any k _ hk.1 hk.2).mono ?_
  rintro e w1 ⟨t1, rfl, ht1, rfl⟩
  go_wp2_with fail
  refine (refNumber_any c _ (by omega) (by omega)).mono ?_
  rintro e w2 ⟨t2, rfl, ht2, rfl⟩
  have z1 : t1.size ≤ 30 := by rw [← toList_size, ht1.out]; exact h1
  have z2 : t2.size ≤ 30 := by rw [← toList_size, ht2.out]; exact h2
  go_wp2_with fail
  refine (H_new w [⟨#[119, 111, 116, 115]⟩, s, t1, t2] _ _ _ rfl rfl (by rw [totS_cons, totS_cons, totS_cons, totS_cons, totS_nil]; show 10 + 4 + _ ≤ _; omega)).mono ?_
  rintro e w3 ⟨y, rfl, hy, hb3⟩
  go_wp2_with fail
  go_ret
  refine ⟨_, rfl, ?_, hb3⟩
  rw [Hid, hy.out, secretL, ← ht1.out, ← ht2.out]; rfl
/-- a list of bytes as a string -/
def bA (l : List UInt8) : ByteArray := ⟨l.toArray⟩
theorem bA_list (l : List UInt8) : (bA l).data.toList = l := rfl
theorem map_bA (L : List (List UInt8)) : ((L.map bA).map fun s => s.data.toList) = L := by
  rw [List.map_map]; exact List.map_id _
theorem eq_bA {s : ByteArray} {l : List UInt8} (h : s.data.toList = l) : s = bA l := list_inj h
/-- the ends of the first n chains -/
def endsL (seed : List UInt8) (key : Int) : Nat → List (List UInt8)
  | 0 => []
  | i + 1 => endsL seed key i ++ [chainL (secretL seed key i) 15]
theorem endsL_length (seed : List UInt8) (key : Int) : ∀ n, (endsL seed key n).length = n
  | 0 => rfl
  | n + 1 => by rw [endsL, List.length_append, endsL_length seed key n]; rfl
def publicL (seed : List UInt8) (key : Int) : List UInt8 := if key < 0 then [] else hashL (lPublic :: endsL seed key 35)
theorem secretL_length (s : List UInt8) (k c : Int) : (secretL s k c).length = 16 := hashL_length _
theorem chainL16 {x : List UInt8} (h : x.length = 16) (n : Nat) : (chainL x n).length = 16 := by
  cases n with
  | zero => exact h
  | succ n => rw [chainL, hashL_length]
theorem totS_snoc (l : List ByteArray) (a : ByteArray) : totS (l ++ [a]) = totS l + 10 + a.size := by rw [totS_append, totS_cons, totS_nil]; omega
theorem totS_ends (seed : List UInt8) (key : Int) : ∀ n, totS ((endsL seed key n).map bA) = 26 * n
  | 0 => rfl
  | n + 1 => by
    rw [endsL, List.map_append, List.map_cons, List.map_nil, totS_snoc, totS_ends seed key n]
    have : (bA (chainL (secretL seed key n) 15)).size = 16 := chainL16 (secretL_length _ _ _) 15
    omega
theorem owns_full {base : Nat} {e : TypeId} (w : World) (cs : Array Value) (n : Nat) (hb : base ≤ w.heap.size) (hm : n ≤ maxLen) (hs : cs.size = n) :
    (w.alloc (.cells cs e)).ownsRow base e 1 (.slice (some ⟨w.heap.size, 0, none⟩) n n) n cs.toList :=
  ⟨by simp [hs], .inr ⟨w.heap.size, n, cs, rfl, hb, heap_alloc_new w _, Nat.le_refl _, hm, by simp [hs], by rw [Nat.mul_one, List.take_of_length_le (by simp [hs])]⟩⟩
theorem cell_str1 (w : World) (u : ByteArray) (T : TypeId) (j : Nat) (x : Value) (h : [Value.string u][j]? = some x) : (w.alloc (.cells #[.string u] T)).cell? ((⟨w.heap.size, 0, none⟩ : Addr).add j) = some x := cell_new1 w _ T _ j x h
set_option maxHeartbeats 1000000 in
set_option maxRecDepth 100000 in
theorem public_any (ve : Value) (L : List (List UInt8)) (w : World) (he : Env w) (ha : Strs w ve (L.map bA)) (ht : totS (L.map bA) ≤ 1000000) :
    Calls Tryz.prog 149 #[ve] w (StrP (hashL (lPublic :: L)) w) := by
  obtain ⟨i0, hi, hz0, hz1, hz2⟩ := info_parts infoStr
  have hla := totS_len (L.map bA)
  have hown0 := owns_full (base := w.heap.size) (e := 9) w #[.string ⟨#[112, 117, 98, 108, 105, 99]⟩] 1 (Nat.le_refl _) (by decide) rfl
  have hbel0 : Below w.heap.size w (w.alloc (.cells #[.string ⟨#[112, 117, 98, 108, 105, 99]⟩] 9)) := (below_refl w).alloc (Nat.le_refl _) _
  have HO := Lib.hid hown0; clear hown0
  have HLA := Lib.hid hla; clear hla
  go_enter Tryz.func149, Tryz.ntmps149
  go_wp2_with (at_builtin; refine wpList_append_row rfl _ _ 57 rfl w.heap.size 9 i0 (.string ⟨#[]⟩) 16 Tryz.underlying57 hi hz0 hz1 hz2 rfl _ _ _ rfl HO.out ve ((L.map bA).map Value.string) rfl (ha.below hbel0) (oneCell_strs (L.map bA)) ?c1 ?c2 ?c3 ?_)
  case c1 => have hla := HLA.out; simp only [List.length_map] at hla ⊢; unfold maxLen; omega
  case c2 => have hla := HLA.out; simp only [List.length_map] at hla ⊢; omega
  intro v1 w1 hown1 hg1
  have hb1 : Below w.heap.size w w1 := below_grownBy hbel0 HO.out hg1 (by simp)
  have hs1 : OwnStrs w.heap.size w1 v1 ((lPublic :: L).map bA) := by
    unfold OwnStrs
    rw [show ((lPublic :: L).map bA).length = 1 + L.length from by simp; omega, List.map_map]
    exact hown1
  have ht2 : totS ((lPublic :: L).map bA) ≤ 2000000 := by
    rw [List.map_cons, totS_cons]; show 10 + 6 + _ ≤ _; omega
  clear hg1 HO hown1
  go_wp2_with fail
  refine (hash_any v1 _ _ (he.below hb1) hs1.strs (by omega)).mono ?_
  rintro e w2 ⟨t, rfl, hts, hb2⟩
  go_wp2_with fail
  go_ret
  exact ⟨_, rfl, by rw [Hid, hts.out, map_bA], step2 hb1 hb2⟩
end Go.Proofs.YtpkapcijgldhhaaGreatDoor
