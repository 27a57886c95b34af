/-
  Digits: the digits of a message and its checksum, in the program and in the reference; the reference's public key; signatures.
  Digits: the digits of a message and its checksum, in the program and in the reference; the reference's public key; signatures.
  The reference's public key and the signatures.
  The program's signatures; the nodes of key trees.
  Key trees: the levels, in the program.
  Key trees: levels and roots, in the program.
  Recover: the public key of a signature, in the program and in the reference.
  Verify, as a plain function: the parts of a signature, the path to the root. No program in sight.
-/
import Derived.Test.YtpkapcijgldhhaaGreatDoorCe17
import Derived.Deep.CutBlock
import Derived.Deep.CutRange
import Derived.Shelf.Strings.BuilderK
import Derived.Deep.RegionLaw
import Derived.Deep.AppendLies
import Derived.OneCell
import Derived.Lib.OthersKept
import Derived.Laws.EntriesVeiled
namespace Go.Proofs.YtpkapcijgldhhaaGreatDoor
open Go.RowKit
def lMessage : List UInt8 := [109, 101, 115, 115, 97, 103, 101]
def digs (h : List UInt8) : Nat → List Nat
  | 0 => []
  | k + 1 => digs h k ++ [(h.getD k 0).toNat / 16, (h.getD k 0).toNat % 16]
def cks (h : List UInt8) : Nat → Nat
  | 0 => 0
  | k + 1 => cks h k + (30 - (h.getD k 0).toNat / 16 - (h.getD k 0).toNat % 16)
def digitsL (m : List UInt8) : List Nat :=
  digs (hashL [lMessage, m]) 16 ++ [cks (hashL [lMessage, m]) 16 / 256, cks (hashL [lMessage, m]) 16 / 16 % 16, cks (hashL [lMessage, m]) 16 % 16]
theorem digs_length (h : List UInt8) : ∀ k, (digs h k).length = 2 * k
  | 0 => rfl
  | k + 1 => by rw [digs, List.length_append, digs_length h k]; simp; omega
theorem digitsL_length (m : List UInt8) : (digitsL m).length = 35 := by rw [digitsL, List.length_append, digs_length]; rfl
theorem cks_le (h : List UInt8) : ∀ k, cks h k ≤ 30 * k
  | 0 => Nat.le_refl _
  | k + 1 => by have := cks_le h k; rw [cks]; omega
theorem digs_le (h : List UInt8) : ∀ k, ∀ d ∈ digs h k, d ≤ 15
  | 0 => by intro d hd; cases hd
  | k + 1 => by
    intro d hd
    rw [digs, List.mem_append] at hd
    rcases hd with hd | hd
    · exact digs_le h k d hd
    · have := (h.getD k 0).toNat_lt
      simp only [List.mem_cons, List.mem_nil_iff, or_false] at hd
      rcases hd with rfl | rfl <;> omega
theorem digitsL_le (m : List UInt8) : ∀ d ∈ digitsL m, d ≤ 15 := by
  intro d hd
  rw [digitsL, List.mem_append] at hd
  have := cks_le (hashL [lMessage, m]) 16
  rcases hd with hd | hd
  · exact digs_le _ _ d hd
  · simp only [List.mem_cons, List.mem_nil_iff, or_false] at hd
    rcases hd with rfl | rfl | rfl <;> omega
def nats (l : List Nat) : List Value := l.map fun (n : Nat) => Value.int .i64 (n : Int)
def DigP (l : List Nat) (w : World) (e : Ending) (w' : World) : Prop := ∃ v, e = .returned v ∧ w'.ownsRow 0 3 1 v l.length (nats l) ∧ Below w.heap.size w w'
theorem owns_zero {w : World} {base : Nat} {e : TypeId} {v : Value} {n : Nat} {xs : List Value} (h : w.ownsRow base e 1 v n xs) : w.ownsRow 0 e 1 v n xs :=
  ⟨h.1, h.2.imp id fun ⟨g, cap, cur, e1, _, r⟩ => ⟨g, cap, cur, e1, Nat.zero_le _, r⟩⟩
theorem infoInt : (Tryz.prog.info? 3).map (fun i => (i.zero, i.size, i.bytes)) = some (some (.int .i64 0), 1, 8) := by kernel_rfl
theorem nats_append (a b : List Nat) : nats (a ++ b) = nats a ++ nats b := List.map_append
theorem nats_length (a : List Nat) : (nats a).length = a.length := List.length_map ..
theorem cell_new2 (w : World) (a b : Value) (T : TypeId) (j : Nat) (u : Value) (h : [a, b][j]? = some u) : (w.alloc (.cells #[a, b] T)).cell? ((⟨w.heap.size, 0, none⟩ : Addr).add j) = some u := by
  have hadd : (⟨w.heap.size, 0, none⟩ : Addr).add j = ⟨w.heap.size, j, none⟩ := by unfold Addr.add; split <;> simp_all
  rw [hadd, alloc_new_cell]; simpa using h
theorem cell_new3 (w : World) (a b c : Value) (T : TypeId) (j : Nat) (u : Value) (h : [a, b, c][j]? = some u) : (w.alloc (.cells #[a, b, c] T)).cell? ((⟨w.heap.size, 0, none⟩ : Addr).add j) = some u := by
  have hadd : (⟨w.heap.size, 0, none⟩ : Addr).add j = ⟨w.heap.size, j, none⟩ := by unfold Addr.add; split <;> simp_all
  rw [hadd, alloc_new_cell]; simpa using h
end Go.Proofs.YtpkapcijgldhhaaGreatDoor

namespace Go.Proofs.YtpkapcijgldhhaaGreatDoor
open Go.RowKit
set_option maxHeartbeats 1000000 in
set_option maxRecDepth 100000 in
theorem digits_any (m : ByteArray) (w : World) (he : Env w) (hm : m.size ≤ 1073741824) :
    Calls Tryz.prog 147 #[.string m] w (DigP (digitsL m.data.toList) w) := by
  obtain ⟨i0, hi, hz0, hz1, hz2⟩ := info_parts infoInt
  go_enter Tryz.func147, Tryz.ntmps147
  go_wp2_with fail
  refine (hash_new w [⟨#[109, 101, 115, 115, 97, 103, 101]⟩, m] _ _ _ he rfl rfl (by rw [totS_cons, totS_cons, totS_nil]; show 10 + 7 + _ ≤ _; omega)).mono ?_
  rintro e w1 ⟨h, rfl, hh, hb1⟩
  have hh' : h.data.toList = hashL [lMessage, m.data.toList] := hh.out
  have hhs : h.size = 16 := by rw [← toList_size, hh']; exact hashL_length _
  have HH := Lib.hid hh'
  have HS := Lib.hid hhs
  clear hh hh' hhs
  have hcv := fun (W : World) => Lib.run_convert_string_bytes (P := Tryz.prog) W 9 60 5 h Tryz.underlying9 Tryz.underlying60 Tryz.underlying5
  go_wp2_with fail
  obtain ⟨B, hB⟩ : ∃ B, w1.heap.size = B := ⟨_, rfl⟩
  have hBw : w.heap.size ≤ B := by rw [← hB]; exact hb1.size
  have hcell : ∀ j, j < 16 → (Lib.bytesWorld w1 5 h).cell? ⟨B, j, none⟩ = some (.int .u8 (h.data.toList.getD j 0).toNat) := fun j hj => by
    rw [← hB]; exact Lib.bytesWorld_cell w1 _ h j (by rw [HS.out]; exact hj)
  have hbW := hb1.trans ((below_bytes w1 h 5).mono hb1.size)
  have hzW : (Lib.bytesWorld w1 5 h).heap.size = B + 1 := by rw [Lib.bytesWorld_size, hB]
  rw [hB]
  clear hcv hb1 hB
  generalize Lib.bytesWorld w1 5 h = W1 at hcell hbW hzW ⊢
  have HCELL := Lib.hid hcell
  have HZW := Lib.hid hzW
  clear hcell hzW
  have hb0 : Below (B + 1) W1 W1 := Below.refl _ _
  go_loopw [3, 4, 14] (fun v c i wr => ∃ k : Nat, k ≤ 16 ∧ i = .int .i64 k ∧ c = .int .i64 (cks h.data.toList k) ∧ wr.ownsRow (B + 1) 3 1 v (digs h.data.toList k).length (nats (digs h.data.toList k)) ∧ Below (B + 1) W1 wr) (fun _ _ i _ => 16 - (intOf i).toNat)
  case atStart => exact ⟨0, by omega, rfl, rfl, World.ownsRow_nil _ _ _ _, hb0⟩
  case round =>
    obtain ⟨k, hk, rfl, rfl, hown, hbw⟩ := hrel
    have hzr : B + 1 ≤ wr.heap.size := by have := hbw.size; have := HZW.out; omega
    by_cases hlt : k < 16
    · have hcl := cks_le h.data.toList k
      have hbl := (h.data.toList.getD k 0).toNat_lt
      have ck : wr.cell? ⟨B, k, none⟩ = some (.int .u8 (h.data.toList.getD k 0).toNat) := (hbw.cell (p := ⟨B, k, none⟩) (Nat.lt_succ_self B)).trans (HCELL.out k hlt)
      have hn1 : digs h.data.toList (k + 1) = digs h.data.toList k ++ [(h.data.toList.getD k 0).toNat / 16, (h.data.toList.getD k 0).toNat % 16] := by rw [digs]
      have hn2 : cks h.data.toList (k + 1) = cks h.data.toList k + (30 - (h.data.toList.getD k 0).toNat / 16 - (h.data.toList.getD k 0).toNat % 16) := by rw [cks]
      have hdl := digs_length h.data.toList k
      rw [hdl] at hown
      obtain ⟨C, hC⟩ : ∃ C, cks h.data.toList k = C := ⟨_, rfl⟩
      obtain ⟨D, hD⟩ : ∃ D, digs h.data.toList k = D := ⟨_, rfl⟩
      rw [hC] at hcl hn2 ⊢
      rw [hD] at hown hn1
      have HN1 := Lib.hid hn1
      have HN2 := Lib.hid hn2
      have HDL := Lib.hid hdl
      have HC := Lib.hid hC
      have HD := Lib.hid hD
      clear hn1 hn2 hdl hC hD
      obtain ⟨b, hb⟩ : ∃ b, (h.data.toList.getD k 0).toNat = b := ⟨_, rfl⟩
      rw [hb] at hbl HN1 HN2 ck
      have HBB := Lib.hid hb; clear hb
      obtain ⟨q, hq⟩ : ∃ q, b / 16 = q := ⟨_, rfl⟩
      obtain ⟨r, hr⟩ : ∃ r, b % 16 = r := ⟨_, rfl⟩
      have hq1 : q ≤ 15 := by omega
      have hr1 : r ≤ 15 := by omega
      have d1 : (b : Int) / 16 = q := by omega
      have d2 : (b : Int) % 16 = r := by omega
      have d3 : (b : Int).tdiv 16 = q := by rw [Int.tdiv_eq_ediv_of_nonneg (by omega)]; exact d1
      have d4 : (b : Int).tmod 16 = r := by rw [Int.tmod_eq_emod_of_nonneg (by omega)]; exact d2
      have d5 : IntKind.i64.wrap (b : Int) = b := IntWalk.i64_in _ (by omega)
      have d6 : IntKind.i64.wrap (q : Int) = q := IntWalk.i64_in _ (by omega)
      have d7 : IntKind.i64.wrap (r : Int) = r := IntWalk.i64_in _ (by omega)
      have d8 : (k : Int) < h.size := by rw [HS.out]; omega
      rw [hq, hr] at HN1 HN2
      have HQ := Lib.hid hq
      have HR := Lib.hid hr
      clear hq hr
      go_wp2_with (at_builtin; refine wpList_append_own _ rfl _ _ 150 rfl (B + 1) 3 i0 (.int .i64 0) 1 8 Tryz.underlying150 hi hz0 hz1 hz2 rfl (by decide) _ _ _ rfl (hown.alloc _) ⟨wr.heap.size, 0, none⟩ 2 2 [.int .i64 q, .int .i64 r] rfl rfl (fun j x h => cell_new2 wr _ _ _ j x h) ?c2 ?c3 ?c4 ?c5 ?_)
      case c2 => intro x hx; simp only [List.mem_cons, List.mem_nil_iff, or_false] at hx; rcases hx with rfl | rfl <;> rfl
      case c3 => unfold maxLen; omega
      case c4 => omega
      case c5 => simp; omega
      intro v' w3 hown2 hgrow _
      have hb3 := below_grownBy (hbw.alloc hzr _) (hown.alloc _) hgrow (by simp; omega)
      have hown3 : w3.ownsRow (B + 1) 3 1 v' (digs h.data.toList (k + 1)).length (nats (digs h.data.toList (k + 1))) := by
        rw [HN1.out, nats_append, List.length_append, ← HD.out, HDL.out, HD.out]
        exact hown2
      clear hgrow hown2
      go_wp2_with fail
      go_roundw
      case rel => exact ⟨k + 1, by omega, by go_num, by rw [HN2.out]; congr 1; omega, hown3, hb3⟩
      case measure => simp [intOf]; omega
    · obtain rfl : k = 16 := by omega
      have d9 : (16 : Int) = h.size := by rw [HS.out]; rfl
      have D9 := Lib.hid d9
      have d10 : (h.size : Int) ≤ 16 := by omega
      clear d9
      have hcl := cks_le h.data.toList 16
      have hdl := digs_length h.data.toList 16
      rw [hdl] at hown
      obtain ⟨C, hC⟩ : ∃ C, cks h.data.toList 16 = C := ⟨_, rfl⟩
      obtain ⟨D, hD⟩ : ∃ D, digs h.data.toList 16 = D := ⟨_, rfl⟩
      rw [hC] at hcl ⊢
      rw [hD] at hown
      have HDL := Lib.hid hdl
      have HC := Lib.hid hC
      have HD := Lib.hid hD
      clear hdl hC hD
      obtain ⟨q, hq⟩ : ∃ q, C / 256 = q := ⟨_, rfl⟩
      obtain ⟨r, hr⟩ : ∃ r, C / 16 % 16 = r := ⟨_, rfl⟩
      obtain ⟨z, hz⟩ : ∃ z, C % 16 = z := ⟨_, rfl⟩
      have d1 : (C : Int) / 256 = q := by omega
      have d2 : (C : Int) / 16 % 16 = r := by omega
      have d3 : (C : Int) % 16 = z := by omega
      have HQ := Lib.hid hq
      have HR := Lib.hid hr
      have HZ := Lib.hid hz
      clear hq hr hz
      go_wp2_with (at_builtin; refine wpList_append_own _ rfl _ _ 150 rfl (B + 1) 3 i0 (.int .i64 0) 1 8 Tryz.underlying150 hi hz0 hz1 hz2 rfl (by decide) _ _ _ rfl (hown.alloc _) ⟨wr.heap.size, 0, none⟩ 3 3 [.int .i64 q, .int .i64 r, .int .i64 z] rfl rfl (fun j x h => cell_new3 wr _ _ _ _ j x h) ?c2 ?c3 ?c4 ?c5 ?_)
      case c2 => intro x hx; simp only [List.mem_cons, List.mem_nil_iff, or_false] at hx; rcases hx with rfl | rfl | rfl <;> rfl
      case c3 => unfold maxLen; omega
      case c4 => omega
      case c5 => simp; omega
      intro v' w3 hown2 hgrow _
      have hb3 := below_grownBy (hbw.alloc hzr _) (hown.alloc _) hgrow (by simp; omega)
      have hrow : w3.ownsRow 0 3 1 v' (digitsL m.data.toList).length (nats (digitsL m.data.toList)) := by
        rw [digitsL_length, digitsL, ← HH.out, HC.out, HQ.out, HR.out, HZ.out, HD.out, nats_append]
        exact owns_zero hown2
      clear hgrow hown2
      go_wp2_with fail
      go_ret
      exact ⟨_, rfl, hrow, hbW.trans (hb3.mono (by omega))⟩
end Go.Proofs.YtpkapcijgldhhaaGreatDoor

namespace Go.Proofs.YtpkapcijgldhhaaGreatDoor
open Go.RowKit
theorem digitsL_getD (m : List UInt8) (k : Nat) : (digitsL m).getD k 0 ≤ 15 := by
  rw [List.getD_eq_getElem?_getD]
  cases h : (digitsL m)[k]? with
  | none => decide
  | some x => exact digitsL_le m x (List.mem_of_getElem? h)
theorem nats_get (D : List Nat) (k : Nat) (h : k < D.length) : (nats D)[k]? = some (.int .i64 (D.getD k 0 : Nat)) := by
  unfold nats
  rw [List.getElem?_map, List.getElem?_eq_getElem h, List.getD_eq_getElem?_getD, List.getElem?_eq_getElem h]; rfl
end Go.Proofs.YtpkapcijgldhhaaGreatDoor

namespace Go.Proofs.YtpkapcijgldhhaaGreatDoor
open Go.RowKit
theorem node_any (a b : ByteArray) (w : World) (he : Env w) (ha : a.size ≤ 1073741824) (hb : b.size ≤ 1073741824) :
    Calls Tryz.prog 103 #[.string a, .string b] w (StrP (hashL [[110, 111, 100, 101], a.data.toList, b.data.toList]) w) := by
  have hb0 : ∀ cs, Below w.heap.size w (w.alloc (.cells cs 9)) := fun cs => (Below.refl _ w).alloc (Nat.le_refl _) _
  have ht : totS [⟨#[110, 111, 100, 101]⟩, a, b] ≤ 68719476736 := by rw [totS_cons, totS_cons, totS_cons, totS_nil]; show 10 + 4 + _ ≤ _; omega
  have hln := strsL_le [⟨#[110, 111, 100, 101]⟩, a, b] (by omega)
  have hst := Lib.hid (strings_any (.slice (some ⟨w.heap.size, 0, none⟩) 3 3) [⟨#[110, 111, 100, 101]⟩, a, b] (w.alloc (.cells #[.string ⟨#[110, 111, 100, 101]⟩, .string a, .string b] 9)) (he.below (hb0 _)) (strs_newH w _ _ _ 3 rfl rfl (by simp [maxLen])) (by omega))
  have H0 := Lib.hid (hb0 #[.string ⟨#[110, 111, 100, 101]⟩, .string a, .string b])
  clear hb0
  go_enter Tryz.func103, Tryz.ntmps103
  go_wp2_with fail
  refine hst.out.mono ?_
  rintro e w1 ⟨t, rfl, hts, hb1⟩
  have htz : t.data.toList.length ≤ 1099511627776 := by rw [hts.out]; omega
  have hb1' := H0.out.trans (hb1.mono (by simp))
  clear hst hln H0 hb1
  go_wp2_with fail
  refine (sum_any _ [t] _ (strs_newH w1 [t] _ _ _ rfl rfl (by simp [maxLen])) (by simp) (by rw [flat_one]; exact htz)).mono ?_
  rintro e w2 ⟨u, rfl, hus, hb2⟩
  have huz : (16 : Int) ≤ u.size := by rw [← toList_size, hus.out, sumB_length]; decide
  go_wp2_with fail
  go_ret
  refine ⟨_, rfl, ?_, (hb1'.alloc hb1'.size _).trans (hb2.mono (by have := hb1'.size; simp; omega))⟩
  rw [Hid, extract_list, hus.out, flat_one, hts.out, strsL_map]; rfl
end Go.Proofs.YtpkapcijgldhhaaGreatDoor

namespace Go.Proofs.YtpkapcijgldhhaaGreatDoor
open Go.RowKit
def nodeL (a b : List UInt8) : List UInt8 := hashL [[110, 111, 100, 101], a, b]
/-- v is a slice of strings in a row of strings -/
def OwnS (w : World) (v : Value) (l : List (List UInt8)) : Prop := w.ownsRow 0 9 1 v l.length ((l.map bA).map Value.string)
theorem OwnS.strs {w : World} {v : Value} {l : List (List UInt8)} (h : OwnS w v l) : Strs w v (l.map bA) := Row.of_owns h
theorem OwnS.below {w w' : World} {v : Value} {l : List (List UInt8)} (h : OwnS w v l) (hb : Below w.heap.size w w') : OwnS w' v l := owns_below h hb
theorem OwnS.others {w w' : World} {v : Value} {l : List (List UInt8)} {bo : Nat} {cs : Array Value} {fz : Nat × Nat} (h : OwnS w v l) (hbo : w.heap[bo]? = some (.cells cs 99 fz)) (ho : Lib.OthersKept 57 (some bo) w w') : OwnS w' v l := by
  refine ⟨h.1, h.2.imp id fun ⟨g, cap, cur, e1, e2, hg, r⟩ => ⟨g, cap, cur, e1, e2, ho g _ hg ?_ ?_, r⟩⟩
  · intro e
    rw [Option.some.inj e, hbo] at hg
    injection hg with h1
    injection h1 with _ h3 _
    revert h3; decide
  · intro c fz e
    injection e with _ h3 _
    revert h3; decide
/-- the slice values vs are the levels L -/
def LvlIs (w : World) (vs : List Value) (L : List (List (List UInt8))) : Prop := vs.length = L.length ∧ ∀ (i : Nat) (x : Value) (m : List (List UInt8)), vs[i]? = some x → L[i]? = some m → OwnS w x m
theorem LvlIs.others {w w' : World} {vs : List Value} {L : List (List (List UInt8))} {bo : Nat} {cs : Array Value} {fz : Nat × Nat} (h : LvlIs w vs L) (hbo : w.heap[bo]? = some (.cells cs 99 fz)) (ho : Lib.OthersKept 57 (some bo) w w') : LvlIs w' vs L :=
  ⟨h.1, fun i x m hx hm => (h.2 i x m hx hm).others hbo ho⟩
end Go.Proofs.YtpkapcijgldhhaaGreatDoor

namespace Go.Proofs.YtpkapcijgldhhaaGreatDoor
open Go.RowKit
theorem wrap_pow (h : Nat) (hh : h ≤ 6) : wrap64 ((2 : Int) ^ h) = ((2 ^ h : Nat) : Int) := by
  rcases h with _|_|_|_|_|_|_|h <;> first | (exfalso; omega; done) | decide +kernel
theorem pow_le (h : Nat) (hh : h ≤ 6) : 2 ^ h ≤ 64 := by
  rcases h with _|_|_|_|_|_|_|h <;> first | decide | omega
def RootP (l : List UInt8) (c : Int) (w : World) (e : Ending) (w' : World) : Prop := ∃ t : ByteArray, e = .returned (.tuple #[.string t, .int .i64 c]) ∧ Hid (t.data.toList = l) ∧ Below w.heap.size w w'
end Go.Proofs.YtpkapcijgldhhaaGreatDoor

namespace Go.Proofs.YtpkapcijgldhhaaGreatDoor
open Go.RowKit
/-- the ends of the first n chains, from a signature -/
def endsR (D : List Nat) (sig : List UInt8) : Nat → List (List UInt8)
  | 0 => []
  | i + 1 => endsR D sig i ++ [chainL ((sig.drop (16 * i)).take 16) (15 - D.getD i 0)]
def recoverL (m sig : List UInt8) : List UInt8 := if sig.length = 560 then hashL (lPublic :: endsR (digitsL m) sig 35) else []
def recoverE (sig : List UInt8) : Int := if sig.length = 560 then 0 else 4
theorem endsR_length (D : List Nat) (sig : List UInt8) : ∀ n, (endsR D sig n).length = n
  | 0 => rfl
  | n + 1 => by rw [endsR, List.length_append, endsR_length D sig n]; rfl
theorem chainL_le {x : List UInt8} (h : x.length ≤ 16) (n : Nat) : (chainL x n).length ≤ 16 := by
  cases n with
  | zero => exact h
  | succ n => rw [chainL, hashL_length]; exact Nat.le_refl _
theorem totS_endsR (D : List Nat) (sig : List UInt8) : ∀ n, totS ((endsR D sig n).map bA) ≤ 26 * n
  | 0 => Nat.le_refl _
  | n + 1 => by
    rw [endsR, List.map_append, List.map_cons, List.map_nil, totS_snoc]
    have := totS_endsR D sig n
    have : (bA (chainL ((sig.drop (16 * n)).take 16) (15 - D.getD n 0))).size ≤ 16 := chainL_le (by rw [List.length_take]; omega) _
    omega
set_option maxHeartbeats 1000000 in
set_option maxRecDepth 100000 in
theorem recover_any (m sig : ByteArray) (w : World) (he : Env w) (hm : m.size ≤ 1073741824) (hsg : sig.size ≤ 140737488355328) :
    Calls Tryz.prog 102 #[.string m, .string sig] w (RootP (recoverL m.data.toList sig.data.toList) (recoverE sig.data.toList) w) := by
  by_cases h5 : sig.size = 560
  case neg =>
    have e1 := Lib.hid (show recoverE sig.data.toList = 4 by rw [recoverE, if_neg (by rw [toList_size]; exact h5)])
    have e2 := Lib.hid (show recoverL m.data.toList sig.data.toList = [] by rw [recoverL, if_neg (by rw [toList_size]; exact h5)])
    rw [e1.out, e2.out]
    have hne : ((sig.size : Int) == 560) = false := by
      have : ¬ (sig.size : Int) = 560 := fun e => h5 (by omega)
      simpa using this
    have hne2 : ((sig.size : Int) != 560) = true := by rw [bne, hne]; rfl
    clear h5
    go_enter Tryz.func102, Tryz.ntmps102
    go_wp2_with fail
    go_ret2
    exact ⟨_, rfl, rfl, below_refl _⟩
  have e1 := Lib.hid (show recoverE sig.data.toList = 0 by rw [recoverE, if_pos (by rw [toList_size]; exact h5)])
  have e2 := Lib.hid (show recoverL m.data.toList sig.data.toList = hashL (lPublic :: endsR (digitsL m.data.toList) sig.data.toList 35) by rw [recoverL, if_pos (by rw [toList_size]; exact h5)])
  rw [e1.out, e2.out]
  have hne : ((sig.size : Int) == 560) = true := by
    have : (sig.size : Int) = 560 := by omega
    simpa using this
  have hne2 : ((sig.size : Int) != 560) = false := by rw [bne, hne]; rfl
  have hs1 : 560 ≤ sig.size := by omega
  have hs2 : sig.size ≤ 560 := by omega
  clear h5
  obtain ⟨i0, hi, hz0, hz1, hz2⟩ := info_parts infoStr
  have hdg := Lib.hid (digits_any m w he hm)
  go_enter Tryz.func102, Tryz.ntmps102
  go_wp2_with fail
  refine hdg.out.mono ?_
  rintro e w0 ⟨v, rfl, hrow, hb0⟩
  clear hdg
  obtain ⟨D, hD⟩ : ∃ D, digitsL m.data.toList = D := ⟨_, rfl⟩
  have hDl : D.length = 35 := by rw [← hD]; exact digitsL_length _
  have hDd : Hid (∀ k, D.getD k 0 ≤ 15) := by rw [← hD]; exact fun k => digitsL_getD _ k
  rw [hD] at hrow
  have HD := Lib.hid hD; clear hD
  obtain ⟨hrl, hrc⟩ := row_cases (Row.of_owns hrow)
  rw [nats_length, hDl] at hrc
  have HDL := Lib.hid hDl; clear hDl
  rcases hrc with ⟨hn, _⟩ | ⟨_, ba, oa, ca, rfl, hca, hca2, hcell⟩
  · exfalso; have := congrArg List.length hn; rw [nats_length, HDL.out] at this; cases this
  have hcl : Hid (∀ k, k < 35 → w0.cell? ⟨ba, oa + k, none⟩ = some (.int .i64 (D.getD k 0 : Nat))) := fun k hk => hcell k _ (nats_get D k (by rw [HDL.out]; exact hk))
  clear hcell hrow hrl
  go_wp2_with fail
  go_loopw [6, 15] (fun v i wr => ∃ k : Nat, k ≤ 35 ∧ i = .int .i64 k ∧ OwnStrs w0.heap.size wr v ((endsR D sig.data.toList k).map bA) ∧ Below w0.heap.size w0 wr) (fun _ i _ => 35 - (intOf i).toNat)
  case atStart => exact ⟨0, by omega, rfl, World.ownsRow_nil _ _ _ _, below_refl _⟩
  case round =>
    obtain ⟨k, hk2, rfl, hown, hbw⟩ := hrel
    by_cases hlt : k < 35
    · have ck : wr.cell? ⟨ba, oa + k, none⟩ = some (.int .i64 (D.getD k 0 : Nat)) := by
        have := hcl.out k hlt
        exact (hbw.cell (World.block_lt_of_cell? w0 _ this)).trans this
      obtain ⟨d, hd⟩ : ∃ d, D.getD k 0 = d := ⟨_, rfl⟩
      have hd15 : d ≤ 15 := by rw [← hd]; exact hDd.out k
      rw [hd] at ck
      have HDD := Lib.hid hd; clear hd
      obtain ⟨x, hx⟩ : ∃ x, sig.extract (k * 16) ((k + 1) * 16) = x := ⟨_, rfl⟩
      have hxl : Hid (x.data.toList = (sig.data.toList.drop (16 * k)).take 16) := by
        rw [Hid, ← hx, extract_list, show (k + 1) * 16 - k * 16 = 16 from by omega, show k * 16 = 16 * k from by omega]
      have hxs : x.size ≤ 16 := by rw [← toList_size, hxl.out, List.length_take]; omega
      have HX := Lib.hid hx
      clear hx
      have hwk := Lib.hid (fun W (hW : Env W) => walk_any x (15 - d) W hW (by omega) (by omega))
      go_wp2_with fail
      rw [HX.out, show (15 : Int) - (d : Int) = ((15 - d : Nat) : Int) from by omega]
      refine (hwk.out _ (he.below (step2 hb0 hbw))).mono ?_
      rintro e w2 ⟨u, rfl, hu, hb2⟩
      have hb12 := step2 hbw hb2
      have hown1 := hown.below hb2
      have hown1' : w2.ownsRow w0.heap.size 9 1 _ ((endsR D sig.data.toList k).map bA).length (((endsR D sig.data.toList k).map bA).map Value.string) := hown1
      have hln : ((endsR D sig.data.toList k).map bA).length = k := by rw [List.length_map, endsR_length]
      have hnx : ((endsR D sig.data.toList (k + 1)).map bA).map Value.string = ((endsR D sig.data.toList k).map bA).map Value.string ++ [.string u] := by
        rw [endsR, List.map_append, List.map_append, eq_bA hu.out, hxl.out, HDD.out]; rfl
      have hln2 : ((endsR D sig.data.toList (k + 1)).map bA).length = k + 1 := by rw [List.length_map, endsR_length]
      have HNX := Lib.hid hnx
      have HL2 := Lib.hid hln2
      rw [hln] at hown1'
      clear hln hnx hln2 hown1 hwk hown
      obtain ⟨xs, hxs2⟩ : ∃ xs, ((endsR D sig.data.toList k).map bA).map Value.string = xs := ⟨_, rfl⟩
      rw [hxs2] at hown1'
      have HXS := Lib.hid hxs2; clear hxs2
      go_wp2_with (at_builtin; refine wpList_append_own _ rfl _ _ 57 rfl w0.heap.size 9 i0 (.string ⟨#[]⟩) 1 16 Tryz.underlying57 hi hz0 hz1 hz2 rfl (by decide) _ _ _ rfl (hown1'.alloc _) ⟨w2.heap.size, 0, none⟩ 1 1 [.string u] rfl rfl (fun j x h => cell_str1 w2 u _ j x h) ?c2 ?c3 ?c4 ?c5 ?_)
      case c2 => intro x hx; simp only [List.mem_singleton] at hx; subst hx; rfl
      case c3 => unfold maxLen; omega
      case c4 => omega
      case c5 => have := hb12.size; simp; omega
      intro v' w3 hown2 hgrow _
      have hb3 := below_grownBy (hb12.alloc hb12.size _) (hown1'.alloc _) hgrow (by have := hb12.size; simp; omega)
      have hown3 : OwnStrs w0.heap.size w3 v' ((endsR D sig.data.toList (k + 1)).map bA) := by
        unfold OwnStrs
        rw [HL2.out, HNX.out, HXS.out]
        exact hown2
      clear hgrow hown2 hown1'
      go_wp2_with fail
      go_roundw
      case rel => exact ⟨k + 1, by omega, by go_num, hown3, hb3⟩
      case measure => simp [intOf]; omega
    · obtain rfl : k = 35 := by omega
      have hpb := Lib.hid (public_any _ (endsR D sig.data.toList 35) wr (he.below (step2 hb0 hbw)) hown.strs (by have := totS_endsR D sig.data.toList 35; omega))
      go_wp2_with fail
      refine hpb.out.mono ?_
      rintro e w1 ⟨t, rfl, hts, hb1⟩
      go_wp2_with fail
      go_ret2
      exact ⟨_, rfl, by rw [Hid, hts.out, HD.out], step2 (step2 hb0 hbw) hb1⟩
end Go.Proofs.YtpkapcijgldhhaaGreatDoor

namespace Go.Proofs.YtpkapcijgldhhaaGreatDoor
open Go.RowKit
theorem rdNum_next {l : List UInt8} {a : Nat} {n x : Int} (h : rdNum l a = (n, x, 0)) : ∃ m : Nat, x = m ∧ a < m ∧ m ≤ l.length ∧ -2147483648 ≤ n ∧ n ≤ 2147483647 := by
  by_cases ha : a ≤ l.length
  · rcases indexByte_cases (l.drop a) 32 with ⟨h1, _⟩ | ⟨k, h1, h2, _⟩
    · rw [rdNum_short ha (by rw [h1]; decide)] at h; simp at h
    · rw [List.length_drop] at h2
      cases hd : decB ((l.drop a).take k) with
      | false => rw [rdNum_syntax ha h1 hd] at h; simp at h
      | true =>
        by_cases hr : decVal ((l.drop a).take k) < -2147483648 ∨ 2147483647 < decVal ((l.drop a).take k)
        · rw [rdNum_range ha h1 hd hr] at h; simp at h
        · rw [rdNum_ok ha h1 hd (by omega) (by omega)] at h
          simp only [Prod.mk.injEq, and_true] at h
          exact ⟨a + k + 1, by omega, by omega, by omega, by omega, by omega⟩
  · rw [rdNum_arg (.inr (by omega))] at h; simp at h
theorem rdStr_le (l : List UInt8) (a : Nat) : (rdStr l a).1.length ≤ l.length := by
  by_cases ha : a ≤ l.length
  · rcases indexByte_cases (l.drop a) 58 with ⟨h1, _⟩ | ⟨k, h1, _⟩
    · rw [rdStr_short ha (by rw [h1]; decide)]; exact Nat.zero_le _
    · rw [rdStr_tail ha h1, rdStr.rdTail]
      split
      · exact Nat.zero_le _
      · split
        · exact Nat.zero_le _
        · split
          · exact Nat.zero_le _
          · simp only [List.length_take, List.length_drop]; omega
  · rw [rdStr_arg (.inr (by omega))]; exact Nat.zero_le _
theorem rdAll_le (l : List UInt8) : ∀ (f a : Nat) (acc : List (List UInt8)), (∀ x ∈ acc, x.length ≤ l.length) → ∀ x ∈ (rdAll f l a acc).1, x.length ≤ l.length := by
  intro f
  induction f with
  | zero => intro a acc h; exact h
  | succ f ih =>
    intro a acc h
    rw [rdAll]
    split
    · split
      · refine ih _ _ fun x hx => ?_
        rw [List.mem_append, List.mem_singleton] at hx
        rcases hx with hx | rfl
        · exact h x hx
        · exact rdStr_le l a
      · intro x hx; cases hx
    · exact h
theorem rdStrs_le (l : List UInt8) : ∀ x ∈ (rdStrs l).1, x.length ≤ l.length := rdAll_le l _ _ _ (fun x hx => by cases hx)
/-- the parts of a signature: the key's number, its strings -/
def parseL (l : List UInt8) : Option (Int × List (List UInt8)) :=
  if (rdNum l 0).2.2 ≠ 0 then none
  else if (rdNum l (rdNum l 0).2.1).2.2 ≠ 0 ∨ (rdNum l (rdNum l 0).2.1).1 < 0 ∨ 6 < (rdNum l (rdNum l 0).2.1).1 ∨ (rdNum l 0).1 < 0 ∨ ((2 ^ (rdNum l (rdNum l 0).2.1).1.toNat : Nat) : Int) ≤ (rdNum l 0).1 then none
  else if (rdStrs (l.drop (rdNum l (rdNum l 0).2.1).2.1.toNat)).2 = 0 ∧ ((rdStrs (l.drop (rdNum l (rdNum l 0).2.1).2.1.toNat)).1.length : Int) = (rdNum l (rdNum l 0).2.1).1 + 1 then
    some ((rdNum l 0).1, (rdStrs (l.drop (rdNum l (rdNum l 0).2.1).2.1.toNat)).1)
  else none
theorem parseL_1 {l : List UInt8} {k a e : Int} (h : rdNum l 0 = (k, a, e)) (he : e ≠ 0) : parseL l = none := by rw [parseL, h, if_pos he]
theorem parseL_2 {l : List UInt8} {k a h b f : Int} (h1 : rdNum l 0 = (k, a, 0)) (h2 : rdNum l a = (h, b, f)) (hf : f ≠ 0 ∨ h < 0 ∨ 6 < h ∨ k < 0 ∨ ((2 ^ h.toNat : Nat) : Int) ≤ k) : parseL l = none := by
  rw [parseL, h1, if_neg (by simp)]; simp only; rw [h2, if_pos hf]
theorem parseL_3 {l : List UInt8} {k a h b e : Int} {p : List (List UInt8)} (h1 : rdNum l 0 = (k, a, 0)) (h2 : rdNum l a = (h, b, 0)) (hf : ¬ (h < 0 ∨ 6 < h ∨ k < 0 ∨ ((2 ^ h.toNat : Nat) : Int) ≤ k))
    (h3 : rdStrs (l.drop b.toNat) = (p, e)) : parseL l = if e = 0 ∧ (p.length : Int) = h + 1 then some (k, p) else none := by
  rw [parseL, h1, if_neg (by simp)]; simp only
  rw [h2, if_neg (by simp only [ne_eq, not_true_eq_false, false_or]; exact hf), h3]
theorem parseL_some {l : List UInt8} {k : Int} {p : List (List UInt8)} (h : parseL l = some (k, p)) : 0 ≤ k ∧ k < 64 ∧ 1 ≤ p.length ∧ p.length ≤ 7 ∧ (k : Int) < (2 ^ (p.length - 1) : Nat) := by
  unfold parseL at h
  split at h
  · cases h
  · split at h
    · cases h
    · rename_i h1 h2
      split at h
      · rename_i h3
        simp only [Option.some.injEq, Prod.mk.injEq] at h
        obtain ⟨rfl, rfl⟩ := h
        generalize (rdStrs (l.drop (rdNum l (rdNum l 0).2.1).2.1.toNat)).1.length = z at *
        generalize (rdNum l (rdNum l 0).2.1).1 = hh at *
        generalize (rdNum l 0).1 = kk at *
        obtain ⟨n, rfl⟩ := Int.eq_ofNat_of_zero_le (show 0 ≤ hh by omega)
        have hn : n ≤ 6 := by omega
        have hp := pow_le n hn
        obtain rfl : z = n + 1 := by omega
        rw [Int.toNat_natCast] at h2
        rw [Nat.add_sub_cancel]
        omega
      · cases h
theorem parseL_le {l : List UInt8} {k : Int} {p : List (List UInt8)} (h : parseL l = some (k, p)) : ∀ x ∈ p, x.length ≤ l.length := by
  unfold parseL at h
  split at h
  · cases h
  · split at h
    · cases h
    · split at h
      · simp only [Option.some.injEq, Prod.mk.injEq] at h
        obtain ⟨_, rfl⟩ := h
        intro x hx
        have := rdStrs_le _ x hx
        rw [List.length_drop] at this
        omega
      · cases h
/-- up the path: what stands at the root, or nothing where a node has another length -/
def climb (key : Nat) : List (List UInt8) → Nat → List UInt8 → Option (List UInt8)
  | [], _, a => some a
  | o :: r, i, a => if o.length = 16 then climb key r (i + 1) (if key / 2 ^ i % 2 = 0 then nodeL a o else nodeL o a) else none
def verifyL (root m sig : List UInt8) : Int × Int :=
  match parseL sig with
  | none => (0, 17)
  | some (key, parts) =>
    if recoverE (parts.getD 0 []) = 0 then
      match climb key.toNat (parts.drop 1) 0 (recoverL m (parts.getD 0 [])) with
      | none => (0, 17)
      | some a => if a = root then (key, 0) else (0, 17)
    else (0, 17)
theorem verifyL_none {root m sig : List UInt8} (h : parseL sig = none) : verifyL root m sig = (0, 17) := by rw [verifyL, h]
theorem verifyL_short {root m sig : List UInt8} {k : Int} {p : List (List UInt8)} (h : parseL sig = some (k, p)) (hr : recoverE (p.getD 0 []) ≠ 0) : verifyL root m sig = (0, 17) := by rw [verifyL, h]; simp only; rw [if_neg hr]
theorem verifyL_path {root m sig : List UInt8} {k : Int} {p : List (List UInt8)} (h : parseL sig = some (k, p)) (hr : recoverE (p.getD 0 []) = 0) (hc : climb k.toNat (p.drop 1) 0 (recoverL m (p.getD 0 [])) = none) : verifyL root m sig = (0, 17) := by rw [verifyL, h]; simp only; rw [if_pos hr, hc]
theorem verifyL_root {root m sig a : List UInt8} {k : Int} {p : List (List UInt8)} (h : parseL sig = some (k, p)) (hr : recoverE (p.getD 0 []) = 0) (hc : climb k.toNat (p.drop 1) 0 (recoverL m (p.getD 0 [])) = some a) :
    verifyL root m sig = if a = root then (k, 0) else (0, 17) := by rw [verifyL, h]; simp only; rw [if_pos hr, hc]
end Go.Proofs.YtpkapcijgldhhaaGreatDoor
