/-
  Recover: the public key of a signature, in the program and in the reference.
  Verify, as a plain function: the parts of a signature, the path to the root. No program in sight.
-/
import Derived.Test.YtpkapcijgldhhaaGreatDoorCa28
import Derived.Deep.CutBlock
import Derived.Deep.CutRange
namespace Go.Proofs.YtpkapcijgldhhaaGreatDoor
open Go.RowKit
/-- the ends of the first n chains, from a signature -/
def endsR (D : List Nat) (sig : List UInt8) : Nat → List (List UInt8)
  | 0 => []
  | i + 1 => endsR D sig i ++ [chainL ((sig.drop (16 * i)).take 16) (15 - D.getD i 0)]
def recoverL (m sig : List UInt8) : List UInt8 := if sig.length = 560 then hashL (lPublic :: endsR (digitsL m) sig 35) else []
def recoverE (sig : List UInt8) : Int := if sig.length = 560 then 0 else 4
theorem endsR_length (D : List Nat) (sig : List UInt8) : ∀ n, (endsR D sig n).length = n
  | 0 => rfl
  | n + 1 => by rw [endsR, List.length_append, endsR_length D sig n]; rfl
theorem chainL_le {x : List UInt8} (h : x.length ≤ 16) (n : Nat) : (chainL x n).length ≤ 16 := by
  cases n with
  | zero => exact h
  | succ n => rw [chainL, hashL_length]; exact Nat.le_refl _
theorem totS_endsR (D : List Nat) (sig : List UInt8) : ∀ n, totS ((endsR D sig n).map bA) ≤ 26 * n
  | 0 => Nat.le_refl _
  | n + 1 => by
    rw [endsR, List.map_append, List.map_cons, List.map_nil, totS_snoc]
    have := totS_endsR D sig n
    have : (bA (chainL ((sig.drop (16 * n)).take 16) (15 - D.getD n 0))).size ≤ 16 := chainL_le (by rw [List.length_take]; omega) _
    omega
set_option maxHeartbeats 1000000 in
set_option maxRecDepth 100000 in
theorem recover_any (m sig : ByteArray) (w : World) (he : Env w) (hm : m.size ≤ 1073741824) (hsg : sig.size ≤ 140737488355328) :
    Calls Tryz.prog 102 #[.string m, .string sig] w (RootP (recoverL m.data.toList sig.data.toList) (recoverE sig.data.toList) w) := by
  by_cases h5 : sig.size = 560
  case neg =>
    have e1 := Lib.hid (show recoverE sig.data.toList = 4 by rw [recoverE, if_neg (by rw [toList_size]; exact h5)])
    have e2 := Lib.hid (show recoverL m.data.toList sig.data.toList = [] by rw [recoverL, if_neg (by rw [toList_size]; exact h5)])
    rw [e1.out, e2.out]
    have hne : ((sig.size : Int) == 560) = false := by
      have : ¬ (sig.size : Int) = 560 := fun e => h5 (by omega)
      simpa using this
    have hne2 : ((sig.size : Int) != 560) = true := by rw [bne, hne]; rfl
    clear h5
    go_enter Tryz.func102, Tryz.ntmps102
    go_wp2_with fail
    go_ret2
    exact ⟨_, rfl, rfl, below_refl _⟩
  have e1 := Lib.hid (show recoverE sig.data.toList = 0 by rw [recoverE, if_pos (by rw [toList_size]; exact h5)])
  have e2 := Lib.hid (show recoverL m.data.toList sig.data.toList = hashL (lPublic :: endsR (digitsL m.data.toList) sig.data.toList 35) by rw [recoverL, if_pos (by rw [toList_size]; exact h5)])
  rw [e1.out, e2.out]
  have hne : ((sig.size : Int) == 560) = true := by
    have : (sig.size : Int) = 560 := by omega
    simpa using this
  have hne2 : ((sig.size : Int) != 560) = false := by rw [bne, hne]; rfl
  have hs1 : 560 ≤ sig.size := by omega
  have hs2 : sig.size ≤ 560 := by omega
  clear h5
  obtain ⟨i0, hi, hz0, hz1, hz2⟩ := info_parts infoStr
  have hdg := Lib.hid (digits_any m w he hm)
  go_enter Tryz.func102, Tryz.ntmps102
  go_wp2_with fail
  refine hdg.out.mono ?_
  rintro e w0 ⟨v, rfl, hrow, hb0⟩
  clear hdg
  obtain ⟨D, hD⟩ : ∃ D, digitsL m.data.toList = D := ⟨_, rfl⟩
  have hDl : D.length = 35 := by rw [← hD]; exact digitsL_length _
  have hDd : Hid (∀ k, D.getD k 0 ≤ 15) := by rw [← hD]; exact fun k => digitsL_getD _ k
  rw [hD] at hrow
  have HD := Lib.hid hD; clear hD
  obtain ⟨hrl, hrc⟩ := row_cases (Row.of_owns hrow)
  rw [nats_length, hDl] at hrc
  have HDL := Lib.hid hDl; clear hDl
  rcases hrc with ⟨hn, _⟩ | ⟨_, ba, oa, ca, rfl, hca, hca2, hcell⟩
  · exfalso; have := congrArg List.length hn; rw [nats_length, HDL.out] at this; cases this
  have hcl : Hid (∀ k, k < 35 → w0.cell? ⟨ba, oa + k, none⟩ = some (.int .i64 (D.getD k 0 : Nat))) := fun k hk => hcell k _ (nats_get D k (by rw [HDL.out]; exact hk))
  clear hcell hrow hrl
  go_wp2_with fail
  go_loopw [6, 15] (fun v i wr => ∃ k : Nat, k ≤ 35 ∧ i = .int .i64 k ∧ OwnStrs w0.heap.size wr v ((endsR D sig.data.toList k).map bA) ∧ Below w0.heap.size w0 wr) (fun _ i _ => 35 - (intOf i).toNat)
  case atStart => exact ⟨0, by omega, rfl, World.ownsRow_nil _ _ _ _, below_refl _⟩
  case round =>
    obtain ⟨k, hk2, rfl, hown, hbw⟩ := hrel
    by_cases hlt : k < 35
    · have ck : wr.cell? ⟨ba, oa + k, none⟩ = some (.int .i64 (D.getD k 0 : Nat)) := by
        have := hcl.out k hlt
        exact (hbw.cell (World.block_lt_of_cell? w0 _ this)).trans this
      obtain ⟨d, hd⟩ : ∃ d, D.getD k 0 = d := ⟨_, rfl⟩
      have hd15 : d ≤ 15 := by rw [← hd]; exact hDd.out k
      rw [hd] at ck
      have HDD := Lib.hid hd; clear hd
      obtain ⟨x, hx⟩ : ∃ x, sig.extract (k * 16) ((k + 1) * 16) = x := ⟨_, rfl⟩
      have hxl : Hid (x.data.toList = (sig.data.toList.drop (16 * k)).take 16) := by
        rw [Hid, ← hx, extract_list, show (k + 1) * 16 - k * 16 = 16 from by omega, show k * 16 = 16 * k from by omega]
      have hxs : x.size ≤ 16 := by rw [← toList_size, hxl.out, List.length_take]; omega
      have HX := Lib.hid hx
      clear hx
      have hwk := Lib.hid (fun W (hW : Env W) => walk_any x (15 - d) W hW (by omega) (by omega))
      go_wp2_with fail
      rw [HX.out, show (15 : Int) - (d : Int) = ((15 - d : Nat) : Int) from by omega]
      refine (hwk.out _ (he.below (step2 hb0 hbw))).mono ?_
      rintro e w2 ⟨u, rfl, hu, hb2⟩
      have hb12 := step2 hbw hb2
      have hown1 := hown.below hb2
      have hown1' : w2.ownsRow w0.heap.size 9 1 _ ((endsR D sig.data.toList k).map bA).length (((endsR D sig.data.toList k).map bA).map Value.string) := hown1
      have hln : ((endsR D sig.data.toList k).map bA).length = k := by rw [List.length_map, endsR_length]
      have hnx : ((endsR D sig.data.toList (k + 1)).map bA).map Value.string = ((endsR D sig.data.toList k).map bA).map Value.string ++ [.string u] := by
        rw [endsR, List.map_append, List.map_append, eq_bA hu.out, hxl.out, HDD.out]; rfl
      have hln2 : ((endsR D sig.data.toList (k + 1)).map bA).length = k + 1 := by rw [List.length_map, endsR_length]
      have HNX := Lib.hid hnx
      have HL2 := Lib.hid hln2
      rw [hln] at hown1'
      clear hln hnx hln2 hown1 hwk hown
      obtain ⟨xs, hxs2⟩ : ∃ xs, ((endsR D sig.data.toList k).map bA).map Value.string = xs := ⟨_, rfl⟩
      rw [hxs2] at hown1'
      have HXS := Lib.hid hxs2; clear hxs2
      go_wp2_with (at_builtin; refine wpList_append_own _ rfl _ _ 57 rfl w0.heap.size 9 i0 (.string ⟨#[]⟩) 1 16 Tryz.underlying57 hi hz0 hz1 hz2 rfl (by decide) _ _ _ rfl (hown1'.alloc _) ⟨w2.heap.size, 0, none⟩ 1 1 [.string u] rfl rfl (fun j x h => cell_str1 w2 u _ j x h) ?c2 ?c3 ?c4 ?c5 ?_)
      case c2 => intro x hx; simp only [List.mem_singleton] at hx; subst hx; rfl
      case c3 => unfold maxLen; omega
      case c4 => omega
      case c5 => have := hb12.size; simp; omega
      intro v' w3 hown2 hgrow _
      have hb3 := below_grownBy (hb12.alloc hb12.size _) (hown1'.alloc _) hgrow (by have := hb12.size; simp; omega)
      have hown3 : OwnStrs w0.heap.size w3 v' ((endsR D sig.data.toList (k + 1)).map bA) := by
        unfold OwnStrs
        rw [HL2.out, HNX.out, HXS.out]
        exact hown2
      clear hgrow hown2 hown1'
      go_wp2_with fail
      go_roundw
      case rel => exact ⟨k + 1, by omega, by go_num, hown3, hb3⟩
      case measure => simp [intOf]; omega
    · obtain rfl : k = 35 := by omega
      have hpb := Lib.hid (public_any _ (endsR D sig.data.toList 35) wr (he.below (step2 hb0 hbw)) hown.strs (by have := totS_endsR D sig.data.toList 35; omega))
      go_wp2_with fail
      refine hpb.out.mono ?_
      rintro e w1 ⟨t, rfl, hts, hb1⟩
      go_wp2_with fail
      go_ret2
      exact ⟨_, rfl, by rw [Hid, hts.out, HD.out], step2 (step2 hb0 hbw) hb1⟩
end Go.Proofs.YtpkapcijgldhhaaGreatDoor

namespace Go.Proofs.YtpkapcijgldhhaaGreatDoor
open Go.RowKit
theorem rdNum_next {l : List UInt8} {a : Nat} {n x : Int} (h : rdNum l a = (n, x, 0)) : ∃ m : Nat, x = m ∧ a < m ∧ m ≤ l.length ∧ -2147483648 ≤ n ∧ n ≤ 2147483647 := by
  by_cases ha : a ≤ l.length
  · rcases indexByte_cases (l.drop a) 32 with ⟨h1, _⟩ | ⟨k, h1, h2, _⟩
    · rw [rdNum_short ha (by rw [h1]; decide)] at h; simp at h
    · rw [List.length_drop] at h2
      cases hd : decB ((l.drop a).take k) with
      | false => rw [rdNum_syntax ha h1 hd] at h; simp at h
      | true =>
        by_cases hr : decVal ((l.drop a).take k) < -2147483648 ∨ 2147483647 < decVal ((l.drop a).take k)
        · rw [rdNum_range ha h1 hd hr] at h; simp at h
        · rw [rdNum_ok ha h1 hd (by omega) (by omega)] at h
          simp only [Prod.mk.injEq, and_true] at h
          exact ⟨a + k + 1, by omega, by omega, by omega, by omega, by omega⟩
  · rw [rdNum_arg (.inr (by omega))] at h; simp at h
theorem rdStr_le (l : List UInt8) (a : Nat) : (rdStr l a).1.length ≤ l.length := by
  by_cases ha : a ≤ l.length
  · rcases indexByte_cases (l.drop a) 58 with ⟨h1, _⟩ | ⟨k, h1, _⟩
    · rw [rdStr_short ha (by rw [h1]; decide)]; exact Nat.zero_le _
    · rw [rdStr_tail ha h1, rdStr.rdTail]
      split
      · exact Nat.zero_le _
      · split
        · exact Nat.zero_le _
        · split
          · exact Nat.zero_le _
          · simp only [List.length_take, List.length_drop]; omega
  · rw [rdStr_arg (.inr (by omega))]; exact Nat.zero_le _
theorem rdAll_le (l : List UInt8) : ∀ (f a : Nat) (acc : List (List UInt8)), (∀ x ∈ acc, x.length ≤ l.length) → ∀ x ∈ (rdAll f l a acc).1, x.length ≤ l.length := by
  intro f
  induction f with
  | zero => intro a acc h; exact h
  | succ f ih =>
    intro a acc h
    rw [rdAll]
    split
    · split
      · refine ih _ _ fun x hx => ?_
        rw [List.mem_append, List.mem_singleton] at hx
        rcases hx with hx | rfl
        · exact h x hx
        · exact rdStr_le l a
      · intro x hx; cases hx
    · exact h
theorem rdStrs_le (l : List UInt8) : ∀ x ∈ (rdStrs l).1, x.length ≤ l.length := rdAll_le l _ _ _ (fun x hx => by cases hx)
/-- the parts of a signature: the key's number, its strings -/
def parseL (l : List UInt8) : Option (Int × List (List UInt8)) :=
  if (rdNum l 0).2.2 ≠ 0 then none
  else if (rdNum l (rdNum l 0).2.1).2.2 ≠ 0 ∨ (rdNum l (rdNum l 0).2.1).1 < 0 ∨ 6 < (rdNum l (rdNum l 0).2.1).1 ∨ (rdNum l 0).1 < 0 ∨ ((2 ^ (rdNum l (rdNum l 0).2.1).1.toNat : Nat) : Int) ≤ (rdNum l 0).1 then none
  else if (rdStrs (l.drop (rdNum l (rdNum l 0).2.1).2.1.toNat)).2 = 0 ∧ ((rdStrs (l.drop (rdNum l (rdNum l 0).2.1).2.1.toNat)).1.length : Int) = (rdNum l (rdNum l 0).2.1).1 + 1 then
    some ((rdNum l 0).1, (rdStrs (l.drop (rdNum l (rdNum l 0).2.1).2.1.toNat)).1)
  else none
theorem parseL_1 {l : List UInt8} {k a e : Int} (h : rdNum l 0 = (k, a, e)) (he : e ≠ 0) : parseL l = none := by rw [parseL, h, if_pos he]
theorem parseL_2 {l : List UInt8} {k a h b f : Int} (h1 : rdNum l 0 = (k, a, 0)) (h2 : rdNum l a = (h, b, f)) (hf : f ≠ 0 ∨ h < 0 ∨ 6 < h ∨ k < 0 ∨ ((2 ^ h.toNat : Nat) : Int) ≤ k) : parseL l = none := by
  rw [parseL, h1, if_neg (by simp)]; simp only; rw [h2, if_pos hf]
theorem parseL_3 {l : List UInt8} {k a h b e : Int} {p : List (List UInt8)} (h1 : rdNum l 0 = (k, a, 0)) (h2 : rdNum l a = (h, b, 0)) (hf : ¬ (h < 0 ∨ 6 < h ∨ k < 0 ∨ ((2 ^ h.toNat : Nat) : Int) ≤ k))
    (h3 : rdStrs (l.drop b.toNat) = (p, e)) : parseL l = if e = 0 ∧ (p.length : Int) = h + 1 then some (k, p) else none := by
  rw [parseL, h1, if_neg (by simp)]; simp only
  rw [h2, if_neg (by simp only [ne_eq, not_true_eq_false, false_or]; exact hf), h3]
theorem parseL_some {l : List UInt8} {k : Int} {p : List (List UInt8)} (h : parseL l = some (k, p)) : 0 ≤ k ∧ k < 64 ∧ 1 ≤ p.length ∧ p.length ≤ 7 ∧ (k : Int) < (2 ^ (p.length - 1) : Nat) := by
  unfold parseL at h
  split at h
  · cases h
  · split at h
    · cases h
    · rename_i h1 h2
      split at h
      · rename_i h3
        simp only [Option.some.injEq, Prod.mk.injEq] at h
        obtain ⟨rfl, rfl⟩ := h
        generalize (rdStrs (l.drop (rdNum l (rdNum l 0).2.1).2.1.toNat)).1.length = z at *
        generalize (rdNum l (rdNum l 0).2.1).1 = hh at *
        generalize (rdNum l 0).1 = kk at *
        obtain ⟨n, rfl⟩ := Int.eq_ofNat_of_zero_le (show 0 ≤ hh by omega)
        have hn : n ≤ 6 := by omega
        have hp := pow_le n hn
        obtain rfl : z = n + 1 := by omega
        rw [Int.toNat_natCast] at h2
        rw [Nat.add_sub_cancel]
        omega
      · cases h
theorem parseL_le {l : List UInt8} {k : Int} {p : List (List UInt8)} (h : parseL l = some (k, p)) : ∀ x ∈ p, x.length ≤ l.length := by
  unfold parseL at h
  split at h
  · cases h
  · split at h
    · cases h
    · split at h
      · simp only [Option.some.injEq, Prod.mk.injEq] at h
        obtain ⟨_, rfl⟩ := h
        intro x hx
        have := rdStrs_le _ x hx
        rw [List.length_drop] at this
        omega
      · cases h
/-- up the path: what stands at the root, or nothing where a node has another length -/
def climb (key : Nat) : List (List UInt8) → Nat → List UInt8 → Option (List UInt8)
  | [], _, a => some a
  | o :: r, i, a => if o.length = 16 then climb key r (i + 1) (if key / 2 ^ i % 2 = 0 then nodeL a o else nodeL o a) else none
def verifyL (root m sig : List UInt8) : Int × Int :=
  match parseL sig with
  | none => (0, 17)
  | some (key, parts) =>
    if recoverE (parts.getD 0 []) = 0 then
      match climb key.toNat (parts.drop 1) 0 (recoverL m (parts.getD 0 [])) with
      | none => (0, 17)
      | some a => if a = root then (key, 0) else (0, 17)
    else (0, 17)
theorem verifyL_none {root m sig : List UInt8} (h : parseL sig = none) : verifyL root m sig = (0, 17) := by rw [verifyL, h]
theorem verifyL_short {root m sig : List UInt8} {k : Int} {p : List (List UInt8)} (h : parseL sig = some (k, p)) (hr : recoverE (p.getD 0 []) ≠ 0) : verifyL root m sig = (0, 17) := by rw [verifyL, h]; simp only; rw [if_neg hr]
theorem verifyL_path {root m sig : List UInt8} {k : Int} {p : List (List UInt8)} (h : parseL sig = some (k, p)) (hr : recoverE (p.getD 0 []) = 0) (hc : climb k.toNat (p.drop 1) 0 (recoverL m (p.getD 0 [])) = none) : verifyL root m sig = (0, 17) := by rw [verifyL, h]; simp only; rw [if_pos hr, hc]
theorem verifyL_root {root m sig a : List UInt8} {k : Int} {p : List (List UInt8)} (h : parseL sig = some (k, p)) (hr : recoverE (p.getD 0 []) = 0) (hc : climb k.toNat (p.drop 1) 0 (recoverL m (p.getD 0 [])) = some a) :
    verifyL root m sig = if a = root then (k, 0) else (0, 17) := by rw [verifyL, h]; simp only; rw [if_pos hr, hc]
end Go.Proofs.YtpkapcijgldhhaaGreatDoor
