/-
  parse, Verify: walked, in the program and in the reference.
  A directory text is accepted: the reference.
  A directory text is accepted: the program.
  The directory of a session out of frames, in the reference.
  The directory of a session out of frames, in the program.
-/
import Derived.Test.YtpkapcijgldhhaaGreatDoorCe18
import Derived.Deep.CutBlock
import Derived.Deep.CutRange
import Derived.Test.YtpkapcijgldhhaaGreatDoorCe27
import Derived.Test.YtpkapcijgldhhaaGreatDoorCe24
import Derived.Deep.Cut
import Derived.BigRegion
import Derived.Deep.RegionHeld3
import Derived.Test.YtpkapcijgldhhaaGreatDoorCe19
import Derived.Test.YtpkapcijgldhhaaGreatDoorCe06
import Derived.Test.YtpkapcijgldhhaaGreatDoorCe10
import Derived.Test.YtpkapcijgldhhaaGreatDoorCe17
import Derived.Test.YtpkapcijgldhhaaGreatDoorCe31
import Derived.Test.YtpkapcijgldhhaaGreatDoorCe29
import Derived.Test.YtpkapcijgldhhaaGreatDoorCe30
namespace Go.Proofs.YtpkapcijgldhhaaGreatDoor
open Go.RowKit
theorem OwnStrs.form' {base : Nat} {w : World} {v : Value} {p : List ByteArray} (h : OwnStrs base w v p) : p.length ≤ maxLen ∧ ∃ a c, v = .slice a p.length c := by
  obtain ⟨h1, h2⟩ := row_cases h.strs
  simp only [List.length_map] at h1 h2
  refine ⟨h1, ?_⟩
  rcases h2 with ⟨h0, a, c, rfl, _⟩ | ⟨_, b, o, c, rfl, _⟩
  · obtain rfl : p = [] := by simpa using h0
    exact ⟨a, c, rfl⟩
  · exact ⟨_, _, rfl⟩
def ParseP (l : List UInt8) (w : World) (e : Ending) (w' : World) : Prop :=
  ∃ (key : Int) (v : Value) (k : List ByteArray) (ok : Bool), e = .returned (.tuple #[.int .i64 key, v, .bool ok]) ∧ OwnStrs w.heap.size w' v k ∧ Hid (ok = true → parseL l = some (key, k.map fun s => s.data.toList)) ∧ Hid (ok = false → parseL l = none) ∧ Below w.heap.size w w'
theorem ParseP.no {l : List UInt8} {w w' : World} (h : parseL l = none) (hb : Below w.heap.size w w') : ParseP l w (.returned (.tuple #[.int .i64 0, .slice none 0 0, .bool false])) w' :=
  ⟨0, .slice none 0 0, [], false, rfl, World.ownsRow_nil _ _ _ _, (fun e => by cases e), fun _ => h, hb⟩
theorem neq0V {x : Int} (h : ¬ x = 0) : (x == 0) = false ∧ (x != 0) = true := by
  have : (x == 0) = false := by simpa using h
  exact ⟨this, by rw [bne, this]; rfl⟩
set_option maxHeartbeats 1000000 in
set_option maxRecDepth 100000 in
theorem parse_any (s : ByteArray) (w : World) (he : Env w) (hs : s.size ≤ 1099511627776) :
    Calls Tryz.prog 101 #[.string s] w (ParseP s.data.toList w) := by
  go_enter Tryz.func101, Tryz.ntmps101
  go_wp2_with fail
  refine (readNumber_any s 0 _ (by omega) he).mono ?_
  rintro e w1 ⟨k, a, x, rfl, h1, hb1⟩
  by_cases hx : x = 0
  case neg =>
    obtain ⟨x1, x2⟩ := neq0V hx
    have hp := Lib.hid (parseL_1 h1.out hx)
    clear hx h1
    go_wp2_with fail
    go_ret3
    exact .no hp.out hb1
  subst hx
  obtain ⟨a, rfl, ha0, ha1, hk0, hk1⟩ := rdNum_next (a := 0) h1.out
  rw [toList_size] at ha1
  go_wp2_with fail
  refine (readNumber_any s a _ (by omega) (he.below hb1)).mono ?_
  rintro e w2 ⟨h, b, y, rfl, h2, hb2⟩
  have hb12 := step2 hb1 hb2
  by_cases hy : y = 0
  case neg =>
    obtain ⟨x1, x2⟩ := neq0V hy
    have hp := Lib.hid (parseL_2 h1.out h2.out (.inl hy))
    clear hy h1 h2
    go_wp2_with fail
    go_ret3
    exact .no hp.out hb12
  subst hy
  by_cases h0 : h < 0
  · have hp := Lib.hid (parseL_2 h1.out h2.out (.inr (.inl h0)))
    clear h1 h2
    go_wp2_with fail
    go_ret3
    exact .no hp.out hb12
  by_cases h6 : 6 < h
  · have hp := Lib.hid (parseL_2 h1.out h2.out (.inr (.inr (.inl h6))))
    clear h1 h2
    have h0' : 0 ≤ h := by omega
    go_wp2_with fail
    go_ret3
    exact .no hp.out hb12
  obtain ⟨n, rfl⟩ := Int.eq_ofNat_of_zero_le (Int.not_lt.1 h0)
  have hn : n ≤ 6 := by omega
  by_cases k0 : k < 0
  · have hp := Lib.hid (parseL_2 h1.out h2.out (.inr (.inr (.inr (.inl k0)))))
    clear h1 h2 h0 h6
    go_wp2_with fail
    go_ret3
    exact .no hp.out hb12
  have hwp := wrap_pow n hn
  have hpl := pow_le n hn
  by_cases k1 : (2 ^ n : Nat) ≤ k
  · have hp := Lib.hid (parseL_2 h1.out h2.out (.inr (.inr (.inr (.inr k1)))))
    obtain ⟨N, hN⟩ : ∃ N, 2 ^ n = N := ⟨_, rfl⟩
    rw [hN] at hwp hpl k1
    have k0' : 0 ≤ k := by omega
    clear h1 h2 h0 h6 hN
    go_wp2_with fail
    go_ret3
    exact .no hp.out hb12
  obtain ⟨b, rfl, hb0, hbs, _⟩ := rdNum_next (a := a) h2.out
  rw [toList_size] at hbs
  have H3 := Lib.hid (show ∀ p e, rdStrs (s.data.toList.drop b) = (p, e) → parseL s.data.toList = if e = 0 ∧ (p.length : Int) = n + 1 then some (k, p) else none from
    fun p e h3 => parseL_3 h1.out h2.out (by rw [Int.toNat_natCast]; omega) (by rw [Int.toNat_natCast]; exact h3))
  obtain ⟨N, hN⟩ : ∃ N, 2 ^ n = N := ⟨_, rfl⟩
  rw [hN] at hwp hpl k1
  clear h1 h2 h0 h6 hN ha0 ha1
  obtain ⟨t, ht⟩ : ∃ t, s.extract b s.size = t := ⟨_, rfl⟩
  have htl : Hid (t.data.toList = s.data.toList.drop b) := by
    rw [Hid, ← ht, extract_list, List.take_of_length_le]
    rw [List.length_drop, toList_size]; exact Nat.le_refl _
  have hts : t.size ≤ 1099511627776 := by rw [← ht, ByteArray.size_extract]; omega
  have hrd := Lib.hid (readStrings_any t w2 (he.below hb12) hts)
  go_wp2_with fail
  refine hrd.out.mono ?_
  rintro e w3 ⟨v, p, x, rfl, h3, hown, hb3⟩
  have hb13 := step2 hb12 hb3
  have h4 := H3.out (p.map fun s => s.data.toList) x (by rw [← htl.out]; exact h3.out)
  rw [List.length_map] at h4
  have hown3 : OwnStrs w.heap.size w3 v p := by
    obtain ⟨q1, q2⟩ := hown
    exact ⟨q1, q2.imp id fun ⟨g, cap, cur, e1, hg, r⟩ => ⟨g, cap, cur, e1, by have := hb12.size; omega, r⟩⟩
  obtain ⟨hpm, fa, fc, hv⟩ := hown3.form'
  unfold maxLen at hpm
  rw [hv]
  rw [hv] at hown3
  have H4 := Lib.hid h4
  have HT := Lib.hid ht
  clear h3 hown h4 H3 ht hv hrd
  by_cases hx : x = 0
  case neg =>
    obtain ⟨x1, x2⟩ := neq0V hx
    have hp := Lib.hid (show parseL s.data.toList = none by rw [H4.out, if_neg (fun h => hx h.1)])
    clear hx
    go_wp2_with fail
    go_ret3
    exact ⟨_, _, p, false, rfl, hown3, (fun e => by cases e), fun _ => hp.out, hb13⟩
  subst hx
  by_cases hl : p.length = n + 1
  · have hp := Lib.hid (show parseL s.data.toList = some (k, p.map fun s => s.data.toList) by rw [H4.out, if_pos ⟨rfl, by omega⟩])
    have hq : ((p.length : Int) == (n : Int) + 1) = true := by simp; omega
    clear hl
    go_wp2_with fail
    go_ret3
    exact ⟨_, _, p, true, rfl, hown3, fun _ => hp.out, (fun e => by cases e), hb13⟩
  · have hp := Lib.hid (show parseL s.data.toList = none by rw [H4.out, if_neg (fun h => hl (by omega))])
    have hq : ((p.length : Int) == (n : Int) + 1) = false := by
      have : ¬ (p.length : Int) = (n : Int) + 1 := by omega
      simpa using this
    clear hl
    go_wp2_with fail
    go_ret3
    exact ⟨_, _, p, false, rfl, hown3, (fun e => by cases e), fun _ => hp.out, hb13⟩
def VerP (r : Int × Int) (w : World) (e : Ending) (w' : World) : Prop := ∃ n x : Int, e = .returned (.tuple #[.int .i64 n, .int .i64 x]) ∧ Hid (r = (n, x)) ∧ Below w.heap.size w w'
theorem climb_snoc (key : Nat) (P : List (List UInt8)) (i : Nat) (o a : List UInt8) (h : P[i]? = some o) :
    climb key (P.drop i) i a = if o.length = 16 then climb key (P.drop (i + 1)) (i + 1) (if key / 2 ^ i % 2 = 0 then nodeL a o else nodeL o a) else none := by
  obtain ⟨hlt, rfl⟩ := List.getElem?_eq_some_iff.1 h
  rw [List.drop_eq_getElem_cons hlt, climb]
theorem shr_bit0 : ∀ k : Nat, k < 64 → ∀ i : Nat, i < 7 → k / 2 ^ i % 2 = 0 → bits BinOp.and IntKind.i64 ((k : Int) / 2 ^ i) 1 = 0 := by decide +kernel
theorem shr_bit1 : ∀ k : Nat, k < 64 → ∀ i : Nat, i < 7 → ¬ k / 2 ^ i % 2 = 0 → bits BinOp.and IntKind.i64 ((k : Int) / 2 ^ i) 1 = 1 := by decide +kernel
set_option maxHeartbeats 1000000 in
set_option maxRecDepth 100000 in
theorem verify_any (root m sig : ByteArray) (w : World) (he : Env w) (hm : m.size ≤ 1073741824) (hs : sig.size ≤ 1073741824) :
    Calls Tryz.prog 63 #[.string root, .string m, .string sig] w (VerP (verifyL root.data.toList m.data.toList sig.data.toList) w) := by
  have hpa := Lib.hid (parse_any sig w he (by omega))
  go_enter Tryz.func63, Tryz.ntmps63
  go_wp2_with fail
  refine hpa.out.mono ?_
  rintro e w1 ⟨key, v, p, ok, rfl, hown, hok, hno, hb1⟩
  clear hpa
  cases ok with
  | false =>
    have hp := Lib.hid (verifyL_none (root := root.data.toList) (m := m.data.toList) (hno.out rfl))
    clear hok hno
    go_wp2_with fail
    go_ret2
    exact ⟨_, _, rfl, hp.out, hb1⟩
  | true =>
    have hps := hok.out rfl
    obtain ⟨k0, k1, p1, p7, kp⟩ := parseL_some hps
    have hple := parseL_le hps
    rw [List.length_map] at p1 p7 kp
    obtain ⟨key, rfl⟩ := Int.eq_ofNat_of_zero_le k0
    obtain ⟨n, hln⟩ : ∃ n, p.length = n + 1 := ⟨p.length - 1, by omega⟩
    unfold OwnStrs at hown
    rw [hln] at hown p7
    have hown0 := hown
    obtain ⟨_, ⟨_, h0⟩ | ⟨g, cap, cur, rfl, _, _, hcap1, hcap2, _⟩⟩ := hown
    · cases h0
    have hcells : Hid (∀ (i : Nat) (u : ByteArray), p[i]? = some u → w1.cell? ⟨g, i, none⟩ = some (.string u)) := fun i u hu => by
      have hadd : (⟨g, 0, none⟩ : Addr).add i = ⟨g, i, none⟩ := by unfold Addr.add; split <;> simp_all
      have := World.ownsRow.cells hown0 (g := g) rfl i (.string u) (by rw [List.getElem?_map, hu]; rfl)
      rw [hadd] at this; exact this
    unfold maxLen at hcap2
    obtain ⟨p0, hp0⟩ : ∃ p0, p[0]? = some p0 := ⟨_, List.getElem?_eq_getElem (by omega)⟩
    have c0 := hcells.out 0 p0 hp0
    have hP0 : (p.map fun s => s.data.toList).getD 0 [] = p0.data.toList := by rw [List.getD_eq_getElem?_getD, List.getElem?_map, hp0]; rfl
    have hle : ∀ (i : Nat) (u : ByteArray), p[i]? = some u → u.size ≤ 1073741824 := fun i u hu => by
      have := hple u.data.toList (List.mem_map_of_mem (List.mem_of_getElem? hu))
      rw [toList_size, toList_size] at this; omega
    have hz0 := hle 0 p0 hp0
    have HLE := Lib.hid hle
    have HPS := Lib.hid hps
    have HP0 := Lib.hid hP0
    have hrc := Lib.hid (recover_any m p0 w1 (he.below hb1) hm (by omega))
    have hlt0 : Hid (∀ i, i < n → ∃ u : ByteArray, p[i + 1]? = some u) := fun i hi => ⟨_, List.getElem?_eq_getElem (by omega)⟩
    have HLN := Lib.hid hln
    clear hok hno hps hple hP0 hown0 hp0 k0 hle kp p1 hln
    go_wp2_with fail
    refine hrc.out.mono ?_
    rintro e w2 ⟨a0, rfl, ha0, hb2⟩
    have hb12 := step2 hb1 hb2
    by_cases hE : recoverE p0.data.toList = 0
    case neg =>
      obtain ⟨x1, x2⟩ := neq0V hE
      have hp := Lib.hid (verifyL_short (root := root.data.toList) (m := m.data.toList) HPS.out (by rw [HP0.out]; exact hE))
      clear hE
      go_wp2_with fail
      go_ret2
      exact ⟨_, _, rfl, hp.out, hb12⟩
    rw [hE]
    have hE2 : Hid (recoverE ((p.map fun s => s.data.toList).getD 0 []) = 0) := by rw [Hid, HP0.out]; exact hE
    have HCN := Lib.hid (fun h => verifyL_path (root := root.data.toList) (m := m.data.toList) HPS.out hE2.out h)
    have HCS := Lib.hid (fun a h => verifyL_root (root := root.data.toList) (m := m.data.toList) (a := a) HPS.out hE2.out h)
    rw [HP0.out, ← ha0.out, Int.toNat_natCast] at HCN HCS
    have za0 : a0.size ≤ 1073741824 := by
      rw [← toList_size, ha0.out, recoverL]
      split
      · rw [hashL_length]; decide
      · exact Nat.zero_le _
    clear hE hrc c0
    have hrest : Hid (((p.map fun s => s.data.toList).drop 1).length = n) := by rw [Hid, List.length_drop, List.length_map, HLN.out]; rfl
    obtain ⟨P, hP⟩ : ∃ P, (p.map fun s => s.data.toList).drop 1 = P := ⟨_, rfl⟩
    rw [hP] at HCN HCS hrest
    have HPP := Lib.hid hP
    clear hP
    have key64 : key < 64 := by omega
    clear k1
    have hroot : ∀ b : ByteArray, Hid (climb key P 0 a0.data.toList = some b.data.toList) → (b.toList == root.toList) = true ∧ (b.toList != root.toList) = false ∧ Hid (verifyL root.data.toList m.data.toList sig.data.toList = ((key : Int), 0)) ∨
        (b.toList == root.toList) = false ∧ (b.toList != root.toList) = true ∧ Hid (verifyL root.data.toList m.data.toList sig.data.toList = (0, 17)) := fun b hb => by
      have hv := HCS.out _ hb.out
      rw [bne, beq_lists]
      by_cases hr : b.data.toList = root.data.toList
      · left; rw [if_pos hr] at hv; exact ⟨by simpa using hr, by simpa using hr, hv⟩
      · right; rw [if_neg hr] at hv; exact ⟨by simpa using hr, by simpa using hr, hv⟩
    have HR := Lib.hid hroot; clear hroot
    by_cases hc1 : cap = 1
    · subst hc1
      obtain rfl : n = 0 := by omega
      have hP0 : P = [] := List.eq_nil_of_length_eq_zero hrest.out
      have hcl : Hid (climb key P 0 a0.data.toList = some a0.data.toList) := by rw [Hid, hP0, climb]
      rcases HR.out a0 hcl with ⟨x1, x2, hv⟩ | ⟨x1, x2, hv⟩
      · go_wp2_with fail
        refine wp_loop_rounds 1 ?_; rw [rounds_succ]
        go_wp2_with fail
        go_ret2
        exact ⟨_, _, rfl, hv, hb12⟩
      · go_wp2_with fail
        refine wp_loop_rounds 1 ?_; rw [rounds_succ]
        go_wp2_with fail
        go_ret2
        exact ⟨_, _, rfl, hv, hb12⟩
    go_wp2_with fail
    go_loopw [11, 36] (fun o i wr => ∃ (k : Nat) (b : ByteArray), k ≤ n ∧ i = .int .i64 k ∧ o = .string b ∧ b.size ≤ 1073741824 ∧ Hid (climb key P 0 a0.data.toList = climb key (P.drop k) k b.data.toList) ∧ Below w2.heap.size w2 wr) (fun _ i _ => n - (intOf i).toNat)
    case atStart => exact ⟨0, a0, by omega, rfl, rfl, za0, rfl, below_refl _⟩
    case round =>
      obtain ⟨k, b, hk2, rfl, rfl, hbs, hcl, hbw⟩ := hrel
      by_cases hlt : k < n
      · obtain ⟨o, ho⟩ := hlt0.out k hlt
        have co := hcells.out _ o ho
        rw [Nat.add_comm] at co
        have co2 := ((hb2.cell (World.block_lt_of_cell? w1 _ co)).trans co)
        have ck := (hbw.cell (World.block_lt_of_cell? w2 _ co2)).trans co2
        have hPk : P[k]? = some o.data.toList := by
          rw [← HPP.out, List.getElem?_drop, Nat.add_comm, List.getElem?_map, ho]; rfl
        have hos := HLE.out _ o ho
        have hstep := climb_snoc key P k o.data.toList b.data.toList hPk
        rw [← hcl.out] at hstep
        clear co co2 ho hPk
        by_cases h16 : o.size = 16
        case neg =>
          have hv : Hid (verifyL root.data.toList m.data.toList sig.data.toList = (0, 17)) := HCN.out (by rw [hstep, if_neg (by rw [toList_size]; exact h16)])
          have hne : ((o.size : Int) == 16) = false := by
            have : ¬ (o.size : Int) = 16 := fun e => h16 (by omega)
            simpa using this
          have hne2 : ((o.size : Int) != 16) = true := by rw [bne, hne]; rfl
          clear h16 hstep
          go_wp2_with fail
          go_ret2
          exact ⟨_, _, rfl, hv, step2 hb12 hbw⟩
        rw [if_pos (by rw [toList_size]; exact h16)] at hstep
        have hne : ((o.size : Int) == 16) = true := by
          have : (o.size : Int) = 16 := by omega
          simpa using this
        have hne2 : ((o.size : Int) != 16) = false := by rw [bne, hne]; rfl
        clear h16
        by_cases hz : key / 2 ^ k % 2 = 0
        · rw [if_pos hz] at hstep
          have hbit := shr_bit0 key key64 k (by omega) hz
          have hnd := Lib.hid (node_any b o wr (he.below (step2 hb12 hbw)) (by omega) (by omega))
          clear hz
          go_wp2_with fail
          refine hnd.out.mono ?_
          rintro e w3 ⟨c, rfl, hc, hb3⟩
          have hcs : c.size ≤ 1073741824 := by rw [← toList_size, hc.out, hashL_length]; decide
          have HST : Hid (climb key P 0 a0.data.toList = climb key (P.drop (k + 1)) (k + 1) c.data.toList) := by rw [Hid, hc.out]; exact hstep
          clear hnd hstep ck
          go_wp2_with fail
          go_roundw
          case rel => exact ⟨k + 1, c, by omega, by go_num, rfl, hcs, HST, step2 hbw hb3⟩
          case measure => simp [intOf]; omega
        · rw [if_neg hz] at hstep
          have hbit := shr_bit1 key key64 k (by omega) hz
          have hnd := Lib.hid (node_any o b wr (he.below (step2 hb12 hbw)) (by omega) (by omega))
          clear hz
          go_wp2_with fail
          refine hnd.out.mono ?_
          rintro e w3 ⟨c, rfl, hc, hb3⟩
          have hcs : c.size ≤ 1073741824 := by rw [← toList_size, hc.out, hashL_length]; decide
          have HST : Hid (climb key P 0 a0.data.toList = climb key (P.drop (k + 1)) (k + 1) c.data.toList) := by rw [Hid, hc.out]; exact hstep
          clear hnd hstep ck
          go_wp2_with fail
          go_roundw
          case rel => exact ⟨k + 1, c, by omega, by go_num, rfl, hcs, HST, step2 hbw hb3⟩
          case measure => simp [intOf]; omega
      · obtain rfl : k = n := by omega
        have hdr : P.drop k = [] := List.drop_eq_nil_of_le (by rw [hrest.out]; exact Nat.le_refl _)
        rw [hdr, climb] at hcl
        rcases HR.out b hcl with ⟨x1, x2, hv⟩ | ⟨x1, x2, hv⟩
        · go_wp2_with fail
          go_ret2
          exact ⟨_, _, rfl, hv, step2 hb12 hbw⟩
        · go_wp2_with fail
          go_ret2
          exact ⟨_, _, rfl, hv, step2 hb12 hbw⟩
end Go.Proofs.YtpkapcijgldhhaaGreatDoor

namespace Go.Proofs.YtpkapcijgldhhaaGreatDoor
open Go.RowKit Go.Shelf
theorem cut_str (b : ByteArray) (k : Nat) : (b.extract 8 k).data.toList = (b.data.toList.take k).drop 8 := by
  simp [List.drop_take]
end Go.Proofs.YtpkapcijgldhhaaGreatDoor

namespace Go.Proofs.YtpkapcijgldhhaaGreatDoor
open Go.RowKit Go.Shelf
theorem one_sumPf (st : ByteArray) (W W' : World) (h : st.size ≤ 1000000000) (hb : Below (W.alloc (.cells #[.string st] 9)).heap.size (W.alloc (.cells #[.string st] 9)) W') : Calls Tryz.prog 64 #[.slice (some ⟨W.heap.size, 0, none⟩) 1 1] W' (StrP (sumB st.data.toList) W') := by
  have e : (([st] : List ByteArray).map fun s => s.data.toList).flatten = st.data.toList := by simp
  have := sum_any _ [st] _ ((strs_new W [st] 9 (by simp [maxLen])).below hb) (by simp) (by rw [e]; have : st.data.toList.length = st.size := rfl; omega)
  rw [e] at this
  exact this
set_option maxRecDepth 100000 in
set_option maxHeartbeats 40000000 in
theorem accepted_any (s root : ByteArray) (session : Int) (w : World) (he : Env w) (hm : HasMax w) (hs : s.size ≤ 1000000) :
    Calls Tryz.prog 32 #[.string s, .int .i64 session, .string root] w (BoolP (isB (AccR s.data.toList session root.data.toList)) w) := by
  have HE := Lib.hid (show ∀ W, Below w.heap.size w W → Env W from fun W hW => he.below hW)
  have HD := Lib.hid (ddecode_walk s w hs he hm)
  clear he hm
  go_enter Tryz.func32, Tryz.ntmps32
  go_wp2_with fail
  refine HD.out.mono ?_
  intro e w1 he
  clear HD
  rcases hd : dirR s.data.toList with x | x
  · rw [hd] at he
    obtain ⟨rfl, hb1⟩ := he
    have Ho := Lib.hid (acc_err (s := session) (root := root.data.toList) hd)
    obtain ⟨x1, x2⟩ := neq0 (nz_dirR _ _ hd)
    obtain ⟨kP, bP⟩ := boxr w1 [.int .i64 0, .int .i64 0, .string ⟨#[]⟩, .slice none 0 0, .string ⟨#[]⟩, .string ⟨#[]⟩] 53
    have k2 := step2 hb1 kP
    clear hd
    go_wp2_with fail
    go_ret
    rw [Ho.out]
    exact ⟨rfl, k2⟩
  rw [hd] at he
  obtain ⟨v, rfl, ho, hb1⟩ := he
  obtain ⟨va, vc, rfl⟩ := ho.row.form
  obtain ⟨kP, bP⟩ := boxr w1 [.int .i64 x.number, .int .i64 x.date, .string (bA' x.prev), .slice va x.entries.length vc, .string ⟨#[]⟩, .string (bA' x.sl)] 53
  have k2 := step2 hb1 kP
  obtain ⟨W2, hW2⟩ : ∃ W2, w1.alloc (.cells [.int .i64 x.number, .int .i64 x.date, .string (bA' x.prev), .slice va x.entries.length vc, .string ⟨#[]⟩, .string (bA' x.sl)].toArray 53) = W2 := ⟨_, rfl⟩
  rw [hW2] at kP bP k2
  have Hd := Lib.hid hd
  clear hd ho
  go_upto_region 2 with (fail)
  clear hW2 hb1
  have c0 : W2.cell? ⟨w1.heap.size, 0, none⟩ = some (.int .i64 x.number) := bP.cell 0
  have c5 : W2.cell? ⟨w1.heap.size, 5, none⟩ = some (.string (bA' x.sl)) := bP.cell 5
  by_cases hn : x.number = session
  case neg =>
    have Ho := Lib.hid (acc_num (root := root.data.toList) Hd.out hn)
    have y1 : (x.number != session) = true := bne_iff_ne.2 hn
    clear hn
    go_wp2_with fail
    go_ret
    rw [Ho.out]
    exact ⟨rfl, k2⟩
  have y1 : (x.number != session) = false := by rw [hn]; simp
  by_cases hr : root = ⟨#[]⟩
  · subst hr
    have Ho := Lib.hid (acc_plain Hd.out hn)
    clear hn
    go_wp2_with fail
    go_ret
    rw [show isB (AccR s.data.toList session (⟨#[]⟩ : ByteArray).data.toList) = true from Ho.out]
    exact ⟨rfl, k2⟩
  have y2 : (root.toList == []) = false := by rw [ByteArray.toList_eq]; exact beq_eq_false_iff_ne.2 (fun h => hr (str_inj h))
  have Ho := Lib.hid (acc_root (root := root.data.toList) Hd.out hn (fun h => hr (str_inj h)))
  have hsb := sealed_bd Hd.out
  have hsl := strL_ge x.sl
  have hsz : s.data.toList.length = s.size := rfl
  have HS := Lib.hid (string_any (bA' x.sl) W2 (HE.out _ k2) (by show x.sl.length ≤ _; omega))
  rw [bA'_list] at HS
  clear hr hn
  go_wp2_with fail
  refine HS.out.mono ?_
  rintro e w3 ⟨t, rfl, ht, hb3⟩
  have k3 := step2 k2 hb3
  replace bP := bP.below hb3
  replace c0 : w3.cell? ⟨w1.heap.size, 0, none⟩ = some (.int .i64 x.number) := bP.cell 0
  replace c5 : w3.cell? ⟨w1.heap.size, 5, none⟩ = some (.string (bA' x.sl)) := bP.cell 5
  clear HS
  have htz : t.size = (strL x.sl).length := by rw [← toList_size, ht.out]
  obtain ⟨m, hm⟩ : ∃ m : Nat, s.size - (strL x.sl).length = m := ⟨_, rfl⟩
  have hm1 : (s.size : Int) - (t.size : Int) = (m : Int) := by omega
  have hm2 : IntKind.i64.wrap ((s.size : Int) - (t.size : Int)) = (m : Int) := by rw [hm1]; exact IntWalk.i64_in _ (by omega)
  have hm3 : 8 ≤ m := by omega
  have hm4 : m ≤ s.size := by omega
  have hm5 : (8 : Int) ≤ (m : Int) ∧ (m : Int) ≤ (s.size : Int) := by omega
  have hse : Hid ((s.extract 8 m).data.toList = sealed s.data.toList x) := by
    rw [Hid, cut_str, sealed, ← hm, hsz]
  have hxz : (s.extract 8 m).size ≤ 1000000000 := by simp; omega
  go_upto_region 7 with (fail)
  try rw [hm]
  generalize s.extract 8 m = sg at *
  have b0 := below_refl w3
  have bA := b0.alloc (Nat.le_refl _) (.cells #[.string sg] 9)
  have HSB := Lib.hid (one_sumPf sg w3 (World.drew (World.alloc w3 (.cells #[.string sg] 9))) hxz (below_drew0 (below_refl _)))
  have bd := below_drew0 b0
  have bAd := below_drew0 bA
  have HC := Lib.hid (show ∀ W, Below w3.heap.size w3 W → W.cell? ⟨w1.heap.size, 5, none⟩ = some (.string (bA' x.sl)) from fun W hW => (bP.below hW).cell 5)
  have s0 := HC.out _ bd
  have s1 := HC.out _ bAd
  rw [← hse.out] at Ho
  have HV := Lib.hid (show ∀ W (d : ByteArray), Below w3.heap.size w3 W → d.data.toList = sumB sg.data.toList → Calls Tryz.prog 63 #[.string root, .string d, .string (bA' x.sl)] W (VerP (verifyL root.data.toList (sumB sg.data.toList) x.sl) W) from fun W d hW hd => by
    have hdz : d.size ≤ 32 := by rw [← toList_size, hd, sumB_length]; decide
    have := verify_any root d (bA' x.sl) W (HE.out _ (step2 k3 hW)) (by omega) (by show x.sl.length ≤ _; omega)
    rw [hd, bA'_list] at this; exact this)
  clear ht htz hm hm1 hm2 hm3 hm4 hm5 hse hsb hsl hsz c0 HE
  go_region_held3 (fun W => W.cell? ⟨w1.heap.size, 5, none⟩ = some (.string (bA' x.sl)))
    (with_reducible assumption)
    (first
      | (go_at_call 64; (with_reducible refine HSB.out.mono ?_); rintro e w4 ⟨d, rfl, hdd, hb4⟩; have k4 := step2 bAd hb4; have s4 := HC.out _ k4)
      | (go_at_call 63; (with_reducible refine (HV.out _ d k4 hdd.out).mono ?_); rintro e w5 ⟨kn, kx, rfl, hv, hb5⟩; have k5 := step2 k4 hb5; have s5 := HC.out _ k5))
  have kF := step2 k3 k5
  clear HV HC HSB s0 s1 s4 s5 k4 k5
  rw [hv.out] at Ho
  dsimp only at Ho
  by_cases hk : kx = 0
  · subst hk
    replace Ho := Lib.hid (Ho.out.trans (isB_yes rfl))
    clear hv
    go_wp2_with fail
    go_ret
    rw [Ho.out]
    exact ⟨rfl, kF⟩
  · replace Ho := Lib.hid (Ho.out.trans (isB_no hk))
    obtain ⟨z1, z2⟩ := neq0 hk
    clear hv hk
    go_wp2_with fail
    go_ret
    rw [Ho.out]
    exact ⟨rfl, kF⟩
end Go.Proofs.YtpkapcijgldhhaaGreatDoor

namespace Go.Proofs.YtpkapcijgldhhaaGreatDoor
open Go.RowKit Go.Shelf
def dirS (o : Option (List UInt8)) : ByteArray := match o with | some t => bA' t | none => ⟨#[]⟩
def dirE (o : Option (List UInt8)) : Int := match o with | some _ => 0 | none => 19
def DirP (o : Option (List UInt8)) (w : World) (e : Ending) (w' : World) : Prop := e = .returned (.tuple #[.string (dirS o), .int .i64 (dirE o)]) ∧ Below w.heap.size w w'
theorem DirP.none {w w' : World} {R : Option (List UInt8)} (h : R = .none) (hb : Below w.heap.size w w') : DirP R w (.returned (.tuple #[.string ⟨#[]⟩, .int .i64 19])) w' := by subst h; exact ⟨rfl, hb⟩
theorem DirP.some {w w' : World} {R : Option (List UInt8)} {t : List UInt8} (h : R = .some t) (hb : Below w.heap.size w w') : DirP R w (.returned (.tuple #[.string (bA' t), .int .i64 0])) w' := by subst h; exact ⟨rfl, hb⟩
end Go.Proofs.YtpkapcijgldhhaaGreatDoor

namespace Go.Proofs.YtpkapcijgldhhaaGreatDoor
open Go.RowKit Go.Shelf
set_option maxRecDepth 100000 in
set_option maxHeartbeats 4000000 in
theorem directory_any (ar : Int) (v : Value) (F : List Fr) (s : Int) (root : ByteArray) (w : World) (he : Env w) (hm : HasMax w) (hr : FrRow w v F) (hF : SmallF F) :
    Calls Tryz.prog 13 #[.agg #[.int .u32 ar, v], .int .i64 s, .string root] w (DirP (goD F s root.data.toList 15) w) := by
  have HO := Lib.hid (show ∀ W, Below w.heap.size w W → ∀ k : Nat, k < 15 → Calls Tryz.prog 31 #[.agg #[.int .u32 ar, v], .int .i64 s, .int .i64 k] W (PartP (textR F s k) W) from fun W hW k hk => text_any ar v F s k hk W (hr.below hW) hF)
  have HT := Lib.hid (fun k t (h : textR F s k = some t) => text_bd hF h)
  have HA := Lib.hid (show ∀ W (t : List UInt8), Below w.heap.size w W → t.length ≤ 100000 → Calls Tryz.prog 32 #[.string (bA' t), .int .i64 s, .string root] W (BoolP (isB (AccR t s root.data.toList)) W) from fun W t hW ht => by
    have := accepted_any (bA' t) root s W (he.below hW) (hm.below hW) (by show t.length ≤ _; omega)
    rw [bA'_list] at this; exact this)
  clear hr hF he hm
  obtain ⟨R, hR⟩ : ∃ R, goD F s root.data.toList 15 = R := ⟨_, rfl⟩
  rw [hR]
  have HR := Lib.hid (show goD F s root.data.toList (15 - 0) = R from hR)
  clear hR
  obtain ⟨kb0, bC0⟩ := boxr w [.int .u32 ar, v] 25
  go_enter Tryz.func13, Tryz.ntmps13
  go_upto_region 1 with (fail)
  obtain ⟨W0, hW0⟩ : ∃ W0, w.alloc (.cells [.int .u32 ar, v].toArray 25) = W0 := ⟨_, rfl⟩
  change Code.wp _ _ _ _ (w.alloc (.cells [.int .u32 ar, v].toArray 25))
  rw [hW0] at kb0 bC0 ⊢
  clear hW0
  go_wp2_with fail
  go_loopw [8, 9, 10, 11] (fun _ _ _ i wr => ∃ k : Nat, k ≤ 15 ∧ i = .int .i64 k ∧ Below w.heap.size w wr ∧ Box wr w.heap.size [.int .u32 ar, v] 25 ∧ Hid (goD F s root.data.toList (15 - k) = R)) (fun _ _ _ i _ => 15 - (intOf i).toNat)
  case atStart => exact ⟨0, by omega, rfl, kb0, bC0, HR⟩
  case round =>
    clear HR kb0 bC0
    obtain ⟨k, hk, rfl, kb, bC, hg⟩ := hrel
    by_cases hlt : k < 15
    · obtain ⟨c0, c1⟩ := bC.cells2
      have HP := Lib.hid (HO.out _ kb k hlt)
      go_wp2_with fail
      refine HP.out.mono ?_
      rintro e w4 ⟨he, hb4⟩
      have k4 := step2 kb hb4
      have bC4 := bC.below hb4
      clear HP c0 c1 kb bC hb4
      rcases hp : textR F s k with _ | t
      · rw [hp] at he
        obtain ⟨x, rfl⟩ := he
        have hs : Hid (goD F s root.data.toList (15 - (k + 1)) = R) := (goD_no hlt hp).symm.trans hg.out
        clear hp hg
        go_wp2_with fail
        go_roundw
        case rel => exact ⟨k + 1, by omega, by go_num, k4, bC4, hs⟩
        case measure => simp [intOf]; omega
      · rw [hp] at he
        obtain rfl := he
        have htb := HT.out _ _ hp
        have HQ := Lib.hid (HA.out w4 t k4 htb)
        go_wp2_with fail
        refine HQ.out.mono ?_
        rintro e w6 ⟨he, hb6⟩
        have k6 := step2 k4 hb6
        have bC6 := bC4.below hb6
        clear HQ k4 bC4 hb6
        cases ha : isB (AccR t s root.data.toList) with
        | true =>
          rw [ha] at he
          obtain rfl := he
          have hs : Hid (R = some t) := hg.out.symm.trans (goD_yes hlt hp ha)
          clear hg hp ha
          go_wp2_with fail
          go_ret2
          exact .some hs.out k6
        | false =>
          rw [ha] at he
          obtain rfl := he
          have hs : Hid (goD F s root.data.toList (15 - (k + 1)) = R) := (goD_not hlt hp ha).symm.trans hg.out
          clear hg hp ha
          go_wp2_with fail
          go_roundw
          case rel => exact ⟨k + 1, by omega, by go_num, k6, bC6, hs⟩
          case measure => simp [intOf]; omega
    · obtain rfl : k = 15 := by omega
      have hs : Hid (R = none) := hg.out.symm
      clear hg
      go_wp2_with fail
      go_ret2
      exact .none hs.out kb
end Go.Proofs.YtpkapcijgldhhaaGreatDoor
