/-
  The reference's check of a session, whatever its sizes.
  Chapter 45: a session of any size among the arguments, opened with the bound that the reach gives its extents; slices of booleans; a layout.
-/
import Derived.Test.YtpkapcijgldhhaaGreatDoorCa33
import Derived.Test.YtpkapcijgldhhaaGreatDoorCa35
import Derived.Test.YtpkapcijgldhhaaGreatDoorCa22
import Derived.Test.YtpkapcijgldhhaaGreatDoorCa31
namespace Go.Proofs.YtpkapcijgldhhaaGreatDoor
open Go.RowKit Go.Shelf
/-- the bounds of a session that came in -/
structure SeBig (s : Se) : Prop where
  number : -9223372036854775808 ≤ s.number ∧ s.number ≤ 9223372036854775807
  date : -9223372036854775808 ≤ s.date ∧ s.date ≤ 9223372036854775807
  prev : s.prev.size ≤ 9223372036854775807
  stream : s.stream.size ≤ 9223372036854775807
  sl : s.sl.size ≤ 9223372036854775807
  count : s.entries.length ≤ 9223372036854775807
  ents : ∀ i, i < s.entries.length → EnBig (enAt s.entries i)
set_option maxRecDepth 100000 in
set_option maxHeartbeats 4000000 in
theorem rcheck40_near (s : Se) (a : Option Addr) (c : Nat) (w : World) (ok : SeBig s) (hst : s.stream.size ≤ 14680064) (hr : EnRow w (.slice a s.entries.length c) s.entries) :
    Calls Tryz.prog 48 #[.agg #[.int .i64 s.number, .int .i64 s.date, .string s.prev, .slice a s.entries.length c, .string s.stream, .string s.sl]] w (IntP (chkS (fieldsE s.number s.date s.prev.size) s.entries.length (entsE s.entries) s.sl.size) w) := by
  have HX := Lib.hid (show ∀ W, Below w.heap.size w W → EnRow W (.slice a s.entries.length c) s.entries from fun W hW => hr.below hW)
  have HO := Lib.hid ok.ents
  have hp := ok.prev
  have hsl := ok.sl
  have hN := ok.count
  clear hr ok
  generalize s.number = n at *
  generalize s.date = d at *
  generalize s.prev = p at *
  generalize s.stream = st at *
  generalize s.sl = sl at *
  generalize s.entries = X at *
  obtain ⟨hb0, bB⟩ := box1'' w [.int .i64 n, .int .i64 d, .string p, .slice a X.length c, .string st, .string sl] 53
  change Below _ _ (w.alloc (.cells #[.int .i64 n, .int .i64 d, .string p, .slice a X.length c, .string st, .string sl] 53)) at hb0
  change Box (w.alloc (.cells #[.int .i64 n, .int .i64 d, .string p, .slice a X.length c, .string st, .string sl] 53)) _ _ _ at bB
  have hC := Lib.hid (fields_cases n d p.size)
  have HE : Hid (entsE X = firstE (fun i => chkE (enAt X i)) X.length) := rfl
  generalize fieldsE n d p.size = f at *
  rcases hC.out with ⟨he, hc⟩ | ⟨g1, g2, g3, g4, hc⟩
  · subst he
    rw [chkS_f (by decide)]
    have HC := Lib.hid hc
    clear hC hc HE
    rcases HC.out with k1 | ⟨k1, k2⟩ | ⟨k1, k2, k3⟩ | ⟨k1, k2, k3, k4⟩
    all_goals
      clear HC
      go_enter Tryz.func48, Tryz.ntmps48
      go_wp2_with fail
      go_ret
      exact ⟨rfl, hb0⟩
  have HC := Lib.hid hc
  clear hC hc
  have hz : f = 1 ∧ p.size ≠ 0 ∧ p.size ≠ 32 ∨ f = 0 ∧ (p.size = 0 ∨ p.size = 32) := by
    rcases HC.out with ⟨he, h1, h2⟩ | ⟨he, h1⟩ | ⟨he, h1⟩
    · exact .inl ⟨he, h1, h2⟩
    · exact .inr ⟨he, .inl h1⟩
    · exact .inr ⟨he, .inr h1⟩
  clear HC
  rcases hz with ⟨rfl, h1, h2⟩ | ⟨rfl, hz⟩
  · rw [chkS_f (by decide)]
    have p1 : ((p.size : Int) == 0) = false := by rw [beq_eq_false_iff_ne]; omega
    have p2 : ((p.size : Int) != 0) = true := by rw [bne_iff_ne]; omega
    have q1 : ((p.size : Int) == 32) = false := by rw [beq_eq_false_iff_ne]; omega
    have q2 : ((p.size : Int) != 32) = true := by rw [bne_iff_ne]; omega
    clear h1 h2
    go_enter Tryz.func48, Tryz.ntmps48
    go_wp2_with fail
    go_ret
    exact ⟨rfl, hb0⟩
  have HZ := Lib.hid hz; clear hz
  have HN4 := Lib.hid (show 400 < X.length → chkS 0 X.length (entsE X) sl.size = 6 from fun h => chkS_n h)
  have HB := Lib.hid (show ¬ 400 < X.length → ∀ k, k < X.length → firstE (fun i => chkE (enAt X i)) k = 0 → chkE (enAt X k) ≠ 0 → chkS 0 X.length (entsE X) sl.size = chkE (enAt X k) from fun h4 k hk h0 hc => by
    have := errE_ne hk h0 hc
    rw [this]; exact chkS_e h4 hc)
  have HL := Lib.hid (show ¬ 400 < X.length → entsE X = 0 → chkS 0 X.length (entsE X) sl.size = if 2000 < sl.size then 6 else 0 from fun h4 h => by rw [h]; exact chkS_l h4)
  generalize chkS 0 X.length (entsE X) sl.size = R at *
  go_enter Tryz.func48, Tryz.ntmps48
  go_upto_region 1 with (fail)
  obtain ⟨W0, hW0⟩ : ∃ W0, w.alloc (.cells #[.int .i64 n, .int .i64 d, .string p, .slice a X.length c, .string st, .string sl] 53) = W0 := ⟨_, rfl⟩
  change Code.wp _ _ _ _ (w.alloc (.cells #[.int .i64 n, .int .i64 d, .string p, .slice a X.length c, .string st, .string sl] 53))
  rw [hW0] at hb0 bB ⊢
  clear hW0
  obtain ⟨c0, c1, c2, c3, c4, c5⟩ := bB.cells6
  go_upto_region 3 with (fail)
  go_cut [32] from 23 (fun v wc => W0 = wc ∧ v = .bool false)
  case first =>
    rcases HZ.out with h1 | h1
    · have p1 : ((p.size : Int) == 0) = true := by rw [beq_iff_eq]; omega
      have p2 : ((p.size : Int) != 0) = false := by rw [bne_eq_false_iff_eq]; omega
      clear h1
      go_wp2_with fail
      go_meet
      exact ⟨rfl, rfl⟩
    · have p1 : ((p.size : Int) == 0) = false := by rw [beq_eq_false_iff_ne]; omega
      have p2 : ((p.size : Int) != 0) = true := by rw [bne_iff_ne]; omega
      have q1 : ((p.size : Int) == 32) = true := by rw [beq_iff_eq]; omega
      have q2 : ((p.size : Int) != 32) = false := by rw [bne_eq_false_iff_eq]; omega
      clear h1
      go_wp2_with fail
      go_meet
      exact ⟨rfl, rfl⟩
  obtain ⟨rfl, rfl⟩ := hcut
  clear g1 g2 g3 g4 HZ
  by_cases h4 : 400 < X.length
  · have HR := Lib.hid (HN4.out h4)
    go_wp2_with fail
    go_ret
    exact ⟨ret_int HR.out.symm, hb0⟩
  replace HB := Lib.hid (HB.out h4)
  replace HL := Lib.hid (HL.out h4)
  clear HN4
  go_upto_block 0 with (fail)
  go_wp2_with fail
  go_loopw [3, 4] (fun i _ wr => ∃ k : Nat, k ≤ X.length ∧ i = .int .i64 k ∧ Hid (firstE (fun i => chkE (enAt X i)) k = 0) ∧ Below w.heap.size w wr ∧ Box wr w.heap.size [.int .i64 n, .int .i64 d, .string p, .slice a X.length c, .string st, .string sl] 53) (fun i _ _ => X.length - (intOf i).toNat)
  case atStart => exact ⟨0, by omega, rfl, rfl, hb0, bB⟩
  case round =>
    obtain ⟨k, hk, rfl, hE, kb, bR⟩ := hrel
    clear hb0 bB c0 c1 c2 c3 c4 c5
    obtain ⟨c0, c1, c2, c3, c4, c5⟩ := bR.cells6
    by_cases hlt : k < X.length
    · obtain ⟨b, o, a1, m1, a2, m2, rfl, hA, hXx, x0, x1, x2, x3, x4, x5, x6⟩ := (HX.out _ kb).at' hlt
      have HG := Lib.hid (refCheck_big (enAt X k) _ _ wr hA hXx (HO.out k hlt))
      have HN := Lib.hid (HB.out k hlt hE.out)
      have HY := Lib.hid (show chkE (enAt X k) = 0 → firstE (fun i => chkE (enAt X i)) (k + 1) = 0 from fun h => firstE_next hE.out h)
      clear hA hXx
      obtain ⟨ce, hce⟩ : ∃ ce, chkE (enAt X k) = ce := ⟨_, rfl⟩
      rw [hce] at HG HN HY
      clear hce
      generalize enAt X k = ee at *
      go_wp2_with fail
      refine HG.out.mono ?_
      rintro e w2 ⟨rfl, hb⟩
      have kb2 := step2 kb hb
      have bR2 := bR.below hb
      clear kb bR hb c0 c1 c2 c3 c4 c5 x0 x1 x2 x3 x4 x5 x6 HG
      by_cases h0 : ce = 0
      · have HN2 := Lib.hid (HY.out h0)
        subst h0
        go_wp2_with fail
        go_roundw
        case rel => exact ⟨k + 1, by omega, by go_num, HN2, kb2, bR2⟩
        case measure => simp [intOf]; omega
      · have HR := Lib.hid (HN.out h0)
        obtain ⟨q1, q2⟩ := neq0 h0
        have H0 := Lib.hid h0; clear h0
        go_wp2_with fail
        go_ret
        exact ⟨ret_int HR.out.symm, kb2⟩
    · obtain rfl : k = X.length := by omega
      have HR := Lib.hid (HL.out (HE.out.trans hE.out))
      by_cases h5 : 2000 < sl.size
      · rw [if_pos h5] at HR
        go_wp2_with fail
        go_ret
        exact ⟨ret_int HR.out.symm, kb⟩
      · rw [if_neg h5] at HR
        go_wp2_with fail
        go_ret
        exact ⟨ret_int HR.out.symm, kb⟩
set_option maxRecDepth 100000 in
set_option maxHeartbeats 4000000 in
theorem rcheck40_far (s : Se) (a : Option Addr) (c : Nat) (w : World) (ok : SeBig s) (hst : 14680064 < s.stream.size) (hr : EnRow w (.slice a s.entries.length c) s.entries) :
    Calls Tryz.prog 48 #[.agg #[.int .i64 s.number, .int .i64 s.date, .string s.prev, .slice a s.entries.length c, .string s.stream, .string s.sl]] w (IntP (chkS (fieldsE s.number s.date s.prev.size) 401 (entsE s.entries) s.sl.size) w) := by
  have HX := Lib.hid (show ∀ W, Below w.heap.size w W → EnRow W (.slice a s.entries.length c) s.entries from fun W hW => hr.below hW)
  have HO := Lib.hid ok.ents
  have hp := ok.prev
  have hsl := ok.sl
  have hN := ok.count
  clear hr ok
  generalize s.number = n at *
  generalize s.date = d at *
  generalize s.prev = p at *
  generalize s.stream = st at *
  generalize s.sl = sl at *
  generalize s.entries = X at *
  obtain ⟨hb0, bB⟩ := box1'' w [.int .i64 n, .int .i64 d, .string p, .slice a X.length c, .string st, .string sl] 53
  change Below _ _ (w.alloc (.cells #[.int .i64 n, .int .i64 d, .string p, .slice a X.length c, .string st, .string sl] 53)) at hb0
  change Box (w.alloc (.cells #[.int .i64 n, .int .i64 d, .string p, .slice a X.length c, .string st, .string sl] 53)) _ _ _ at bB
  have hC := Lib.hid (fields_cases n d p.size)
  have HE : Hid (entsE X = firstE (fun i => chkE (enAt X i)) X.length) := rfl
  generalize fieldsE n d p.size = f at *
  rcases hC.out with ⟨he, hc⟩ | ⟨g1, g2, g3, g4, hc⟩
  · subst he
    rw [chkS_f (by decide)]
    have HC := Lib.hid hc
    clear hC hc HE
    rcases HC.out with k1 | ⟨k1, k2⟩ | ⟨k1, k2, k3⟩ | ⟨k1, k2, k3, k4⟩
    all_goals
      clear HC
      go_enter Tryz.func48, Tryz.ntmps48
      go_wp2_with fail
      go_ret
      exact ⟨rfl, hb0⟩
  have HC := Lib.hid hc
  clear hC hc
  have hz : f = 1 ∧ p.size ≠ 0 ∧ p.size ≠ 32 ∨ f = 0 ∧ (p.size = 0 ∨ p.size = 32) := by
    rcases HC.out with ⟨he, h1, h2⟩ | ⟨he, h1⟩ | ⟨he, h1⟩
    · exact .inl ⟨he, h1, h2⟩
    · exact .inr ⟨he, .inl h1⟩
    · exact .inr ⟨he, .inr h1⟩
  clear HC
  rcases hz with ⟨rfl, h1, h2⟩ | ⟨rfl, hz⟩
  · rw [chkS_f (by decide)]
    have p1 : ((p.size : Int) == 0) = false := by rw [beq_eq_false_iff_ne]; omega
    have p2 : ((p.size : Int) != 0) = true := by rw [bne_iff_ne]; omega
    have q1 : ((p.size : Int) == 32) = false := by rw [beq_eq_false_iff_ne]; omega
    have q2 : ((p.size : Int) != 32) = true := by rw [bne_iff_ne]; omega
    clear h1 h2
    go_enter Tryz.func48, Tryz.ntmps48
    go_wp2_with fail
    go_ret
    exact ⟨rfl, hb0⟩
  have HZ := Lib.hid hz; clear hz
  have HN4 := Lib.hid (show chkS 0 401 (entsE X) sl.size = 6 from chkS_n (by decide))
  generalize chkS 0 401 (entsE X) sl.size = R at *
  go_enter Tryz.func48, Tryz.ntmps48
  go_upto_region 1 with (fail)
  obtain ⟨W0, hW0⟩ : ∃ W0, w.alloc (.cells #[.int .i64 n, .int .i64 d, .string p, .slice a X.length c, .string st, .string sl] 53) = W0 := ⟨_, rfl⟩
  change Code.wp _ _ _ _ (w.alloc (.cells #[.int .i64 n, .int .i64 d, .string p, .slice a X.length c, .string st, .string sl] 53))
  rw [hW0] at hb0 bB ⊢
  clear hW0
  obtain ⟨c0, c1, c2, c3, c4, c5⟩ := bB.cells6
  go_upto_region 3 with (fail)
  go_cut [32] from 23 (fun v wc => W0 = wc ∧ v = .bool false)
  case first =>
    rcases HZ.out with h1 | h1
    · have p1 : ((p.size : Int) == 0) = true := by rw [beq_iff_eq]; omega
      have p2 : ((p.size : Int) != 0) = false := by rw [bne_eq_false_iff_eq]; omega
      clear h1
      go_wp2_with fail
      go_meet
      exact ⟨rfl, rfl⟩
    · have p1 : ((p.size : Int) == 0) = false := by rw [beq_eq_false_iff_ne]; omega
      have p2 : ((p.size : Int) != 0) = true := by rw [bne_iff_ne]; omega
      have q1 : ((p.size : Int) == 32) = true := by rw [beq_iff_eq]; omega
      have q2 : ((p.size : Int) != 32) = false := by rw [bne_eq_false_iff_eq]; omega
      clear h1
      go_wp2_with fail
      go_meet
      exact ⟨rfl, rfl⟩
  obtain ⟨rfl, rfl⟩ := hcut
  clear g1 g2 g3 g4 HZ
  have HR := HN4
  go_wp2_with fail
  go_ret
  exact ⟨ret_int HR.out.symm, hb0⟩
end Go.Proofs.YtpkapcijgldhhaaGreatDoor

namespace Go.Proofs.YtpkapcijgldhhaaGreatDoor
open Go.ChangeShapes Go.WideShapes Go.ChangeAt Go.RowKit Go.Deep
theorem bytesEx : Tryz.prog.bytesOf 34 = 24 := by kernel_rfl
theorem lay_bool_cells : Tryz.prog.cellsOf 4 = 1 := by kernel_rfl
section
variable {H : Type} {enc : TypeId × Value → H} {w : World} {base : Nat}
set_option maxRecDepth 100000 in
/-- a slice of structs, read as data within the reach, is a row -/
theorem grow_ofW {α : Type} {n : Nat} {f : α → List Value} {d : α} {P : α → Prop} {T E : TypeId} (hT : Tryz.prog.underlying T = some (.slice E)) (hC : Tryz.prog.cellsOf E = n) (hn : 0 < n) (hf : ∀ x, (f x).length = n) (hd : P d)
    (elem : ∀ {k : Nat} {cs : List Value} {y : DataW H × List MemPlace}, cs.length = n → DataW.trod enc Tryz.prog w base (fun _ => true) true k E cs = some y → Wt Tryz.prog E y.1 → ∃ c : α, cs = f c ∧ P c)
    {a0 : Option Addr} {len cap fuel : Nat} {y : DataW H × List MemPlace} (h : DataW.trod enc Tryz.prog w base (fun _ => true) true fuel T [Value.slice a0 len cap] = some y) (hw : Wt Tryz.prog T y.1) :
    ∃ L : List α, GRow n f d w (.slice a0 len cap) L ∧ (∀ j, P (L.getD j d)) ∧ L.length * Tryz.prog.bytesOf E ≤ reachBytes := by
  rcases open_slice hT h with ⟨hcs, _⟩ | ⟨a, len', cap', m, n', D, Pl, hcs, _, hl, hm, hmm, hy, hx⟩
  · have hcs' : Value.slice a0 len cap = Value.slice none 0 0 := by simpa using hcs
    rw [hcs']
    exact ⟨[], grow_nil w none 0 (fun _ => rfl), fun j => by simpa using hd, by simp⟩
  · have hcs' : Value.slice a0 len cap = Value.slice (some a) len' cap' := by simpa using hcs
    rw [hcs']
    simp only [if_true] at hmm
    subst hmm
    subst hy
    obtain ⟨hz, hel⟩ := Wt.slice hw hT
    by_cases h0 : len' = 0
    · subst h0
      exact ⟨[], grow_nil w (some a) m (fun e => by cases e), fun j => by simpa using hd, by simp⟩
    have each : ∀ i, i < len' → ∃ c : α, P c ∧ ∀ j v, (f c)[j]? = some v → w.cell? ((a.add (i * n)).add j) = some v := fun i hi => by
      obtain ⟨cs', h1, h2⟩ := hx i (by omega)
      rw [hC] at h1
      obtain ⟨_, hlen, hcell⟩ := World.cells?_some h1
      obtain ⟨c, rfl, hwf⟩ := elem hlen h2 (hel _ (List.mem_map.2 ⟨i, List.mem_range.2 hi, rfl⟩))
      refine ⟨c, hwf, fun j v hv => ?_⟩
      have hj : j < n := by have := (List.getElem?_eq_some_iff.1 hv).1; rwa [hf] at this
      rw [← hv]; exact hcell j hj
    haveI : Inhabited α := ⟨d⟩
    obtain ⟨q, hq⟩ := choose_lt each
    have hsp : a.spot = none := by
      obtain ⟨v, hv⟩ : ∃ v, (f (q 0))[0]? = some v := ⟨_, List.getElem?_eq_getElem (by rw [hf]; exact hn)⟩
      have := (hq 0 (by omega)).2 0 _ hv
      unfold World.cell? at this
      split at this
      · split at this
        · cases this
        · rename_i hs
          cases hsp : a.spot with
          | none => rfl
          | some x => exfalso; apply hs; unfold Addr.add; simp [hsp]
      · cases this
    obtain ⟨b, o, sp⟩ := a
    simp only at hsp
    subst hsp
    have hget : ∀ i, i < len' → ((List.range len').map q).getD i d = q i := fun i hi => by
      rw [List.getD_eq_getElem?_getD, List.getElem?_eq_getElem (by simpa using hi)]; simp
    have hcellq : ∀ i, i < len' → w.rangeAt b (o + i * n) (f (q i)) := fun i hi j v hv => by
      have h1 := (hq i (by omega)).2 j v hv
      rw [Addr.add_mid, Addr.add_mid] at h1; exact h1
    refine ⟨(List.range len').map q, ⟨by simp; omega, .inr ⟨by simp; omega, b, o, m, by simp, by simpa using hl, hm, ?_, ?_⟩⟩, fun j => ?_, ?_⟩
    · obtain ⟨v, hv⟩ : ∃ v, (f (q 0))[0]? = some v := ⟨_, List.getElem?_eq_getElem (by rw [hf]; exact hn)⟩
      exact World.block_lt_of_cell? w _ (hcellq 0 (by omega) 0 _ hv)
    · intro i hi
      have hi' : i < len' := by simpa using hi
      rw [hget i hi']; exact hcellq i hi'
    · by_cases hj : j < len'
      · rw [hget j hj]; exact (hq j (by omega)).1
      · rw [List.getD_eq_getElem?_getD, List.getElem?_eq_none (by simp; omega)]; exact hd
    · refine Nat.le_trans (Nat.mul_le_mul_right _ ?_) hz
      simp only [List.length_map, List.length_range]; omega
def ErW (w : World) (x : ER) : Prop := ErP w x ∧ EnBig x.e
theorem er0_w (w : World) : ErW w er0 := by
  have h := er0_p w
  refine ⟨h, h.2.path, ⟨by decide, fun i => ⟨(h.2.attrs i).1, (h.2.attrs i).2⟩⟩, h.2.target, h.2.digest, by decide, h.2.exts⟩
set_option maxRecDepth 100000 in
theorem en_elemW {n : Nat} {cs : List Value} {y : DataW H × List MemPlace} (hl : cs.length = 7) (h : DataW.trod enc Tryz.prog w base (fun _ => true) true n 109 cs = some y) (hw : Wt Tryz.prog 109 y.1) : ∃ c : ER, cs = c.vals ∧ ErW w c := by
  obtain ⟨xs, k, _, hy, _, hxl, hf⟩ := DataW.trod_struct Tryz.underlying109 h
  subst hy
  match xs, hxl, cs, hl with
  | [y0, y1, y2, y3, y4, y5, y6], _, [v0, v1, v2, v3, v4, v5, v6], _ =>
    have w6 : Wt Tryz.prog 107 y6.1 := Wt.agg hw Tryz.underlying109 (j := 6) rfl rfl
    have g0 := hf 0 _ rfl
    have g1 := hf 1 _ rfl
    have g2 := hf 2 _ rfl
    have g3 := hf 3 _ rfl
    have g4 := hf 4 _ rfl
    have g5 := hf 5 _ rfl
    have g6 := hf 6 _ rfl
    simp [en_str_cells, en_int_cells, en_ats_cells, en_exs_cells] at g0 g1 g2 g3 g4 g5 g6
    obtain ⟨k0, e0, q0, z0⟩ := DataW.trod_int Tryz.underlying3 g0
    obtain ⟨s1, e1, q1, z1⟩ := DataW.trod_string Tryz.underlying9 g1
    obtain ⟨s3, e3, q3, z3⟩ := DataW.trod_string Tryz.underlying9 g3
    obtain ⟨k4, e4, q4, z4⟩ := DataW.trod_int Tryz.underlying3 g4
    obtain ⟨s5, e5, q5, z5⟩ := DataW.trod_string Tryz.underlying9 g5
    simp only [List.cons.injEq, and_true] at e0 e1 e3 e4 e5
    subst e0 e1 e3 e4 e5
    unfold maxLen at z1 z3 z5
    have form : ∀ {T E : TypeId} {v : Value} {fuel : Nat} {y : DataW H × List MemPlace}, Tryz.prog.underlying T = some (.slice E) → DataW.trod enc Tryz.prog w base (fun _ => true) true fuel T [v] = some y → ∃ a l c, v = .slice a l c := fun hT h => by
      rcases open_slice hT h with ⟨hcs, _⟩ | ⟨a, len', cap', m, n', D, Pl, hcs, _⟩
      · exact ⟨none, 0, 0, by simpa using hcs⟩
      · exact ⟨some a, len', cap', by simpa using hcs⟩
    obtain ⟨a2, l2, c2, rfl⟩ := form Tryz.underlying106 g2
    obtain ⟨a6, l6, c6, rfl⟩ := form Tryz.underlying107 g6
    obtain ⟨A, hA, pA⟩ := grow_of (f := At.vals) (d := at0) (P := AtWf) Tryz.underlying106 (by kernel_rfl) (by decide) (fun _ => rfl) at0_wf (fun h1 h2 => at_elem h1 h2) g2
    obtain ⟨X, hX, pX, zX⟩ := grow_ofW (f := Ex.vals) (d := ex0) (P := ExOk) Tryz.underlying107 (by kernel_rfl) (by decide) (fun _ => rfl) ex0_okE (fun h1 h2 _ => ex_elem h1 h2) g6 w6
    rw [bytesEx] at zX
    have hX' : X.length ≤ 10000000000000 := by unfold reachBytes at zX; omega
    have hA' : A.length ≤ 9223372036854775807 := hA.1
    exact ⟨⟨⟨k0, s1, A, s3, k4, s5, X⟩, _, _⟩, rfl, ⟨⟨hA, hX⟩, wf_boundsi64 z0, z1, pA, z3, wf_boundsi64 z4, z5, pX⟩, ⟨z1, ⟨hA', fun i => ⟨(pA i).1, (pA i).2⟩⟩, z3, z5, hX', pX⟩⟩
set_option maxRecDepth 100000 in
theorem open_sessionW {r : Reach} {b0 : Nat} {v : Value} {d : DataW H} {p : List MemPlace} (hv : Value.okWide Tryz.prog w r b0 53 v) (h : DataW.Trod enc Tryz.prog w base (fun _ => true) true 53 v d p) (hw : Wt Tryz.prog 53 d) :
    ∃ (s : Se) (a : Option Addr) (c : Nat), v = .agg #[.int .i64 s.number, .int .i64 s.date, .string s.prev, .slice a s.entries.length c, .string s.stream, .string s.sl] ∧ EnRow w (.slice a s.entries.length c) s.entries ∧ SeBig s ∧ SeWf s := by
  obtain ⟨cs, rfl, hsz⟩ := okWide_struct Tryz.underlying53 hv
  obtain ⟨fuel, hf0⟩ := h
  have hC : Tryz.prog.cellsOf 53 = 6 := by kernel_rfl
  rw [hC] at hsz
  obtain ⟨xs, k, _, hy, _, hxl, hf⟩ := DataW.trod_struct Tryz.underlying53 hf0
  simp only [Prod.mk.injEq] at hy
  obtain ⟨rfl, _⟩ := hy
  have hl : cs.toList.length = 6 := by simpa using hsz
  obtain ⟨cs⟩ := cs
  match xs, hxl, cs, hl with
  | [y0, y1, y2, y3, y4, y5], _, [v0, v1, v2, v3, v4, v5], _ =>
    have w3 : Wt Tryz.prog 51 y3.1 := Wt.agg hw Tryz.underlying53 (j := 3) rfl rfl
    have g0 := hf 0 _ rfl
    have g1 := hf 1 _ rfl
    have g2 := hf 2 _ rfl
    have g3 := hf 3 _ rfl
    have g4 := hf 4 _ rfl
    have g5 := hf 5 _ rfl
    simp [Value.cells, en_str_cells, en_int_cells, se_ens_cells] at g0 g1 g2 g3 g4 g5
    obtain ⟨k0, e0, q0, z0⟩ := DataW.trod_int Tryz.underlying3 g0
    obtain ⟨k1, e1, q1, z1⟩ := DataW.trod_int Tryz.underlying3 g1
    obtain ⟨s2, e2, q2, z2⟩ := DataW.trod_string Tryz.underlying9 g2
    obtain ⟨s4, e4, q4, z4⟩ := DataW.trod_string Tryz.underlying9 g4
    obtain ⟨s5, e5, q5, z5⟩ := DataW.trod_string Tryz.underlying9 g5
    simp only [List.cons.injEq, and_true] at e0 e1 e2 e4 e5
    subst e0 e1 e2 e4 e5
    unfold maxLen at z2 z4 z5
    obtain ⟨a3, l3, c3, rfl⟩ : ∃ a l c, v3 = .slice a l c := by
      rcases open_slice Tryz.underlying51 g3 with ⟨hcs, _⟩ | ⟨a, len', cap', m, n', D, Pl, hcs, _⟩
      · exact ⟨none, 0, 0, by simpa using hcs⟩
      · exact ⟨some a, len', cap', by simpa using hcs⟩
    obtain ⟨L, hL, pL, _⟩ := grow_ofW (f := ER.vals) (d := er0) (P := ErW w) Tryz.underlying51 (by kernel_rfl) (by decide) er_len (er0_w w) (fun h1 h2 h3 => en_elemW h1 h2 h3) g3 w3
    have hn : l3 = L.length := by
      rcases hL.2 with ⟨rfl, a, c, e, _⟩ | ⟨_, b, o, c, e, _⟩
      · cases e; rfl
      · cases e; rfl
    subst hn
    have hEn : EnRow w (.slice a3 L.length c3) (L.map ER.e) := ⟨L, rfl, hL, fun x hx => by
      obtain ⟨i, hi, rfl⟩ := List.getElem_of_mem hx
      have := pL i
      rw [List.getD_eq_getElem?_getD, List.getElem?_eq_getElem hi] at this
      exact this.1.1⟩
    have hl2 : (L.map ER.e).length = L.length := List.length_map _
    have hll : L.length ≤ 9223372036854775807 := hL.1
    have h2 : ∀ i, enAt (L.map ER.e) i = (L.getD i er0).e := fun i => by
      rw [enAt, List.getD_eq_getElem?_getD, List.getD_eq_getElem?_getD, List.getElem?_map]
      cases L[i]? <;> rfl
    refine ⟨⟨k0, k1, s2, L.map ER.e, s4, s5⟩, a3, c3, ?_, ?_, ⟨wf_boundsi64 z0, wf_boundsi64 z1, z2, z4, z5, ?_, fun i _ => ?_⟩, wf_boundsi64 z0, wf_boundsi64 z1, z2, z4, z5, fun i => ?_⟩
    · show _ = Value.agg #[_, _, _, .slice a3 (L.map ER.e).length c3, _, _]
      rw [hl2]
    · show EnRow w (.slice a3 (L.map ER.e).length c3) (L.map ER.e)
      rw [hl2]; exact hEn
    · show (L.map ER.e).length ≤ _
      rw [hl2]; exact hll
    · show EnBig (enAt (L.map ER.e) i)
      rw [h2]; exact (pL i).2
    · show EnWf (enAt (L.map ER.e) i)
      rw [h2]; exact (pL i).1.2
set_option maxRecDepth 100000 in
theorem bools_of {v : Value} {d : DataW H} {p : List MemPlace} {base0 : Nat} {r : Reach}
    (hval : Value.okWide Tryz.prog w r base0 40 v) (h : DataW.Trod enc Tryz.prog w 0 (fun _ => true) true 40 v d p) :
    ∃ (u : Value) (L : List Bool), u = v ∧ Row w u (L.map Value.bool) := by
  refine ⟨v, ?_⟩
  suffices hs : ∃ L : List Bool, Row w v (L.map Value.bool) from hs.imp fun L hL => ⟨rfl, hL⟩
  obtain ⟨a0, len, cap, rfl⟩ := okWide_slice Tryz.underlying40 hval
  obtain ⟨fuel, hf⟩ := h
  rcases open_slice1 Tryz.underlying40 lay_bool_cells hf with ⟨hcs, _⟩ | ⟨a, len', cap', m, n, V, D, Pl, hcs, _, hl, hm, hmm, _, hx⟩
  · have hcs' : Value.slice a0 len cap = Value.slice none 0 0 := by simpa [Value.cells] using hcs
    rw [hcs']
    exact ⟨[], Row.nil w⟩
  · have hcs' : Value.slice a0 len cap = Value.slice (some a) len' cap' := by simpa [Value.cells] using hcs
    rw [hcs']
    simp only [if_true] at hmm
    subst hmm
    by_cases h0 : len' = 0
    · subst h0
      exact ⟨[], some a, m, rfl, by simp, hm, .inl ⟨rfl, fun e => by cases e⟩⟩
    have each : ∀ i, i < len' → ∃ c : Bool, w.cell? (a.add i) = some (.bool c) := fun i hi => by
      obtain ⟨h1, h2⟩ := hx i (by omega)
      obtain ⟨b, hb, _⟩ := DataW.trod_bool Tryz.underlying4 h2
      simp only [List.cons.injEq, and_true] at hb
      exact ⟨b, by rw [h1, hb]⟩
    obtain ⟨q, hq⟩ := choose_lt each
    have hsp : a.spot = none := by
      have := hq 0 (by omega)
      unfold World.cell? at this
      split at this
      · split at this
        · cases this
        · rename_i hs
          cases hsp : a.spot with
          | none => rfl
          | some x => exfalso; apply hs; unfold Addr.add; simp [hsp]
      · cases this
    obtain ⟨b, o, sp⟩ := a
    simp only at hsp
    subst hsp
    refine ⟨(List.range len').map q, some ⟨b, o, none⟩, m, by simp, by simpa using hl, hm, .inr ⟨b, o, rfl, fun i u hu => ?_⟩⟩
    rw [List.getElem?_map, List.getElem?_map] at hu
    by_cases hi : i < len'
    · rw [List.getElem?_eq_getElem (by simpa using hi)] at hu
      simp only [List.getElem_range, Option.map_some, Option.some.injEq] at hu
      rw [← hu, ← hq i hi, Addr.add_mid]
    · rw [List.getElem?_eq_none (by simpa using hi)] at hu; cases hu
set_option maxRecDepth 100000 in
theorem open_layout {r : Reach} {b0 : Nat} {v : Value} {d : DataW H} {p : List MemPlace} {spare : Nat → Bool} {held : Bool} (hv : Value.okWide Tryz.prog w r b0 39 v) (h : DataW.Trod enc Tryz.prog w base spare held 39 v d p) :
    ∃ (x0 x1 : Int), v = .agg #[.int .i64 x0, .int .i64 x1] ∧ (-9223372036854775808 ≤ x0 ∧ x0 ≤ 9223372036854775807) ∧ (-9223372036854775808 ≤ x1 ∧ x1 ≤ 9223372036854775807) := by
  obtain ⟨cs, rfl, hsz⟩ := okWide_struct Tryz.underlying39 hv
  obtain ⟨fuel, hf0⟩ := h
  rw [fr_lay_cells] at hsz
  obtain ⟨xs, k, _, _, _, hxl, hf⟩ := DataW.trod_struct Tryz.underlying39 hf0
  have hl : cs.toList.length = 2 := by simpa using hsz
  obtain ⟨cs⟩ := cs
  match xs, hxl, cs, hl with
  | [y0, y1], _, [v0, v1], _ =>
    have g0 := hf 0 _ rfl
    have g1 := hf 1 _ rfl
    simp [Value.cells, en_int_cells] at g0 g1
    obtain ⟨k0, e0, q0, z0⟩ := DataW.trod_int Tryz.underlying3 g0
    obtain ⟨k1, e1, q1, z1⟩ := DataW.trod_int Tryz.underlying3 g1
    simp only [List.cons.injEq, and_true] at e0 e1
    subst e0 e1
    exact ⟨k0, k1, rfl, wf_boundsi64 z0, wf_boundsi64 z1⟩
end
end Go.Proofs.YtpkapcijgldhhaaGreatDoor
