/-
  The walks of entry.Head and entry.Encode.
-/
import Derived.Test.YtjlfjchcmkkebaaGreatDoorChkW
import Derived.Deep.RegionHeld3
import Derived.Deep.RegionWith
namespace Go.Proofs.YtjlfjchcmkkebaaGreatDoor
open Go.RowKit Go.Shelf

/-- a string of given bytes -/
def bStr (l : List UInt8) : ByteArray := ⟨l.toArray⟩
theorem bStr_list (l : List UInt8) : (bStr l).data.toList = l := rfl
def NamesP (m : Nat) (w : World) (e : Ending) (w' : World) : Prop := ∃ g, e = .returned (.slice (some ⟨g, 0, none⟩) 6 6) ∧ w'.cell? ⟨g, m, none⟩ = some (.string (bStr (nameL ((m : Int) + 1)))) ∧ Below w.heap.size w w'
theorem names_any (m : Nat) (w : World) (hm : m < 6) : Calls Tryz.prog 93 #[] w (NamesP m w) := by
  have HC := Lib.hid (alloc_new_cell w #[.string ⟨#[102, 105, 108, 101]⟩, .string ⟨#[100, 105, 114]⟩, .string ⟨#[108, 105, 110, 107]⟩, .string ⟨#[114, 101, 109, 111, 118, 101]⟩, .string ⟨#[104, 111, 108, 100]⟩, .string ⟨#[114, 101, 108, 101, 97, 115, 101]⟩] 9 m)
  go_enter Tryz.func93, Tryz.ntmps93
  go_wp2_with fail
  go_ret
  refine ⟨_, rfl, ?_, (below_refl _).alloc (Nat.le_refl _) _⟩
  rw [HC.out]
  have : m = 0 ∨ m = 1 ∨ m = 2 ∨ m = 3 ∨ m = 4 ∨ m = 5 := by omega
  rcases this with rfl | rfl | rfl | rfl | rfl | rfl <;> rfl
theorem strs_pair (W : World) (a b : ByteArray) : Strs (W.alloc (.cells #[.string a, .string b] 9)) (.slice (some ⟨W.heap.size, 0, none⟩) 2 2) [a, b] := strs_new W [a, b] 9 (by unfold maxLen; simp)
theorem strsL_pair (a b : ByteArray) : strsL [a, b] = strL a.data.toList ++ strL b.data.toList := by simp [strsL]
theorem pair_any (a b : ByteArray) (W : World) (he : Env W) (ha : a.size + b.size ≤ 1000000) : Calls Tryz.prog 143 #[.slice (some ⟨W.heap.size, 0, none⟩) 2 2] (W.alloc (.cells #[.string a, .string b] 9)) fun e w' =>
    ∃ t : ByteArray, e = .returned (.string t) ∧ Hid (t.data.toList = strL a.data.toList ++ strL b.data.toList) ∧ Hid (Below W.heap.size W w') := by
  have hb : Below W.heap.size W (W.alloc (.cells #[.string a, .string b] 9)) := (below_refl W).alloc (Nat.le_refl _) _
  refine (strings_any _ [a, b] _ (he.below hb) (strs_pair W a b) (by simp [totS]; omega)).mono ?_
  rintro e w' ⟨t, rfl, ht, hb2⟩
  exact ⟨t, rfl, by rw [Hid, ht.out, strsL_pair], step2 hb hb2⟩
theorem strL_len30 {l : List UInt8} {n : Nat} (h : l.length ≤ n) (hn : n ≤ 1000000) : (strL l).length ≤ n + 30 := by
  have := itoa_len (n := ((l.length : Nat) : Int)) (by omega) (by omega)
  rw [strL_length]; omega
theorem below_drew0 {B : Nat} {a w : World} (h : Below B a w) : Below B a w.drew := h.trans (Below.drew (Below.refl _ _))
/-- the head's state: what the builder holds -/
abbrev Bld (B : Nat) (l : List UInt8) (w : World) : Prop := Lib.IsBuilder 82 5 B B (Lib.byteCells l) w
def HeadP (l : List UInt8) (c : Int) (w : World) (e : Ending) (w' : World) : Prop := ∃ t : ByteArray, e = .returned (.tuple #[.string t, .int .i64 c]) ∧ Hid (t.data.toList = l) ∧ Below w.heap.size w w'
set_option maxRecDepth 100000 in
set_option maxHeartbeats 4000000 in
theorem head_bad (kd : Int) (pt tg dg : ByteArray) (sz : Int) (va vx : Value) (w : World) (c : Int) (hc : c ≠ 0)
    (HK : Hid (∀ W, Below w.heap.size w W → Calls Tryz.prog 60 #[.agg #[.int .i64 kd, .string pt, va, .string tg, .int .i64 sz, .string dg, vx]] W (IntP c W))) :
    Calls Tryz.prog 108 #[.agg #[.int .i64 kd, .string pt, va, .string tg, .int .i64 sz, .string dg, vx]] w (HeadP [] c w) := by
  have hb0 : Below w.heap.size w (w.alloc (.cells #[.int .i64 kd, .string pt, va, .string tg, .int .i64 sz, .string dg, vx] 55)) := (below_refl _).alloc (Nat.le_refl _) _
  obtain ⟨q1, q2⟩ := neq0 hc
  have Hc := Lib.hid hc; clear hc
  go_enter Tryz.func108, Tryz.ntmps108
  go_wp2_with fail
  refine (HK.out _ hb0).mono ?_
  rintro e w2 ⟨rfl, hb2⟩
  go_wp2_with fail
  go_ret2
  exact ⟨⟨#[]⟩, rfl, rfl, step2 hb0 hb2⟩
theorem take_flat (A : List At) (k : Nat) (h : k < A.length) : (A.take (k + 1)).flatMap atL = (A.take k).flatMap atL ++ atL (atAt A k) := by
  rw [List.take_succ_eq_append_getElem h, List.flatMap_append, atAt_get h]; simp
set_option maxRecDepth 100000 in
set_option maxHeartbeats 4000000 in
theorem head1 (m : Nat) (pt tg dg : ByteArray) (sz : Int) (A : List At) (b o xc : Nat) (vx : Value) (w : World) (he : Env w) (hm : m < 6) (h0 : 0 < A.length) (h16 : A.length ≤ 16) (hb : b < w.heap.size) (hA : AtAt w b o A)
    (hpt : pt.size ≤ 1000) (htg : tg.size ≤ 1000) (hok : ∀ i, (atAt A i).key.size ≤ 100 ∧ (atAt A i).value.size ≤ 100)
    (HK : Hid (∀ W, Below w.heap.size w W → Calls Tryz.prog 60 #[.agg #[.int .i64 ((m : Int) + 1), .string pt, .slice (some ⟨b, o, none⟩) A.length xc, .string tg, .int .i64 sz, .string dg, vx]] W (IntP 0 W))) :
    Calls Tryz.prog 108 #[.agg #[.int .i64 ((m : Int) + 1), .string pt, .slice (some ⟨b, o, none⟩) A.length xc, .string tg, .int .i64 sz, .string dg, vx]] w (HeadP (strL (nameL ((m : Int) + 1)) ++ strL pt.data.toList ++ numL A.length ++ A.flatMap atL ++ strL tg.data.toList) 0 w) := by
  have hb0 : Below w.heap.size w (w.alloc (.cells #[.int .i64 ((m : Int) + 1), .string pt, .slice (some ⟨b, o, none⟩) A.length xc, .string tg, .int .i64 sz, .string dg, vx] 55)) := (below_refl _).alloc (Nat.le_refl _) _
  have HE := Lib.hid (show ∀ W, Below w.heap.size w W → Env W from fun W hW => he.below hW)
  have HAA := Lib.hid (show ∀ W, Below w.heap.size w W → AtAt W b o A from fun W hW => hA.below hW hb)
  have HNM := Lib.hid (fun W => names_any m W hm)
  have hnl : (nameL ((m : Int) + 1)).length ≤ 10 := by
    have : m = 0 ∨ m = 1 ∨ m = 2 ∨ m = 3 ∨ m = 4 ∨ m = 5 := by omega
    rcases this with rfl | rfl | rfl | rfl | rfl | rfl <;> decide
  have HOK := Lib.hid hok
  clear hok he hA
  go_enter Tryz.func108, Tryz.ntmps108
  go_wp2_with fail
  refine (HK.out _ hb0).mono ?_
  rintro e w2 ⟨rfl, hb2⟩
  have HC := Lib.hid (fun j => box_cells hb2 j)
  have hb3 := step2 hb0 hb2
  have hwl : w.heap.size < w2.heap.size := by have := hb2.size; simp at this; omega
  clear HK hb0 hb2
  go_upto_region 5 with (fail)
  have HB0 : Hid (Bld w2.heap.size [] (w2.alloc (.cells #[.pointer none, .slice none 0 0] 82))) := Lib.fresh_isBuilder 82 5 w2
  have hb4 : Below w.heap.size w (w2.alloc (.cells #[.pointer none, .slice none 0 0] 82)) := hb3.alloc hb3.size _
  have hk4 : Below w2.heap.size w2 (w2.alloc (.cells #[.pointer none, .slice none 0 0] 82)) := (below_refl w2).alloc (Nat.le_refl _) _
  have hs4 := size_one w2 (.cells #[.pointer none, .slice none 0 0] 82)
  generalize hB : w2.heap.size = B at *
  obtain ⟨w4, hw4⟩ : ∃ w4, w2.alloc (.cells #[.pointer none, .slice none 0 0] 82) = w4 := ⟨_, rfl⟩
  change Code.wp _ _ _ _ (w2.alloc (.cells #[.pointer none, .slice none 0 0] 82))
  rw [hw4] at HB0 hb4 hk4 hs4 ⊢
  have HC4 := Lib.hid (show ∀ W, Below B w4 W → ∀ j, W.cell? ⟨w.heap.size, j, none⟩ = #[Value.int .i64 ((m : Int) + 1), .string pt, .slice (some ⟨b, o, none⟩) A.length xc, .string tg, .int .i64 sz, .string dg, vx][j]? from fun W hW j => by
    rw [hW.cell (p := ⟨w.heap.size, j, none⟩) hwl, hk4.cell (p := ⟨w.heap.size, j, none⟩) hwl]; exact HC.out j)
  have hlt4 : B < w4.heap.size := by omega
  have HBe := Lib.hid hB
  clear hw4 hs4 HC hk4 hb3 hB
  have wm : IntKind.i64.wrap (m : Int) = m := IntWalk.i64_in _ (by omega)
  have wm1 : IntKind.i64.wrap ((m : Int) + 1 - 1) = m := by rw [show (m : Int) + 1 - 1 = m from by omega]; exact wm
  have hm6 : (m : Int) < 6 := by omega
  have c0 : w4.cell? ⟨w.heap.size, 0, none⟩ = some (.int .i64 ((m : Int) + 1)) := HC4.out _ (Below.refl _ _) 0
  have c1 : w4.cell? ⟨w.heap.size, 1, none⟩ = some (.string pt) := HC4.out _ (Below.refl _ _) 1
  have HPair := Lib.hid (show ∀ W, Below w4.heap.size w4 W → Calls Tryz.prog 143 #[.slice (some ⟨W.heap.size, 0, none⟩) 2 2] (W.alloc (.cells #[.string (bStr (nameL ((m : Int) + 1))), .string pt] 9)) fun e w' =>
      ∃ t : ByteArray, e = .returned (.string t) ∧ Hid (t.data.toList = strL (nameL ((m : Int) + 1)) ++ strL pt.data.toList ∧ t.size ≤ 100000) ∧ Hid (Below W.heap.size W w') from fun W hW =>
    (pair_any _ pt W (HE.out W (step2 hb4 hW)) (by show (nameL _).length + _ ≤ _; omega)).mono fun e w' ⟨t, h1, h2, h3⟩ => ⟨t, h1, ⟨h2.out, by
      rw [← toList_size, h2.out, List.length_append]
      have g1 := strL_len30 (l := (bStr (nameL ((m : Int) + 1))).data.toList) (n := 1000) (by show (nameL _).length ≤ _; omega) (by decide)
      have g2 := strL_len30 (l := pt.data.toList) (n := 1000) (by rw [toList_size]; exact hpt) (by decide)
      omega⟩, h3⟩)
  have HWs := Lib.hid (show ∀ (W : World) (t : ByteArray), Below w4.heap.size w4 W → t.size ≤ 100000 → Calls Tryz.prog 52 #[.pointer (some ⟨B, 0, none⟩), .string t] W fun e w' =>
      e = .returned (.tuple #[.int .i64 t.size, .nilIface]) ∧ Hid (Bld B t.data.toList w') ∧ Hid (Below B W w') from fun W t hW ht =>
    (writeString_at B [] t W (isBuilder_below HB0.out hW) (by simp; omega) (Nat.le_trans (Nat.le_of_lt hlt4) hW.size)).mono fun e w' ⟨h1, h2, h3⟩ => ⟨h1, h2, h3⟩)
  have bd0 : Below w4.heap.size w4 w4.drew := below_drew0 (below_refl w4)
  have HN2 := Lib.hid (show Calls Tryz.prog 93 #[] w4.drew (fun e wa => ∃ g, e = .returned (.slice (some ⟨g, 0, none⟩) 6 6) ∧ wa.cell? ⟨g, m, none⟩ = some (.string (bStr (nameL ((m : Int) + 1)))) ∧
      wa.cell? ⟨w.heap.size, 0, none⟩ = some (.int .i64 ((m : Int) + 1)) ∧ wa.cell? ⟨w.heap.size, 1, none⟩ = some (.string pt) ∧ Hid (Below w4.heap.size w4 wa)) from
    (HNM.out w4.drew).mono fun e wa ⟨g, h1, h2, h3⟩ => ⟨g, h1, h2, HC4.out _ ((step2 bd0 h3).mono (Nat.le_of_lt hlt4)) 0, HC4.out _ ((step2 bd0 h3).mono (Nat.le_of_lt hlt4)) 1, step2 bd0 h3⟩)
  go_cut [] from 13 to 23 (fun wc => Hid (Bld B (strL (nameL ((m : Int) + 1)) ++ strL pt.data.toList) wc) ∧ Below B w4 wc)
  case first =>
    go_region_with (first
      | (go_at_call 93; refine HN2.out.mono ?_; rintro e wa ⟨g, rfl, hcell, hc0, hc1, hba⟩)
      | (go_at_call 143; refine (HPair.out _ hba.out).mono ?_; rintro e wb ⟨t, rfl, ht, hbb⟩)
      | (go_at_call 52; refine (HWs.out _ _ (step2 hba.out hbb.out) ht.out.2).mono ?_; rintro e wc ⟨rfl, hB1, hbc⟩))
    all_goals
      go_wp2_with fail
      go_meet
      case rel => exact ⟨by rw [Hid, ← ht.out.1]; exact hB1.out, ((step2 hba.out hbb.out).mono (Nat.le_of_lt hlt4)).trans hbc.out⟩
  case rest =>
    obtain ⟨hB1, kb1⟩ := hcut
    clear c0 c1 HN2 HPair HWs wm wm1 bd0
    have hBw : w.heap.size ≤ B := Nat.le_of_lt hwl
    have HEB := Lib.hid (show ∀ W, Below B w4 W → Env W from fun W hW => HE.out W (hb4.trans (hW.mono hBw)))
    have HAB := Lib.hid (show ∀ W, Below B w4 W → AtAt W b o A from fun W hW => HAA.out W (hb4.trans (hW.mono hBw)))
    have hl0 : (strL (nameL ((m : Int) + 1)) ++ strL pt.data.toList).length ≤ 3000 := by
      rw [List.length_append]
      have g1 := strL_len30 (l := nameL ((m : Int) + 1)) (n := 1000) (by omega) (by decide)
      have g2 := strL_len30 (l := pt.data.toList) (n := 1000) (by rw [toList_size]; exact hpt) (by decide)
      omega
    have c2 : wc.cell? ⟨w.heap.size, 2, none⟩ = some (.slice (some ⟨b, o, none⟩) A.length xc) := HC4.out _ kb1 2
    have hbc : B ≤ wc.heap.size := Nat.le_trans (Nat.le_of_lt hlt4) kb1.size
    generalize strL (nameL ((m : Int) + 1)) ++ strL pt.data.toList = L0 at *
    have HNU := Lib.hid (number_any A.length wc (HEB.out _ kb1) (by omega) (by omega))
    have hnu : (numL (A.length : Int)).length ≤ 30 := by rw [numL_length]; have := itoa_len (n := (A.length : Int)) (by omega) (by omega); omega
    go_wp2_with fail
    refine HNU.out.mono ?_
    rintro e w5 ⟨t, rfl, ht, hb5⟩
    have hts : t.size ≤ 30 := by rw [← toList_size, ht.out]; exact hnu
    go_wp2_with fail
    refine (writeString_at B L0 t _ (isBuilder_below hB1.out hb5) (by omega) (Nat.le_trans hbc hb5.size)).mono ?_
    rintro e w6 ⟨rfl, hB2, hb6⟩
    have kb2 : Below B w4 w6 := (kb1.trans (hb5.mono hbc)).trans hb6
    rw [ht.out] at hB2
    have hl1 : (L0 ++ numL (A.length : Int)).length ≤ 3100 := by rw [List.length_append]; omega
    clear ht hts hb5 hb6 hB1 kb1 c2 hbc HNU hnu hl0
    generalize L0 ++ numL (A.length : Int) = L1 at *
    have c2 : w6.cell? ⟨w.heap.size, 2, none⟩ = some (.slice (some ⟨b, o, none⟩) A.length xc) := HC4.out _ kb2 2
    go_wp2_with fail
    go_loopw [32] (fun i wr => ∃ k : Nat, k ≤ A.length ∧ i = .int .i64 k ∧ Hid (Bld B (L1 ++ (A.take k).flatMap atL) wr) ∧ Hid (((A.take k).flatMap atL).length ≤ k * 260) ∧ Below B w4 wr) (fun i _ => A.length - (intOf i).toNat)
    case atStart => exact ⟨0, by omega, rfl, by rw [Hid]; simpa using hB2.out, by rw [Hid]; simp, kb2⟩
    case round =>
      obtain ⟨k, hk, rfl, hBk, hlk, kbr⟩ := hrel
      have hbr : B ≤ wr.heap.size := Nat.le_trans (Nat.le_of_lt hlt4) kbr.size
      by_cases hlt : k < A.length
      · obtain ⟨c0, c1⟩ := atCells (HAB.out _ kbr) hlt
        obtain ⟨z0, z1⟩ := HOK.out k
        have hbX : Below wr.heap.size wr (wr.alloc (.cells #[.string (atAt A k).key, .string (atAt A k).value] 126)) := (below_refl wr).alloc (Nat.le_refl _) _
        have HP := pair_any (atAt A k).key (atAt A k).value (wr.alloc (.cells #[.string (atAt A k).key, .string (atAt A k).value] 126)) (HEB.out _ (kbr.trans (hbX.mono hbr))) (by omega)
        rw [size_one] at HP
        have HP := Lib.hid HP
        have HT := Lib.hid (take_flat A k hlt)
        have ht2 : (atL (atAt A k)).length ≤ 260 := by
          rw [atL, List.length_append]
          have g1 := strL_len30 (l := (atAt A k).key.data.toList) (n := 100) z0 (by decide)
          have g2 := strL_len30 (l := (atAt A k).value.data.toList) (n := 100) z1 (by decide)
          omega
        have HL : Hid (atL (atAt A k) = strL (atAt A k).key.data.toList ++ strL (atAt A k).value.data.toList) := rfl
        have hlk2 := hlk.out
        generalize (atAt A k).key = ka at *
        generalize (atAt A k).value = kv at *
        go_wp2_with fail
        refine HP.out.mono ?_
        rintro e w7 ⟨t, rfl, ht, hb7⟩
        rw [← HL.out] at ht
        have hts : t.size ≤ 260 := by rw [← toList_size, ht.out]; exact ht2
        have hb8 := step2 hbX (by simpa using hb7.out)
        clear c0 c1 HP hb7
        go_wp2_with fail
        refine (writeString_at B (L1 ++ (A.take k).flatMap atL) t _ (isBuilder_below hBk.out hb8) (by rw [List.length_append]; omega) (Nat.le_trans hbr hb8.size)).mono ?_
        rintro e w9 ⟨rfl, hB9, hb9⟩
        go_wp2_with fail
        go_roundw
        case rel => exact ⟨k + 1, by omega, by go_num, by rw [Hid, HT.out, ← List.append_assoc, ← ht.out]; exact hB9.out, by rw [Hid, HT.out, List.length_append]; omega, (kbr.trans (hb8.mono hbr)).trans hb9⟩
        case measure => simp [intOf]; omega
      · have htk : A.take k = A := List.take_of_length_le (by omega)
        rw [htk] at hBk hlk
        clear htk
        have hkl := hlk.out
        have c3 : wr.cell? ⟨w.heap.size, 3, none⟩ = some (.string tg) := HC4.out _ kbr 3
        have HST := Lib.hid (string_any tg wr (HEB.out _ kbr) (by omega))
        have htl := strL_len30 (l := tg.data.toList) (n := 1000) (by rw [toList_size]; exact htg) (by decide)
        go_wp2_with fail
        refine HST.out.mono ?_
        rintro e w7 ⟨t, rfl, ht, hb7⟩
        have hts : t.size ≤ 1030 := by rw [← toList_size, ht.out]; exact htl
        go_wp2_with fail
        refine (writeString_at B (L1 ++ A.flatMap atL) t _ (isBuilder_below hBk.out hb7) (by rw [List.length_append]; omega) (Nat.le_trans hbr hb7.size)).mono ?_
        rintro e w8 ⟨rfl, hB8, hb8⟩
        rw [ht.out] at hB8
        have kb8 := (kbr.trans (hb7.mono hbr)).trans hb8
        go_wp2_with fail
        refine (Tryz.Builder_String_any B B (L1 ++ A.flatMap atL ++ strL tg.data.toList) _ hB8.out (Nat.le_trans (Nat.le_of_lt hlt4) kb8.size)).mono ?_
        rintro e w10 ⟨rfl, hb10⟩
        go_wp2_with fail
        go_ret2
        exact ⟨_, rfl, by rw [Hid]; try simp, (hb4.trans (kb8.mono hBw)).trans (hb10.mono hBw)⟩
set_option maxRecDepth 100000 in
set_option maxHeartbeats 4000000 in
theorem head0 (m : Nat) (pt tg dg : ByteArray) (sz : Int) (xa : Option Addr) (xc : Nat) (vx : Value) (w : World) (he : Env w) (hm : m < 6)
    (hpt : pt.size ≤ 1000) (htg : tg.size ≤ 1000)
    (HK : Hid (∀ W, Below w.heap.size w W → Calls Tryz.prog 60 #[.agg #[.int .i64 ((m : Int) + 1), .string pt, .slice xa 0 xc, .string tg, .int .i64 sz, .string dg, vx]] W (IntP 0 W))) :
    Calls Tryz.prog 108 #[.agg #[.int .i64 ((m : Int) + 1), .string pt, .slice xa 0 xc, .string tg, .int .i64 sz, .string dg, vx]] w (HeadP (strL (nameL ((m : Int) + 1)) ++ strL pt.data.toList ++ numL 0 ++ strL tg.data.toList) 0 w) := by
  have hb0 : Below w.heap.size w (w.alloc (.cells #[.int .i64 ((m : Int) + 1), .string pt, .slice xa 0 xc, .string tg, .int .i64 sz, .string dg, vx] 55)) := (below_refl _).alloc (Nat.le_refl _) _
  have HE := Lib.hid (show ∀ W, Below w.heap.size w W → Env W from fun W hW => he.below hW)
  have HNM := Lib.hid (fun W => names_any m W hm)
  have hnl : (nameL ((m : Int) + 1)).length ≤ 10 := by
    have : m = 0 ∨ m = 1 ∨ m = 2 ∨ m = 3 ∨ m = 4 ∨ m = 5 := by omega
    rcases this with rfl | rfl | rfl | rfl | rfl | rfl <;> decide
  clear he
  go_enter Tryz.func108, Tryz.ntmps108
  go_wp2_with fail
  refine (HK.out _ hb0).mono ?_
  rintro e w2 ⟨rfl, hb2⟩
  have HC := Lib.hid (fun j => box_cells hb2 j)
  have hb3 := step2 hb0 hb2
  have hwl : w.heap.size < w2.heap.size := by have := hb2.size; simp at this; omega
  clear HK hb0 hb2
  go_upto_region 5 with (fail)
  have HB0 : Hid (Bld w2.heap.size [] (w2.alloc (.cells #[.pointer none, .slice none 0 0] 82))) := Lib.fresh_isBuilder 82 5 w2
  have hb4 : Below w.heap.size w (w2.alloc (.cells #[.pointer none, .slice none 0 0] 82)) := hb3.alloc hb3.size _
  have hk4 : Below w2.heap.size w2 (w2.alloc (.cells #[.pointer none, .slice none 0 0] 82)) := (below_refl w2).alloc (Nat.le_refl _) _
  have hs4 := size_one w2 (.cells #[.pointer none, .slice none 0 0] 82)
  generalize hB : w2.heap.size = B at *
  obtain ⟨w4, hw4⟩ : ∃ w4, w2.alloc (.cells #[.pointer none, .slice none 0 0] 82) = w4 := ⟨_, rfl⟩
  change Code.wp _ _ _ _ (w2.alloc (.cells #[.pointer none, .slice none 0 0] 82))
  rw [hw4] at HB0 hb4 hk4 hs4 ⊢
  have HC4 := Lib.hid (show ∀ W, Below B w4 W → ∀ j, W.cell? ⟨w.heap.size, j, none⟩ = #[Value.int .i64 ((m : Int) + 1), .string pt, .slice xa 0 xc, .string tg, .int .i64 sz, .string dg, vx][j]? from fun W hW j => by
    rw [hW.cell (p := ⟨w.heap.size, j, none⟩) hwl, hk4.cell (p := ⟨w.heap.size, j, none⟩) hwl]; exact HC.out j)
  have hlt4 : B < w4.heap.size := by omega
  have HBe := Lib.hid hB
  clear hw4 hs4 HC hk4 hb3 hB
  have wm : IntKind.i64.wrap (m : Int) = m := IntWalk.i64_in _ (by omega)
  have wm1 : IntKind.i64.wrap ((m : Int) + 1 - 1) = m := by rw [show (m : Int) + 1 - 1 = m from by omega]; exact wm
  have hm6 : (m : Int) < 6 := by omega
  have c0 : w4.cell? ⟨w.heap.size, 0, none⟩ = some (.int .i64 ((m : Int) + 1)) := HC4.out _ (Below.refl _ _) 0
  have c1 : w4.cell? ⟨w.heap.size, 1, none⟩ = some (.string pt) := HC4.out _ (Below.refl _ _) 1
  have HPair := Lib.hid (show ∀ W, Below w4.heap.size w4 W → Calls Tryz.prog 143 #[.slice (some ⟨W.heap.size, 0, none⟩) 2 2] (W.alloc (.cells #[.string (bStr (nameL ((m : Int) + 1))), .string pt] 9)) fun e w' =>
      ∃ t : ByteArray, e = .returned (.string t) ∧ Hid (t.data.toList = strL (nameL ((m : Int) + 1)) ++ strL pt.data.toList ∧ t.size ≤ 100000) ∧ Hid (Below W.heap.size W w') from fun W hW =>
    (pair_any _ pt W (HE.out W (step2 hb4 hW)) (by show (nameL _).length + _ ≤ _; omega)).mono fun e w' ⟨t, h1, h2, h3⟩ => ⟨t, h1, ⟨h2.out, by
      rw [← toList_size, h2.out, List.length_append]
      have g1 := strL_len30 (l := (bStr (nameL ((m : Int) + 1))).data.toList) (n := 1000) (by show (nameL _).length ≤ _; omega) (by decide)
      have g2 := strL_len30 (l := pt.data.toList) (n := 1000) (by rw [toList_size]; exact hpt) (by decide)
      omega⟩, h3⟩)
  have HWs := Lib.hid (show ∀ (W : World) (t : ByteArray), Below w4.heap.size w4 W → t.size ≤ 100000 → Calls Tryz.prog 52 #[.pointer (some ⟨B, 0, none⟩), .string t] W fun e w' =>
      e = .returned (.tuple #[.int .i64 t.size, .nilIface]) ∧ Hid (Bld B t.data.toList w') ∧ Hid (Below B W w') from fun W t hW ht =>
    (writeString_at B [] t W (isBuilder_below HB0.out hW) (by simp; omega) (Nat.le_trans (Nat.le_of_lt hlt4) hW.size)).mono fun e w' ⟨h1, h2, h3⟩ => ⟨h1, h2, h3⟩)
  have bd0 : Below w4.heap.size w4 w4.drew := below_drew0 (below_refl w4)
  have HN2 := Lib.hid (show Calls Tryz.prog 93 #[] w4.drew (fun e wa => ∃ g, e = .returned (.slice (some ⟨g, 0, none⟩) 6 6) ∧ wa.cell? ⟨g, m, none⟩ = some (.string (bStr (nameL ((m : Int) + 1)))) ∧
      wa.cell? ⟨w.heap.size, 0, none⟩ = some (.int .i64 ((m : Int) + 1)) ∧ wa.cell? ⟨w.heap.size, 1, none⟩ = some (.string pt) ∧ Hid (Below w4.heap.size w4 wa)) from
    (HNM.out w4.drew).mono fun e wa ⟨g, h1, h2, h3⟩ => ⟨g, h1, h2, HC4.out _ ((step2 bd0 h3).mono (Nat.le_of_lt hlt4)) 0, HC4.out _ ((step2 bd0 h3).mono (Nat.le_of_lt hlt4)) 1, step2 bd0 h3⟩)
  go_cut [] from 13 to 23 (fun wc => Hid (Bld B (strL (nameL ((m : Int) + 1)) ++ strL pt.data.toList) wc) ∧ Below B w4 wc)
  case first =>
    go_region_with (first
      | (go_at_call 93; refine HN2.out.mono ?_; rintro e wa ⟨g, rfl, hcell, hc0, hc1, hba⟩)
      | (go_at_call 143; refine (HPair.out _ hba.out).mono ?_; rintro e wb ⟨t, rfl, ht, hbb⟩)
      | (go_at_call 52; refine (HWs.out _ _ (step2 hba.out hbb.out) ht.out.2).mono ?_; rintro e wc ⟨rfl, hB1, hbc⟩))
    all_goals
      go_wp2_with fail
      go_meet
      case rel => exact ⟨by rw [Hid, ← ht.out.1]; exact hB1.out, ((step2 hba.out hbb.out).mono (Nat.le_of_lt hlt4)).trans hbc.out⟩
  case rest =>
    obtain ⟨hB1, kb1⟩ := hcut
    clear c0 c1 HN2 HPair HWs wm wm1 bd0
    have hBw : w.heap.size ≤ B := Nat.le_of_lt hwl
    have HEB := Lib.hid (show ∀ W, Below B w4 W → Env W from fun W hW => HE.out W (hb4.trans (hW.mono hBw)))
    have hl0 : (strL (nameL ((m : Int) + 1)) ++ strL pt.data.toList).length ≤ 3000 := by
      rw [List.length_append]
      have g1 := strL_len30 (l := nameL ((m : Int) + 1)) (n := 1000) (by omega) (by decide)
      have g2 := strL_len30 (l := pt.data.toList) (n := 1000) (by rw [toList_size]; exact hpt) (by decide)
      omega
    have c2 : wc.cell? ⟨w.heap.size, 2, none⟩ = some (.slice xa 0 xc) := HC4.out _ kb1 2
    have hbc : B ≤ wc.heap.size := Nat.le_trans (Nat.le_of_lt hlt4) kb1.size
    generalize strL (nameL ((m : Int) + 1)) ++ strL pt.data.toList = L0 at *
    have HNU := Lib.hid (number_any 0 wc (HEB.out _ kb1) (by decide) (by decide))
    have hnu : (numL 0).length ≤ 30 := by rw [numL_length]; have := itoa_len (n := 0) (by decide) (by decide); omega
    go_wp2_with fail
    refine HNU.out.mono ?_
    rintro e w5 ⟨t, rfl, ht, hb5⟩
    have hts : t.size ≤ 30 := by rw [← toList_size, ht.out]; exact hnu
    go_wp2_with fail
    refine (writeString_at B L0 t _ (isBuilder_below hB1.out hb5) (by omega) (Nat.le_trans hbc hb5.size)).mono ?_
    rintro e w6 ⟨rfl, hB2, hb6⟩
    have kb2 : Below B w4 w6 := (kb1.trans (hb5.mono hbc)).trans hb6
    rw [ht.out] at hB2
    have hl1 : (L0 ++ numL 0).length ≤ 3100 := by rw [List.length_append]; omega
    clear ht hts hb5 hb6 hB1 kb1 c2 hbc HNU hnu hl0
    generalize L0 ++ numL 0 = L1 at *
    have c2 : w6.cell? ⟨w.heap.size, 2, none⟩ = some (.slice xa 0 xc) := HC4.out _ kb2 2
    have hb6s : B ≤ w6.heap.size := Nat.le_trans (Nat.le_of_lt hlt4) kb2.size
    go_upto_block 0 with (fail)
    go_wp2_with fail
    refine wp_loop_rounds 1 ?_; rw [rounds_succ]
    have c3 : w6.cell? ⟨w.heap.size, 3, none⟩ = some (.string tg) := HC4.out _ kb2 3
    have HST := Lib.hid (string_any tg w6 (HEB.out _ kb2) (by omega))
    have htl := strL_len30 (l := tg.data.toList) (n := 1000) (by rw [toList_size]; exact htg) (by decide)
    go_wp2_with fail
    refine HST.out.mono ?_
    rintro e w7 ⟨t, rfl, ht, hb7⟩
    have hts : t.size ≤ 1030 := by rw [← toList_size, ht.out]; exact htl
    go_wp2_with fail
    refine (writeString_at B L1 t _ (isBuilder_below hB2.out hb7) (by omega) (Nat.le_trans hb6s hb7.size)).mono ?_
    rintro e w8 ⟨rfl, hB8, hb8⟩
    rw [ht.out] at hB8
    have kb8 := (kb2.trans (hb7.mono hb6s)).trans hb8
    go_wp2_with fail
    refine (Tryz.Builder_String_any B B (L1 ++ strL tg.data.toList) _ hB8.out (Nat.le_trans (Nat.le_of_lt hlt4) kb8.size)).mono ?_
    rintro e w10 ⟨rfl, hb10⟩
    go_wp2_with fail
    go_ret2
    exact ⟨_, rfl, by rw [Hid]; try simp, (hb4.trans (kb8.mono hBw)).trans (hb10.mono hBw)⟩
theorem en_kind {k : Int} (h : 1 ≤ k ∧ k ≤ 6) : ∃ m : Nat, k = (m : Int) + 1 ∧ m < 6 := ⟨(k - 1).toNat, by omega, by omega⟩
end Go.Proofs.YtjlfjchcmkkebaaGreatDoor
