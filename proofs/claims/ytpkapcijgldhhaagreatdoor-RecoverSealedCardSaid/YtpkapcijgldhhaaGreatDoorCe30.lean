/-
  The text of a directory from a reel, in the program.
-/
import Derived.Test.YtpkapcijgldhhaaGreatDoorCe29
namespace Go.Proofs.YtpkapcijgldhhaaGreatDoor
open Go.RowKit Go.Shelf
theorem buildLen_any (B : Nat) (l : List UInt8) (w : World) (h : Lib.IsBuilderF 93 5 B B (Lib.byteCells l) w) :
    Calls Tryz.prog 60 #[.pointer (some ⟨B, 0, none⟩)] w fun e w' => e = .returned (.int .i64 l.length) ∧ w' = w := by
  obtain ⟨p, hB, v, hbk, hown, hne⟩ : ∃ p, Lib.BuilderAtF 93 5 B B p (Lib.byteCells l) w := by
    rcases h with h | h
    · exact ⟨_, h⟩
    · exact ⟨_, h⟩
  obtain ⟨ao, cap, rfl⟩ : ∃ ao cap, v = .slice ao l.length cap := by
    rcases hown.2 with ⟨hv, h0⟩ | ⟨g, cap, cur, fz, hv, _⟩
    · exact ⟨none, 0, by rw [hv, ← Lib.byteCells_length, h0]⟩
    · exact ⟨_, _, by rw [hv, Lib.byteCells_length]⟩
  have c1 : w.cell? ⟨B, 1, none⟩ = some (.slice ao l.length cap) := by rw [Lib.cell_of_heap hbk]; rfl
  clear hown hbk hne h
  go_enter Tryz.func60, Tryz.ntmps60
  go_wp2_with fail
  go_ret
  exact ⟨rfl, rfl⟩
theorem PartP.no {w w' : World} {R : Option (List UInt8)} (h : R = none) {x : ByteArray} (hb : Below w.heap.size w w') : PartP R w (.returned (.tuple #[.string x, .bool false])) w' := by subst h; exact ⟨⟨x, rfl⟩, hb⟩
theorem PartP.yes {w w' : World} {R : Option (List UInt8)} {t : List UInt8} (h : R = some t) {x : ByteArray} (hx : x = bA' t) (hb : Below w.heap.size w w') : PartP R w (.returned (.tuple #[.string x, .bool true])) w' := by subst h hx; exact ⟨rfl, hb⟩
set_option maxRecDepth 100000 in
set_option maxHeartbeats 4000000 in
theorem text_any (ar : Int) (v : Value) (F : List Fr) (s : Int) (fm : Nat) (hfm : fm < 15) (w : World) (hr : FrRow w v F) (hF : SmallF F) :
    Calls Tryz.prog 31 #[.agg #[.int .u32 ar, v], .int .i64 s, .int .i64 fm] w (PartP (textR F s fm) w) := by
  have HO := Lib.hid (show ∀ W, Below w.heap.size w W → ∀ i, Calls Tryz.prog 58 #[.agg #[.int .u32 ar, v], .int .i64 s, .int .i64 fm, .int .i64 i] W (PartP (partR F s fm i) W) from fun W hW i => part_any ar v F s i fm hfm W (hr.below hW) hF)
  have HF := Lib.hid hF
  clear hr hF hfm
  obtain ⟨kb0, bC0⟩ := boxr w [.int .u32 ar, v] 25
  go_enter Tryz.func31, Tryz.ntmps31
  go_upto_region 1 with (fail)
  obtain ⟨W0, hW0⟩ : ∃ W0, w.alloc (.cells [.int .u32 ar, v].toArray 25) = W0 := ⟨_, rfl⟩
  change Code.wp _ _ _ _ (w.alloc (.cells [.int .u32 ar, v].toArray 25))
  rw [hW0] at kb0 bC0 ⊢
  clear hW0
  obtain ⟨c0, c1⟩ := bC0.cells2
  have HP := Lib.hid (HO.out _ kb0 0)
  go_wp2_with fail
  refine HP.out.mono ?_
  rintro e w1 ⟨he, hb1⟩
  have k1 := step2 kb0 hb1
  have bC1 := bC0.below hb1
  clear HP c0 c1 kb0 bC0 hb1
  rcases hp : partR F s fm 0 with _ | f
  · rw [hp] at he
    obtain ⟨x, rfl⟩ := he
    have Ho := Lib.hid (text_none hp)
    clear hp
    go_wp2_with fail
    go_ret2
    exact .no Ho.out k1
  rw [hp] at he
  obtain rfl := he
  have hfb := part_bd HF.out hp
  have HP := Lib.hid hp
  clear hp
  have HL := Lib.hid (length_any (bA' f) w1 (by show f.length ≤ _; omega))
  rw [bA'_list] at HL
  go_wp2_with fail
  refine HL.out.mono ?_
  rintro e w3 ⟨he, rfl⟩
  clear HL
  rcases hl : lenR f with x | n
  · rw [hl] at he
    obtain rfl := he
    have Ho := Lib.hid (text_len HP.out hl)
    obtain ⟨x1, x2⟩ := neq0 (len_err hl)
    clear hl
    dsimp only [stInt, errOf]
    go_wp2_with fail
    go_ret2
    exact .no Ho.out k1
  rw [hl] at he
  obtain rfl := he
  have hnb := len_bd hl
  have HN := Lib.hid hl
  clear hl
  dsimp only [stInt, errOf]
  have h0 : Hid (Lib.IsBuilder 93 5 w1.heap.size w1.heap.size (Lib.byteCells []) (w1.alloc (.cells #[.pointer none, .slice none 0 0] 93))) := Lib.fresh_isBuilder 93 5 w1
  have kB : Below w1.heap.size w1 (w1.alloc (.cells #[.pointer none, .slice none 0 0] 93)) := (Below.refl _ w1).alloc (Nat.le_refl _) _
  have k2 := step2 k1 kB
  have bC2 := bC1.below kB
  have hzB := kB.size
  have hBw := bC1.lt
  go_upto_region 8 with (fail)
  generalize w1.alloc (.cells #[.pointer none, .slice none 0 0] 93) = W2 at *
  generalize w1.heap.size = B at *
  clear kB bC1 k1
  go_wp2_with fail
  go_loopw [13, 14, 15] (fun i _ _ wr => ∃ (k : Nat) (a : List UInt8), i = .int .i64 k ∧ Below w.heap.size w wr ∧ B ≤ wr.heap.size ∧ Box wr w.heap.size [.int .u32 ar, v] 25 ∧
    Hid (Lib.IsBuilder 93 5 B B (Lib.byteCells a) wr) ∧ Hid (partsR F s fm k = some a) ∧ 28 * (k : Int) < n + 28) (fun i _ _ _ => (n - 28 * intOf i).toNat)
  case atStart => exact ⟨0, [], rfl, k2, hzB, bC2, h0, rfl, by omega⟩
  case round =>
    clear k2 bC2 h0 hzB
    obtain ⟨k, a, rfl, kb, hzb, bC, hb, ha, hkn⟩ := hrel
    obtain ⟨hk1, hab⟩ := parts_bd HF.out ha.out
    have hw28 : IntKind.i64.wrap ((k : Int) * 28) = 28 * (k : Int) := by rw [IntWalk.i64_in _ (by omega)]; omega
    by_cases hlt : 28 * (k : Int) < n
    · obtain ⟨c0, c1⟩ := bC.cells2
      have HR := Lib.hid (HO.out _ kb k)
      go_wp2_with fail
      refine HR.out.mono ?_
      rintro e w4 ⟨he, hb4⟩
      have k4 := step2 kb hb4
      have bC4 := bC.below hb4
      have hB4 : Hid (Lib.IsBuilder 93 5 B B (Lib.byteCells a) w4) := isBuilder_below hb.out hb4
      have hz4 := Nat.le_trans hzb hb4.size
      clear HR c0 c1 kb bC hb hb4 hzb
      rcases hp : partR F s fm k with _ | t
      · rw [hp] at he
        obtain ⟨x, rfl⟩ := he
        have Ho := Lib.hid (text_miss HP.out HN.out hlt hp)
        clear hp
        go_wp2_with fail
        go_ret2
        exact .no Ho.out k4
      · rw [hp] at he
        obtain rfl := he
        have hs := Lib.hid (parts_next ha.out hp)
        have htb := part_bd HF.out hp
        clear hp
        have HWS := Lib.hid (writeString_at B a (bA' t) w4 hB4 (by show a.length + t.length ≤ _; omega) hz4)
        rw [bA'_list] at HWS
        go_wp2_with fail
        refine HWS.out.mono ?_
        rintro e w5 ⟨rfl, hB5, hb5⟩
        have k5 := k4.trans (hb5.mono (Nat.le_of_lt hBw))
        have bC5 := bC4.below' hb5 hBw
        have hz5 := Nat.le_trans hz4 hb5.size
        clear HWS
        go_wp2_with fail
        go_roundw
        case rel => exact ⟨k + 1, a ++ t, by go_num, k5, hz5, bC5, hB5, hs, by omega⟩
        case measure => simp [intOf]; omega
    · have hz := Lib.hid (text_end HP.out HN.out hlt hkn (by omega) ha.out)
      have HS := Lib.hid (Any.Builder_String_any_k Tryz.lays169 Tryz.Builder_Extra_169 B B a _ (Lib.IsBuilderF.of hb.out) hzb)
      go_wp2_with fail
      refine HS.out.mono ?_
      rintro e w5 ⟨rfl, hb5, hbe, _⟩
      have k5 := kb.trans (hbe.mono (Nat.le_of_lt hBw))
      have HL := Lib.hid (buildLen_any B a w5 hb5)
      clear HS hb5
      go_wp2_with fail
      refine HL.out.mono ?_
      rintro e w6 ⟨rfl, rfl⟩
      clear HL
      by_cases hq : (a.length : Int) = n
      · rw [if_pos hq] at hz
        have y : ((a.length : Int) == n) = true := by rw [hq]; simp
        clear hq
        go_wp2_with fail
        go_ret2
        exact .yes hz.out rfl k5
      · rw [if_neg hq] at hz
        have y : ((a.length : Int) == n) = false := by rw [beq_eq_false_iff_ne]; exact hq
        clear hq
        go_wp2_with fail
        go_ret2
        exact .no hz.out k5
end Go.Proofs.YtpkapcijgldhhaaGreatDoor
