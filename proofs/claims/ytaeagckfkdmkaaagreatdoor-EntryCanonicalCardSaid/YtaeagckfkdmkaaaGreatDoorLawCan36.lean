/-
  Chapter 36: the law Canonical, walked out of the contracts.
-/
import Derived.Test.YtaeagckfkdmkaaaGreatDoorLawB36
import Derived.Test.YtaeagckfkdmkaaaGreatDoorEntMore
namespace Go.Proofs.YtaeagckfkdmkaaaGreatDoor
open Go.RowKit Go.Shelf
theorem reads_extract {s : ByteArray} {e : List UInt8} {a : Int} {b : Int} (h : Reads s.data.toList a e b) : ∃ A B : Nat, a = A ∧ b = B ∧ A ≤ B ∧ B ≤ s.size ∧ (s.extract A B).data.toList = e := by
  obtain ⟨A, rfl, rfl, h3, h4⟩ := h
  have hl : s.data.toList.length = s.size := rfl
  refine ⟨A, A + e.length, rfl, rfl, by omega, by omega, ?_⟩
  rw [extract_list, h4, Nat.add_sub_cancel_left, List.take_left']
  rfl
set_option maxRecDepth 100000 in
set_option maxHeartbeats 4000000 in
theorem lawCanon_any (s : ByteArray) (n : Int) (w : World) (he : Env w) (hm : HasMax w) (_zs : s.size ≤ 140737488355328) (hn : 0 ≤ n ∧ n ≤ 255) :
    Calls Tryz.prog 6 #[.string s, .int .u8 n] w fun e w' => e = .returned (.bool true) ∧ Below w.heap.size w w' := by
  have HE := Lib.hid (show ∀ W, Below w.heap.size w W → Env W from fun W hW => he.below hW)
  have HM := Lib.hid (show ∀ W, Below w.heap.size w W → HasMax W from fun W hW => hm.below hW)
  have hA0 := alive_any w he hm
  replace hA0 := Lib.hid hA0
  clear he hm
  obtain ⟨hn0, hn1⟩ := hn
  go_enter Tryz.func6, Tryz.ntmps6
  go_wp2_with fail
  refine hA0.out.mono ?_
  rintro e W1 ⟨rfl, kb1⟩
  clear hA0
  by_cases h1 : 3000 < s.size
  · go_wp2_with fail
    go_ret
    exact ⟨rfl, kb1⟩
  have HDW := decode_walk s n W1 (HE.out _ kb1) (HM.out _ kb1) (by omega) (by omega) (by omega)
  rcases hd : decA s n with c | ⟨y, f⟩
  · have hc : c ≠ 0 := nz_decA s n c hd
    rw [hd] at HDW
    replace HDW := Lib.hid HDW
    have q1 : (c != 0) = true := by rw [bne_iff_ne]; exact hc
    have Hd := Lib.hid hd; clear hd
    have Hc := Lib.hid hc; clear hc
    go_wp2_with fail
    refine HDW.out.mono ?_
    rintro e W2 ⟨rfl, hb2⟩
    have kb2 := step2 kb1 hb2
    obtain ⟨hb3, bY⟩ := box1 W2 [.int .i64 0, .string ⟨#[]⟩, .slice none 0 0, .string ⟨#[]⟩, .int .i64 0, .string ⟨#[]⟩, .slice none 0 0] 25
    have kb3 := step2 kb2 hb3
    have HQ := equal_any en0 en0 (.slice none 0 0) (.slice none 0 0) (.slice none 0 0) (.slice none 0 0) (W2.alloc (.cells [.int .i64 0, .string ⟨#[]⟩, .slice none 0 0, .string ⟨#[]⟩, .int .i64 0, .string ⟨#[]⟩, .slice none 0 0].toArray 25)) (GRow.nil _) (GRow.nil _) (GRow.nil _) (GRow.nil _)
    rw [isB_yes rfl] at HQ
    replace HQ := Lib.hid HQ
    change Hid (Calls _ _ #[.agg #[.int .i64 0, .string ⟨#[]⟩, .slice none 0 0, .string ⟨#[]⟩, .int .i64 0, .string ⟨#[]⟩, .slice none 0 0], .agg #[.int .i64 0, .string ⟨#[]⟩, .slice none 0 0, .string ⟨#[]⟩, .int .i64 0, .string ⟨#[]⟩, .slice none 0 0]] (W2.alloc (.cells #[.int .i64 0, .string ⟨#[]⟩, .slice none 0 0, .string ⟨#[]⟩, .int .i64 0, .string ⟨#[]⟩, .slice none 0 0] 25)) _) at HQ
    clear HDW kb1 hb2 hb3 bY
    unfold zeroE
    go_wp2_with fail
    refine HQ.out.mono ?_
    rintro e W4 ⟨rfl, hb4⟩
    go_wp2_with fail
    go_ret
    exact ⟨rfl, step2 kb3 hb4⟩
  · obtain ⟨hc, hr⟩ := decA_ok hd
    have okY := enOk_dec hd (by omega)
    obtain ⟨A, B, rfl, rfl, hAB, hBs, hex⟩ := reads_extract hr
    rw [hd] at HDW
    replace HDW := Lib.hid HDW
    have Hex := Lib.hid hex
    clear hd hr hex
    go_wp2_with fail
    refine HDW.out.mono ?_
    rintro e W2 ⟨vb, vy, rfl, hA, hX, hb2⟩
    have kb2 := step2 kb1 hb2
    obtain ⟨a5, m5, rfl⟩ := GRow.form hA
    obtain ⟨a6, m6, rfl⟩ := GRow.form hX
    obtain ⟨hb3, bY⟩ := box1 W2 [.int .i64 y.kind, .string y.path, .slice a5 y.attrs.length m5, .string y.target, .int .i64 y.size, .string y.digest, .slice a6 y.exts.length m6] 25
    change Below _ _ (W2.alloc (.cells #[.int .i64 y.kind, .string y.path, .slice a5 y.attrs.length m5, .string y.target, .int .i64 y.size, .string y.digest, .slice a6 y.exts.length m6] 25)) at hb3
    have kb3 := step2 kb2 hb3
    have HN := encode_any y (.slice a5 y.attrs.length m5) (.slice a6 y.exts.length m6) (W2.alloc (.cells #[.int .i64 y.kind, .string y.path, .slice a5 y.attrs.length m5, .string y.target, .int .i64 y.size, .string y.digest, .slice a6 y.exts.length m6] 25)) (HE.out _ kb3) (HM.out _ kb3) (hA.below hb3) (hX.below hb3) okY
    rw [if_pos hc, hc] at HN
    replace HN := Lib.hid HN
    clear HDW kb1 hb2 hb3 bY hA hX okY hc
    unfold enV
    go_wp2_with fail
    refine HN.out.mono ?_
    rintro e W4 ⟨t, rfl, ht, hb4⟩
    have kb4 := step2 kb3 hb4
    have q2 : ((s.extract A B).toList == t.toList) = true := by rw [str_eq]; exact decide_eq_true (by rw [Hex.out, ht.out])
    clear HN kb3 hb4
    go_wp2_with fail
    go_ret
    exact ⟨rfl, kb4⟩
end Go.Proofs.YtaeagckfkdmkaaaGreatDoor
