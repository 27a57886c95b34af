/-
  Chapter 36: the law Decoding, walked out of the contracts.
-/
import Derived.Test.YtaeagckfkdmkaaaGreatDoorLawB36
import Derived.Test.YtaeagckfkdmkaaaGreatDoorRdD
namespace Go.Proofs.YtaeagckfkdmkaaaGreatDoor
open Go.RowKit Go.Shelf
set_option maxRecDepth 100000 in
set_option maxHeartbeats 4000000 in
theorem lawDecoding_any (s : ByteArray) (n : Int) (w : World) (he : Env w) (hm : HasMax w) (_zs : s.size ≤ 140737488355328) (hn : -9223372036854775808 ≤ n ∧ n ≤ 9223372036854775807) :
    Calls Tryz.prog 4 #[.string s, .int .i64 n] w fun e w' => e = .returned (.bool true) ∧ Below w.heap.size w w' := by
  have HE := Lib.hid (show ∀ W, Below w.heap.size w W → Env W from fun W hW => he.below hW)
  have HM := Lib.hid (show ∀ W, Below w.heap.size w W → HasMax W from fun W hW => hm.below hW)
  have hA0 := alive_any w he hm
  replace hA0 := Lib.hid hA0
  clear he hm
  obtain ⟨hn0, hn1⟩ := hn
  go_enter Tryz.func4, Tryz.ntmps4
  go_wp2_with fail
  refine hA0.out.mono ?_
  rintro e W1 ⟨rfl, kb1⟩
  clear hA0
  by_cases h1 : 3000 < s.size
  · go_wp2_with fail
    go_ret
    exact ⟨rfl, kb1⟩
  have HDW := decode_walk s n W1 (HE.out _ kb1) (HM.out _ kb1) (by omega) (by omega) (by omega)
  have HDR := fun W => rdecode_walk s n W (by omega) (by omega) (by omega)
  rcases hd : decA s n with c | ⟨y, f⟩
  · rw [hd] at HDW
    replace HDW := Lib.hid HDW
    have HDR2 : Hid (∀ W, Calls Tryz.prog 19 #[.string s, .int .i64 n] W (DecQ (.error c) W)) := Lib.hid fun W => by have := HDR W; rwa [hd] at this
    clear hd HDR
    go_wp2_with fail
    refine HDW.out.mono ?_
    rintro e W2 ⟨rfl, hb2⟩
    have kb2 := step2 kb1 hb2
    obtain ⟨hb3, bX⟩ := box1 W2 [.int .i64 0, .string ⟨#[]⟩, .slice none 0 0, .string ⟨#[]⟩, .int .i64 0, .string ⟨#[]⟩, .slice none 0 0] 25
    change Below _ _ (W2.alloc (.cells #[.int .i64 0, .string ⟨#[]⟩, .slice none 0 0, .string ⟨#[]⟩, .int .i64 0, .string ⟨#[]⟩, .slice none 0 0] 25)) at hb3
    change Box (W2.alloc (.cells #[.int .i64 0, .string ⟨#[]⟩, .slice none 0 0, .string ⟨#[]⟩, .int .i64 0, .string ⟨#[]⟩, .slice none 0 0] 25)) _ _ _ at bX
    clear HDW
    unfold zeroE
    go_upto_region 6 with (fail)
    have kb3 := step2 kb2 hb3
    obtain ⟨W3, hW3⟩ : ∃ W3, W2.alloc (.cells #[.int .i64 0, .string ⟨#[]⟩, .slice none 0 0, .string ⟨#[]⟩, .int .i64 0, .string ⟨#[]⟩, .slice none 0 0] 25) = W3 := ⟨_, rfl⟩
    change Code.wp _ _ _ _ (W2.alloc (.cells #[.int .i64 0, .string ⟨#[]⟩, .slice none 0 0, .string ⟨#[]⟩, .int .i64 0, .string ⟨#[]⟩, .slice none 0 0] 25))
    rw [hW3] at kb3 bX ⊢
    clear hW3 kb1 kb2 hb2 hb3
    generalize W2.heap.size = D1 at *
    go_wp2_with fail
    refine (HDR2.out W3).mono ?_
    rintro e W4 ⟨rfl, hb4⟩
    have kb4 := step2 kb3 hb4
    have bX4 := bX.below hb4
    obtain ⟨hb5, bY⟩ := box1 W4 [.int .i64 0, .string ⟨#[]⟩, .slice none 0 0, .string ⟨#[]⟩, .int .i64 0, .string ⟨#[]⟩, .slice none 0 0] 25
    change Below _ _ (W4.alloc (.cells #[.int .i64 0, .string ⟨#[]⟩, .slice none 0 0, .string ⟨#[]⟩, .int .i64 0, .string ⟨#[]⟩, .slice none 0 0] 25)) at hb5
    change Box (W4.alloc (.cells #[.int .i64 0, .string ⟨#[]⟩, .slice none 0 0, .string ⟨#[]⟩, .int .i64 0, .string ⟨#[]⟩, .slice none 0 0] 25)) _ _ _ at bY
    unfold zeroE
    go_upto_region 7 with (fail)
    have kb5 := step2 kb4 hb5
    have bX5 := bX4.below hb5
    obtain ⟨W5, hW5⟩ : ∃ W5, W4.alloc (.cells #[.int .i64 0, .string ⟨#[]⟩, .slice none 0 0, .string ⟨#[]⟩, .int .i64 0, .string ⟨#[]⟩, .slice none 0 0] 25) = W5 := ⟨_, rfl⟩
    change Code.wp _ _ _ _ (W4.alloc (.cells #[.int .i64 0, .string ⟨#[]⟩, .slice none 0 0, .string ⟨#[]⟩, .int .i64 0, .string ⟨#[]⟩, .slice none 0 0] 25))
    rw [hW5] at kb5 bX5 bY ⊢
    clear hW5 kb4 hb4 hb5 bX4 HDR2
    generalize W4.heap.size = D2 at *
    have HQ := refEqual_any en0 en0 (.slice none 0 0) (.slice none 0 0) (.slice none 0 0) (.slice none 0 0) W5 (GRow.nil _) (GRow.nil _) (GRow.nil _) (GRow.nil _)
    rw [isB_yes rfl] at HQ
    replace HQ := Lib.hid HQ
    change Hid (Calls _ _ #[.agg #[.int .i64 0, .string ⟨#[]⟩, .slice none 0 0, .string ⟨#[]⟩, .int .i64 0, .string ⟨#[]⟩, .slice none 0 0], .agg #[.int .i64 0, .string ⟨#[]⟩, .slice none 0 0, .string ⟨#[]⟩, .int .i64 0, .string ⟨#[]⟩, .slice none 0 0]] _ _) at HQ
    obtain ⟨c0, c1, c2, c3, c4, c5, c6⟩ := bX5.cells7
    obtain ⟨d0, d1, d2, d3, d4, d5, d6⟩ := bY.cells7
    have qc : (c == c) = true := by rw [beq_iff_eq]
    go_wp2_with fail
    refine HQ.out.mono ?_
    rintro e W6 ⟨rfl, hb6⟩
    go_wp2_with fail
    go_ret
    exact ⟨rfl, step2 kb5 hb6⟩
  · rw [hd] at HDW
    replace HDW := Lib.hid HDW
    have HDR2 : Hid (∀ W, Calls Tryz.prog 19 #[.string s, .int .i64 n] W (DecQ (.ok (y, f)) W)) := Lib.hid fun W => by have := HDR W; rwa [hd] at this
    clear hd HDR
    go_wp2_with fail
    refine HDW.out.mono ?_
    rintro e W2 ⟨vb, vy, rfl, hA, hX, hb2⟩
    have kb2 := step2 kb1 hb2
    obtain ⟨a1, m1, rfl⟩ := GRow.form hA
    obtain ⟨a2, m2, rfl⟩ := GRow.form hX
    obtain ⟨hb3, bX⟩ := box1 W2 [.int .i64 y.kind, .string y.path, .slice a1 y.attrs.length m1, .string y.target, .int .i64 y.size, .string y.digest, .slice a2 y.exts.length m2] 25
    change Below _ _ (W2.alloc (.cells #[.int .i64 y.kind, .string y.path, .slice a1 y.attrs.length m1, .string y.target, .int .i64 y.size, .string y.digest, .slice a2 y.exts.length m2] 25)) at hb3
    change Box (W2.alloc (.cells #[.int .i64 y.kind, .string y.path, .slice a1 y.attrs.length m1, .string y.target, .int .i64 y.size, .string y.digest, .slice a2 y.exts.length m2] 25)) _ _ _ at bX
    clear HDW
    unfold enV
    go_upto_region 6 with (fail)
    have kb3 := step2 kb2 hb3
    have hA3 := hA.below hb3
    have hX3 := hX.below hb3
    obtain ⟨W3, hW3⟩ : ∃ W3, W2.alloc (.cells #[.int .i64 y.kind, .string y.path, .slice a1 y.attrs.length m1, .string y.target, .int .i64 y.size, .string y.digest, .slice a2 y.exts.length m2] 25) = W3 := ⟨_, rfl⟩
    change Code.wp _ _ _ _ (W2.alloc (.cells #[.int .i64 y.kind, .string y.path, .slice a1 y.attrs.length m1, .string y.target, .int .i64 y.size, .string y.digest, .slice a2 y.exts.length m2] 25))
    rw [hW3] at kb3 bX hA3 hX3 ⊢
    clear hW3 kb1 kb2 hb2 hb3 hA hX
    generalize W2.heap.size = D1 at *
    go_wp2_with fail
    refine (HDR2.out W3).mono ?_
    rintro e W4 ⟨vb, vy, rfl, hA, hX, hb4⟩
    obtain ⟨a3, m3, rfl⟩ := GRow.form hA
    obtain ⟨a4, m4, rfl⟩ := GRow.form hX
    have kb4 := step2 kb3 hb4
    have bX4 := bX.below hb4
    have hA4 := hA3.below hb4
    have hX4 := hX3.below hb4
    obtain ⟨hb5, bY⟩ := box1 W4 [.int .i64 y.kind, .string y.path, .slice a3 y.attrs.length m3, .string y.target, .int .i64 y.size, .string y.digest, .slice a4 y.exts.length m4] 25
    change Below _ _ (W4.alloc (.cells #[.int .i64 y.kind, .string y.path, .slice a3 y.attrs.length m3, .string y.target, .int .i64 y.size, .string y.digest, .slice a4 y.exts.length m4] 25)) at hb5
    change Box (W4.alloc (.cells #[.int .i64 y.kind, .string y.path, .slice a3 y.attrs.length m3, .string y.target, .int .i64 y.size, .string y.digest, .slice a4 y.exts.length m4] 25)) _ _ _ at bY
    unfold enV
    go_upto_region 7 with (fail)
    have kb5 := step2 kb4 hb5
    have bX5 := bX4.below hb5
    have hA5 := hA4.below hb5
    have hX5 := hX4.below hb5
    have hA6 := hA.below hb5
    have hX6 := hX.below hb5
    obtain ⟨W5, hW5⟩ : ∃ W5, W4.alloc (.cells #[.int .i64 y.kind, .string y.path, .slice a3 y.attrs.length m3, .string y.target, .int .i64 y.size, .string y.digest, .slice a4 y.exts.length m4] 25) = W5 := ⟨_, rfl⟩
    change Code.wp _ _ _ _ (W4.alloc (.cells #[.int .i64 y.kind, .string y.path, .slice a3 y.attrs.length m3, .string y.target, .int .i64 y.size, .string y.digest, .slice a4 y.exts.length m4] 25))
    rw [hW5] at kb5 bX5 bY hA5 hX5 hA6 hX6 ⊢
    clear hW5 kb4 hb4 hb5 bX4 HDR2 hA hX hA3 hX3 hA4 hX4
    generalize W4.heap.size = D2 at *
    have HQ := refEqual_any y y (.slice a1 y.attrs.length m1) (.slice a2 y.exts.length m2) (.slice a3 y.attrs.length m3) (.slice a4 y.exts.length m4) W5 hA5 hX5 hA6 hX6
    rw [isB_yes rfl] at HQ
    replace HQ := Lib.hid HQ
    clear hA5 hX5 hA6 hX6
    obtain ⟨c0, c1, c2, c3, c4, c5, c6⟩ := bX5.cells7
    obtain ⟨d0, d1, d2, d3, d4, d5, d6⟩ := bY.cells7
    have qf : (f == f) = true := by rw [beq_iff_eq]
    go_wp2_with fail
    refine HQ.out.mono ?_
    rintro e W6 ⟨rfl, hb6⟩
    go_wp2_with fail
    go_ret
    exact ⟨rfl, step2 kb5 hb6⟩
end Go.Proofs.YtaeagckfkdmkaaaGreatDoor
