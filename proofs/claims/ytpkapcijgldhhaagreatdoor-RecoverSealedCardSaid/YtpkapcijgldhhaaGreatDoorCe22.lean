/-
  The frame at a position, in the reference.
  The part of a directory at a position, in the reference.
  The part of a directory, from a reel or from the others, in the reference.
  The walks of the reference's reader: numbers, texts and counts, up to the first error.
-/
import Derived.Test.YtpkapcijgldhhaaGreatDoorCe19
import Derived.Test.YtpkapcijgldhhaaGreatDoorCe10
import Derived.Test.YtpkapcijgldhhaaGreatDoorCe13
import Derived.Test.YtpkapcijgldhhaaGreatDoorCe12
import Derived.Deep.QuietTactic
import Derived.BigQuiet
namespace Go.Proofs.YtpkapcijgldhhaaGreatDoor
open Go.RowKit Go.Shelf
def put9 (W : World) (B : Nat) (h : Fr) : World := (((((((((W.setCell ⟨B, 0, none⟩ (.int .i64 h.kind)).setCell ⟨B, 1, none⟩ (.int .i64 h.reel)).setCell ⟨B, 2, none⟩ (.int .i64 h.session)).setCell ⟨B, 3, none⟩ (.int .i64 h.index)).setCell ⟨B, 4, none⟩ (.int .i64 h.length)).setCell ⟨B, 5, none⟩ (.int .i64 h.data)).setCell ⟨B, 6, none⟩ (.int .i64 h.spare)).setCell ⟨B, 7, none⟩ (.int .u32 h.archive)).setCell ⟨B, 8, none⟩ (.string h.payload))
theorem Box.put9 {W : World} {B : Nat} {g : Fr} {T : TypeId} (hB : Box W B g.vals T) (h : Fr) : Box (put9 W B h) B h.vals T :=
  (((((((((hB.set (j := 0) (.int .i64 h.kind)).set (j := 1) (.int .i64 h.reel)).set (j := 2) (.int .i64 h.session)).set (j := 3) (.int .i64 h.index)).set (j := 4) (.int .i64 h.length)).set (j := 5) (.int .i64 h.data)).set (j := 6) (.int .i64 h.spare)).set (j := 7) (.int .u32 h.archive)).set (j := 8) (.string h.payload))
theorem Box.other9 {W : World} {B E : Nat} {cs : List Value} {T : TypeId} (hB : Box W E cs T) (hn : B ≠ E) (h : Fr) : Box (Go.Proofs.YtpkapcijgldhhaaGreatDoor.put9 W B h) E cs T :=
  (((((((((hB.setOther (j := 0) hn _).setOther (j := 1) hn _).setOther (j := 2) hn _).setOther (j := 3) hn _).setOther (j := 4) hn _).setOther (j := 5) hn _).setOther (j := 6) hn _).setOther (j := 7) hn _).setOther (j := 8) hn _)
theorem below_put9 {n B : Nat} {w W : World} (hb : Below n w W) (hn : n ≤ B) (h : Fr) : Below n w (Go.Proofs.YtpkapcijgldhhaaGreatDoor.put9 W B h) :=
  (((((((((hb.setCell (p := ⟨B, 0, none⟩) hn _).setCell (p := ⟨B, 1, none⟩) hn _).setCell (p := ⟨B, 2, none⟩) hn _).setCell (p := ⟨B, 3, none⟩) hn _).setCell (p := ⟨B, 4, none⟩) hn _).setCell (p := ⟨B, 5, none⟩) hn _).setCell (p := ⟨B, 6, none⟩) hn _).setCell (p := ⟨B, 7, none⟩) hn _).setCell (p := ⟨B, 8, none⟩) hn _)
theorem Box.cells9 {W : World} {D : Nat} {g : Fr} {T : TypeId} (h : Box W D g.vals T) :
    W.cell? ⟨D, 0, none⟩ = some (.int .i64 g.kind) ∧ W.cell? ⟨D, 1, none⟩ = some (.int .i64 g.reel) ∧ W.cell? ⟨D, 2, none⟩ = some (.int .i64 g.session) ∧ W.cell? ⟨D, 3, none⟩ = some (.int .i64 g.index) ∧ W.cell? ⟨D, 4, none⟩ = some (.int .i64 g.length) ∧
    W.cell? ⟨D, 5, none⟩ = some (.int .i64 g.data) ∧ W.cell? ⟨D, 6, none⟩ = some (.int .i64 g.spare) ∧ W.cell? ⟨D, 7, none⟩ = some (.int .u32 g.archive) ∧ W.cell? ⟨D, 8, none⟩ = some (.string g.payload) :=
  ⟨h.cell 0, h.cell 1, h.cell 2, h.cell 3, h.cell 4, h.cell 5, h.cell 6, h.cell 7, h.cell 8⟩
theorem Box.froz9 {W : World} {D : Nat} {cs : List Value} {T : TypeId} (h : Box W D cs T) :
    W.frozen? ⟨D, 0, none⟩ = false ∧ W.frozen? ⟨D, 1, none⟩ = false ∧ W.frozen? ⟨D, 2, none⟩ = false ∧ W.frozen? ⟨D, 3, none⟩ = false ∧ W.frozen? ⟨D, 4, none⟩ = false ∧
    W.frozen? ⟨D, 5, none⟩ = false ∧ W.frozen? ⟨D, 6, none⟩ = false ∧ W.frozen? ⟨D, 7, none⟩ = false ∧ W.frozen? ⟨D, 8, none⟩ = false :=
  ⟨h.frozen 0, h.frozen 1, h.frozen 2, h.frozen 3, h.frozen 4, h.frozen 5, h.frozen 6, h.frozen 7, h.frozen 8⟩
theorem pay_onR {kd se re ix : Int} {F : List Fr} {k : Nat} {p : Value} {g : Fr} {R : Except Int Fr} (hlt : k < F.length) (hn : ¬ fits kd se re ix (frAt F k))
    (hp : (p = .bool false ∧ Hid (payR kd se re ix none (F.drop k) = R)) ∨ (p = .bool true ∧ Hid (payR kd se re ix (some g) (F.drop k) = R))) :
    (p = .bool false ∧ Hid (payR kd se re ix none (F.drop (k + 1)) = R)) ∨ (p = .bool true ∧ Hid (payR kd se re ix (some g) (F.drop (k + 1)) = R)) := by
  rcases hp with ⟨h1, h2⟩ | ⟨h1, h2⟩
  · exact .inl ⟨h1, by rw [Hid, ← pay_skip hlt hn]; exact h2.out⟩
  · exact .inr ⟨h1, by rw [Hid, ← pay_skip hlt hn]; exact h2.out⟩
set_option maxRecDepth 100000 in
set_option maxHeartbeats 8000000 in
theorem payloadR1 (ar : Int) (b o cap : Nat) (F : List Fr) (kd se re ix : Int) (w : World) (h0 : 0 < F.length) (hmax : F.length ≤ maxLen) (hb : b < w.heap.size) (hF : FrAt w b o F) :
    Calls Tryz.prog 40 #[.agg #[.int .u32 ar, .slice (some ⟨b, o, none⟩) F.length cap], .int .i64 kd, .int .i64 se, .int .i64 re, .int .i64 ix] w (PayQ (payR kd se re ix none F) w) := by
  unfold maxLen at hmax
  have HC := Lib.hid (show ∀ W : World, Below w.heap.size w W → ∀ k, k < F.length → _ from fun W hW k hk => frCells (hF.below hW hb) (i := k) hk)
  obtain ⟨kb0, bC0⟩ := boxr w [.int .u32 ar, .slice (some ⟨b, o, none⟩) F.length cap] 25
  obtain ⟨kb1, bX0⟩ := boxr (w.alloc (.cells [.int .u32 ar, .slice (some ⟨b, o, none⟩) F.length cap].toArray 25)) fr0.vals 46
  replace bC0 := bC0.below kb1
  replace kb0 := step2 kb0 kb1
  clear kb1
  rw [World.size_alloc] at bX0
  obtain ⟨R, hR⟩ : ∃ R, payR kd se re ix none F = R := ⟨_, rfl⟩
  rw [hR]
  have HR0 := Lib.hid (show payR kd se re ix none (F.drop 0) = R from hR)
  clear hR hF
  go_enter Tryz.func40, Tryz.ntmps40
  go_upto_region 3 with (fail)
  obtain ⟨W0, hW0⟩ : ∃ W0, (w.alloc (.cells [.int .u32 ar, .slice (some ⟨b, o, none⟩) F.length cap].toArray 25)).alloc (.cells fr0.vals.toArray 46) = W0 := ⟨_, rfl⟩
  change Code.wp _ _ _ _ ((w.alloc (.cells [.int .u32 ar, .slice (some ⟨b, o, none⟩) F.length cap].toArray 25)).alloc (.cells fr0.vals.toArray 46))
  rw [hW0] at kb0 bC0 bX0 ⊢
  clear hW0
  go_wp2_with fail
  go_loopw [13, 15, 16] (fun p i _ wr => ∃ (k : Nat) (g : Fr), k ≤ F.length ∧ i = .int .i64 k ∧ Below w.heap.size w wr ∧ Box wr w.heap.size [.int .u32 ar, .slice (some ⟨b, o, none⟩) F.length cap] 25 ∧ Box wr (w.heap.size + 1) g.vals 46 ∧
    ((p = .bool false ∧ Hid (payR kd se re ix none (F.drop k) = R)) ∨ (p = .bool true ∧ Hid (payR kd se re ix (some g) (F.drop k) = R)))) (fun _ i _ _ => F.length - (intOf i).toNat)
  case atStart => exact ⟨0, fr0, by omega, rfl, kb0, bC0, bX0, .inl ⟨rfl, HR0⟩⟩
  case round =>
    clear HR0 kb0 bC0 bX0
    obtain ⟨k, g, hk, rfl, kb, bC, bX, hp⟩ := hrel
    have c1 : wr.cell? ⟨w.heap.size, 1, none⟩ = some (.slice (some ⟨b, o, none⟩) F.length cap) := bC.cell 1
    by_cases hlt : k < F.length
    · obtain ⟨q0, q1, q2, q3, q4, q5, q6, q7, q8⟩ := HC.out _ kb k hlt
      have hix : (0 : Int) ≤ (k : Int) ∧ (k : Int) < (F.length : Int) := by omega
      obtain ⟨kF, bF⟩ := boxr wr (frAt F k).vals 46
      have k1 := step2 kb kF
      have bC1 := bC.below kF
      have bX1 := bX.below kF
      obtain ⟨W1, hW1⟩ : ∃ W1, wr.alloc (.cells (frAt F k).vals.toArray 46) = W1 := ⟨_, rfl⟩
      rw [hW1] at kF bF k1 bC1 bX1
      go_upto_region 6 with (fail)
      go_upto_region 7 with (fail)
      change Code.wp _ _ _ _ (wr.alloc (.cells (frAt F k).vals.toArray 46))
      rw [hW1]
      clear hW1 q0 q1 q2 q3 q4 q5 q6 q7 q8 c1 bC bX kb
      obtain ⟨z0, z1, z2, z3, z4, z5, z6, z7, z8⟩ := bF.cells9
      by_cases e0 : (frAt F k).kind = kd
      case neg =>
        have x0 : ((frAt F k).kind != kd) = true := bne_iff_ne.2 e0
        have hs := Lib.hid (pay_onR hlt (fun h => e0 h.1) hp)
        clear hp e0 bF
        go_wp2_with fail
        go_roundw
        case rel => exact ⟨k + 1, g, by omega, by go_num, k1, bC1, bX1, hs.out⟩
        case measure => simp [intOf]; omega
      have x0 : ((frAt F k).kind != kd) = false := by rw [e0]; simp
      by_cases e1 : (frAt F k).session = se
      case neg =>
        have x1 : ((frAt F k).session != se) = true := bne_iff_ne.2 e1
        have hs := Lib.hid (pay_onR hlt (fun h => e1 h.2.1) hp)
        clear hp e0 e1 bF
        go_wp2_with fail
        go_roundw
        case rel => exact ⟨k + 1, g, by omega, by go_num, k1, bC1, bX1, hs.out⟩
        case measure => simp [intOf]; omega
      have x1 : ((frAt F k).session != se) = false := by rw [e1]; simp
      by_cases e2 : (frAt F k).reel = re
      case neg =>
        have x2 : ((frAt F k).reel != re) = true := bne_iff_ne.2 e2
        have hs := Lib.hid (pay_onR hlt (fun h => e2 h.2.2.1) hp)
        clear hp e0 e1 e2 bF
        go_wp2_with fail
        go_roundw
        case rel => exact ⟨k + 1, g, by omega, by go_num, k1, bC1, bX1, hs.out⟩
        case measure => simp [intOf]; omega
      have x2 : ((frAt F k).reel != re) = false := by rw [e2]; simp
      by_cases e3 : (frAt F k).index = ix
      case neg =>
        have x3 : ((frAt F k).index != ix) = true := bne_iff_ne.2 e3
        have hs := Lib.hid (pay_onR hlt (fun h => e3 h.2.2.2) hp)
        clear hp e0 e1 e2 e3 bF
        go_wp2_with fail
        go_roundw
        case rel => exact ⟨k + 1, g, by omega, by go_num, k1, bC1, bX1, hs.out⟩
        case measure => simp [intOf]; omega
      have x3 : ((frAt F k).index != ix) = false := by rw [e3]; simp
      have hfit : Hid (fits kd se re ix (frAt F k)) := ⟨e0, e1, e2, e3⟩
      obtain ⟨s0, s1, s2, s3, s4, s5, s6, s7, s8⟩ := bX1.froz9
      clear e0 e1 e2 e3
      rcases hp with ⟨rfl, h2⟩ | ⟨rfl, h3⟩
      · have hs : Hid (payR kd se re ix (some (frAt F k)) (F.drop (k + 1)) = R) := by rw [Hid, ← pay_first hlt hfit.out]; exact h2.out
        obtain ⟨r0, r1, r2, r3, r4, r5, r6, r7, r8⟩ := bX1.cells9
        clear h2 hfit
        go_upto_region 5 with (fail)
        change Code.wp _ _ _ _ (put9 W1 (w.heap.size + 1) (frAt F k))
        have k2 := below_put9 k1 (Nat.le_succ _) (frAt F k)
        have bC2 := bC1.other9 (show w.heap.size + 1 ≠ w.heap.size by omega) (frAt F k)
        have bX2 := bX1.put9 (frAt F k)
        generalize put9 W1 (w.heap.size + 1) (frAt F k) = W2 at *
        clear z0 z1 z2 z3 z4 z5 z6 z7 z8
        go_wp2_with fail
        go_roundw
        case rel => exact ⟨k + 1, frAt F k, by omega, by go_num, k2, bC2, bX2, .inr ⟨rfl, hs⟩⟩
        case measure => simp [intOf]; omega
      · by_cases hg : g = frAt F k
        · have hs : Hid (payR kd se re ix (some (frAt F k)) (F.drop (k + 1)) = R) := by rw [Hid, ← pay_again hlt hfit.out hg]; exact h3.out
          clear h3 hfit
          have bX3 := bX1
          rw [hg] at bX3
          obtain ⟨r0, r1, r2, r3, r4, r5, r6, r7, r8⟩ := bX3.cells9
          clear hg bX3
          go_upto_region 5 with (fail)
          change Code.wp _ _ _ _ (put9 W1 (w.heap.size + 1) (frAt F k))
          have k2 := below_put9 k1 (Nat.le_succ _) (frAt F k)
          have bC2 := bC1.other9 (show w.heap.size + 1 ≠ w.heap.size by omega) (frAt F k)
          have bX2 := bX1.put9 (frAt F k)
          generalize put9 W1 (w.heap.size + 1) (frAt F k) = W2 at *
          clear r0 r1 r2 r3 r4 r5 r6 r7 r8 z0 z1 z2 z3 z4 z5 z6 z7 z8
          go_wp2_with fail
          go_roundw
          case rel => exact ⟨k + 1, frAt F k, by omega, by go_num, k2, bC2, bX2, .inr ⟨rfl, hs⟩⟩
          case measure => simp [intOf]; omega
        · have hs : Hid (R = .error 20) := by rw [Hid, ← h3.out]; exact pay_clash hlt hfit.out hg
          obtain ⟨r0, r1, r2, r3, r4, r5, r6, r7, r8⟩ := bX1.cells9
          clear h3 hfit
          rcases fr_ne hg with hne | hne | hne | hne | hne | hne | hne | hne | hne
          · have y : (g.kind == (frAt F k).kind) = false := by rw [beq_eq_false_iff_ne]; exact hne
            clear hne
            go_wp2_with fail
            go_ret3
            rw [hs.out]
            exact ⟨rfl, k1⟩
          · have y : (g.reel == (frAt F k).reel) = false := by rw [beq_eq_false_iff_ne]; exact hne
            clear hne
            go_wp2_with fail
            go_ret3
            rw [hs.out]
            exact ⟨rfl, k1⟩
          · have y : (g.session == (frAt F k).session) = false := by rw [beq_eq_false_iff_ne]; exact hne
            clear hne
            go_wp2_with fail
            go_ret3
            rw [hs.out]
            exact ⟨rfl, k1⟩
          · have y : (g.index == (frAt F k).index) = false := by rw [beq_eq_false_iff_ne]; exact hne
            clear hne
            go_wp2_with fail
            go_ret3
            rw [hs.out]
            exact ⟨rfl, k1⟩
          · have y : (g.length == (frAt F k).length) = false := by rw [beq_eq_false_iff_ne]; exact hne
            clear hne
            go_wp2_with fail
            go_ret3
            rw [hs.out]
            exact ⟨rfl, k1⟩
          · have y : (g.data == (frAt F k).data) = false := by rw [beq_eq_false_iff_ne]; exact hne
            clear hne
            go_wp2_with fail
            go_ret3
            rw [hs.out]
            exact ⟨rfl, k1⟩
          · have y : (g.spare == (frAt F k).spare) = false := by rw [beq_eq_false_iff_ne]; exact hne
            clear hne
            go_wp2_with fail
            go_ret3
            rw [hs.out]
            exact ⟨rfl, k1⟩
          · have y : (g.archive == (frAt F k).archive) = false := by rw [beq_eq_false_iff_ne]; exact hne
            clear hne
            go_wp2_with fail
            go_ret3
            rw [hs.out]
            exact ⟨rfl, k1⟩
          · have y : (g.payload.toList == (frAt F k).payload.toList) = false := by rw [str_eq]; exact decide_eq_false (fun h => hne (str_inj h))
            clear hne
            go_wp2_with fail
            go_ret3
            rw [hs.out]
            exact ⟨rfl, k1⟩
    · obtain rfl : k = F.length := by omega
      rcases hp with ⟨rfl, h2⟩ | ⟨rfl, h3⟩
      · have hs : Hid (R = .error 19) := by rw [Hid, ← h2.out, pay_end]
        clear h2
        go_wp2_with fail
        go_ret3
        rw [hs.out]
        exact ⟨rfl, kb⟩
      · have hs : Hid (R = .ok g) := by rw [Hid, ← h3.out, pay_end]
        obtain ⟨r0, r1, r2, r3, r4, r5, r6, r7, r8⟩ := bX.cells9
        clear h3
        go_upto_region 14 with (fail)
        go_quiet (fail)
        go_wp2_with fail
        go_ret3
        rw [hs.out]
        exact ⟨rfl, below_drewN kb _⟩
theorem payloadR0 (ar : Int) (a : Option Addr) (cap : Nat) (kd se re ix : Int) (w : World) :
    Calls Tryz.prog 40 #[.agg #[.int .u32 ar, .slice a 0 cap], .int .i64 kd, .int .i64 se, .int .i64 re, .int .i64 ix] w (PayQ (.error 19) w) := by
  obtain ⟨kb0, bC0⟩ := boxr w [.int .u32 ar, .slice a 0 cap] 25
  obtain ⟨kb1, _⟩ := boxr (w.alloc (.cells [.int .u32 ar, .slice a 0 cap].toArray 25)) fr0.vals 46
  have kb2 := step2 kb0 kb1
  replace bC0 := bC0.below kb1
  clear kb0 kb1
  go_enter Tryz.func40, Tryz.ntmps40
  go_upto_region 3 with (fail)
  obtain ⟨W0, hW0⟩ : ∃ W0, (w.alloc (.cells [.int .u32 ar, .slice a 0 cap].toArray 25)).alloc (.cells fr0.vals.toArray 46) = W0 := ⟨_, rfl⟩
  change Code.wp _ _ _ _ ((w.alloc (.cells [.int .u32 ar, .slice a 0 cap].toArray 25)).alloc (.cells fr0.vals.toArray 46))
  rw [hW0] at kb2 bC0 ⊢
  clear hW0
  have c1 : W0.cell? ⟨w.heap.size, 1, none⟩ = some (.slice a 0 cap) := bC0.cell 1
  go_wp2_with fail
  go_loopw [13, 15, 16] (fun p i _ wr => p = .bool false ∧ i = .int .i64 0 ∧ wr = W0) (fun _ i _ _ => (intOf i).toNat)
  case atStart => exact ⟨rfl, rfl, rfl⟩
  case round =>
    obtain ⟨rfl, rfl, rfl⟩ := hrel
    go_wp2_with fail
    go_ret3
    exact ⟨rfl, kb2⟩
theorem payloadR_any (ar : Int) (v : Value) (F : List Fr) (kd se re ix : Int) (w : World) (hr : FrRow w v F) :
    Calls Tryz.prog 40 #[.agg #[.int .u32 ar, v], .int .i64 kd, .int .i64 se, .int .i64 re, .int .i64 ix] w (PayQ (payR kd se re ix none F) w) := by
  rcases hr.2 with ⟨rfl, a, cap, rfl, _⟩ | ⟨h0, b, o, cap, rfl, _, _, hb, hF⟩
  · exact payloadR0 ar a cap kd se re ix w
  · exact payloadR1 ar b o cap F kd se re ix w h0 hr.1 hb hF
end Go.Proofs.YtpkapcijgldhhaaGreatDoor

namespace Go.Proofs.YtpkapcijgldhhaaGreatDoor
open Go.RowKit Go.Shelf
theorem pay_err {k s r i x : Int} : ∀ (L : List Fr) (st : Option Fr), payR k s r i st L = .error x → x = 19 ∨ x = 20
  | [], none, h => by injection h with h; exact .inl h.symm
  | [], some g, h => by cases h
  | f :: L, none, h => by
    rw [payR] at h
    split at h
    · exact pay_err L _ h
    · exact pay_err L _ h
  | f :: L, some g, h => by
    rw [payR] at h
    split at h
    · split at h
      · exact pay_err L _ h
      · injection h with h; exact .inr h.symm
    · exact pay_err L _ h
theorem take_str (b : ByteArray) (n : Nat) : b.extract 0 n = bA' (b.data.toList.take n) := by
  apply str_inj
  rw [bA'_list]
  simp
end Go.Proofs.YtpkapcijgldhhaaGreatDoor

namespace Go.Proofs.YtpkapcijgldhhaaGreatDoor
open Go.RowKit Go.Shelf
theorem Box.cells2 {W : World} {D : Nat} {v0 v1 : Value} {T : TypeId} (h : Box W D [v0, v1] T) : W.cell? ⟨D, 0, none⟩ = some v0 ∧ W.cell? ⟨D, 1, none⟩ = some v1 := ⟨h.cell 0, h.cell 1⟩
theorem Box.froz2 {W : World} {D : Nat} {cs : List Value} {T : TypeId} (h : Box W D cs T) : W.frozen? ⟨D, 0, none⟩ = false ∧ W.frozen? ⟨D, 1, none⟩ = false := ⟨h.frozen 0, h.frozen 1⟩
end Go.Proofs.YtpkapcijgldhhaaGreatDoor

namespace Go.Proofs.YtpkapcijgldhhaaGreatDoor
open Go.RowKit Go.Shelf

/-- a reader's state: the index, or the error -/
def RSt (W : World) (R : Nat) (s : ByteArray) : Except Int Int → Prop
  | .ok a => Box W R [.string s, .int .i64 a, .int .i64 0] 233
  | .error x => x ≠ 0 ∧ ∃ a : Int, Box W R [.string s, .int .i64 a, .int .i64 x] 233
def stAt {α : Type} : Except Int (α × Int) → Except Int Int
  | .ok p => .ok p.2
  | .error x => .error x
def stStr : Except Int (List UInt8 × Int) → List UInt8
  | .ok p => p.1
  | .error _ => []
def stNum : Except Int (Int × Int) → Int
  | .ok p => p.1
  | .error _ => 0
theorem rdStr_err (l : List UInt8) (a : Int) (h : (rdStr l a).2.2 ≠ 0) : (rdStr l a).1 = [] ∧ (rdStr l a).2.1 = 0 := by
  unfold rdStr rdStr.rdTail at *
  repeat' split at *
  all_goals first | exact ⟨rfl, rfl⟩ | exact absurd rfl h
theorem rdNum_err (l : List UInt8) (a : Int) (h : (rdNum l a).2.2 ≠ 0) : (rdNum l a).1 = 0 ∧ (rdNum l a).2.1 = 0 := by
  unfold rdNum at *
  repeat' split at *
  all_goals first | exact ⟨rfl, rfl⟩ | exact absurd rfl h
theorem txt_err {l : List UInt8} {a x : Int} (h : txt l a = .error x) : rdStr l a = ([], 0, x) ∧ x ≠ 0 := by
  unfold txt at h
  split at h
  · cases h
  · rename_i h0
    simp only [Except.error.injEq] at h
    have := rdStr_err l a h0
    subst h
    exact ⟨Prod.ext this.1 (Prod.ext this.2 rfl), h0⟩
theorem nmb_err {l : List UInt8} {a x : Int} (h : nmb l a = .error x) : rdNum l a = (0, 0, x) ∧ x ≠ 0 := by
  unfold nmb at h
  split at h
  · cases h
  · rename_i h0
    simp only [Except.error.injEq] at h
    have := rdNum_err l a h0
    subst h
    exact ⟨Prod.ext this.1 (Prod.ext this.2 rfl), h0⟩
theorem txt_rd {l u : List UInt8} {a b : Int} (h : txt l a = .ok (u, b)) : rdStr l a = (u, b, 0) := by
  unfold txt at h
  split at h
  · rename_i h0
    simp only [Except.ok.injEq, Prod.mk.injEq] at h
    rw [← h.1, ← h.2, ← h0]
  · cases h
theorem nmb_rd {l : List UInt8} {a n b : Int} (h : nmb l a = .ok (n, b)) : rdNum l a = (n, b, 0) := by
  unfold nmb at h
  split at h
  · rename_i h0
    simp only [Except.ok.injEq, Prod.mk.injEq] at h
    rw [← h.1, ← h.2, ← h0]
  · cases h
theorem Box.drewN {W : World} {E : Nat} {cs : List Value} {T : TypeId} (h : Box W E cs T) (n : Nat) : Box (W.drewN n) E cs T := h
theorem keep_set {R j : Nat} {W W' : World} (h : Keep R W W') (v : Value) : Keep R W (W'.setCell ⟨R, j, none⟩ v) :=
  ⟨h.1.setCell (p := ⟨R, j, none⟩) (Nat.le_refl _) v, fun i h1 h2 => by
    rw [← h.2 i h1 h2]
    simp only [World.setCell, Array.getElem?_modify]
    rw [if_neg (by omega)]⟩
end Go.Proofs.YtpkapcijgldhhaaGreatDoor
