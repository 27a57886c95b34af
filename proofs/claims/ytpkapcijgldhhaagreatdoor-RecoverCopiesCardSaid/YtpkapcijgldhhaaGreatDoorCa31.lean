/-
  Frames in memory; the frame at a position, in the program and in the reference.
  Chapter 45: a collection among the arguments, opened: a struct with a slice of frames.
  What the reach of a card says of the data among its arguments: strings, slices and structs, however deep.
  The walks of entry.Head and entry.Encode.
  The walk of entry.Encode.
-/
import Derived.Test.YtpkapcijgldhhaaGreatDoorCa30
import Derived.Test.YtpkapcijgldhhaaGreatDoorCa08
import Derived.Deep.Cut
import Derived.Deep.CutRange
import Derived.Deep.CutBlock
import Derived.Deep.QuietTactic
import Derived.BigQuiet
import Derived.Test.YtpkapcijgldhhaaGreatDoorCa09
import Derived.Test.YtpkapcijgldhhaaGreatDoorCa16
import Derived.Deep.RegionHeld3
import Derived.Deep.RegionWith
namespace Go.Proofs.YtpkapcijgldhhaaGreatDoor
open Go.RowKit Go.Shelf
def Fr.vals (f : Fr) : List Value := [.int .i64 f.kind, .int .i64 f.reel, .int .i64 f.session, .int .i64 f.index, .int .i64 f.length, .int .i64 f.data, .int .i64 f.spare, .int .u32 f.archive, .string f.payload]
def FrAt (w : World) (b o : Nat) (F : List Fr) : Prop := GAt 9 Fr.vals fr0 w b o F
def FrRow (w : World) (v : Value) (F : List Fr) : Prop := GRow 9 Fr.vals fr0 w v F
theorem frCells {w : World} {b o : Nat} {F : List Fr} (h : FrAt w b o F) {i : Nat} (hi : i < F.length) :
    w.cell? ⟨b, o + i * 9, none⟩ = some (.int .i64 (frAt F i).kind) ∧ w.cell? ⟨b, o + i * 9 + 1, none⟩ = some (.int .i64 (frAt F i).reel) ∧ w.cell? ⟨b, o + i * 9 + 2, none⟩ = some (.int .i64 (frAt F i).session) ∧
    w.cell? ⟨b, o + i * 9 + 3, none⟩ = some (.int .i64 (frAt F i).index) ∧ w.cell? ⟨b, o + i * 9 + 4, none⟩ = some (.int .i64 (frAt F i).length) ∧ w.cell? ⟨b, o + i * 9 + 5, none⟩ = some (.int .i64 (frAt F i).data) ∧
    w.cell? ⟨b, o + i * 9 + 6, none⟩ = some (.int .i64 (frAt F i).spare) ∧ w.cell? ⟨b, o + i * 9 + 7, none⟩ = some (.int .u32 (frAt F i).archive) ∧ w.cell? ⟨b, o + i * 9 + 8, none⟩ = some (.string (frAt F i).payload) :=
  ⟨h i hi 0 _ rfl, h i hi 1 _ rfl, h i hi 2 _ rfl, h i hi 3 _ rfl, h i hi 4 _ rfl, h i hi 5 _ rfl, h i hi 6 _ rfl, h i hi 7 _ rfl, h i hi 8 _ rfl⟩
/-- what is returned of a position -/
def PayQ (r : Except Int Fr) (w : World) (e : Ending) (w' : World) : Prop :=
  (match r with
    | .ok f => e = .returned (.tuple #[.string f.payload, .int .i64 f.length, .int .i64 0])
    | .error x => e = .returned (.tuple #[.string ⟨#[]⟩, .int .i64 0, .int .i64 x])) ∧ Below w.heap.size w w'
theorem boxr (w : World) (c1 : List Value) (T1 : TypeId) : Below w.heap.size w (w.alloc (.cells c1.toArray T1)) ∧ Box (w.alloc (.cells c1.toArray T1)) w.heap.size c1 T1 :=
  ⟨(below_refl w).alloc (Nat.le_refl _) _, Box.new w c1 T1⟩
theorem fr_ext {x y : Fr} (h0 : x.kind = y.kind) (h1 : x.reel = y.reel) (h2 : x.session = y.session) (h3 : x.index = y.index) (h4 : x.length = y.length) (h5 : x.data = y.data) (h6 : x.spare = y.spare) (h7 : x.archive = y.archive) (h8 : x.payload = y.payload) : x = y := by
  cases x; cases y; simp_all
theorem str_inj {s t : ByteArray} (h : s.data.toList = t.data.toList) : s = t := by
  cases s with | mk a => cases t with | mk b => cases a; cases b; simp at h; subst h; rfl
theorem fr_ne {x y : Fr} (h : ¬ x = y) : x.kind ≠ y.kind ∨ x.reel ≠ y.reel ∨ x.session ≠ y.session ∨ x.index ≠ y.index ∨ x.length ≠ y.length ∨ x.data ≠ y.data ∨ x.spare ≠ y.spare ∨ x.archive ≠ y.archive ∨ x.payload ≠ y.payload := by
  by_cases h0 : x.kind = y.kind
  case neg => exact .inl h0
  by_cases h1 : x.reel = y.reel
  case neg => exact .inr (.inl h1)
  by_cases h2 : x.session = y.session
  case neg => exact .inr (.inr (.inl h2))
  by_cases h3 : x.index = y.index
  case neg => exact .inr (.inr (.inr (.inl h3)))
  by_cases h4 : x.length = y.length
  case neg => exact .inr (.inr (.inr (.inr (.inl h4))))
  by_cases h5 : x.data = y.data
  case neg => exact .inr (.inr (.inr (.inr (.inr (.inl h5)))))
  by_cases h6 : x.spare = y.spare
  case neg => exact .inr (.inr (.inr (.inr (.inr (.inr (.inl h6))))))
  by_cases h7 : x.archive = y.archive
  case neg => exact .inr (.inr (.inr (.inr (.inr (.inr (.inr (.inl h7)))))))
  by_cases h8 : x.payload = y.payload
  case neg => exact .inr (.inr (.inr (.inr (.inr (.inr (.inr (.inr h8)))))))
  exact absurd (fr_ext h0 h1 h2 h3 h4 h5 h6 h7 h8) h
theorem pay_on {kd se re ix : Int} {F : List Fr} {k b o : Nat} {p : Value} {R : Except Int Fr} (hlt : k < F.length) (hn : ¬ fits kd se re ix (frAt F k))
    (hp : (p = .pointer none ∧ Hid (payR kd se re ix none (F.drop k) = R)) ∨ ∃ j, j < F.length ∧ p = .pointer (some ⟨b, o + j * 9, none⟩) ∧ Hid (payR kd se re ix (some (frAt F j)) (F.drop k) = R)) :
    (p = .pointer none ∧ Hid (payR kd se re ix none (F.drop (k + 1)) = R)) ∨ ∃ j, j < F.length ∧ p = .pointer (some ⟨b, o + j * 9, none⟩) ∧ Hid (payR kd se re ix (some (frAt F j)) (F.drop (k + 1)) = R) := by
  rcases hp with ⟨h1, h2⟩ | ⟨j, h1, h2, h3⟩
  · exact .inl ⟨h1, by rw [Hid, ← pay_skip hlt hn]; exact h2.out⟩
  · exact .inr ⟨j, h1, h2, by rw [Hid, ← pay_skip hlt hn]; exact h3.out⟩
set_option maxRecDepth 100000 in
set_option maxHeartbeats 4000000 in
theorem payload1 (ar : Int) (b o cap : Nat) (F : List Fr) (kd se re ix : Int) (w : World) (h0 : 0 < F.length) (hmax : F.length ≤ maxLen) (hb : b < w.heap.size) (hF : FrAt w b o F) :
    Calls Tryz.prog 70 #[.agg #[.int .u32 ar, .slice (some ⟨b, o, none⟩) F.length cap], .int .i64 kd, .int .i64 se, .int .i64 re, .int .i64 ix] w (PayQ (payR kd se re ix none F) w) := by
  unfold maxLen at hmax
  have HC := Lib.hid (show ∀ W : World, Below w.heap.size w W → ∀ k, k < F.length → _ from fun W hW k hk => frCells (hF.below hW hb) (i := k) hk)
  obtain ⟨kb0, bC0⟩ := boxr w [.int .u32 ar, .slice (some ⟨b, o, none⟩) F.length cap] 25
  change Below _ _ (w.alloc (.cells #[.int .u32 ar, .slice (some ⟨b, o, none⟩) F.length cap] 25)) at kb0
  change Box (w.alloc (.cells #[.int .u32 ar, .slice (some ⟨b, o, none⟩) F.length cap] 25)) _ _ _ at bC0
  obtain ⟨R, hR⟩ : ∃ R, payR kd se re ix none F = R := ⟨_, rfl⟩
  rw [hR]
  have HR0 := Lib.hid (show payR kd se re ix none (F.drop 0) = R from hR)
  clear hR hF
  go_enter Tryz.func70, Tryz.ntmps70
  go_upto_region 1 with (fail)
  obtain ⟨W0, hW0⟩ : ∃ W0, w.alloc (.cells #[.int .u32 ar, .slice (some ⟨b, o, none⟩) F.length cap] 25) = W0 := ⟨_, rfl⟩
  change Code.wp _ _ _ _ (w.alloc (.cells #[.int .u32 ar, .slice (some ⟨b, o, none⟩) F.length cap] 25))
  rw [hW0] at kb0 bC0 ⊢
  clear hW0
  have HB := Lib.hid (show ∀ W : World, Below W0.heap.size W0 W → Box W w.heap.size [.int .u32 ar, .slice (some ⟨b, o, none⟩) F.length cap] 25 from fun W hW => bC0.below hW)
  have KB := Lib.hid (show ∀ W : World, Below W0.heap.size W0 W → Below w.heap.size w W from fun W hW => step2 kb0 hW)
  have c1 := bC0.cell 1
  have c0 := bC0.cell 0
  clear kb0 bC0
  go_wp2_with fail
  go_loopw [13, 14, 15, 19] (fun p _ _ i wr => ∃ k : Nat, k ≤ F.length ∧ i = .int .i64 k ∧ Below W0.heap.size W0 wr ∧ ((p = .pointer none ∧ Hid (payR kd se re ix none (F.drop k) = R)) ∨ ∃ j, j < F.length ∧ p = .pointer (some ⟨b, o + j * 9, none⟩) ∧ Hid (payR kd se re ix (some (frAt F j)) (F.drop k) = R))) (fun _ _ _ i _ => F.length - (intOf i).toNat)
  case atStart => exact ⟨0, by omega, rfl, below_refl _, .inl ⟨rfl, HR0⟩⟩
  case round =>
    clear c0 c1 HR0
    obtain ⟨k, hk, rfl, kb, hp⟩ := hrel
    have c1 : wr.cell? ⟨w.heap.size, 1, none⟩ = some (.slice (some ⟨b, o, none⟩) F.length cap) := (HB.out _ kb).cell 1
    by_cases hlt : k < F.length
    · obtain ⟨q0, q1, q2, q3, q4, q5, q6, q7, q8⟩ := HC.out _ (KB.out _ kb) k hlt
      have hix : (0 : Int) ≤ (k : Int) ∧ (k : Int) < (F.length : Int) := by omega
      have hskip := fun hn => pay_on hlt hn hp
      by_cases e0 : (frAt F k).kind = kd
      case neg =>
        have x0 : ((frAt F k).kind != kd) = true := bne_iff_ne.2 e0
        have hs := Lib.hid (hskip (fun h => e0 h.1))
        clear hp hskip e0
        go_wp2_with fail
        go_roundw
        case rel => exact ⟨k + 1, by omega, by go_num, kb, hs.out⟩
        case measure => simp [intOf]; omega
      have x0 : ((frAt F k).kind != kd) = false := by rw [e0]; simp
      by_cases e1 : (frAt F k).session = se
      case neg =>
        have x1 : ((frAt F k).session != se) = true := bne_iff_ne.2 e1
        have hs := Lib.hid (hskip (fun h => e1 h.2.1))
        clear hp hskip e1 e0
        go_wp2_with fail
        go_roundw
        case rel => exact ⟨k + 1, by omega, by go_num, kb, hs.out⟩
        case measure => simp [intOf]; omega
      have x1 : ((frAt F k).session != se) = false := by rw [e1]; simp
      by_cases e2 : (frAt F k).reel = re
      case neg =>
        have x2 : ((frAt F k).reel != re) = true := bne_iff_ne.2 e2
        have hs := Lib.hid (hskip (fun h => e2 h.2.2.1))
        clear hp hskip e1 e0 e2
        go_wp2_with fail
        go_roundw
        case rel => exact ⟨k + 1, by omega, by go_num, kb, hs.out⟩
        case measure => simp [intOf]; omega
      have x2 : ((frAt F k).reel != re) = false := by rw [e2]; simp
      by_cases e3 : (frAt F k).index = ix
      case neg =>
        have x3 : ((frAt F k).index != ix) = true := bne_iff_ne.2 e3
        have hs := Lib.hid (hskip (fun h => e3 h.2.2.2))
        clear hp hskip e1 e0 e2 e3
        go_wp2_with fail
        go_roundw
        case rel => exact ⟨k + 1, by omega, by go_num, kb, hs.out⟩
        case measure => simp [intOf]; omega
      have x3 : ((frAt F k).index != ix) = false := by rw [e3]; simp
      have hfit : Hid (fits kd se re ix (frAt F k)) := ⟨e0, e1, e2, e3⟩
      clear hskip e0 e1 e2 e3
      rcases hp with ⟨rfl, h2⟩ | ⟨j, hj, rfl, h3⟩
      · have hs : Hid (payR kd se re ix (some (frAt F k)) (F.drop (k + 1)) = R) := by rw [Hid, ← pay_first hlt hfit.out]; exact h2.out
        clear h2 hfit
        go_upto_region 7 with (fail)
        go_quiet (fail)
        go_wp2_with fail
        go_roundw
        case rel => exact ⟨k + 1, by omega, by go_num, below_drewN kb _, .inr ⟨k, hlt, rfl, hs⟩⟩
        case measure => simp [intOf]; omega
      · obtain ⟨r0, r1, r2, r3, r4, r5, r6, r7, r8⟩ := HC.out _ (KB.out _ kb) j hj
        by_cases hg : frAt F j = frAt F k
        · have hs : Hid (payR kd se re ix (some (frAt F k)) (F.drop (k + 1)) = R) := by rw [Hid, ← pay_again hlt hfit.out hg]; exact h3.out
          clear h3 hfit
          rw [hg] at r0 r1 r2 r3 r4 r5 r6 r7 r8
          clear hg
          go_upto_region 7 with (fail)
          go_quiet (fail)
          go_wp2_with fail
          go_roundw
          case rel => exact ⟨k + 1, by omega, by go_num, below_drewN kb _, .inr ⟨k, hlt, rfl, hs⟩⟩
          case measure => simp [intOf]; omega
        · have hs : Hid (R = .error 20) := by rw [Hid, ← h3.out]; exact pay_clash hlt hfit.out hg
          clear h3 hfit
          rcases fr_ne hg with hne | hne | hne | hne | hne | hne | hne | hne | hne
          · have y0 : ((frAt F j).kind == (frAt F k).kind) = false := by rw [beq_eq_false_iff_ne]; exact hne
            clear hne
            go_upto_region 7 with (fail)
            go_quiet (fail)
            go_wp2_with fail
            go_ret3
            rw [hs.out]
            exact ⟨rfl, KB.out _ (below_drewN kb _)⟩
          · have y1 : ((frAt F j).reel == (frAt F k).reel) = false := by rw [beq_eq_false_iff_ne]; exact hne
            clear hne
            go_upto_region 7 with (fail)
            go_quiet (fail)
            go_wp2_with fail
            go_ret3
            rw [hs.out]
            exact ⟨rfl, KB.out _ (below_drewN kb _)⟩
          · have y2 : ((frAt F j).session == (frAt F k).session) = false := by rw [beq_eq_false_iff_ne]; exact hne
            clear hne
            go_upto_region 7 with (fail)
            go_quiet (fail)
            go_wp2_with fail
            go_ret3
            rw [hs.out]
            exact ⟨rfl, KB.out _ (below_drewN kb _)⟩
          · have y3 : ((frAt F j).index == (frAt F k).index) = false := by rw [beq_eq_false_iff_ne]; exact hne
            clear hne
            go_upto_region 7 with (fail)
            go_quiet (fail)
            go_wp2_with fail
            go_ret3
            rw [hs.out]
            exact ⟨rfl, KB.out _ (below_drewN kb _)⟩
          · have y4 : ((frAt F j).length == (frAt F k).length) = false := by rw [beq_eq_false_iff_ne]; exact hne
            clear hne
            go_upto_region 7 with (fail)
            go_quiet (fail)
            go_wp2_with fail
            go_ret3
            rw [hs.out]
            exact ⟨rfl, KB.out _ (below_drewN kb _)⟩
          · have y5 : ((frAt F j).data == (frAt F k).data) = false := by rw [beq_eq_false_iff_ne]; exact hne
            clear hne
            go_upto_region 7 with (fail)
            go_quiet (fail)
            go_wp2_with fail
            go_ret3
            rw [hs.out]
            exact ⟨rfl, KB.out _ (below_drewN kb _)⟩
          · have y6 : ((frAt F j).spare == (frAt F k).spare) = false := by rw [beq_eq_false_iff_ne]; exact hne
            clear hne
            go_upto_region 7 with (fail)
            go_quiet (fail)
            go_wp2_with fail
            go_ret3
            rw [hs.out]
            exact ⟨rfl, KB.out _ (below_drewN kb _)⟩
          · have y7 : ((frAt F j).archive == (frAt F k).archive) = false := by rw [beq_eq_false_iff_ne]; exact hne
            clear hne
            go_upto_region 7 with (fail)
            go_quiet (fail)
            go_wp2_with fail
            go_ret3
            rw [hs.out]
            exact ⟨rfl, KB.out _ (below_drewN kb _)⟩
          · have y8 : ((frAt F j).payload.toList == (frAt F k).payload.toList) = false := by rw [str_eq]; exact decide_eq_false (fun h => hne (str_inj h))
            clear hne
            go_upto_region 7 with (fail)
            go_quiet (fail)
            go_wp2_with fail
            go_ret3
            rw [hs.out]
            exact ⟨rfl, KB.out _ (below_drewN kb _)⟩
    · obtain rfl : k = F.length := by omega
      rcases hp with ⟨rfl, h2⟩ | ⟨j, hj, rfl, h3⟩
      · have hs : Hid (R = .error 19) := by rw [Hid, ← h2.out, pay_end]
        clear h2
        go_wp2_with fail
        go_ret3
        rw [hs.out]
        exact ⟨rfl, KB.out _ kb⟩
      · have hs : Hid (R = .ok (frAt F j)) := by rw [Hid, ← h3.out, pay_end]
        obtain ⟨r0, r1, r2, r3, r4, r5, r6, r7, r8⟩ := HC.out _ (KB.out _ kb) j hj
        clear h3
        go_upto_region 13 with (fail)
        go_quiet (fail)
        go_wp2_with fail
        go_ret3
        rw [hs.out]
        exact ⟨rfl, KB.out _ (below_drewN kb _)⟩
theorem payload0 (ar : Int) (a : Option Addr) (cap : Nat) (kd se re ix : Int) (w : World) :
    Calls Tryz.prog 70 #[.agg #[.int .u32 ar, .slice a 0 cap], .int .i64 kd, .int .i64 se, .int .i64 re, .int .i64 ix] w (PayQ (.error 19) w) := by
  obtain ⟨kb0, bC0⟩ := boxr w [.int .u32 ar, .slice a 0 cap] 25
  go_enter Tryz.func70, Tryz.ntmps70
  go_upto_region 1 with (fail)
  obtain ⟨W0, hW0⟩ : ∃ W0, w.alloc (.cells #[.int .u32 ar, .slice a 0 cap] 25) = W0 := ⟨_, rfl⟩
  change Code.wp _ _ _ _ (w.alloc (.cells #[.int .u32 ar, .slice a 0 cap] 25))
  change Below _ _ (w.alloc (.cells #[.int .u32 ar, .slice a 0 cap] 25)) at kb0
  change Box (w.alloc (.cells #[.int .u32 ar, .slice a 0 cap] 25)) _ _ _ at bC0
  rw [hW0] at kb0 bC0 ⊢
  clear hW0
  have c1 : W0.cell? ⟨w.heap.size, 1, none⟩ = some (.slice a 0 cap) := bC0.cell 1
  go_wp2_with fail
  go_loopw [13, 14, 15, 19] (fun p _ _ i wr => p = .pointer none ∧ i = .int .i64 0 ∧ wr = W0) (fun _ _ _ i _ => (intOf i).toNat)
  case atStart => exact ⟨rfl, rfl, rfl⟩
  case round =>
    obtain ⟨rfl, rfl, rfl⟩ := hrel
    go_wp2_with fail
    go_ret3
    exact ⟨rfl, kb0⟩
theorem payload_any (ar : Int) (v : Value) (F : List Fr) (kd se re ix : Int) (w : World) (hr : FrRow w v F) :
    Calls Tryz.prog 70 #[.agg #[.int .u32 ar, v], .int .i64 kd, .int .i64 se, .int .i64 re, .int .i64 ix] w (PayQ (payR kd se re ix none F) w) := by
  rcases hr.2 with ⟨rfl, a, cap, rfl, _⟩ | ⟨h0, b, o, cap, rfl, _, _, hb, hF⟩
  · exact payload0 ar a cap kd se re ix w
  · exact payload1 ar b o cap F kd se re ix w h0 hr.1 hb hF
end Go.Proofs.YtpkapcijgldhhaaGreatDoor

namespace Go.Proofs.YtpkapcijgldhhaaGreatDoor
open Go.ChangeShapes Go.WideShapes Go.ChangeAt Go.RowKit Go.Deep
theorem fr_lay_cells : Tryz.prog.cellsOf 39 = 2 := by kernel_rfl
section
variable {H : Type} {enc : TypeId × Value → H} {w : World} {base : Nat}
end
end Go.Proofs.YtpkapcijgldhhaaGreatDoor

namespace Go.Proofs.YtpkapcijgldhhaaGreatDoor
open Go.RowKit
section
variable {H : Type} {P : Program}
/-- each weight of a datum is within the reach -/
def Wt (P : Program) (t : TypeId) (d : DataW H) : Prop := ∀ n ∈ d.weights P t, n ≤ reachBytes
theorem Wt.each {ts : List TypeId} {ds : List (DataW H)} (h : (DataW.weightsEach P ts ds).all (· ≤ reachBytes) = true) {j : Nat} {t : TypeId} {d : DataW H} (ht : ts[j]? = some t) (hd : ds[j]? = some d) : Wt P t d := fun n hn => by
  have := List.all_eq_true.1 h n (DataW.weights_mem_each ht hd n hn)
  simpa using this
theorem Wt.string {t : TypeId} {b : List UInt8} (h : Wt P t (.lit (.string b) : DataW H)) : b.length ≤ reachBytes := h b.length (by simp [DataW.weights])
theorem Wt.agg {t : TypeId} {fs : Array Field} {parts : List (DataW H)} (h : Wt P t (.agg parts)) (hu : P.underlying t = some (.struct fs)) {j : Nat} {tj : TypeId} {d : DataW H} (ht : (fs.toList.map (·.type))[j]? = some tj) (hd : parts[j]? = some d) : Wt P tj d := fun n hn =>
  h n (by simp only [DataW.weights, hu]; exact DataW.weights_mem_each ht hd n hn)
theorem weightsAll_mem {e : TypeId} : ∀ {ds : List (DataW H)} {d : DataW H}, d ∈ ds → ∀ n ∈ d.weights P e, n ∈ DataW.weightsAll P e ds
  | x :: r, d, hd, n, hn => by
    simp only [DataW.weightsAll, List.mem_append]
    rcases List.mem_cons.1 hd with rfl | hd
    · exact .inl hn
    · exact .inr (weightsAll_mem hd n hn)
theorem Wt.slice {t e : TypeId} {elems spare : List (DataW H)} (h : Wt P t (.slice elems spare)) (hu : P.underlying t = some (.slice e)) : (elems.length + spare.length) * P.bytesOf e ≤ reachBytes ∧ ∀ d ∈ elems, Wt P e d := by
  refine ⟨h _ (by simp [DataW.weights, hu]), fun d hd n hn => h n ?_⟩
  simp only [DataW.weights, hu, List.mem_cons, List.mem_append]
  exact .inr (.inl (weightsAll_mem hd n hn))
end
end Go.Proofs.YtpkapcijgldhhaaGreatDoor

namespace Go.Proofs.YtpkapcijgldhhaaGreatDoor
open Go.RowKit Go.Shelf

def HeadP (l : List UInt8) (c : Int) (w : World) (e : Ending) (w' : World) : Prop := ∃ t : ByteArray, e = .returned (.tuple #[.string t, .int .i64 c]) ∧ Hid (t.data.toList = l) ∧ Below w.heap.size w w'
end Go.Proofs.YtpkapcijgldhhaaGreatDoor

namespace Go.Proofs.YtpkapcijgldhhaaGreatDoor
open Go.RowKit Go.Shelf

theorem take_flatX (X : List Ex) (k : Nat) (h : k < X.length) : (X.take (k + 1)).flatMap exL = (X.take k).flatMap exL ++ exL (exAt X k) := by
  rw [List.take_succ_eq_append_getElem h, List.flatMap_append, exAt_get h]; simp
end Go.Proofs.YtpkapcijgldhhaaGreatDoor
