/-
  Chapter 40: the law Parts, walked out of the contracts.
-/
import Derived.Test.YtjlfjchcmkkebaaGreatDoorLawRT40
namespace Go.Proofs.YtjlfjchcmkkebaaGreatDoor
open Go.RowKit Go.Shelf
theorem join_any (va : Value) (la : List ByteArray) (w : World) (ha : Strs w va la) (ht : (la.map fun s => s.data.toList).flatten.length ≤ 1099511627776) (hN : la.length ≤ 140737488355328) : Calls Tryz.prog 24 #[va, .string ⟨#[]⟩] w (StrP (la.map fun s => s.data.toList).flatten w) := by
  obtain ⟨hla, ha'⟩ := row_cases ha
  simp only [List.length_map] at hla ha'
  unfold maxLen at hla
  rcases ha' with ⟨h0', aa, ca, rfl, _⟩ | ⟨h0', ba, oa, ca, rfl, hca, hca2, hcella⟩
  · have hla0 : la = [] := by simpa using h0'
    subst hla0
    refine (Tryz.strings_Join_none aa ca _ w).mono ?_
    rintro e w' ⟨rfl, rfl⟩
    exact ⟨_, rfl, rfl, below_refl _⟩
  · refine (Tryz.strings_Join ba oa ca la ⟨#[]⟩ w (fun j x hx => hcella j (.string x) (by simp [hx])) ?_ hN hca ?_).mono ?_
    · have hne : 0 < la.length := h0'
      have := hcella 0 (.string la[0]) (by simp [hne])
      exact World.block_lt_of_cell? w _ this
    · show (List.intercalate [] _).length ≤ _
      rw [intercalate_nil]; omega
    · rintro e w' ⟨rfl, hb⟩
      exact ⟨_, rfl, by show List.intercalate [] _ = _; exact intercalate_nil _, hb⟩
theorem join_parts (va : Value) (la : List ByteArray) (s : ByteArray) (w : World) (ha : Strs w va la) (hl : la.length ≤ 1000000) (ht : (la.map fun s => s.data.toList).flatten.length ≤ 1099511627776) (hs : (la.map fun s => s.data.toList).flatten = s.data.toList) :
    Calls Tryz.prog 24 #[va, .string ⟨#[]⟩] w fun e w' => ∃ t : ByteArray, e = .returned (.string t) ∧ t = s ∧ Below w.heap.size w w' :=
  (join_any va la w ha ht (by omega)).mono fun e w' ⟨t, h1, h2, h3⟩ => ⟨t, h1, list_inj (h2.out.trans hs), h3⟩
set_option maxRecDepth 100000 in
set_option maxHeartbeats 4000000 in
theorem lawParts40 (s : ByteArray) (w : World) (he : Env w) (hm : HasMax w) (hz : s.size ≤ 140737488355328) :
    Calls Tryz.prog 9 #[.string s] w fun e w' => e = .returned (.bool true) ∧ Below w.heap.size w w' := by
  have HE := Lib.hid (show ∀ W, Below w.heap.size w W → Env W from fun W hW => he.below hW)
  have HA := Lib.hid (alive40_any w he hm)
  clear he hm
  go_enter Tryz.func9, Tryz.ntmps9
  go_wp2_with fail
  refine HA.out.mono ?_
  rintro e W1 ⟨rfl, kb1⟩
  by_cases h5 : 5000 < s.size
  · go_wp2_with fail
    go_ret
    exact ⟨rfl, kb1⟩
  have hs : s.size ≤ 1000000 := by omega
  have HPa := Lib.hid (parts_any s W1 hs)
  have HPr := Lib.hid (fun W => rparts_any s W hs)
  go_wp2_with fail
  refine HPa.out.mono ?_
  rintro e W2 ⟨v, rfl, own, hb2⟩
  have kb2 := step2 kb1 hb2
  have HJ := Lib.hid (show ∀ W, Below W2.heap.size W2 W → Calls Tryz.prog 24 #[v, .string ⟨#[]⟩] W fun e w' => ∃ t : ByteArray, e = .returned (.string t) ∧ t = s ∧ Below W.heap.size W w' from fun W hW => join_parts v (partsB s) s W (own.strs.below hW) (by rw [show (partsB s).length = cntP s.size from partsK_length _ _]; unfold cntP; omega) (by rw [partsB_flat]; exact (by omega : s.size ≤ 1099511627776)) (partsB_flat s))
  have HCz := Lib.hid (show ∀ i, i < cntP s.size → (1 ≤ (bA' (chunkL s.data.toList i)).size ∧ (bA' (chunkL s.data.toList i)).size ≤ 28) ∧ (i + 1 < cntP s.size → (bA' (chunkL s.data.toList i)).size = 28) from fun i hi => ⟨⟨(chunk_size hi).2, by have := (chunk_size hi).1; omega⟩, fun h => chunk_full h⟩)
  have HLa := Lib.hid (fun W => length_any s W (by omega))
  have HLb := Lib.hid (fun W => refLength_any s W (by omega))
  obtain ⟨va, vc, hv⟩ : ∃ va vc, v = .slice va (cntP s.size) vc := by
    obtain ⟨va, cap, hv, _⟩ := own.strs
    exact ⟨va, cap, by rw [hv, List.length_map, show (partsB s).length = cntP s.size from partsK_length _ _]⟩
  have HC := Lib.hid (show ∀ i, i < cntP s.size → ∃ b o, va = some ⟨b, o, none⟩ ∧ W2.cell? ⟨b, o + i, none⟩ = some (.string (bA' (chunkL s.data.toList i))) from fun i hi => by
    obtain ⟨b, o, c, h1, _, h2⟩ := own_cells own (by omega)
    rw [hv] at h1
    cases h1
    exact ⟨b, o, rfl, h2 i hi⟩)
  subst hv
  have hK : cntP s.size ≤ 1000000 := by unfold cntP; omega
  have HK : Hid ((partsB s).length = cntP s.size) := partsK_length _ _
  clear own HPa kb1 hb2
  generalize cntP s.size = K at *
  go_upto_block 0 with (fail)
  go_wp2_with fail
  go_loopw [4] (fun i wr => ∃ k : Nat, k ≤ K ∧ i = .int .i64 k ∧ W2 = wr) (fun i _ => K - (intOf i).toNat)
  case atStart => exact ⟨0, by omega, rfl, rfl⟩
  case round =>
    obtain ⟨k, hk, rfl, rfl⟩ := hrel
    by_cases hlt : k < K
    · obtain ⟨b, o, rfl, x0⟩ := HC.out k hlt
      obtain ⟨⟨z1, z2⟩, z3⟩ := HCz.out k hlt
      have Z3 := Lib.hid z3; clear z3
      generalize bA' (chunkL s.data.toList k) = ch at *
      by_cases hl : k + 1 < K
      · have z4 := Z3.out hl
        have q1 : ((ch.size : Int) == 28) = true := by rw [beq_iff_eq]; omega
        have q2 : ((ch.size : Int) != 28) = false := by rw [bne_eq_false_iff_eq]; omega
        clear z4 Z3
        go_wp2_with fail
        go_roundw
        case rel => exact ⟨k + 1, by omega, by go_num, by first | rfl | trivial⟩
        case measure => simp [intOf]; omega
      · clear Z3
        go_wp2_with fail
        go_roundw
        case rel => exact ⟨k + 1, by omega, by go_num, by first | rfl | trivial⟩
        case measure => simp [intOf]; omega
    · clear HC HCz
      go_wp2_with fail
      refine (HLa.out _).mono ?_
      rintro e W3 ⟨rfl, rfl⟩
      go_wp2_with fail
      refine (HLb.out _).mono ?_
      rintro e W3 ⟨rfl, rfl⟩
      go_wp2_with fail
      refine (HJ.out _ (below_refl _)).mono ?_
      rintro e W3 ⟨t, rfl, rfl, hb3⟩
      have q3 : (t.toList == t.toList) = true := by rw [str_eq]; exact decide_eq_true rfl
      have kb3 := step2 kb2 hb3
      obtain ⟨n1, hn1⟩ : ∃ n1, stInt (lenR t.data.toList) = n1 := ⟨_, rfl⟩
      obtain ⟨n2, hn2⟩ : ∃ n2, errOf (lenR t.data.toList) = n2 := ⟨_, rfl⟩
      rw [hn1, hn2]
      clear hn1 hn2 HLa HLb
      have q4 : (n1 == n1) = true := by rw [beq_iff_eq]
      have q5 : (n2 == n2) = true := by rw [beq_iff_eq]
      go_wp2_with fail
      refine (HPr.out _).mono ?_
      rintro e W4 ⟨v, rfl, own, hb4⟩
      have kb4 := step2 kb3 hb4
      obtain ⟨ya, yc, rfl⟩ : ∃ va vc, v = .slice va K vc := by
        obtain ⟨va, cap, hv, _⟩ := own.strs
        exact ⟨va, cap, by rw [hv, List.length_map, HK.out]⟩
      have q6 : ((K : Int) == (K : Int)) = true := by rw [beq_iff_eq]
      clear own HPr HJ
      go_wp2_with fail
      go_ret
      exact ⟨rfl, kb4⟩
end Go.Proofs.YtjlfjchcmkkebaaGreatDoor
