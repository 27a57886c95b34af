/-
  The program's signatures; the nodes of key trees.
-/
import Derived.Test.YtadhbnleahipaaaGreatDoorDigitsP
import Derived.Test.YtadhbnleahipaaaGreatDoorSignR
import Derived.Shelf.Strings.BuilderK
import Derived.Deep.CutBlock
namespace Go.Proofs.YtadhbnleahipaaaGreatDoor
open Go.RowKit
theorem ownsF_below {w w' : World} {base : Nat} {e : TypeId} {size : Nat} {v : Value} {n : Nat} {xs : List Value} (h : w.ownsRowF base e size v n xs) (hb : Below w.heap.size w w') : w'.ownsRowF base e size v n xs := by
  refine ⟨h.1, ?_⟩
  rcases h.2 with h2 | ⟨g, cap, cur, fz, hv, hg, hh, r⟩
  · exact .inl h2
  · exact .inr ⟨g, cap, cur, fz, hv, hg, by rw [hb.block g (Array.getElem?_eq_some_iff.1 hh).1]; exact hh, r⟩
theorem builderF_below {T e : TypeId} {B b : Nat} {bs : List Value} {w w' : World} (h : Lib.IsBuilderF T e B b bs w) (hb : Below w.heap.size w w') : Lib.IsBuilderF T e B b bs w' := by
  have one : ∀ {p : Value}, Lib.BuilderAtF T e B b p bs w → Lib.BuilderAtF T e B b p bs w' := by
    rintro p ⟨hB, v, hv, hown, hne⟩
    exact ⟨hB, v, by rw [hb.block b (Array.getElem?_eq_some_iff.1 hv).1]; exact hv, ownsF_below hown hb, hne⟩
  exact h.imp one one
/-- one more string into the builder; what is no row of bytes stays -/
theorem writeF_at (B : Nat) (l : List UInt8) (s : ByteArray) (w : World) (h : Hid (Lib.IsBuilderF 80 5 B B (Lib.byteCells l) w)) (hlen : l.length + s.size ≤ 140737488355328) (hBw : B ≤ w.heap.size) :
    Calls Tryz.prog 42 #[.pointer (some ⟨B, 0, none⟩), .string s] w fun e w' => e = .returned (.tuple #[.int .i64 s.size, .nilIface]) ∧ Hid (Lib.IsBuilderF 80 5 B B (Lib.byteCells (l ++ s.data.toList)) w') ∧ Below B w w' ∧ Hid (Lib.OthersKept 5 (some B) w w') := by
  refine (Any.Builder_WriteString_k Tryz.lays166 Tryz.Builder_Extra_166 B B _ s w h.out (by rw [Lib.byteCells_length]; exact hlen) hBw).mono ?_
  rintro e w' ⟨rfl, h1, hb, ho⟩
  refine ⟨rfl, ?_, hb, ho⟩
  rw [Lib.strCells_eq, ← Lib.byteCells_append] at h1
  exact Or.inr h1
set_option maxHeartbeats 1000000 in
set_option maxRecDepth 100000 in
theorem sign_any (s : ByteArray) (key : Int) (m : ByteArray) (w : World) (he : Env w) (hs : s.size ≤ 1073741824) (hm : m.size ≤ 1073741824) (hk : -9223372036854775808 ≤ key ∧ key ≤ 9223372036854775807) :
    Calls Tryz.prog 55 #[.string s, .int .i64 key, .string m] w (StrP (signL s.data.toList key m.data.toList) w) := by
  by_cases h0 : key < 0
  · go_enter Tryz.func55, Tryz.ntmps55
    go_wp2_with fail
    go_ret
    exact ⟨_, rfl, by rw [Hid, signL, if_pos h0], below_refl _⟩
  have h0' : 0 ≤ key := by omega
  have hB0 : Hid (Lib.IsBuilderF 80 5 w.heap.size w.heap.size (Lib.byteCells []) (w.alloc (.cells #[.pointer none, .slice none 0 0] 80))) := Lib.IsBuilderF.of (Lib.fresh_isBuilder 80 5 w)
  have b0 : Below w.heap.size w (w.alloc (.cells #[.pointer none, .slice none 0 0] 80)) := (Below.refl _ w).alloc (Nat.le_refl _) _
  have hsz : Hid ((w.alloc (.cells #[.pointer none, .slice none 0 0] 80)).heap[w.heap.size]? = some (.cells #[.pointer none, .slice none 0 0] 80 (0, 0))) := heap_alloc_new w _
  have hdg := Lib.hid (digits_any m _ (he.below b0) hm)
  go_enter Tryz.func55, Tryz.ntmps55
  go_wp2_with fail
  refine hdg.out.mono ?_
  rintro e w0 ⟨v, rfl, hrow, hb0⟩
  have hB1 := Lib.hid (builderF_below hB0.out hb0)
  have bw := b0.trans (hb0.mono (by simp))
  have hz0 : w.heap.size + 1 ≤ w0.heap.size := by have := hb0.size; simpa using this
  have hold : Hid (w0.heap[w.heap.size]? = some (.cells #[.pointer none, .slice none 0 0] 80 (0, 0))) := by
    rw [Hid, hb0.block _ (by simp)]; exact hsz.out
  clear hdg hb0 hB0 b0 hsz
  obtain ⟨D, hD⟩ : ∃ D, digitsL m.data.toList = D := ⟨_, rfl⟩
  have hDl : D.length = 35 := by rw [← hD]; exact digitsL_length _
  have hDd : Hid (∀ k, D.getD k 0 ≤ 15) := by rw [← hD]; exact fun k => digitsL_getD _ k
  rw [hD] at hrow
  have HD := Lib.hid hD; clear hD
  rw [hDl] at hrow
  have HDL := Lib.hid hDl; clear hDl
  obtain ⟨hlen, hrow⟩ := hrow
  rcases hrow with ⟨_, hn⟩ | ⟨g, cap, cur, rfl, _, hg, hnc, hcm, hcs, htake⟩
  · cases hn
  have hcur : Hid (∀ k, k < 35 → cur[k]? = some (.int .i64 (D.getD k 0 : Nat))) := fun k hk => by
    have h1 := nats_get D k (by rw [HDL.out]; exact hk)
    rw [← htake, List.getElem?_take, if_pos (by omega)] at h1
    rw [← h1, Array.getElem?_toList]
  have hgne : Hid (g ≠ w.heap.size) := by
    intro e
    have := hold.out
    rw [← e, hg] at this
    injection this with h1
    injection h1 with h2 h3 h4
    revert h3; decide
  have HG := Lib.hid hg
  clear hlen hg hcs htake hold
  go_wp2_with fail
  go_loopw [15] (fun i wr => ∃ (k : Nat), k ≤ 35 ∧ i = .int .i64 k ∧ Hid (Lib.IsBuilderF 80 5 w.heap.size w.heap.size (Lib.byteCells (sigL s.data.toList key D k)) wr) ∧ Hid (wr.heap[g]? = some (.cells cur 3 (0, 0))) ∧ Below w.heap.size w wr) (fun i _ => 35 - (intOf i).toNat)
  case atStart => exact ⟨0, by omega, rfl, hB1, HG, bw⟩
  case round =>
    obtain ⟨k, hk2, rfl, hB, hc, hbw⟩ := hrel
    by_cases hlt : k < 35
    · obtain ⟨d, hd⟩ : ∃ d, D.getD k 0 = d := ⟨_, rfl⟩
      have hd15 : d ≤ 15 := by rw [← hd]; exact hDd.out k
      have ck : wr.cell? ⟨g, k, none⟩ = some (.int .i64 d) := by
        have := hcur.out k hlt
        rw [hd] at this
        unfold World.cell?
        rw [hc.out]
        simpa using this
      have HDD := Lib.hid hd; clear hd
      have hsc := Lib.hid (secret_any s key k wr (he.below hbw) hs hk (by omega))
      go_wp2_with fail
      refine hsc.out.mono ?_
      rintro e w1 ⟨x, rfl, hx, hb1⟩
      have hxs : x.size ≤ 1073741824 := by rw [← toList_size, hx.out, secretL_length]; decide
      have hwk := Lib.hid (walk_any x d w1 ((he.below hbw).below hb1) hxs (by omega))
      go_wp2_with fail
      refine hwk.out.mono ?_
      rintro e w2 ⟨y, rfl, hy, hb2⟩
      have hys : y.size ≤ 1000 := by rw [← toList_size, hy.out, chainL16 (by rw [hx.out]; exact secretL_length _ _ _)]; decide
      have hb12 := step2 (step2 hbw hb1) hb2
      have hB2 := Lib.hid (builderF_below (builderF_below hB.out hb1) hb2)
      have hlt2 := (Array.getElem?_eq_some_iff.1 hc.out).1
      have hc2 : Hid (w2.heap[g]? = some (.cells cur 3 (0, 0))) := by
        rw [Hid, hb2.block g (Nat.lt_of_lt_of_le hlt2 hb1.size), hb1.block g hlt2]; exact hc.out
      clear hsc hwk ck hlt2
      go_wp2_with fail
      refine (writeF_at w.heap.size (sigL s.data.toList key D k) y _ hB2 (by rw [sigL_length]; omega) hb12.size).mono ?_
      rintro e w3 ⟨rfl, hB3, hb3, ho3⟩
      have hc3 : Hid (w3.heap[g]? = some (.cells cur 3 (0, 0))) := ho3.out g _ hc2.out (fun e => hgne.out (Option.some.inj e)) (fun c fz e => by injection e with _ h3 _; revert h3; decide)
      go_wp2_with fail
      go_roundw
      case rel => exact ⟨k + 1, by omega, by go_num, by rw [sigL, HDD.out, ← hx.out, ← hy.out]; exact hB3, hc3, hb12.trans hb3⟩
      case measure => simp [intOf]; omega
    · obtain rfl : k = 35 := by omega
      have hfin := Lib.hid (Any.Builder_String_any_k Tryz.lays169 Tryz.Builder_Extra_169 w.heap.size w.heap.size _ wr hB.out hbw.size)
      go_wp2_with fail
      refine hfin.out.mono ?_
      rintro e w1 ⟨rfl, _, hb1, _⟩
      go_wp2_with fail
      go_ret
      exact ⟨_, rfl, by rw [Hid, signL, if_neg (by omega), HD.out], hbw.trans hb1⟩
theorem node_any (a b : ByteArray) (w : World) (he : Env w) (ha : a.size ≤ 1073741824) (hb : b.size ≤ 1073741824) :
    Calls Tryz.prog 51 #[.string a, .string b] w (StrP (hashL [[110, 111, 100, 101], a.data.toList, b.data.toList]) w) := by
  have hb0 : ∀ cs, Below w.heap.size w (w.alloc (.cells cs 9)) := fun cs => (Below.refl _ w).alloc (Nat.le_refl _) _
  have ht : totS [⟨#[110, 111, 100, 101]⟩, a, b] ≤ 68719476736 := by rw [totS_cons, totS_cons, totS_cons, totS_nil]; show 10 + 4 + _ ≤ _; omega
  have hln := strsL_le [⟨#[110, 111, 100, 101]⟩, a, b] (by omega)
  have hst := Lib.hid (strings_any (.slice (some ⟨w.heap.size, 0, none⟩) 3 3) [⟨#[110, 111, 100, 101]⟩, a, b] (w.alloc (.cells #[.string ⟨#[110, 111, 100, 101]⟩, .string a, .string b] 9)) (he.below (hb0 _)) (strs_new w _ _ _ 3 rfl rfl (by simp [maxLen])) (by omega))
  have H0 := Lib.hid (hb0 #[.string ⟨#[110, 111, 100, 101]⟩, .string a, .string b])
  clear hb0
  go_enter Tryz.func51, Tryz.ntmps51
  go_wp2_with fail
  refine hst.out.mono ?_
  rintro e w1 ⟨t, rfl, hts, hb1⟩
  have htz : t.data.toList.length ≤ 1099511627776 := by rw [hts.out]; omega
  have hb1' := H0.out.trans (hb1.mono (by simp))
  clear hst hln H0 hb1
  go_wp2_with fail
  refine (sum_any _ [t] _ (strs_new w1 [t] _ _ _ rfl rfl (by simp [maxLen])) (by simp) (by rw [flat_one]; exact htz)).mono ?_
  rintro e w2 ⟨u, rfl, hus, hb2⟩
  have huz : (16 : Int) ≤ u.size := by rw [← toList_size, hus.out, sumB_length]; decide
  go_wp2_with fail
  go_ret
  refine ⟨_, rfl, ?_, (hb1'.alloc hb1'.size _).trans (hb2.mono (by have := hb1'.size; simp; omega))⟩
  rw [Hid, extract_list, hus.out, flat_one, hts.out, strsL_map]; rfl
theorem nodeR_any (a b : ByteArray) (w : World) (ha : a.size ≤ 1073741824) (hb : b.size ≤ 1073741824) :
    Calls Tryz.prog 79 #[.string a, .string b] w (StrP (hashL [[110, 111, 100, 101], a.data.toList, b.data.toList]) w) := by
  go_enter Tryz.func79, Tryz.ntmps79
  go_wp2_with fail
  refine (H_new w [⟨#[110, 111, 100, 101]⟩, a, b] _ _ _ rfl rfl (by rw [totS_cons, totS_cons, totS_cons, totS_nil]; show 10 + 4 + _ ≤ _; omega)).mono ?_
  rintro e w1 ⟨t, rfl, hts, hb1⟩
  go_wp2_with fail
  go_ret
  exact ⟨_, rfl, hts, hb1⟩
theorem size_any (h N : Nat) (w : World) (hh : h ≤ 60) (hN : Hid (2 ^ h = N)) :
    Calls Tryz.prog 56 #[.int .i64 h] w fun e w' => e = .returned (.int .i64 N) ∧ w = w' := by
  go_enter Tryz.func56, Tryz.ntmps56
  go_wp2_with fail
  go_loop [3, 4] (fun n i => ∃ k m : Nat, k ≤ h ∧ i = .int .i64 k ∧ n = .int .i64 m ∧ Hid (m = 2 ^ k) ∧ m ≤ 1152921504606846976) (fun _ i => h - (intOf i).toNat)
  case atStart => exact ⟨0, 1, by omega, rfl, rfl, rfl, by decide⟩
  case round =>
    obtain ⟨k, m, hk, rfl, rfl, hm, hml⟩ := hrel
    by_cases hlt : k < h
    · have h2 : 2 * m ≤ 1152921504606846976 := by
        rw [hm.out]
        have := Nat.pow_le_pow_right (n := 2) (by decide) (show k + 1 ≤ 60 by omega)
        rw [Nat.pow_succ] at this
        omega
      go_wp2_with fail
      go_round
      case rel => exact ⟨k + 1, 2 * m, by omega, by go_num, by go_num, by rw [Hid, hm.out, Nat.pow_succ]; omega, h2⟩
      case measure => simp [intOf]; omega
    · obtain rfl : k = h := by omega
      go_wp2_with fail
      go_ret
      exact ⟨ret_int (by rw [hm.out, hN.out]), rfl⟩
end Go.Proofs.YtadhbnleahipaaaGreatDoor
