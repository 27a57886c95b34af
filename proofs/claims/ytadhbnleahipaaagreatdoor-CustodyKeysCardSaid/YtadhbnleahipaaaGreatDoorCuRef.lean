/-
  Chapter 47: the reference's Check; Keeper in both; Great, awake.
-/
import Derived.Test.YtadhbnleahipaaaGreatDoorCuCheck
namespace Go.Proofs.YtadhbnleahipaaaGreatDoor
open Go.RowKit
/-! the reference's Check -/
def SgnP (s : ByteArray) (w : World) (e : Ending) (w' : World) : Prop := e = .returned (.string s) ∧ w = w'
theorem signer_any (b o cap i : Nat) (L : List Cu) (w : World) (hL : CuAt w b o L) (hlen : L.length ≤ 1000000) (hi : i < L.length) :
    Calls Tryz.prog 53 #[.slice (some ⟨b, o, none⟩) L.length cap, .int .i64 i] w (SgnP (sgnB L i) w) := by
  rw [sgnB]
  cases i with
  | zero =>
    obtain ⟨c0, _⟩ := cuCells hL hi
    rw [Nat.zero_mul, Nat.add_zero] at c0
    generalize L.length = N at *
    generalize (cuAt L 0).root = r at *
    go_enter Tryz.func53, Tryz.ntmps53
    go_wp2_with fail
    go_ret
    exact ⟨rfl, rfl⟩
  | succ k =>
    obtain ⟨c0, _⟩ := cuCells hL (i := k) (by omega)
    rw [Nat.add_sub_cancel]
    generalize L.length = N at *
    generalize (cuAt L k).root = r at *
    go_enter Tryz.func53, Tryz.ntmps53
    go_wp2_with fail
    go_ret
    exact ⟨rfl, rfl⟩
set_option maxRecDepth 100000 in
set_option maxHeartbeats 1000000 in
theorem keyR_any (b o cap i : Nat) (L : List Cu) (w : World) (hb : b < w.heap.size) (hL : CuAt w b o L) (hlen : L.length ≤ 1000000) (hi : i < L.length) (hok : CusOk L) :
    Calls Tryz.prog 52 #[.slice (some ⟨b, o, none⟩) L.length cap, .int .i64 i] w (VerP (keyV L i) w) := by
  obtain ⟨c0, c1, c2, c3, c4⟩ := cuCells hL hi
  have hc := hok i
  have HD := Lib.hid (cuDigestR_any (cuAt L i).root (cuAt L i).media (cuAt L i).sig (cuAt L i).fr (cuAt L i).un w (by have := hc.root; omega) (by have := hc.media; omega) hc.fr hc.un)
  have HS := Lib.hid (show ∀ W, Below w.heap.size w W → Calls Tryz.prog 53 #[.slice (some ⟨b, o, none⟩) L.length cap, .int .i64 i] W (SgnP (sgnB L i) W) from fun W hW => signer_any b o cap i L W (hL.below hW hb) hlen hi)
  have HV := Lib.hid (show ∀ (W : World) (d : ByteArray), d.data.toList = (cuAt L i).d → Calls Tryz.prog 77 #[.string (sgnB L i), .string d, .string (cuAt L i).sig] W (VerP (keyV L i) W) from fun W d hd => by
    have hdl : d.size ≤ 32 := by rw [← toList_size, hd]; exact cu_dlen _
    have := verifyR_any (sgnB L i) d (cuAt L i).sig W (by omega) (by have := hc.sig; omega)
    rw [hd] at this; exact this)
  have HC := Lib.hid (show ∀ W, Below w.heap.size w W → W.cell? ⟨b, o + i * 5 + 4, none⟩ = some (.string (cuAt L i).sig) from fun W hW => (hW.cell (p := ⟨b, o + i * 5 + 4, none⟩) hb).trans c4)
  change Hid (Calls _ _ _ _ (RootP (cuAt L i).d (cuAt L i).e w)) at HD
  generalize keyV L i = kv at *
  generalize (cuAt L i).e = er at *
  generalize (cuAt L i).d = dg at *
  generalize (cuAt L i).root = r at *
  generalize (cuAt L i).media = m at *
  generalize (cuAt L i).sig = sg at *
  generalize (cuAt L i).fr = fr at *
  generalize (cuAt L i).un = un at *
  generalize sgnB L i = sb at *
  clear hc hok
  generalize L.length = N at *
  go_enter Tryz.func52, Tryz.ntmps52
  go_wp2_with fail
  refine HD.out.mono ?_
  rintro e w1 ⟨t, rfl, ht, hb1⟩
  clear c0 c1 c2 c3 c4 HD
  go_wp2_with fail
  go_region_held3 (fun W => W.cell? ⟨b, o + i * 5 + 4, none⟩ = some (.string sg))
    ((refine HC.out _ ?_; first | exact hb1 | exact below_drew0 hb1 | exact step2 (below_drew0 hb1) hb2))
    (first | (go_at_call 53; refine (HS.out _ (below_drew0 hb1)).mono ?_; clear HS; rintro e w2 ⟨rfl, rfl⟩) | (go_at_call 77; refine (HV.out _ t ht.out).mono ?_; clear HV; rintro e w2 ⟨n, x, rfl, hv, hb2⟩))
  have hb3 := step2 (below_drew0 hb1) hb2
  go_wp2_with fail
  go_ret2
  exact ⟨_, _, rfl, hv, hb3⟩
theorem usedB_succ (L : List Cu) (m i : Nat) : usedB L (List.range (m + 1)) i = (usedB L (List.range m) i || decide ((sgnB L m).data.toList = (sgnB L i).data.toList ∧ (keyV L m).1 = (keyV L i).1)) := by
  rw [List.range_succ, usedB, List.any_append]; simp [usedB]
theorem usedB_mono {L : List Cu} {m i n : Nat} (h : usedB L (List.range (m + 1)) i = true) (hm : m < n) : usedB L (List.range n) i = true := by
  rw [usedB, List.any_eq_true] at *
  obtain ⟨j, hj, e⟩ := h
  have := List.mem_range.1 hj
  exact ⟨j, List.mem_range.2 (by omega), e⟩
set_option maxRecDepth 100000 in
set_option maxHeartbeats 2000000 in
theorem oneR_any (b o cap i : Nat) (L : List Cu) (w : World) (hb : b < w.heap.size) (hL : CuAt w b o L) (hlen : L.length ≤ 1000000) (hi : i < L.length) (hok : CusOk L) :
    Calls Tryz.prog 33 #[.slice (some ⟨b, o, none⟩) L.length cap, .int .i64 i] w (ErrP (oneV L i) w) := by
  obtain ⟨c0, c1, c2, c3, c4⟩ := cuCells hL hi
  have hc := hok i
  have HD := Lib.hid (cuDigestR_any (cuAt L i).root (cuAt L i).media (cuAt L i).sig (cuAt L i).fr (cuAt L i).un w (by have := hc.root; omega) (by have := hc.media; omega) hc.fr hc.un)
  change Hid (Calls _ _ _ _ (RootP (cuAt L i).d (cuAt L i).e w)) at HD
  have HK := Lib.hid (show ∀ W j, Below w.heap.size w W → j < L.length → Calls Tryz.prog 52 #[.slice (some ⟨b, o, none⟩) L.length cap, .int .i64 j] W (VerP (keyV L j) W) from
    fun W j hW hj => keyR_any b o cap j L W (Nat.lt_of_lt_of_le hb hW.size) (hL.below hW hb) hlen hj hok)
  have HS := Lib.hid (show ∀ W j, Below w.heap.size w W → j < L.length → Calls Tryz.prog 53 #[.slice (some ⟨b, o, none⟩) L.length cap, .int .i64 j] W (SgnP (sgnB L j) W) from fun W j hW hj => signer_any b o cap j L W (hL.below hW hb) hlen hj)
  have hval : oneV L i = oneP L (List.range i) i := rfl
  rw [oneP] at hval
  by_cases he : (cuAt L i).e = 0
  case neg =>
    rw [if_pos he] at hval
    rw [hval]
    obtain ⟨x1, x2⟩ := neq0 he
    generalize (cuAt L i).e = er at *
    generalize (cuAt L i).d = dg at *
    generalize cuAt L i = c at *
    clear HK HS hval hok hc hL he
    generalize L.length = N at *
    go_enter Tryz.func33, Tryz.ntmps33
    go_wp2_with fail
    refine HD.out.mono ?_
    rintro e w1 ⟨t, rfl, ht, hb1⟩
    clear HD c0 c1 c2 c3 c4
    go_wp2_with fail
    go_ret
    exact ⟨rfl, hb1⟩
  rw [if_neg (by omega)] at hval
  cases i with
  | zero =>
    rw [if_neg (by omega), if_neg (by omega)] at hval
    rw [he] at HD
    have HK0 := Lib.hid (fun W hW => HK.out W 0 hW hi)
    have hkk := verifyL_err (r := (sgnB L 0).data.toList) (m := (cuAt L 0).d) (s := (cuAt L 0).sig.data.toList)
    change (keyV L 0).2 = 0 ∨ (keyV L 0).2 = 17 at hkk
    replace hkk := Lib.hid hkk
    have hub : usedB L (List.range 0) 0 = false := rfl
    rw [hub] at hval
    replace hval := Lib.hid hval
    generalize oneV L 0 = res at *
    generalize keyV L 0 = kv at *
    generalize (cuAt L 0).d = dg at *
    generalize cuAt L 0 = c at *
    clear HK HS hok hc hL he hub
    rw [Nat.zero_mul, Nat.add_zero] at c0 c1 c2 c3 c4
    generalize L.length = N at *
    go_enter Tryz.func33, Tryz.ntmps33
    go_wp2_with fail
    refine HD.out.mono ?_
    rintro e w1 ⟨t, rfl, ht, hb1⟩
    clear HD
    go_wp2_with fail
    go_quiet (fail)
    go_wp2_with fail
    go_quiet (fail)
    go_wp2_with fail
    refine (HK0.out _ (below_drewN hb1 _)).mono ?_
    rintro e w2 ⟨n, x, rfl, hv, hb2⟩
    have hb3 := step2 (below_drewN hb1 _) hb2
    rw [hv.out] at hkk hval
    by_cases hx : x = 0
    · subst hx
      have hr : res = 0 := by have := hval.out; simpa using this
      subst hr
      go_wp2_with fail
      refine wp_loop_rounds 1 ?_; rw [rounds_succ]
      go_wp2_with fail
      go_ret
      exact ⟨rfl, hb3⟩
    · have hr : x = 17 := by rcases hkk.out with h | h; exact absurd h hx; exact h
      subst hr
      have hr : res = 17 := by have := hval.out; simpa using this
      subst hr
      go_wp2_with fail
      go_ret
      exact ⟨rfl, hb3⟩
  | succ k =>
    obtain ⟨d0, d1, d2, d3, d4⟩ := cuCells hL (i := k) (by omega)
    rw [Nat.add_sub_cancel] at hval
    rw [he] at HD
    have HC := Lib.hid (show ∀ W, Below w.heap.size w W → W.cell? ⟨b, o + (k + 1) * 5 + 2, none⟩ = some (.int .i64 (cuAt L (k + 1)).fr) ∧ W.cell? ⟨b, o + k * 5 + 2, none⟩ = some (.int .i64 (cuAt L k).fr) ∧ W.cell? ⟨b, o + k * 5 + 3, none⟩ = some (.int .i64 (cuAt L k).un) from
      fun W hW => ⟨(hW.cell (p := ⟨b, _, none⟩) hb).trans c2, (hW.cell (p := ⟨b, _, none⟩) hb).trans d2, (hW.cell (p := ⟨b, _, none⟩) hb).trans d3⟩)
    have h10 : 0 < k + 1 := by omega
    by_cases h14 : (cuAt L (k + 1)).fr ≤ (cuAt L k).fr
    · rw [if_pos ⟨h10, h14⟩] at hval
      rw [hval]
      generalize (cuAt L (k + 1)).d = dg at *
      generalize (cuAt L (k + 1)).fr = fr1 at *
      generalize (cuAt L k).fr = fr0 at *
      generalize (cuAt L k).un = un0 at *
      generalize cuAt L (k + 1) = c at *
      clear HK HS hval hok hc hL he d0 d1 d2 d3 d4 h10
      generalize L.length = N at *
      go_enter Tryz.func33, Tryz.ntmps33
      go_wp2_with fail
      refine HD.out.mono ?_
      rintro e w1 ⟨t, rfl, ht, hb1⟩
      obtain ⟨e1, e2, e3⟩ := HC.out _ hb1
      clear HD HC c0 c1 c2 c3 c4
      go_wp2_with fail
      go_quiet (fail)
      go_wp2_with fail
      go_ret
      exact ⟨rfl, below_drewN hb1 _⟩
    rw [if_neg (fun h => h14 h.2)] at hval
    by_cases h18 : (cuAt L k).un < (cuAt L (k + 1)).fr
    · rw [if_pos ⟨h10, h18⟩] at hval
      rw [hval]
      generalize (cuAt L (k + 1)).d = dg at *
      generalize (cuAt L (k + 1)).fr = fr1 at *
      generalize (cuAt L k).fr = fr0 at *
      generalize (cuAt L k).un = un0 at *
      generalize cuAt L (k + 1) = c at *
      clear HK HS hval hok hc hL he d0 d1 d2 d3 d4 h10
      generalize L.length = N at *
      go_enter Tryz.func33, Tryz.ntmps33
      go_wp2_with fail
      refine HD.out.mono ?_
      rintro e w1 ⟨t, rfl, ht, hb1⟩
      obtain ⟨e1, e2, e3⟩ := HC.out _ hb1
      clear HD HC c0 c1 c2 c3 c4
      go_wp2_with fail
      go_quiet (fail)
      go_wp2_with fail
      go_quiet (fail)
      go_wp2_with fail
      go_ret
      exact ⟨rfl, below_drewN (below_drewN hb1 _) _⟩
    rw [if_neg (fun h => h18 h.2)] at hval
    have hkk := verifyL_err (r := (sgnB L (k + 1)).data.toList) (m := (cuAt L (k + 1)).d) (s := (cuAt L (k + 1)).sig.data.toList)
    change (keyV L (k + 1)).2 = 0 ∨ (keyV L (k + 1)).2 = 17 at hkk
    replace hkk := Lib.hid hkk
    generalize hdg : (cuAt L (k + 1)).d = dg at *
    generalize hf1 : (cuAt L (k + 1)).fr = fr1 at *
    generalize hf0 : (cuAt L k).fr = fr0 at *
    generalize hu0 : (cuAt L k).un = un0 at *
    generalize hcc : cuAt L (k + 1) = c at *
    clear hdg hf1 hf0 hu0 hcc hok hc he d0 d1 d2 d3 d4 h10 hL
    replace hval := Lib.hid hval
    go_enter Tryz.func33, Tryz.ntmps33
    go_wp2_with fail
    refine HD.out.mono ?_
    rintro e w1 ⟨t, rfl, ht, hb1⟩
    obtain ⟨e1, e2, e3⟩ := HC.out _ hb1
    clear HD HC c0 c1 c2 c3 c4
    go_wp2_with fail
    go_quiet (fail)
    go_wp2_with fail
    go_quiet (fail)
    clear e1 e2 e3
    go_wp2_with fail
    refine (HK.out _ (k + 1) (below_drewN hb1 _) hi).mono ?_
    rintro e w2 ⟨n, x, rfl, hv, hb2⟩
    have hb3 := step2 (below_drewN hb1 _) hb2
    rw [hv.out] at hkk hval
    by_cases hx : x = 0
    case neg =>
      have hr : x = 17 := by rcases hkk.out with h | h; exact absurd h hx; exact h
      subst hr
      have hr : oneV L (k + 1) = 17 := by have := hval.out; simpa using this
      have hr := Lib.hid hr
      clear hkk hval hv HK HS
      go_wp2_with fail
      go_ret
      exact ⟨ret_int hr.out.symm, hb3⟩
    subst hx
    have hr : Hid (oneV L (k + 1) = if usedB L (List.range (k + 1)) (k + 1) = true then 17 else 0) := by have := hval.out; simpa [Hid] using this
    clear hkk hval
    go_wp2_with fail
    go_loopw [9] (fun j wr => ∃ m : Nat, m ≤ k + 1 ∧ j = .int .i64 m ∧ Hid (usedB L (List.range m) (k + 1) = false) ∧ Below w.heap.size w wr) (fun j _ => k + 1 - (intOf j).toNat)
    case atStart => exact ⟨0, by omega, rfl, rfl, hb3⟩
    case round =>
      obtain ⟨m, hm, rfl, hu, hbw⟩ := hrel
      by_cases hlt : m < k + 1
      · have HK1 := Lib.hid (HK.out wr m hbw (by omega))
        have HS1 := Lib.hid (show ∀ W, Below w.heap.size w W → _ from fun W hW => HS.out W m hW (by omega))
        have HS2 := Lib.hid (show ∀ W, Below w.heap.size w W → _ from fun W hW => HS.out W (k + 1) hW hi)
        go_wp2_with fail
        refine HK1.out.mono ?_
        rintro e w4 ⟨n1, y1, rfl, hv1, hb4⟩
        have hb5 := step2 hbw hb4
        clear HK1
        have hn : (keyV L m).1 = n1 := by rw [hv1.out]
        have hn2 : (keyV L (k + 1)).1 = n := by rw [hv.out]
        have hus := usedB_succ L m (k + 1)
        rw [hu.out, hn, hn2, Bool.false_or] at hus
        have hus := Lib.hid hus
        clear hn hn2 hv1
        by_cases hs : (sgnB L m).data.toList = (sgnB L (k + 1)).data.toList
        · have x1 : ((sgnB L m).toList == (sgnB L (k + 1)).toList) = true := by rw [beq_lists]; simpa using hs
          have hus2 : Hid (usedB L (List.range (m + 1)) (k + 1) = decide (n1 = n)) := by rw [Hid, hus.out]; simp [hs]
          clear hus hs
          generalize sgnB L m = s1 at *
          generalize sgnB L (k + 1) = s2 at *
          by_cases hn : n1 = n
          · have hr17 : Hid (oneV L (k + 1) = 17) := by
              rw [Hid, hr.out, if_pos]
              exact usedB_mono (hus2.out.trans (by simp [hn])) hlt
            subst hn
            clear hus2 hr hu
            go_wp2_with fail
            refine (HS1.out _ hb5).mono ?_
            rintro e w5 ⟨rfl, rfl⟩
            go_wp2_with fail
            refine (HS2.out _ hb5).mono ?_
            rintro e w5 ⟨rfl, rfl⟩
            go_wp2_with fail
            go_ret
            exact ⟨ret_int hr17.out.symm, hb5⟩
          · have x2 : (n1 == n) = false := by simpa using hn
            have hu1 : Hid (usedB L (List.range (m + 1)) (k + 1) = false) := by rw [Hid, hus2.out]; simpa using hn
            clear hus2 hu hn
            go_wp2_with fail
            refine (HS1.out _ hb5).mono ?_
            rintro e w5 ⟨rfl, rfl⟩
            go_wp2_with fail
            refine (HS2.out _ hb5).mono ?_
            rintro e w5 ⟨rfl, rfl⟩
            go_wp2_with fail
            go_roundw
            case rel => exact ⟨m + 1, by omega, by go_num, hu1, hb5⟩
            case measure => simp [intOf]; omega
        · have x1 : ((sgnB L m).toList == (sgnB L (k + 1)).toList) = false := by rw [beq_lists]; simpa using hs
          have hu1 : Hid (usedB L (List.range (m + 1)) (k + 1) = false) := by rw [Hid, hus.out]; simp [hs]
          clear hus hs hu
          generalize sgnB L m = s1 at *
          generalize sgnB L (k + 1) = s2 at *
          go_wp2_with fail
          refine (HS1.out _ hb5).mono ?_
          rintro e w5 ⟨rfl, rfl⟩
          go_wp2_with fail
          refine (HS2.out _ hb5).mono ?_
          rintro e w5 ⟨rfl, rfl⟩
          go_wp2_with fail
          go_roundw
          case rel => exact ⟨m + 1, by omega, by go_num, hu1, hb5⟩
          case measure => simp [intOf]; omega
      · obtain rfl : m = k + 1 := by omega
        have hr0 : Hid (oneV L (k + 1) = 0) := by rw [Hid, hr.out, hu.out]; rfl
        clear hr hu
        go_wp2_with fail
        go_ret
        exact ⟨ret_int hr0.out.symm, hbw⟩
set_option maxRecDepth 100000 in
set_option maxHeartbeats 1000000 in
theorem checkR_any (v : Value) (L : List Cu) (w : World) (hr : CuRow w v L) (hlen : L.length ≤ 1000000) (hok : CusOk L) : Calls Tryz.prog 18 #[v] w (ErrP (checkV L) w) := by
  rcases hr.2 with ⟨rfl, a, cap, rfl, _⟩ | ⟨h0, b, o, cap, rfl, _, _, hb, hL⟩
  · clear hr
    go_enter Tryz.func18, Tryz.ntmps18
    go_wp2_with fail
    refine wp_loop_rounds 1 ?_; rw [rounds_succ]
    go_wp2_with fail
    go_ret
    exact ⟨rfl, below_refl _⟩
  · clear hr
    have HO := Lib.hid (show ∀ W j, Below w.heap.size w W → j < L.length → Calls Tryz.prog 33 #[.slice (some ⟨b, o, none⟩) L.length cap, .int .i64 j] W (ErrP (oneV L j) W) from
      fun W j hW hj => oneR_any b o cap j L W (Nat.lt_of_lt_of_le hb hW.size) (hL.below hW hb) hlen hj hok)
    go_enter Tryz.func18, Tryz.ntmps18
    go_wp2_with fail
    go_loopw [3] (fun i wr => ∃ k : Nat, k ≤ L.length ∧ i = .int .i64 k ∧ Hid (checkN L k = 0) ∧ Below w.heap.size w wr) (fun i _ => L.length - (intOf i).toNat)
    case atStart => exact ⟨0, by omega, rfl, rfl, below_refl _⟩
    case round =>
      obtain ⟨k, hk, rfl, hc, hbw⟩ := hrel
      by_cases hlt : k < L.length
      · have H1 := Lib.hid (HO.out wr k hbw hlt)
        by_cases he : oneV L k = 0
        · rw [he] at H1
          have hn := Lib.hid ((checkN_step hc.out).trans he)
          clear he hc
          go_wp2_with fail
          refine H1.out.mono ?_
          rintro e w1 ⟨rfl, hb1⟩
          go_wp2_with fail
          go_roundw
          case rel => exact ⟨k + 1, by omega, by go_num, hn, step2 hbw hb1⟩
          case measure => simp [intOf]; omega
        · have hv := Lib.hid (checkV_at hlt hc.out he)
          obtain ⟨x1, x2⟩ := neq0 he
          clear he hc
          generalize oneV L k = er at *
          go_wp2_with fail
          refine H1.out.mono ?_
          rintro e w1 ⟨rfl, hb1⟩
          go_wp2_with fail
          go_ret
          exact ⟨ret_int hv.out.symm, step2 hbw hb1⟩
      · obtain rfl : k = L.length := by omega
        have hv : Hid (checkV L = 0) := hc
        clear hc
        go_wp2_with fail
        go_ret
        exact ⟨ret_int hv.out.symm, hbw⟩
/-! Keeper -/
theorem kpV_next {L : List Cu} {date : Int} {m : Nat} (h : ¬ (cuAt L m).fr ≤ date) : kpV L date (m + 1) = kpV L date m := by rw [kpV, if_neg h]
theorem kpV_late {L : List Cu} {date : Int} {m : Nat} (h : (cuAt L m).fr ≤ date) (h' : (cuAt L m).un < date) : kpV L date (m + 1) = (0, 9) := by rw [kpV, if_pos h, if_pos h']
theorem kpV_hit {L : List Cu} {date : Int} {m : Nat} (h : (cuAt L m).fr ≤ date) (h' : ¬ (cuAt L m).un < date) : kpV L date (m + 1) = ((m : Int), 0) := by rw [kpV, if_pos h, if_neg h']
theorem keepV_bad {L : List Cu} {date : Int} (h : checkV L ≠ 0) : keepV L date = (0, checkV L) := by rw [keepV, if_pos h]
theorem keepV_ok {L : List Cu} {date : Int} (h : checkV L = 0) : keepV L date = kpV L date L.length := by rw [keepV, if_neg (by omega)]
set_option maxRecDepth 100000 in
set_option maxHeartbeats 1000000 in
theorem keeper_any (v : Value) (L : List Cu) (date : Int) (w : World) (he : Env w) (hr : CuRow w v L) (hlen : L.length ≤ 1000000) (hok : CusOk L) :
    Calls Tryz.prog 15 #[v, .int .i64 date] w (VerP (keepV L date) w) := by
  have HC := Lib.hid (check_any v L w he hr hlen hok)
  obtain ⟨hmax, hr⟩ := hr
  by_cases hq : checkV L = 0
  case neg =>
    rw [keepV_bad hq]
    obtain ⟨x1, x2⟩ := neq0 hq
    generalize checkV L = q at *
    go_enter Tryz.func15, Tryz.ntmps15
    go_wp2_with fail
    refine HC.out.mono ?_
    rintro e w1 ⟨rfl, hb1⟩
    go_wp2_with fail
    go_ret2
    exact ⟨_, _, rfl, rfl, hb1⟩
  rw [keepV_ok hq]
  rw [hq] at HC
  clear hq
  rcases hr with ⟨rfl, a, cap, rfl, _⟩ | ⟨h0, b, o, cap, rfl, _, _, hb, hL⟩
  · go_enter Tryz.func15, Tryz.ntmps15
    go_wp2_with fail
    refine HC.out.mono ?_
    rintro e w1 ⟨rfl, hb1⟩
    go_wp2_with fail
    refine wp_loop_rounds 1 ?_; rw [rounds_succ]
    go_wp2_with fail
    go_ret2
    exact ⟨_, _, rfl, rfl, hb1⟩
  · go_enter Tryz.func15, Tryz.ntmps15
    go_wp2_with fail
    refine HC.out.mono ?_
    rintro e w1 ⟨rfl, hb1⟩
    have hL1 := hL.below hb1 hb
    clear hL HC
    go_wp2_with fail
    go_loop [7] (fun i => ((i = .int .i64 (-1) ∧ Hid (kpV L date L.length = (0, 9))) ∨ ∃ m : Nat, m < L.length ∧ i = .int .i64 m ∧ Hid (kpV L date L.length = kpV L date (m + 1)))) (fun i => (intOf i + 1).toNat)
    case atStart => exact .inr ⟨L.length - 1, by omega, by go_num, by rw [Hid, Nat.sub_add_cancel h0]⟩
    case round =>
      rcases hrel with ⟨rfl, hk⟩ | ⟨m, hm, rfl, hk⟩
      · go_wp2_with fail
        go_ret2
        exact ⟨_, _, rfl, hk.out, hb1⟩
      · obtain ⟨_, _, c2, c3, _⟩ := cuCells hL1 hm
        by_cases h1 : (cuAt L m).fr ≤ date
        · by_cases h2 : (cuAt L m).un < date
          · have hz := Lib.hid (kpV_late h1 h2)
            generalize (cuAt L m).fr = fr at *
            generalize (cuAt L m).un = un at *
            go_wp2_with fail
            go_ret2
            exact ⟨_, _, rfl, hk.out.trans hz.out, hb1⟩
          · have hz := Lib.hid (kpV_hit h1 h2)
            generalize (cuAt L m).fr = fr at *
            generalize (cuAt L m).un = un at *
            go_wp2_with fail
            go_ret2
            exact ⟨_, _, rfl, hk.out.trans hz.out, hb1⟩
        · have hz := Lib.hid (kpV_next h1)
          generalize (cuAt L m).fr = fr at *
          generalize (cuAt L m).un = un at *
          go_wp2_with fail
          go_round
          case rel =>
            cases m with
            | zero => exact .inl ⟨by go_num, hk.out.trans hz.out⟩
            | succ m => exact .inr ⟨m, by omega, by go_num, hk.out.trans hz.out⟩
          case measure => simp [intOf]
set_option maxRecDepth 100000 in
set_option maxHeartbeats 1000000 in
theorem keeperR_any (v : Value) (L : List Cu) (date : Int) (w : World) (hr : CuRow w v L) (hlen : L.length ≤ 1000000) (hok : CusOk L) :
    Calls Tryz.prog 16 #[v, .int .i64 date] w (VerP (keepV L date) w) := by
  have HC := Lib.hid (checkR_any v L w hr hlen hok)
  obtain ⟨hmax, hr⟩ := hr
  by_cases hq : checkV L = 0
  case neg =>
    rw [keepV_bad hq]
    obtain ⟨x1, x2⟩ := neq0 hq
    generalize checkV L = q at *
    go_enter Tryz.func16, Tryz.ntmps16
    go_wp2_with fail
    refine HC.out.mono ?_
    rintro e w1 ⟨rfl, hb1⟩
    go_wp2_with fail
    go_ret2
    exact ⟨_, _, rfl, rfl, hb1⟩
  rw [keepV_ok hq]
  rw [hq] at HC
  clear hq
  rcases hr with ⟨rfl, a, cap, rfl, _⟩ | ⟨h0, b, o, cap, rfl, _, _, hb, hL⟩
  · go_enter Tryz.func16, Tryz.ntmps16
    go_wp2_with fail
    refine HC.out.mono ?_
    rintro e w1 ⟨rfl, hb1⟩
    go_wp2_with fail
    refine wp_loop_rounds 1 ?_; rw [rounds_succ]
    go_wp2_with fail
    go_ret2
    exact ⟨_, _, rfl, rfl, hb1⟩
  · go_enter Tryz.func16, Tryz.ntmps16
    go_wp2_with fail
    refine HC.out.mono ?_
    rintro e w1 ⟨rfl, hb1⟩
    have hL1 := hL.below hb1 hb
    clear hL HC
    go_wp2_with fail
    go_loop [7] (fun i => ((i = .int .i64 (-1) ∧ Hid (kpV L date L.length = (0, 9))) ∨ ∃ m : Nat, m < L.length ∧ i = .int .i64 m ∧ Hid (kpV L date L.length = kpV L date (m + 1)))) (fun i => (intOf i + 1).toNat)
    case atStart => exact .inr ⟨L.length - 1, by omega, by go_num, by rw [Hid, Nat.sub_add_cancel h0]⟩
    case round =>
      rcases hrel with ⟨rfl, hk⟩ | ⟨m, hm, rfl, hk⟩
      · go_wp2_with fail
        go_ret2
        exact ⟨_, _, rfl, hk.out, hb1⟩
      · obtain ⟨_, _, c2, c3, _⟩ := cuCells hL1 hm
        by_cases h1 : (cuAt L m).fr ≤ date
        · by_cases h2 : (cuAt L m).un < date
          · have hz := Lib.hid (kpV_late h1 h2)
            generalize (cuAt L m).fr = fr at *
            generalize (cuAt L m).un = un at *
            go_wp2_with fail
            go_ret2
            exact ⟨_, _, rfl, hk.out.trans hz.out, hb1⟩
          · have hz := Lib.hid (kpV_hit h1 h2)
            generalize (cuAt L m).fr = fr at *
            generalize (cuAt L m).un = un at *
            go_wp2_with fail
            go_ret2
            exact ⟨_, _, rfl, hk.out.trans hz.out, hb1⟩
        · have hz := Lib.hid (kpV_next h1)
          generalize (cuAt L m).fr = fr at *
          generalize (cuAt L m).un = un at *
          go_wp2_with fail
          go_round
          case rel =>
            cases m with
            | zero => exact .inl ⟨by go_num, hk.out.trans hz.out⟩
            | succ m => exact .inr ⟨m, by omega, by go_num, hk.out.trans hz.out⟩
          case measure => simp [intOf]
/-! Great, awake -/
def CuSmall (c : Cu) : Prop := c.root.size ≤ 100 ∧ c.media.size ≤ 100 ∧ c.sig.size ≤ 900
def GrP (L : List Cu) (w : World) (e : Ending) (w' : World) : Prop :=
  ∃ g : Int, e = .returned (.int .i64 g) ∧ (g = 0 ∨ g = 1) ∧ Hid (g = 0 → L.length ≤ 4 ∧ ∀ i, i < L.length → CuSmall (cuAt L i)) ∧ w = w'
set_option maxRecDepth 100000 in
set_option maxHeartbeats 1000000 in
theorem great47_any (v : Value) (L : List Cu) (w : World) (hr : CuRow w v L) (hz : ∀ i, (cuAt L i).root.size ≤ 9223372036854775807 ∧ (cuAt L i).media.size ≤ 9223372036854775807 ∧ (cuAt L i).sig.size ≤ 9223372036854775807) :
    Calls Tryz.prog 11 #[v] w (GrP L w) := by
  obtain ⟨hmax, hr⟩ := hr
  unfold maxLen at hmax
  rcases hr with ⟨rfl, a, cap, rfl, _⟩ | ⟨h0, b, o, cap, rfl, _, _, hb, hL⟩
  · clear hz
    go_enter Tryz.func11, Tryz.ntmps11
    go_wp2_with fail
    refine wp_loop_rounds 1 ?_; rw [rounds_succ]
    go_wp2_with fail
    go_ret
    exact ⟨0, rfl, .inl rfl, fun _ => ⟨Nat.zero_le _, fun i hi => absurd hi (Nat.not_lt_zero _)⟩, rfl⟩
  · by_cases h4 : 4 < L.length
    · clear hz hL
      go_enter Tryz.func11, Tryz.ntmps11
      go_wp2_with fail
      go_ret
      exact ⟨1, rfl, .inr rfl, fun e => (by cases e), rfl⟩
    · have HZ := Lib.hid hz
      clear hz
      go_enter Tryz.func11, Tryz.ntmps11
      go_wp2_with fail
      go_loop [3] (fun i => ∃ k : Nat, k ≤ L.length ∧ i = .int .i64 k ∧ Hid (∀ j, j < k → CuSmall (cuAt L j))) (fun i => L.length - (intOf i).toNat)
      case atStart => exact ⟨0, by omega, rfl, fun j hj => absurd hj (Nat.not_lt_zero _)⟩
      case round =>
        obtain ⟨k, hk, rfl, hs⟩ := hrel
        by_cases hlt : k < L.length
        · obtain ⟨c0, c1, _, _, c4⟩ := cuCells hL hlt
          obtain ⟨z1, z2, z3⟩ := HZ.out k
          by_cases h1 : 100 < (cuAt L k).root.size
          · generalize (cuAt L k).root = r at *
            generalize (cuAt L k).media = m at *
            generalize (cuAt L k).sig = g at *
            go_wp2_with fail
            go_ret
            exact ⟨1, rfl, .inr rfl, fun e => (by cases e), rfl⟩
          · by_cases h2 : 100 < (cuAt L k).media.size
            · generalize (cuAt L k).root = r at *
              generalize (cuAt L k).media = m at *
              generalize (cuAt L k).sig = g at *
              go_wp2_with fail
              go_ret
              exact ⟨1, rfl, .inr rfl, fun e => (by cases e), rfl⟩
            · by_cases h3 : 900 < (cuAt L k).sig.size
              · generalize (cuAt L k).root = r at *
                generalize (cuAt L k).media = m at *
                generalize (cuAt L k).sig = g at *
                go_wp2_with fail
                go_ret
                exact ⟨1, rfl, .inr rfl, fun e => (by cases e), rfl⟩
              · have hq := Lib.hid (show CuSmall (cuAt L k) from ⟨by omega, by omega, by omega⟩)
                generalize (cuAt L k).root = r at *
                generalize (cuAt L k).media = m at *
                generalize (cuAt L k).sig = g at *
                go_wp2_with fail
                go_round
                case rel => exact ⟨k + 1, by omega, by go_num, fun j hj => by
                  by_cases hj' : j < k
                  · exact hs.out j hj'
                  · obtain rfl : j = k := by omega
                    exact hq.out⟩
                case measure => simp [intOf]; omega
        · have hkk : k = L.length := by omega
          subst hkk
          go_wp2_with fail
          go_ret
          exact ⟨0, rfl, .inl rfl, fun _ => ⟨by omega, hs.out⟩, rfl⟩
theorem cuRow_nil (w : World) : CuRow w (.slice none 0 0) [] := ⟨by decide, .inl ⟨rfl, none, 0, rfl, fun _ => rfl⟩⟩
theorem cusOk_nil : CusOk [] := cusOk_of (fun c hc => by cases hc)
theorem awake47_any (w : World) (he : Env w) : Calls Tryz.prog 12 #[] w (TrueP w) := by
  have HK := Lib.hid (keeper_any _ [] 0 w he (cuRow_nil w) (by decide) cusOk_nil)
  have HC := Lib.hid (show ∀ W, Below w.heap.size w W → Calls Tryz.prog 17 #[.slice none 0 0] W (ErrP 0 W) from fun W hW => check_any _ [] W (he.below hW) (cuRow_nil W) (by decide) cusOk_nil)
  rw [show keepV [] 0 = (0, 9) from rfl] at HK
  go_enter Tryz.func12, Tryz.ntmps12
  go_wp2_with fail
  refine HK.out.mono ?_
  rintro e w1 ⟨n, x, rfl, hv, hb1⟩
  obtain ⟨rfl, rfl⟩ : 0 = n ∧ 9 = x := by have := hv.out; simpa using this
  go_wp2_with fail
  refine (HC.out _ hb1).mono ?_
  rintro e w2 ⟨rfl, hb2⟩
  go_wp2_with fail
  go_ret
  exact ⟨rfl, step2 hb1 hb2⟩
end Go.Proofs.YtadhbnleahipaaaGreatDoor
