/-
  Chapter 47: the law Keeper, walked out of the contracts.
-/
import Derived.Test.YtadhbnleahipaaaGreatDoorLawPrefix
namespace Go.Proofs.YtadhbnleahipaaaGreatDoor
open Go.RowKit
/-! the law Keeper -/
def condV (L : List Cu) (date : Int) (k : Nat) : Prop := (cuAt L k).fr ≤ date ∧ date ≤ (cuAt L k).un ∧ (k + 1 = L.length ∨ date < (cuAt L (k + 1)).fr)
theorem inc_of {L : List Cu} (h : checkV L = 0) {i : Nat} (hi : i + 1 < L.length) : (cuAt L i).fr < (cuAt L (i + 1)).fr := by
  have h1 := checkN_one (n := L.length) h hi
  rw [oneV, oneP] at h1
  by_cases he : (cuAt L (i + 1)).e ≠ 0
  · rw [if_pos he] at h1; exact absurd h1 he
  · rw [if_neg he] at h1
    by_cases ho : (cuAt L (i + 1)).fr ≤ (cuAt L i).fr
    · rw [if_pos ⟨by omega, by simpa using ho⟩] at h1; exact absurd h1 (by decide)
    · omega
theorem inc_all {L : List Cu} {date : Int} (h : checkV L = 0) {i : Nat} (hd : date < (cuAt L i).fr) : ∀ d, i + d < L.length → date < (cuAt L (i + d)).fr
  | 0, _ => hd
  | d + 1, hl => by
    have h1 := inc_all h hd d (by omega)
    have h2 := inc_of h (i := i + d) (by omega)
    rw [← Nat.add_assoc]; omega
theorem kp_up {L : List Cu} {date : Int} {i : Nat} : ∀ d, (∀ j, i ≤ j → j < i + d → date < (cuAt L j).fr) → kpV L date (i + d) = kpV L date i
  | 0, _ => rfl
  | d + 1, h => by
    rw [← Nat.add_assoc, kpV_next (by have := h (i + d) (by omega) (by omega); omega)]
    exact kp_up d fun j h1 h2 => h j h1 (by omega)
theorem kp_cond {L : List Cu} {date : Int} (h : checkV L = 0) {i : Nat} (hi : i < L.length) (hc : condV L date i) : kpV L date L.length = ((i : Int), 0) := by
  obtain ⟨h1, h2, h3⟩ := hc
  rw [← kpV_hit (L := L) (m := i) h1 (by omega)]
  obtain ⟨d, hd⟩ := Nat.exists_eq_add_of_le (show i + 1 ≤ L.length by omega)
  rw [hd]
  refine kp_up d fun j hj1 hj2 => ?_
  rcases h3 with h3 | h3
  · omega
  · obtain ⟨c, hc⟩ := Nat.exists_eq_add_of_le hj1
    rw [hc]
    exact inc_all h h3 c (by omega)
theorem kp_inv {L : List Cu} {date : Int} : ∀ m, (∃ i, i < m ∧ kpV L date m = ((i : Int), 0) ∧ (cuAt L i).fr ≤ date ∧ date ≤ (cuAt L i).un ∧ ∀ j, i < j → j < m → date < (cuAt L j).fr) ∨ kpV L date m = (0, 9)
  | 0 => .inr rfl
  | m + 1 => by
    by_cases h1 : (cuAt L m).fr ≤ date
    · by_cases h2 : (cuAt L m).un < date
      · exact .inr (kpV_late h1 h2)
      · exact .inl ⟨m, by omega, kpV_hit h1 h2, h1, by omega, fun j hj1 hj2 => by omega⟩
    · rw [kpV_next h1]
      rcases kp_inv (L := L) (date := date) m with ⟨i, h3, h4, h5, h6, h7⟩ | h3
      · refine .inl ⟨i, by omega, h4, h5, h6, fun j hj1 hj2 => ?_⟩
        by_cases hjm : j = m
        · subst hjm; omega
        · exact h7 j hj1 (by omega)
      · exact .inr h3
/-- either one statement is in force, or none -/
theorem kp_two {L : List Cu} {date : Int} (h : checkV L = 0) : (∃ i, i < L.length ∧ kpV L date L.length = ((i : Int), 0) ∧ ∀ k, k < L.length → (condV L date k ↔ k = i)) ∨ (kpV L date L.length = (0, 9) ∧ ∀ k, k < L.length → ¬ condV L date k) := by
  rcases kp_inv (L := L) (date := date) L.length with ⟨i, h1, h2, h3, h4, h5⟩ | h1
  · refine .inl ⟨i, h1, h2, fun k hk => ⟨fun hc => ?_, fun e => ?_⟩⟩
    · have := kp_cond h hk hc
      rw [h2] at this
      simp only [Prod.mk.injEq, and_true] at this
      omega
    · subst e
      refine ⟨h3, h4, ?_⟩
      by_cases hl : k + 1 = L.length
      · exact .inl hl
      · exact .inr (h5 (k + 1) (by omega) (by omega))
  · refine .inr ⟨h1, fun k hk hc => ?_⟩
    have := kp_cond h hk hc
    rw [h1] at this
    simp at this
/-- how many of the first k are in force -/
def cntV (n x : Int) (k : Nat) : Int := if x = 0 ∧ n < k then 1 else 0
theorem cnt_yes {L : List Cu} {date n x : Int} (h : checkV L = 0) (hk : kpV L date L.length = (n, x)) {k : Nat} (hl : k < L.length) (hc : condV L date k) : n = k ∧ x = 0 ∧ cntV n x k = 0 ∧ cntV n x (k + 1) = 1 := by
  have := kp_cond h hl hc
  rw [hk] at this
  simp only [Prod.mk.injEq] at this
  obtain ⟨rfl, rfl⟩ := this
  exact ⟨rfl, rfl, by rw [cntV, if_neg (by omega)], by rw [cntV, if_pos ⟨rfl, by omega⟩]⟩
theorem cnt_no {L : List Cu} {date n x : Int} (h : checkV L = 0) (hk : kpV L date L.length = (n, x)) {k : Nat} (hl : k < L.length) (hc : ¬ condV L date k) : cntV n x (k + 1) = cntV n x k := by
  rcases kp_two (date := date) h with ⟨i, h1, h2, h3⟩ | ⟨h1, _⟩
  · rw [hk] at h2
    simp only [Prod.mk.injEq] at h2
    obtain ⟨rfl, rfl⟩ := h2
    have : k ≠ i := fun e => hc ((h3 k hl).2 e)
    rw [cntV, cntV]
    by_cases hki : i < k
    · rw [if_pos ⟨rfl, by omega⟩, if_pos ⟨rfl, by omega⟩]
    · rw [if_neg (by omega), if_neg (by omega)]
  · rw [hk] at h1
    simp only [Prod.mk.injEq] at h1
    obtain ⟨rfl, rfl⟩ := h1
    rw [cntV, cntV, if_neg (by omega), if_neg (by omega)]
theorem cnt_end {L : List Cu} {date n x : Int} (h : checkV L = 0) (hk : kpV L date L.length = (n, x)) : cntV n x L.length = 1 ∨ (cntV n x L.length = 0 ∧ x = 9 ∧ n = 0) := by
  rcases kp_two (date := date) h with ⟨i, h1, h2, h3⟩ | ⟨h1, _⟩
  · rw [hk] at h2
    simp only [Prod.mk.injEq] at h2
    obtain ⟨rfl, rfl⟩ := h2
    exact .inl (by rw [cntV, if_pos ⟨rfl, by omega⟩])
  · rw [hk] at h1
    simp only [Prod.mk.injEq] at h1
    obtain ⟨rfl, rfl⟩ := h1
    exact .inr ⟨by rw [cntV, if_neg (by omega)], rfl, rfl⟩
theorem cnt_zero {L : List Cu} {date n x : Int} (h : checkV L = 0) (hk : kpV L date L.length = (n, x)) : cntV n x 0 = 0 := by
  rcases kp_two (date := date) h with ⟨i, h1, h2, h3⟩ | ⟨h1, _⟩
  · rw [hk] at h2
    simp only [Prod.mk.injEq] at h2
    obtain ⟨rfl, rfl⟩ := h2
    rw [cntV, if_neg (by omega)]
  · rw [hk] at h1
    simp only [Prod.mk.injEq] at h1
    obtain ⟨rfl, rfl⟩ := h1
    rw [cntV, if_neg (by omega)]
set_option maxRecDepth 100000 in
set_option maxHeartbeats 4000000 in
theorem lawKeeper_any (v : Value) (T : List Tm) (date : Int) (w : World) (he : Env w) (hr : TmRow w v T) (hok : ∀ i, TmOk (tmAt T i)) (_hd : -9223372036854775808 ≤ date ∧ date ≤ 9223372036854775807) :
    Calls Tryz.prog 5 #[v, .int .i64 date] w (TrueP w) := by
  have HF := Lib.hid (show ∀ W, Below w.heap.size w W → Calls Tryz.prog 12 #[] W (TrueP W) from fun W hW => awake47_any W (he.below hW))
  have HT := Lib.hid (terms_any v T w hr hok)
  have HE := Lib.hid he
  have HOK := Lib.hid (chainV_ok hok)
  have hlT := chainV_length T
  clear hr hok he
  go_enter Tryz.func5, Tryz.ntmps5
  go_wp2_with fail
  refine HT.out.mono ?_
  rintro e w1 (⟨h4, rfl, rfl⟩ | ⟨h4, u, rfl, hown, hb1⟩)
  · clear HT
    go_wp2_with fail
    refine (HF.out _ (below_refl _)).mono ?_
    rintro e w9 ⟨rfl, hb9⟩
    go_wp2_with fail
    go_ret
    exact ⟨rfl, hb9⟩
  clear HT
  have hrow := cuRow_own hown
  rw [← hlT] at h4
  generalize hL : chainV T = L at *
  clear hL hlT
  have HC := Lib.hid (check_any u L w1 (HE.out.below hb1) hrow (by omega) HOK.out)
  have HK := Lib.hid (show ∀ W, Below w1.heap.size w1 W → Calls Tryz.prog 15 #[u, .int .i64 date] W (VerP (keepV L date) W) from fun W hW => keeper_any u L date W (HE.out.below (step2 hb1 hW)) (hrow.below hW) (by omega) HOK.out)
  by_cases hq : checkV L = 0
  case neg =>
    obtain ⟨x1, x2⟩ := neq0 hq
    clear HK hown hrow hq
    generalize checkV L = q at *
    go_wp2_with fail
    refine HC.out.mono ?_
    rintro e w2 ⟨rfl, hb2⟩
    have hb2 := step2 hb1 hb2
    go_wp2_with fail
    refine (HF.out _ hb2).mono ?_
    rintro e w9 ⟨rfl, hb9⟩
    go_wp2_with fail
    go_ret
    exact ⟨rfl, step2 hb2 hb9⟩
  have HQ := Lib.hid hq
  rw [hq] at HC
  rw [keepV_ok hq] at HK
  clear hq
  obtain ⟨hmax, hrow⟩ := hrow
  have hform : (L = [] ∧ ∃ a cap, u = .slice a 0 cap) ∨ (0 < L.length ∧ ∃ b o cap, u = .slice (some ⟨b, o, none⟩) L.length cap ∧ b < w1.heap.size ∧ CuAt w1 b o L) := by
    rcases hrow with ⟨h, a, cap, h2, _⟩ | ⟨h, b, o, cap, h2, _, _, h3, h5⟩
    · exact .inl ⟨h, a, cap, h2⟩
    · exact .inr ⟨h, b, o, cap, h2, h3, h5⟩
  clear hrow hown
  rcases hform with ⟨rfl, a, cap, rfl⟩ | ⟨h0, b, o, cap, rfl, hb, hat⟩
  · go_wp2_with fail
    refine HC.out.mono ?_
    rintro e w2 ⟨rfl, hb2⟩
    go_wp2_with fail
    refine (HK.out _ hb2).mono ?_
    rintro e w3 ⟨n, x, rfl, hv, hb3⟩
    obtain ⟨rfl, rfl⟩ : 0 = n ∧ 9 = x := by have := hv.out; rw [show kpV [] date ([] : List Cu).length = (0, 9) from rfl] at this; simpa using this
    have hb3 := step2 hb1 (step2 hb2 hb3)
    go_wp2_with fail
    refine wp_loop_rounds 1 ?_; rw [rounds_succ]
    go_wp2_with fail
    refine (HF.out _ hb3).mono ?_
    rintro e w9 ⟨rfl, hb9⟩
    go_wp2_with fail
    go_ret
    exact ⟨rfl, step2 hb3 hb9⟩
  · go_wp2_with fail
    refine HC.out.mono ?_
    rintro e w2 ⟨rfl, hb2⟩
    go_wp2_with fail
    refine (HK.out _ hb2).mono ?_
    rintro e w3 ⟨n, x, rfl, hv, hb3⟩
    have hat3 := hat.below (step2 hb2 hb3) hb
    have hb3 := step2 hb1 (step2 hb2 hb3)
    clear HC HK hat
    have hcn : ∀ k, 0 ≤ cntV n x k ∧ cntV n x k ≤ 1 := fun k => by rw [cntV]; split <;> omega
    have HCN := Lib.hid hcn
    clear hcn
    have hc0 := Lib.hid (cnt_zero HQ.out hv.out)
    have hend := Lib.hid (cnt_end HQ.out hv.out)
    go_wp2_with fail
    go_loop [9, 32] (fun c i => ∃ k : Nat, k ≤ L.length ∧ i = .int .i64 k ∧ c = .int .i64 (cntV n x k)) (fun _ i => L.length - (intOf i).toNat)
    case atStart => exact ⟨0, by omega, rfl, by rw [hc0.out]⟩
    case round =>
      obtain ⟨k, hk, rfl, rfl⟩ := hrel
      by_cases hlt : k < L.length
      · obtain ⟨_, _, c2, c3, _⟩ := cuCells hat3 hlt
        by_cases h1 : (cuAt L k).fr ≤ date
        case neg =>
          have hc1 := Lib.hid (cnt_no HQ.out hv.out hlt (fun hc => h1 hc.1))
          generalize (cuAt L k).fr = fr at *
          generalize (cuAt L k).un = un at *
          obtain ⟨z0, z1⟩ := HCN.out k
          generalize cntV n x k = C at *
          clear hend hc0 hat3
          go_wp2_with fail
          go_round
          case rel => exact ⟨k + 1, by omega, by go_num, by rw [hc1.out]⟩
          case measure => simp [intOf]; omega
        by_cases h2 : date ≤ (cuAt L k).un
        case neg =>
          have hc1 := Lib.hid (cnt_no HQ.out hv.out hlt (fun hc => h2 hc.2.1))
          generalize (cuAt L k).fr = fr at *
          generalize (cuAt L k).un = un at *
          obtain ⟨z0, z1⟩ := HCN.out k
          generalize cntV n x k = C at *
          clear hend hc0 hat3
          go_wp2_with fail
          go_round
          case rel => exact ⟨k + 1, by omega, by go_num, by rw [hc1.out]⟩
          case measure => simp [intOf]; omega
        by_cases h3 : k + 1 = L.length
        · obtain ⟨rfl, rfl, hk0, hk1⟩ := cnt_yes HQ.out hv.out hlt ⟨h1, h2, .inl h3⟩
          rw [hk0]
          have hc1 := Lib.hid hk1
          have e1 : ((k : Int) + 1 == (L.length : Int)) = true := by rw [← h3]; simp
          generalize (cuAt L k).fr = fr at *
          generalize (cuAt L k).un = un at *
          clear hend hc0 hat3 hk0 hk1
          go_wp2_with fail
          go_round
          case rel => exact ⟨k + 1, by omega, by go_num, by rw [hc1.out]⟩
          case measure => simp [intOf]; omega
        · have hlt2 : k + 1 < L.length := by omega
          obtain ⟨_, _, d2, _, _⟩ := cuCells hat3 hlt2
          have e1 : ((k : Int) + 1 == (L.length : Int)) = false := by
            have : ¬ (k : Int) + 1 = (L.length : Int) := by omega
            simpa using this
          by_cases h4 : date < (cuAt L (k + 1)).fr
          · obtain ⟨rfl, rfl, hk0, hk1⟩ := cnt_yes HQ.out hv.out hlt ⟨h1, h2, .inr h4⟩
            rw [hk0]
            have hc1 := Lib.hid hk1
            generalize (cuAt L (k + 1)).fr = fr1 at *
            generalize (cuAt L k).fr = fr at *
            generalize (cuAt L k).un = un at *
            clear hend hc0 hat3 hk0 hk1
            go_wp2_with fail
            go_round
            case rel => exact ⟨k + 1, by omega, by go_num, by rw [hc1.out]⟩
            case measure => simp [intOf]; omega
          · have hc1 := Lib.hid (cnt_no HQ.out hv.out hlt (fun hc => by rcases hc.2.2 with h | h; exact h3 h; exact h4 h))
            generalize (cuAt L (k + 1)).fr = fr1 at *
            generalize (cuAt L k).fr = fr at *
            generalize (cuAt L k).un = un at *
            obtain ⟨z0, z1⟩ := HCN.out k
            generalize cntV n x k = C at *
            clear hend hc0 hat3
            go_wp2_with fail
            go_round
            case rel => exact ⟨k + 1, by omega, by go_num, by rw [hc1.out]⟩
            case measure => simp [intOf]; omega
      · obtain rfl : k = L.length := by omega
        rcases hend.out with h1 | ⟨h1, rfl, rfl⟩
        · rw [h1]
          clear hend hc0 hat3 h1 HCN
          go_wp2_with fail
          refine (HF.out _ hb3).mono ?_
          rintro e w9 ⟨rfl, hb9⟩
          go_wp2_with fail
          go_ret
          exact ⟨rfl, step2 hb3 hb9⟩
        · rw [h1]
          clear hend hc0 hat3 h1 HCN
          go_wp2_with fail
          refine (HF.out _ hb3).mono ?_
          rintro e w9 ⟨rfl, hb9⟩
          go_wp2_with fail
          go_ret
          exact ⟨rfl, step2 hb3 hb9⟩
end Go.Proofs.YtadhbnleahipaaaGreatDoor
