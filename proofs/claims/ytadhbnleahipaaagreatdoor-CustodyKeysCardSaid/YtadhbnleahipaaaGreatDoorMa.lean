/-
  Chapter 47: what Check answers to a statement behind a valid chain of terms. Plain functions, no program in sight.
  Chapter 47: what Check answers to a statement that the last keeper signs with a new key. Plain functions, no program in sight.
  Terms of the call's own whose keys are stored anew; appends beside a guard. For the laws Succeeds and Keys.
-/
import Derived.Test.YtadhbnleahipaaaGreatDoorChainLaws
import Derived.Test.YtadhbnleahipaaaGreatDoorLawKeeper
import Derived.Test.YtadhbnleahipaaaGreatDoorRootEval
import Derived.Test.YtadhbnleahipaaaGreatDoorLawTrans
import Derived.Test.YtadhbnleahipaaaGreatDoorLevels
namespace Go.Proofs.YtadhbnleahipaaaGreatDoor
open Go.RowKit
/-! a statement behind a valid chain of terms -/
theorem cuE_in {r m : List UInt8} {a b : Int} (h : cuE r m a b = 0) : 0 ≤ a ∧ a ≤ b ∧ b ≤ 1000000000 := by
  rw [cuE] at h
  split at h
  · exact absurd h (by decide)
  · split at h
    · exact absurd h (by decide)
    · split at h
      · exact absurd h (by decide)
      · omega
theorem valid_e {L : List Cu} (h : checkV L = 0) {i : Nat} (hi : i < L.length) : (cuAt L i).e = 0 := one_e (checkN_one (n := L.length) h hi)
theorem valid_dates {L : List Cu} (h : checkV L = 0) {i : Nat} (hi : i < L.length) : 0 ≤ (cuAt L i).fr ∧ (cuAt L i).fr ≤ (cuAt L i).un ∧ (cuAt L i).un ≤ 1000000000 := cuE_in (valid_e h hi)
theorem valid_key {L : List Cu} (h : checkV L = 0) {i : Nat} (hi : i < L.length) : (keyV L i).2 = 0 := by
  have h1 := checkN_one (n := L.length) h hi
  rw [oneV, oneP] at h1
  by_cases hk : (keyV L i).2 = 0
  · exact hk
  · repeat (first | exact absurd h1 (by decide) | (split at h1; · first | exact absurd h1 (by decide) | (rename_i h2; exact absurd h1 h2)))
theorem valid_key_in {T : List Tm} (h : checkV (chainV T) = 0) {i : Nat} (hi : i < T.length) : 0 ≤ (tmAt T i).key ∧ (tmAt T i).key < 2 := by
  have h1 := valid_key h (i := i) (by rw [chainV_length]; exact hi)
  rw [chain_key hi (valid_e h (by rw [chainV_length]; exact hi)), keyT] at h1
  split at h1
  · assumption
  · exact absurd h1 (by decide)
theorem sign1_e {b : Cu} {k : Int} (he : b.e = 0) (hk : 0 ≤ k ∧ k < 2) : signE b 1 k = 0 := by
  have e2 : ((2 ^ (1 : Int).toNat : Nat) : Int) = 2 := by decide
  rw [signE, if_neg (by omega), treeSignE, if_neg (by decide), if_neg]
  rintro (h | h) <;> omega
theorem sign1_c {b : Cu} {k : Int} (s : List UInt8) (he : b.e = 0) (hk : 0 ≤ k ∧ k < 2) : signC b s 1 k = { b with sig := bA (treeSignL s 1 k b.d) } := by
  have := sign1_e he hk
  rw [signC, if_neg (by omega)]
theorem snoc_key {L : List Cu} {b : Cu} {k : Int} (s : List UInt8) (he : b.e = 0) (hk : 0 ≤ k ∧ k < 2) (h0 : 0 < L.length) :
    keyV (L ++ [signC b s 1 k]) L.length = if rootL s 1 = (cuAt L (L.length - 1)).root.data.toList then (k, 0) else (0, 17) := by
  rw [keyV, sgnB, cuAt_last, cuAt_app (by omega), sign1_c s he hk]
  obtain ⟨n, rfl⟩ := Int.eq_ofNat_of_zero_le hk.1
  exact verify_sign _ _ _ 1 n (by decide) (by simp; omega)
theorem snoc_one {L : List Cu} {b : Cu} {k : Int} (s : List UInt8) (h : checkV L = 0) (he : b.e = 0) (hk : 0 ≤ k ∧ k < 2) (h0 : 0 < L.length) (h1 : (cuAt L (L.length - 1)).fr < b.fr) (h2 : b.fr ≤ (cuAt L (L.length - 1)).un)
    (h3 : rootL s 1 ≠ (cuAt L (L.length - 1)).root.data.toList ∨ usedB (L ++ [signC b s 1 k]) (List.range L.length) L.length = true) : checkV (L ++ [signC b s 1 k]) = 17 := by
  rw [checkV_snoc L _ h, oneV, oneP]
  have e1 : cuAt (L ++ [signC b s 1 k]) L.length = { b with sig := bA (treeSignL s 1 k b.d) } := by rw [cuAt_last, sign1_c s he hk]
  have e2 : cuAt (L ++ [signC b s 1 k]) (L.length - 1) = cuAt L (L.length - 1) := cuAt_app (by omega)
  have e3 : (cuAt (L ++ [signC b s 1 k]) L.length).e = 0 := by rw [e1]; exact he
  have e4 : (cuAt (L ++ [signC b s 1 k]) L.length).fr = b.fr := by rw [e1]
  rw [if_neg (by omega), e4, e2, if_neg (by omega), if_neg (by omega), snoc_key s he hk h0]
  rcases h3 with h3 | h3
  · rw [if_neg h3, if_pos (by decide)]
  · rw [h3]; split <;> rfl
/-- the statement of a stranger -/
def bareX (r : ByteArray) (fr un : Int) : Cu := ⟨r, ByteArray.empty, fr, un, ByteArray.empty⟩
theorem bareX_e {r : ByteArray} {fr un : Int} (hr : r.size = 16) (h : 0 ≤ fr ∧ fr ≤ un ∧ un ≤ 1000000000) : (bareX r fr un).e = 0 := cuE_ok hr (.inl rfl) (by show ¬ (fr < 0 ∨ 1000000000 < fr ∨ un < 0 ∨ 1000000000 < un); omega) (by show ¬ un < fr; omega)
theorem chain_root16 {T : List Tm} {i : Nat} (h : i < T.length) : (cuAt (chainV T) i).root.size = 16 := by
  rw [chainV_at h, (chainC_fields _ _).1]; exact (bare_sizes _ _).1
theorem keys_stranger {T : List Tm} (s : List UInt8) (h : checkV (chainV T) = 0) (h0 : 0 < T.length) (hl : (tmAt T (T.length - 1)).fr < (tmAt T (T.length - 1)).un) (hr : rootL s 1 ≠ (cuAt (chainV T) (T.length - 1)).root.data.toList) :
    (bareX (cuAt (chainV T) 0).root ((tmAt T (T.length - 1)).fr + 1) (tmAt T (T.length - 1)).un).e = 0 ∧ checkV (chainV T ++ [signC (bareX (cuAt (chainV T) 0).root ((tmAt T (T.length - 1)).fr + 1) (tmAt T (T.length - 1)).un) s 1 0]) = 17 := by
  have hd := valid_dates h (i := T.length - 1) (by rw [chainV_length]; omega)
  have e := (chainC_fields (tmAt T (T.length - 1)) (T.length - 1)).2.2
  rw [chainV_at (show T.length - 1 < T.length by omega), e.1, e.2] at hd
  have he := bareX_e (chain_root16 (i := 0) h0) (show 0 ≤ (tmAt T (T.length - 1)).fr + 1 ∧ (tmAt T (T.length - 1)).fr + 1 ≤ (tmAt T (T.length - 1)).un ∧ (tmAt T (T.length - 1)).un ≤ 1000000000 by omega)
  have hf : (cuAt (chainV T) ((chainV T).length - 1)).fr = (tmAt T (T.length - 1)).fr ∧ (cuAt (chainV T) ((chainV T).length - 1)).un = (tmAt T (T.length - 1)).un := by
    rw [chainV_length, chainV_at (show T.length - 1 < T.length by omega)]; exact e
  refine ⟨he, snoc_one s h he ⟨by decide, by decide⟩ (by rw [chainV_length]; exact h0) ?_ ?_ (.inl (by rw [chainV_length]; exact hr))⟩
  · rw [hf.1]; show _ < (tmAt T (T.length - 1)).fr + 1; omega
  · rw [hf.2]; show (tmAt T (T.length - 1)).fr + 1 ≤ _; omega
theorem keys_e {T : List Tm} (h : checkV (chainV T) = 0) (h0 : 0 < T.length) (hl : (tmAt T (T.length - 1)).fr < (tmAt T (T.length - 1)).un) :
    (bareX (cuAt (chainV T) 0).root ((tmAt T 0).fr + 1) ((tmAt T 0).fr + 1)).e = 0 := by
  have hd := valid_dates h (i := 0) (by rw [chainV_length]; omega)
  have e := (chainC_fields (tmAt T 0) 0).2.2
  rw [chainV_at (show 0 < T.length by omega), e.1, e.2] at hd
  refine bareX_e (chain_root16 (i := 0) h0) ⟨by omega, Int.le_refl _, ?_⟩
  by_cases h1 : T.length = 1
  · rw [h1] at hl
    simp only [Nat.sub_self] at hl
    omega
  · have hd1 := valid_dates h (i := 1) (by rw [chainV_length]; omega)
    have hi := inc_of h (i := 0) (by rw [chainV_length]; omega)
    rw [chainV_at (show 0 < T.length by omega), e.1] at hi
    simp only [Nat.zero_add] at hi
    omega
theorem keys_used {T : List Tm} (h : checkV (chainV T) = 0) (h0 : 0 < T.length) (hl : (tmAt T 0).fr < (tmAt T 0).un) (he : (bareX (cuAt (chainV T) 0).root ((tmAt T 0).fr + 1) ((tmAt T 0).fr + 1)).e = 0) :
    checkV ([cuAt (chainV T) 0] ++ [signC (bareX (cuAt (chainV T) 0).root ((tmAt T 0).fr + 1) ((tmAt T 0).fr + 1)) (seedL 0) 1 (tmAt T 0).key]) = 17 := by
  have hk := valid_key_in h h0
  have e := (chainC_fields (tmAt T 0) 0).2.2
  have hc0 : cuAt (chainV T) 0 = chainC (tmAt T 0) 0 := chainV_at h0
  have h1 : checkV [cuAt (chainV T) 0] = 0 := by
    have := checkN_ok h (k := 1) (by rw [chainV_length]; omega)
    rw [← this, checkV]
    exact checkN_congr fun j hj => by
      obtain rfl : j = 0 := by simpa using hj
      rfl
  have hfr : (cuAt (chainV T) 0).fr = (tmAt T 0).fr := by rw [hc0]; exact e.1
  have hun : (cuAt (chainV T) 0).un = (tmAt T 0).un := by rw [hc0]; exact e.2
  have hk0 : keyV (chainV T) 0 = ((tmAt T 0).key, 0) := by
    rw [chain_key h0 (valid_e h (by rw [chainV_length]; exact h0)), keyT, if_pos hk]
  have hrt : rootL (seedL 0) 1 = (cuAt (chainV T) 0).root.data.toList := (chain_root (i := 0) h0).symm
  refine snoc_one _ h1 he hk (Nat.zero_lt_one) ?_ ?_ (.inr ?_)
  · show (cuAt (chainV T) 0).fr < (tmAt T 0).fr + 1; omega
  · show (tmAt T 0).fr + 1 ≤ (cuAt (chainV T) 0).un; omega
  · have hs := snoc_key (L := [cuAt (chainV T) 0]) (seedL 0) he hk (Nat.zero_lt_one)
    rw [if_pos (by exact hrt)] at hs
    show ([0].any _) = true
    simp only [List.any_cons, List.any_nil, Bool.or_false, decide_eq_true_eq]
    refine ⟨rfl, ?_⟩
    have h2 : keyV ([cuAt (chainV T) 0] ++ [signC (bareX (cuAt (chainV T) 0).root ((tmAt T 0).fr + 1) ((tmAt T 0).fr + 1)) (seedL 0) 1 (tmAt T 0).key]) 0 = keyV (chainV T) 0 := keyV_congr rfl rfl
    rw [h2, hk0]
    exact (congrArg Prod.fst hs).symm
end Go.Proofs.YtadhbnleahipaaaGreatDoor

namespace Go.Proofs.YtadhbnleahipaaaGreatDoor
open Go.RowKit
/-- the keys of the law's terms -/
def ownT (i : Nat) (t : Tm) : Tm := { t with key := if i = 1 then 1 else 0 }
def ownTs (T : List Tm) : List Tm := T.mapIdx ownT
theorem ownTs_length (T : List Tm) : (ownTs T).length = T.length := by simp [ownTs]
theorem ownTs_at {T : List Tm} {i : Nat} (h : i < T.length) : tmAt (ownTs T) i = ownT i (tmAt T i) := by
  unfold tmAt ownTs
  rw [List.getD_eq_getElem?_getD, List.getD_eq_getElem?_getD, List.getElem?_mapIdx, List.getElem?_eq_getElem h]
  rfl
theorem seed_ne {n : Nat} (h : n = 2 ∨ n = 3) : rootL (seedL ((n - 1 : Nat) : Int)) 1 ≠ rootL (seedL 0) 1 := by
  rcases h with rfl | rfl
  · exact root01
  · exact root02
theorem succ_used {T : List Tm} (h : checkV (chainV (ownTs T)) = 0) (h0 : 0 < T.length) (h3 : T.length ≤ 3) {b : Cu} (he : b.e = 0) :
    usedB (chainV (ownTs T) ++ [signC b (seedL ((T.length - 1 : Nat) : Int)) 1 1]) (List.range (chainV (ownTs T)).length) (chainV (ownTs T)).length = false := by
  have hl : (chainV (ownTs T)).length = T.length := by rw [chainV_length, ownTs_length]
  have hlo : (ownTs T).length = T.length := ownTs_length T
  have hs := snoc_key (L := chainV (ownTs T)) (k := 1) (seedL ((T.length - 1 : Nat) : Int)) he ⟨by decide, by decide⟩ (by omega)
  have hr := chain_root (T := ownTs T) (i := T.length - 1) (by omega)
  rw [if_pos (by rw [hl]; exact hr.symm)] at hs
  unfold usedB
  rw [List.any_eq_false]
  intro j hj
  rw [List.mem_range, hl] at hj
  rw [decide_eq_true_iff]
  rintro ⟨e1, e2⟩
  rw [hs] at e2
  have hk : keyV (chainV (ownTs T) ++ [signC b (seedL ((T.length - 1 : Nat) : Int)) 1 1]) j = keyT (ownT j (tmAt T j)) := by
    rw [keyV_congr (M := chainV (ownTs T)) (cuAt_app (by omega)) (cuAt_app (by omega)), chain_key (by omega) (valid_e h (by omega)), ownTs_at hj]
  rw [hk] at e2
  have hj1 : j = 1 := by
    by_cases hj1 : j = 1
    · exact hj1
    · exfalso
      rw [ownT, if_neg hj1] at e2
      exact absurd e2 (by simp [keyT])
  subst hj1
  have a1 : sgnB (chainV (ownTs T) ++ [signC b (seedL ((T.length - 1 : Nat) : Int)) 1 1]) 1 = (cuAt (chainV (ownTs T)) 0).root := by
    unfold sgnB; rw [cuAt_app (by omega)]
  have a2 : sgnB (chainV (ownTs T) ++ [signC b (seedL ((T.length - 1 : Nat) : Int)) 1 1]) (chainV (ownTs T)).length = (cuAt (chainV (ownTs T)) (T.length - 1)).root := by
    unfold sgnB; rw [cuAt_app (by omega), hl]
  rw [a1, a2, hr, chain_root (T := ownTs T) (i := 0) (by omega)] at e1
  exact seed_ne (n := T.length) (by omega) e1.symm
theorem succ_check {T : List Tm} (h : checkV (chainV (ownTs T)) = 0) (h0 : 0 < T.length) (h3 : T.length ≤ 3) {b : Cu} (he : b.e = 0) :
    checkV (chainV (ownTs T) ++ [signC b (seedL ((T.length - 1 : Nat) : Int)) 1 1]) = if b.fr ≤ (tmAt T (T.length - 1)).fr then 14 else if (tmAt T (T.length - 1)).un < b.fr then 18 else 0 := by
  have hl : (chainV (ownTs T)).length = T.length := by rw [chainV_length, ownTs_length]
  have hlo : (ownTs T).length = T.length := ownTs_length T
  rw [checkV_snoc _ _ h, oneV, oneP]
  have e1 : cuAt (chainV (ownTs T) ++ [signC b (seedL ((T.length - 1 : Nat) : Int)) 1 1]) (chainV (ownTs T)).length = { b with sig := bA (treeSignL (seedL ((T.length - 1 : Nat) : Int)) 1 1 b.d) } := by rw [cuAt_last, sign1_c _ he ⟨by decide, by decide⟩]
  have e2 : cuAt (chainV (ownTs T) ++ [signC b (seedL ((T.length - 1 : Nat) : Int)) 1 1]) ((chainV (ownTs T)).length - 1) = cuAt (chainV (ownTs T)) (T.length - 1) := by rw [cuAt_app (by omega), hl]
  have e3 : (cuAt (chainV (ownTs T) ++ [signC b (seedL ((T.length - 1 : Nat) : Int)) 1 1]) (chainV (ownTs T)).length).e = 0 := by rw [e1]; exact he
  have e4 : (cuAt (chainV (ownTs T) ++ [signC b (seedL ((T.length - 1 : Nat) : Int)) 1 1]) (chainV (ownTs T)).length).fr = b.fr := by rw [e1]
  have hf := (chainC_fields (tmAt (ownTs T) (T.length - 1)) (T.length - 1)).2.2
  have e5 : (cuAt (chainV (ownTs T)) (T.length - 1)).fr = (tmAt T (T.length - 1)).fr ∧ (cuAt (chainV (ownTs T)) (T.length - 1)).un = (tmAt T (T.length - 1)).un := by
    rw [chainV_at (show T.length - 1 < (ownTs T).length by omega), ownTs_at (show T.length - 1 < T.length by omega)] 
    rw [ownTs_at (show T.length - 1 < T.length by omega)] at hf
    exact hf
  have hr := chain_root (T := ownTs T) (i := T.length - 1) (by omega)
  have hk := snoc_key (L := chainV (ownTs T)) (k := 1) (seedL ((T.length - 1 : Nat) : Int)) he ⟨by decide, by decide⟩ (by omega)
  rw [if_pos (by rw [hl]; exact hr.symm)] at hk
  rw [if_neg (by omega), e4, e2, e5.1, e5.2, hk, succ_used h h0 h3 he]
  by_cases c1 : b.fr ≤ (tmAt T (T.length - 1)).fr
  · rw [if_pos c1, if_pos ⟨by omega, c1⟩]
  · rw [if_neg c1, if_neg (by omega)]
    by_cases c2 : (tmAt T (T.length - 1)).un < b.fr
    · rw [if_pos c2, if_pos ⟨by omega, c2⟩]
    · rw [if_neg c2, if_neg (by omega)]
      rfl
end Go.Proofs.YtadhbnleahipaaaGreatDoor

namespace Go.Proofs.YtadhbnleahipaaaGreatDoor
open Go.RowKit
theorem owns_set {w : World} {base : Nat} {e : TypeId} {size g n cap : Nat} {xs : List Value} (h : w.ownsRow base e size (.slice (some ⟨g, 0, none⟩) n cap) n xs) (j : Nat) (u : Value) :
    (w.setCell ⟨g, j, none⟩ u).ownsRow base e size (.slice (some ⟨g, 0, none⟩) n cap) n (xs.set j u) := by
  refine ⟨by rw [List.length_set]; exact h.1, ?_⟩
  rcases h.2 with ⟨hv, _⟩ | ⟨g', cap', cur, hv, hb, hh, h1, h2, h3, h4⟩
  · cases hv
  · cases hv
    refine .inr ⟨g, cap, cur.setIfInBounds j u, rfl, hb, setCell_block u hh, h1, h2, by rw [Array.size_setIfInBounds]; exact h3, ?_⟩
    rw [Array.toList_setIfInBounds, List.take_set, h4]
def keyed (t : Tm) (x : Int) : Tm := { t with key := x }
theorem flat_key : ∀ (L : List Tm) (k : Nat) (x : Int), k < L.length → (L.flatMap Tm.vals).set (k * 4 + 3) (.int .i64 x) = (L.set k (keyed (tmAt L k) x)).flatMap Tm.vals
  | [], k, x, h => absurd h (Nat.not_lt_zero _)
  | t :: L, 0, x, _ => rfl
  | t :: L, k + 1, x, h => by
    have ih := flat_key L k x (by simpa using h)
    rw [List.set_cons_succ, List.flatMap_cons, List.flatMap_cons, show (k + 1) * 4 + 3 = t.vals.length + (k * 4 + 3) from by show _ = 4 + _; omega, List.set_append_right _ _ (Nat.le_add_right _ _), Nat.add_sub_cancel_left, ih]
    rfl
def ownK (T : List Tm) : Nat → List Tm
  | 0 => T
  | k + 1 => (ownK T k).set k (keyed (tmAt (ownK T k) k) (if k = 1 then 1 else 0))
theorem ownK_length (T : List Tm) : ∀ k, (ownK T k).length = T.length
  | 0 => rfl
  | k + 1 => by rw [ownK, List.length_set, ownK_length T k]
theorem tmAt_set {L : List Tm} {k i : Nat} {t : Tm} (h : k < L.length) : tmAt (L.set k t) i = if i = k then t else tmAt L i := by
  unfold tmAt
  rw [List.getD_eq_getElem?_getD, List.getD_eq_getElem?_getD, List.getElem?_set]
  by_cases e : k = i
  · subst e; rw [if_pos rfl, if_pos h, if_pos rfl]; rfl
  · rw [if_neg e, if_neg (Ne.symm e)]
theorem ownK_at (T : List Tm) : ∀ k, k ≤ T.length → ∀ i, tmAt (ownK T k) i = if i < k then ownT i (tmAt T i) else tmAt T i
  | 0, _, i => by rw [if_neg (Nat.not_lt_zero _)]; rfl
  | k + 1, h, i => by
    rw [ownK, tmAt_set (by rw [ownK_length]; omega), ownK_at T k (by omega), ownK_at T k (by omega), if_neg (Nat.lt_irrefl _)]
    by_cases e : i = k
    · subst e; rw [if_pos rfl, if_pos (Nat.lt_succ_self i)]; rfl
    · rw [if_neg e]
      by_cases h2 : i < k
      · rw [if_pos h2, if_pos (by omega)]
      · rw [if_neg h2, if_neg (by omega)]
theorem ownK_all (T : List Tm) : ownK T T.length = ownTs T := by
  refine List.ext_getElem (by rw [ownK_length, ownTs_length]) fun i h1 h2 => ?_
  rw [ownK_length] at h1
  have e1 : tmAt (ownK T T.length) i = (ownK T T.length)[i] := by unfold tmAt; rw [List.getD_eq_getElem?_getD, List.getElem?_eq_getElem]; rfl
  have e2 : tmAt (ownTs T) i = (ownTs T)[i] := by unfold tmAt; rw [List.getD_eq_getElem?_getD, List.getElem?_eq_getElem]; rfl
  rw [← e1, ← e2, ownK_at T T.length (Nat.le_refl _), if_pos h1, ownTs_at h1]
theorem ownT_ok {t : Tm} (h : TmOk t) (i : Nat) : TmOk (ownT i t) := ⟨h.fr, h.un, by unfold ownT; dsimp only; split <;> decide⟩
theorem ownTs_ok {T : List Tm} (h : ∀ i, TmOk (tmAt T i)) (i : Nat) : TmOk (tmAt (ownTs T) i) := by
  by_cases hi : i < T.length
  · rw [ownTs_at hi]; exact ownT_ok (h i) i
  · have : tmAt (ownTs T) i = tm0 := by unfold tmAt; rw [List.getD_eq_getElem?_getD, List.getElem?_eq_none (by rw [ownTs_length]; omega)]; rfl
    rw [this]; exact ⟨by decide, by decide, by decide⟩
/-- an append whose guard is met -/
theorem step_append_gd {P : Program} {w : World} {ops : Array Oper} {o : Oper} {a : Act} {K : Act → World → Prop} {Q : Exit → Act → World → Prop} {E : Prop} (hw : Region.wanted o (yielded ops a.tmps) = true) (s x : Operand) (t : TypeId)
    (ho : o.op = .call { callee := .builtin .append, args := #[s, x], argTypes := #[t, t] })
    (base : Nat) (e : TypeId) (i : TypeInfo) (z : Value) (size bytes : Nat) (ht : P.underlying t = some (.slice e)) (hi : P.info? e = some i) (hz : i.zero = some z)
    (hsize : i.size = size) (hby : i.bytes = bytes) (hzs : z.cells.size = size) (hsz : 0 < size)
    (v : Value) (n : Nat) (xs : List Value) (hs : a.eval s = v) (hown : w.ownsRow base e size v n xs)
    (ad : Addr) (m c : Nat) (news : List Value) (hx : a.eval x = .slice (some ad) m c) (hl : news.length = m * size) (hnews : ∀ j u, news[j]? = some u → w.cell? (ad.add j) = some u) (h1 : ∀ u ∈ news, u.oneCell' = true)
    (h63 : n + m ≤ maxLen) (hbytes : (n + m) * bytes ≤ 140737488355328) (hbase : base ≤ w.heap.size)
    (h : ∀ v' w', w'.ownsRow base e size v' (n + m) (xs ++ news) → w.grownBy w' v.ownBlock → (v' = .slice none 0 0 ↔ v = .slice none 0 0 ∧ m = 0) → K (a.put o.dst v') w') :
    if Region.wanted o (yielded ops a.tmps) = true then Oper.wp P o a w K Q else E := by
  rw [if_pos hw]
  exact wp_append_own w s x t ho base e i z size bytes ht hi hz hsize hby hzs hsz v n xs hs hown ad m c news hx hl hnews h1 h63 hbytes hbase h
end Go.Proofs.YtadhbnleahipaaaGreatDoor
