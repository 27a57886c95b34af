/-
  Chapter 47: what signs a chain of terms; a chain moved by some days. Plain functions, no program in sight.
-/
import Derived.Test.YtadhbnleahipaaaGreatDoorChainDef
namespace Go.Proofs.YtadhbnleahipaaaGreatDoor
open Go.RowKit
/-! what signs a chain of terms -/
theorem bare_sizes (t : Tm) (i : Nat) : (bareC t i).root.size = 16 ∧ ((bareC t i).media.size = 0 ∨ (bareC t i).media.size = 32) := by
  constructor
  · show (bA _).size = 16
    rw [bA_size, show (1 : Int) = ((1 : Nat) : Int) from rfl, rootL_at _ 1 (by decide)]
    exact tree_len _ 1 1 0 (by decide) (by decide)
  · show (if t.media then bA (sumB (seedL i)) else ByteArray.empty).size = 0 ∨ (if t.media then bA (sumB (seedL i)) else ByteArray.empty).size = 32
    split
    · exact .inr (by rw [bA_size, sumB_length])
    · exact .inl rfl
theorem chainC_fields (t : Tm) (i : Nat) : (chainC t i).root = (bareC t i).root ∧ (chainC t i).media = (bareC t i).media ∧ (chainC t i).fr = t.fr ∧ (chainC t i).un = t.un := by
  rw [chainC]
  split
  · rename_i he
    rw [signC, if_neg (by omega)]
    exact ⟨rfl, rfl, rfl, rfl⟩
  · exact ⟨rfl, rfl, rfl, rfl⟩
theorem chainC_e (t : Tm) (i : Nat) : (chainC t i).e = (bareC t i).e := by
  obtain ⟨h1, h2, h3, h4⟩ := chainC_fields t i
  rw [Cu.e, h1, h2, h3, h4]; rfl
theorem chainC_d (t : Tm) (i : Nat) : (chainC t i).d = (bareC t i).d := by
  obtain ⟨h1, h2, h3, h4⟩ := chainC_fields t i
  rw [Cu.d, h1, h2, h3, h4]; rfl
theorem chain_root {T : List Tm} {i : Nat} (h : i < T.length) : (cuAt (chainV T) i).root.data.toList = rootL (seedL i) 1 := by
  rw [chainV_at h, (chainC_fields _ _).1]; rfl
theorem verifyL_empty (r m : List UInt8) : verifyL r m [] = (0, 17) := by
  refine verifyL_none ?_
  have h1 : rdNum [] 0 = (0, 0, 4) := by
    have h := rdNum_short (l := []) (a := 0) (Nat.le_refl _) (by decide)
    exact h
  rw [parseL, h1, if_pos (by simp)]
def keyT (t : Tm) : Int × Int := if 0 ≤ t.key ∧ t.key < 2 then (t.key, 0) else (0, 17)
theorem chain_key {T : List Tm} {i : Nat} (h : i < T.length) (he : (cuAt (chainV T) i).e = 0) : keyV (chainV T) i = keyT (tmAt T i) := by
  have hs : (sgnB (chainV T) i).data.toList = rootL (seedL (byC i)) 1 := by rw [sgnB]; exact chain_root (by omega)
  rw [keyV, hs, chainV_at h, chainC_d]
  rw [chainV_at h, chainC_e] at he
  rw [keyT]
  by_cases hk : 0 ≤ (tmAt T i).key ∧ (tmAt T i).key < 2
  · rw [if_pos hk]
    obtain ⟨k, hkk⟩ := Int.eq_ofNat_of_zero_le hk.1
    have h2 : treeSignE 1 (tmAt T i).key = 0 := by
      rw [treeSignE, if_neg (by decide), if_neg]
      rintro (h | h)
      · omega
      · have e2 : ((2 ^ (1 : Int).toNat : Nat) : Int) = 2 := by decide
        omega
    have hse : signE (bareC (tmAt T i) i) 1 (tmAt T i).key = 0 := by rw [signE, if_neg (by omega), h2]
    rw [chainC, if_pos hse, signC, if_neg (by omega)]
    show verifyL _ _ (treeSignL (seedL (byC i)) 1 (tmAt T i).key (bareC (tmAt T i) i).d) = _
    rw [hkk, show (1 : Int) = ((1 : Nat) : Int) from rfl, verify_sign _ _ _ 1 k (by decide) (by rw [hkk] at hk; simp; omega), if_pos rfl]
  · rw [if_neg hk]
    have h2 : treeSignE 1 (tmAt T i).key ≠ 0 := by
      rw [treeSignE, if_neg (by decide), if_pos]
      · decide
      · have e2 : ((2 ^ (1 : Int).toNat : Nat) : Int) = 2 := by decide
        omega
    have hse : signE (bareC (tmAt T i) i) 1 (tmAt T i).key ≠ 0 := by rw [signE, if_neg (by omega)]; exact h2
    rw [chainC, if_neg hse]
    exact verifyL_empty _ _
/-! a chain moved by some days -/
def shiftT (b : Int) (t : Tm) : Tm := { t with fr := t.fr + b, un := t.un + b }
def movedT (b : Int) (T : List Tm) : List Tm := T.map (shiftT b)
theorem movedT_length (b : Int) (T : List Tm) : (movedT b T).length = T.length := by simp [movedT]
theorem movedT_at {b : Int} {T : List Tm} {i : Nat} (h : i < T.length) : tmAt (movedT b T) i = shiftT b (tmAt T i) := by
  rw [tmAt, tmAt, List.getD_eq_getElem?_getD, List.getD_eq_getElem?_getD, List.getElem?_eq_getElem (by rw [movedT_length]; exact h), List.getElem?_eq_getElem h]
  simp [movedT]
def TmIn (t : Tm) : Prop := 0 ≤ t.fr ∧ t.fr ≤ 999930000 ∧ 0 ≤ t.un ∧ t.un ≤ 999930000
theorem bare_e {t : Tm} (i : Nat) (h : 0 ≤ t.fr ∧ t.fr ≤ 1000000000 ∧ 0 ≤ t.un ∧ t.un ≤ 1000000000) : (bareC t i).e = if t.un < t.fr then 14 else 0 := by
  obtain ⟨h1, h2⟩ := bare_sizes t i
  by_cases ho : t.un < t.fr
  · rw [if_pos ho]; exact cuE_order h1 h2 (by show ¬ (t.fr < 0 ∨ 1000000000 < t.fr ∨ t.un < 0 ∨ 1000000000 < t.un); omega) ho
  · rw [if_neg ho]; exact cuE_ok h1 h2 (by show ¬ (t.fr < 0 ∨ 1000000000 < t.fr ∨ t.un < 0 ∨ 1000000000 < t.un); omega) ho
theorem moved_e {b : Int} (hb : 0 ≤ b ∧ b ≤ 65535) {T : List Tm} (hT : ∀ i, i < T.length → TmIn (tmAt T i)) {i : Nat} (h : i < T.length) : (cuAt (chainV (movedT b T)) i).e = (cuAt (chainV T) i).e := by
  obtain ⟨h1, h2, h3, h4⟩ := hT i h
  rw [chainV_at h, chainV_at (by rw [movedT_length]; exact h), chainC_e, chainC_e, movedT_at h, bare_e i (by show 0 ≤ (tmAt T i).fr + b ∧ (tmAt T i).fr + b ≤ 1000000000 ∧ 0 ≤ (tmAt T i).un + b ∧ (tmAt T i).un + b ≤ 1000000000; omega), bare_e i (by omega)]
  show (if (tmAt T i).un + b < (tmAt T i).fr + b then (14 : Int) else 0) = _
  by_cases ho : (tmAt T i).un < (tmAt T i).fr
  · rw [if_pos ho, if_pos (by omega)]
  · rw [if_neg ho, if_neg (by omega)]
theorem moved_dates {b : Int} {T : List Tm} {i : Nat} (h : i < T.length) : (cuAt (chainV (movedT b T)) i).fr = (cuAt (chainV T) i).fr + b ∧ (cuAt (chainV (movedT b T)) i).un = (cuAt (chainV T) i).un + b := by
  rw [chainV_at h, chainV_at (by rw [movedT_length]; exact h), (chainC_fields _ _).2.2.1, (chainC_fields _ _).2.2.2, (chainC_fields _ _).2.2.1, (chainC_fields _ _).2.2.2, movedT_at h]
  exact ⟨rfl, rfl⟩
theorem moved_sgn {b : Int} {T : List Tm} {i : Nat} (h : i < T.length) : (sgnB (chainV (movedT b T)) i).data.toList = (sgnB (chainV T) i).data.toList := by
  rw [sgnB, sgnB, chain_root (by rw [movedT_length]; omega), chain_root (by omega)]
theorem moved_key {b : Int} (hb : 0 ≤ b ∧ b ≤ 65535) {T : List Tm} (hT : ∀ i, i < T.length → TmIn (tmAt T i)) {i : Nat} (h : i < T.length) (he : (cuAt (chainV T) i).e = 0) : keyV (chainV (movedT b T)) i = keyV (chainV T) i := by
  rw [chain_key h he, chain_key (by rw [movedT_length]; exact h) (by rw [moved_e hb hT h]; exact he), movedT_at h]; rfl
theorem one_e {L : List Cu} {p : List Nat} {i : Nat} (h : oneP L p i = 0) : (cuAt L i).e = 0 := by
  rw [oneP] at h
  by_cases he : (cuAt L i).e ≠ 0
  · rw [if_pos he] at h; exact h
  · omega
theorem moved_one {b : Int} (hb : 0 ≤ b ∧ b ≤ 65535) {T : List Tm} (hT : ∀ i, i < T.length → TmIn (tmAt T i)) {i : Nat} (h : i < T.length) (hj : ∀ j, j < i → (cuAt (chainV T) j).e = 0) : oneV (chainV (movedT b T)) i = oneV (chainV T) i := by
  obtain ⟨d1, d2⟩ := moved_dates (b := b) h
  obtain ⟨d3, d4⟩ := moved_dates (b := b) (show i - 1 < T.length by omega)
  rw [oneV, oneV, oneP, oneP, moved_e hb hT h, d1, d3, d4]
  by_cases he : (cuAt (chainV T) i).e ≠ 0
  · rw [if_pos he, if_pos he]
  · rw [if_neg he, if_neg he]
    have hu : usedB (chainV (movedT b T)) (List.range i) i = usedB (chainV T) (List.range i) i := by
      rw [usedB, usedB]
      have : ∀ j ∈ List.range i, (decide ((sgnB (chainV (movedT b T)) j).data.toList = (sgnB (chainV (movedT b T)) i).data.toList ∧ (keyV (chainV (movedT b T)) j).1 = (keyV (chainV (movedT b T)) i).1)) = (decide ((sgnB (chainV T) j).data.toList = (sgnB (chainV T) i).data.toList ∧ (keyV (chainV T) j).1 = (keyV (chainV T) i).1)) := fun j hjm => by
        have hji := List.mem_range.1 hjm
        rw [moved_sgn h, moved_sgn (show j < T.length by omega), moved_key hb hT h (by omega), moved_key hb hT (show j < T.length by omega) (hj j hji)]
      rw [Bool.eq_iff_iff, List.any_eq_true, List.any_eq_true]
      exact ⟨fun ⟨j, hj, e⟩ => ⟨j, hj, by rw [← this j hj]; exact e⟩, fun ⟨j, hj, e⟩ => ⟨j, hj, by rw [this j hj]; exact e⟩⟩
    rw [hu, moved_key hb hT h (by omega)]
    have e1 : (0 < i ∧ (cuAt (chainV T) i).fr + b ≤ (cuAt (chainV T) (i - 1)).fr + b) ↔ (0 < i ∧ (cuAt (chainV T) i).fr ≤ (cuAt (chainV T) (i - 1)).fr) := by omega
    have e2 : (0 < i ∧ (cuAt (chainV T) (i - 1)).un + b < (cuAt (chainV T) i).fr + b) ↔ (0 < i ∧ (cuAt (chainV T) (i - 1)).un < (cuAt (chainV T) i).fr) := by omega
    simp only [e1, e2]
theorem moved_check {b : Int} (hb : 0 ≤ b ∧ b ≤ 65535) {T : List Tm} (hT : ∀ i, i < T.length → TmIn (tmAt T i)) : ∀ n, n ≤ T.length → checkN (chainV (movedT b T)) n = checkN (chainV T) n
  | 0, _ => rfl
  | n + 1, h => by
    have ih := moved_check hb hT n (by omega)
    rw [checkN, checkN, ih]
    by_cases hz : checkN (chainV T) n = 0
    · rw [if_neg (by omega), if_neg (by omega)]
      exact moved_one hb hT (by omega) fun j hj => one_e (checkN_one hz hj)
    · rw [if_pos hz, if_pos hz]
theorem moved_kp {b date : Int} {T : List Tm} : ∀ n, n ≤ T.length → kpV (chainV (movedT b T)) (date + b) n = kpV (chainV T) date n
  | 0, _ => rfl
  | n + 1, h => by
    obtain ⟨d1, d2⟩ := moved_dates (b := b) (show n < T.length by omega)
    rw [kpV, kpV, d1, d2, moved_kp n (by omega)]
    have e1 : ((cuAt (chainV T) n).fr + b ≤ date + b) ↔ ((cuAt (chainV T) n).fr ≤ date) := by omega
    have e2 : ((cuAt (chainV T) n).un + b < date + b) ↔ ((cuAt (chainV T) n).un < date) := by omega
    simp only [e1, e2]
theorem moved_checkV {b : Int} (hb : 0 ≤ b ∧ b ≤ 65535) {T : List Tm} (hT : ∀ i, i < T.length → TmIn (tmAt T i)) : checkV (chainV (movedT b T)) = checkV (chainV T) := by
  rw [checkV, checkV, chainV_length, chainV_length, movedT_length]; exact moved_check hb hT _ (Nat.le_refl _)
theorem moved_keepV {b date : Int} (hb : 0 ≤ b ∧ b ≤ 65535) {T : List Tm} (hT : ∀ i, i < T.length → TmIn (tmAt T i)) : keepV (chainV (movedT b T)) (date + b) = keepV (chainV T) date := by
  rw [keepV, keepV, moved_checkV hb hT, chainV_length, chainV_length, movedT_length, moved_kp _ (Nat.le_refl _)]
end Go.Proofs.YtadhbnleahipaaaGreatDoor
