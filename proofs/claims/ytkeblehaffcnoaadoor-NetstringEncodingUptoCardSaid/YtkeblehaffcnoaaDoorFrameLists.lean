/-
  A slice of strings among the arguments: what it reads as, and how much that is.
-/
import Derived.Test.YtkeblehaffcnoaaDoorFrame
import Derived.Test.YtkeblehaffcnoaaDoorNetLists
namespace Go.Proofs.YtkeblehaffcnoaaDoor
open Go.ChangeShapes Go.WideShapes Go.ChangeAt Go.RowKit

theorem laidOut : laidOutB Tryd.prog = true := by kernel_rfl
theorem bulk_strs {H : Type} (l : List ByteArray) : totS l ≤ 10 * Rows.uptoBulkAll (strs (H := H) l) := by
  induction l with
  | nil => simp [totS, strs, Rows.uptoBulkAll]
  | cons s l ih =>
    have e : totS (s :: l) = (10 + s.size) + totS l := by simp [totS]
    have e2 : strs (H := H) (s :: l) = .lit (.string s.data.toList) :: strs l := rfl
    rw [e, e2, Rows.uptoBulkAll, Rows.uptoBulk, toList_size]
    omega

set_option maxRecDepth 100000 in
theorem strs_of {H : Type} {enc : TypeId × Value → H} {W : World} {v : Value} {d : DataW H} {p : List MemPlace} {base0 : Nat} {r : Reach}
    (hval : Value.okWide Tryd.prog W r base0 36 v) (h : DataW.Trod enc Tryd.prog W 0 (fun _ => true) true 36 v d p) :
    ∃ l : List ByteArray, Strs W v l ∧ totS l ≤ 10 * Rows.uptoBulk d := by
  obtain ⟨a0, len, cap, rfl⟩ := okWide_slice Tryd.underlying36 hval
  obtain ⟨fuel, hf⟩ := h
  rcases open_strings Tryd.underlying36 Tryd.underlying9 cellsStr hf with ⟨hcs, hx⟩ | ⟨a, len', cap', ss, hcs, _, hl, hm, hz, hx, hcell, hsz⟩
  · have hcs' : Value.slice a0 len cap = Value.slice none 0 0 := by simpa [Value.cells] using hcs
    rw [hcs']
    exact ⟨[], Row.nil W, by simp [totS]⟩
  · have hcs' : Value.slice a0 len cap = Value.slice (some a) len' cap' := by simpa [Value.cells] using hcs
    simp only [if_true] at hz
    simp only [Prod.mk.injEq] at hx
    refine ⟨ss.take len', ?_, ?_⟩
    · rw [hcs']
      have hlen : ((ss.take len').map Value.string).length = len' := by simp; omega
      refine ⟨some a, cap', by rw [hlen], by rw [hlen]; exact hl, hm, ?_⟩
      by_cases h0 : len' = 0
      · subst h0
        exact .inl ⟨by simp, fun e => by cases e⟩
      · right
        have hsp : a.spot = none := by
          have := hcell 0 (by omega)
          unfold World.cell? at this
          split at this
          · split at this
            · cases this
            · rename_i hs
              cases hsp : a.spot with
              | none => rfl
              | some x =>
                exfalso; apply hs
                unfold Addr.add
                simp [hsp]
          · cases this
        obtain ⟨b, o, sp⟩ := a
        simp only at hsp
        subst hsp
        refine ⟨b, o, rfl, fun i u hu => ?_⟩
        rw [List.getElem?_map, List.getElem?_take] at hu
        split at hu
        · rename_i hi
          have h1 := hcell i (by omega)
          have hadd : (⟨b, o, none⟩ : Addr).add i = ⟨b, o + i, none⟩ := by unfold Addr.add; split <;> simp_all
          rw [hadd] at h1
          rw [h1]
          rw [List.getD_eq_getElem?_getD]
          cases hs : ss[i]? with
          | none => rw [hs] at hu; cases hu
          | some x => rw [hs] at hu; simpa using hu
        · cases hu
    · rw [hx.1]
      have := bulk_strs (H := H) (ss.take len')
      simp only [Rows.uptoBulk]
      omega
end Go.Proofs.YtkeblehaffcnoaaDoor
