/-
  What is decoded is within bounds: plain.
-/
import Derived.Test.YtpkapcijgldhhaaGreatDoorDecP
namespace Go.Proofs.YtpkapcijgldhhaaGreatDoor
open Go.RowKit Go.Shelf

theorem flat_le {α : Type} {f : α → List UInt8} {x : α} : ∀ {A : List α}, x ∈ A → (f x).length ≤ (A.flatMap f).length
  | y :: A, h => by
    rw [List.flatMap_cons, List.length_append]
    rcases List.mem_cons.1 h with rfl | h
    · omega
    · have := flat_le (f := f) h; omega
theorem strL_ge (u : List UInt8) : u.length ≤ (strL u).length := by rw [strL_length]; omega
theorem strL_ge' (b : ByteArray) : b.size ≤ (strL b.data.toList).length := strL_ge b.data.toList
theorem getD_ok {α : Type} {P : α → Prop} {A : List α} {d : α} (h : ∀ x ∈ A, P x) (hd : P d) (i : Nat) : P (A.getD i d) := by
  rw [List.getD_eq_getElem?_getD]
  by_cases hi : i < A.length
  · rw [List.getElem?_eq_getElem hi]; exact h _ (List.getElem_mem hi)
  · rw [List.getElem?_eq_none (by omega)]; exact hd
theorem hd_small {l : List UInt8} {y : Hd} (h : headR l = .ok y) (hl : l.length ≤ 1000000) : (1 ≤ y.kind ∧ y.kind ≤ 6) ∧ y.path.size ≤ 1000000 ∧ (y.attrs.length ≤ 400 ∧ ∀ x ∈ y.attrs, AtOk x) ∧ y.target.size ≤ 1000000 := by
  obtain ⟨h1, h2, h3⟩ := headR_ok.1 h
  have hs := congrArg List.length h3
  unfold hdL at hs
  simp only [List.length_append] at hs
  have p1 := strL_ge' y.path
  have p2 := strL_ge' y.target
  refine ⟨h1, by omega, ⟨h2, fun x hx => ?_⟩, by omega⟩
  have f := flat_le (f := atL) hx
  have f2 : (atL x).length = (strL x.key.data.toList).length + (strL x.value.data.toList).length := by unfold atL; rw [List.length_append]
  have p3 := strL_ge' x.key
  have p4 := strL_ge' x.value
  exact ⟨by omega, by omega⟩
theorem at0_ok : AtOk at0 := ⟨Nat.zero_le _, Nat.zero_le _⟩
theorem ex0_ok : ExOk ex0 := by unfold ex0; constructor <;> decide
theorem exIn_ok {x : Ex} (h : ExIn x) : ExOk x := by
  obtain ⟨h1, h2, h3⟩ := h
  exact ⟨by omega, by omega, by omega⟩
theorem dec_small {l h g : List UInt8} {y : Hd} {b1 b2 b3 b4 z f e0 : Int} {M : Nat} {X : List Ex} (hh : headR h = .ok y) (hl : h.length ≤ 1000000) (hz : nmb l b1 = .ok (z, b2)) (hg : g.length ≤ 1000000)
    (hc : cnt 65536 l b3 = .ok (e0, b4)) (hM : M ≤ 65536) (hX : rowR (exR l) b4 M = .ok (X, f)) : EnOk (enOf y z g X) := by
  obtain ⟨k1, k2, ⟨k3, k4⟩, k5⟩ := hd_small hh hl
  have hb := ((cnt_ok (by decide)).1 hc).2.nonneg
  obtain ⟨r1, r2, _⟩ := (rowR_ok (l := l) (fun a b x => exR_ok) (a := b4) (by omega) M X f).1 hX
  have hz' := (nmb_ok.1 hz).1
  exact ⟨by show -9223372036854775808 ≤ y.kind ∧ y.kind ≤ 9223372036854775807; omega, k2, ⟨by show y.attrs.length ≤ 1000000; omega, fun i => getD_ok k4 at0_ok i⟩, k5, by show -9223372036854775808 ≤ z ∧ z ≤ 9223372036854775807; omega,
    by show (bA' g).size ≤ 1000000; exact hg, ⟨by show X.length ≤ 1000000; omega, fun i => getD_ok (fun x hx => exIn_ok (r2 x hx)) ex0_ok i⟩⟩
end Go.Proofs.YtpkapcijgldhhaaGreatDoor
