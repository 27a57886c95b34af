/-
  Entries: what the laws need besides: errors are not zero, bounds of encodings and of what is decoded. Plain.
-/
import Derived.Test.YtpkapcijgldhhaaGreatDoorDecK
import Derived.Test.YtpkapcijgldhhaaGreatDoorMc
namespace Go.Proofs.YtpkapcijgldhhaaGreatDoor
open Go.RowKit Go.Shelf

def NZ {α : Type} (r : Except Int α) : Prop := ∀ x, r = .error x → x ≠ 0
theorem NZ.ok {α : Type} (a : α) : NZ (.ok a : Except Int α) := fun x h => by cases h
theorem NZ.err {α : Type} {x : Int} (h : x ≠ 0) : NZ (.error x : Except Int α) := fun y e => by cases e; exact h
theorem nz_txt (l : List UInt8) (a : Int) : NZ (txt l a) := by
  unfold txt
  split
  · exact NZ.ok _
  · exact NZ.err ‹_›
theorem nz_nmb (l : List UInt8) (a : Int) : NZ (nmb l a) := by
  unfold nmb
  split
  · exact NZ.ok _
  · exact NZ.err ‹_›
theorem nz_bind {α β : Type} {r : Except Int α} {f : α → Except Int β} (h : NZ r) (k : ∀ a, NZ (f a)) : NZ (r >>= f) := by
  cases r with
  | error x => exact NZ.err (h x rfl)
  | ok a => exact k a
theorem nz_ite {α : Type} {p : Prop} [Decidable p] {a b : Except Int α} (h : NZ a) (k : NZ b) : NZ (if p then a else b) := by split <;> assumption
theorem nz_cnt (m : Int) (l : List UInt8) (a : Int) : NZ (cnt m l a) := nz_bind (nz_nmb l a) fun _ => nz_ite (NZ.err (by decide)) (NZ.ok _)
theorem nz_atR (l : List UInt8) (a : Int) : NZ (atR l a) := nz_bind (nz_txt l a) fun _ => nz_bind (nz_txt l _) fun _ => NZ.ok _
theorem nz_exR (l : List UInt8) (a : Int) : NZ (exR l a) := nz_bind (nz_nmb l a) fun _ => nz_bind (nz_nmb l _) fun _ => nz_bind (nz_nmb l _) fun _ => NZ.ok _
theorem nz_rowR {α : Type} {f : Int → Except Int (α × Int)} (h : ∀ a, NZ (f a)) (a : Int) : ∀ k, NZ (rowR f a k)
  | 0 => NZ.ok _
  | k + 1 => nz_bind (nz_rowR h a k) fun _ => nz_bind (h _) fun _ => NZ.ok _
theorem nz_headR (l : List UInt8) : NZ (headR l) :=
  nz_bind (nz_txt l 0) fun _ => nz_ite (NZ.err (by decide)) (nz_bind (nz_txt l _) fun _ => nz_bind (nz_cnt 400 l _) fun _ => nz_bind (nz_rowR (nz_atR l) _ _) fun _ => nz_bind (nz_txt l _) fun _ => nz_ite (NZ.ok _) (NZ.err (by decide)))
theorem nz_decR (l : List UInt8) (a : Int) : NZ (decR l a) :=
  nz_bind (nz_txt l a) fun _ => nz_bind (nz_headR _) fun _ => nz_bind (nz_nmb l _) fun _ => nz_bind (nz_txt l _) fun _ => nz_bind (nz_cnt 65536 l _) fun _ => nz_bind (nz_rowR (nz_exR l) _ _) fun _ => by
    dsimp only
    split
    · exact NZ.ok _
    · exact NZ.err ‹_›
theorem nz_decA (s : ByteArray) (a : Int) : NZ (decA s a) := nz_ite (NZ.err (by decide)) (nz_decR _ _)
/-- what is decoded is within bounds -/
theorem enOk_body {e : En} (hc : chkE e = 0) (hl : (bodyL e).length ≤ 1000000) : EnOk e := by
  obtain ⟨k1, k2⟩ := chkE_kind hc
  obtain ⟨x1, x2, x3⟩ := chkE_exts hc
  have h1 := attrsE_len (chkE_rest hc).2.1
  unfold bodyL at hl
  simp only [List.length_append] at hl
  have p0 := strL_ge (headL e)
  have p1 := strL_ge' e.digest
  have hh : (headL e).length = (strL (nameL e.kind)).length + (strL e.path.data.toList).length + (numL e.attrs.length).length + (e.attrs.flatMap atL).length + (strL e.target.data.toList).length := by
    unfold headL; simp only [List.length_append]
  have p2 := strL_ge' e.path
  have p3 := strL_ge' e.target
  refine ⟨by omega, by omega, ⟨by omega, fun i => getD_ok (fun x hx => ?_) at0_ok i⟩, by omega, by omega, by omega, ⟨by omega, fun i => getD_ok (fun x hx => exIn_ok (x2 x hx)) ex0_ok i⟩⟩
  have f := flat_le (f := atL) hx
  have f2 : (atL x).length = (strL x.key.data.toList).length + (strL x.value.data.toList).length := by unfold atL; rw [List.length_append]
  have p4 := strL_ge' x.key
  have p5 := strL_ge' x.value
  exact ⟨by omega, by omega⟩
theorem decA_ok {s : ByteArray} {a f : Int} {y : En} (h : decA s a = .ok (y, f)) : chkE y = 0 ∧ Reads s.data.toList a (bodyL y) f := by
  unfold decA at h
  split at h
  · cases h
  · exact decR_ok.1 h
theorem decA_of {s : ByteArray} {a f : Int} {y : En} (hc : chkE y = 0) (hr : Reads s.data.toList a (bodyL y) f) : decA s a = .ok (y, f) := by
  have h := hr.nonneg
  have hs : s.data.toList.length = s.size := rfl
  rw [decA, if_neg (by omega)]
  exact decR_ok.2 ⟨hc, hr⟩
theorem reads_len {l e : List UInt8} {a b : Int} (h : Reads l a e b) : e.length ≤ l.length := by
  obtain ⟨A, _, _, h1, _⟩ := h; omega
theorem enOk_dec {s : ByteArray} {a f : Int} {y : En} (h : decA s a = .ok (y, f)) (hs : s.size ≤ 1000000) : EnOk y := by
  obtain ⟨h1, h2⟩ := decA_ok h
  have := reads_len h2
  have hl : s.data.toList.length = s.size := rfl
  exact enOk_body h1 (by omega)
/-- small entries have small encodings -/
theorem strL_bd {u : List UInt8} {n : Nat} (h : u.length ≤ n) (hn : n ≤ 1000000) : (strL u).length ≤ n + 22 := by
  rw [strL_length]
  have := itoa_len (n := (u.length : Int)) (by omega) (by omega)
  omega
theorem numL_le {n : Int} (h0 : -9223372036854775808 ≤ n) (h1 : n ≤ 9223372036854775807) : (numL n).length ≤ 21 := by
  rw [numL_length]; have := itoa_len h0 h1; omega
theorem flat_bd {α : Type} {f : α → List UInt8} {n : Nat} : ∀ {A : List α}, (∀ x ∈ A, (f x).length ≤ n) → (A.flatMap f).length ≤ n * A.length
  | [], _ => by simp
  | x :: A, h => by
    rw [List.flatMap_cons, List.length_append, List.length_cons, Nat.mul_succ]
    have h1 := h x (by simp)
    have h2 := flat_bd (f := f) (n := n) (A := A) fun y hy => h y (by simp [hy])
    omega
theorem small_head {e : En} (hs : SmallE e) : (headL e).length ≤ 12000 := by
  obtain ⟨h1, h2, h3, h4, h5, h6⟩ := hs
  unfold headL
  simp only [List.length_append]
  have a1 : (strL (nameL e.kind)).length ≤ 29 := strL_bd (n := 7) (by unfold nameL; (repeat' split) <;> decide) (by decide)
  have a2 : (strL e.path.data.toList).length ≤ 322 := strL_bd (n := 300) h1 (by decide)
  have a3 := numL_le (n := (e.attrs.length : Int)) (by omega) (by omega)
  have a4 : (e.attrs.flatMap atL).length ≤ 244 * e.attrs.length := flat_bd fun x hx => by
    obtain ⟨i, hi, rfl⟩ := List.getElem_of_mem hx
    have h7 := h6 i hi
    rw [atAt_get hi] at h7
    unfold atL
    rw [List.length_append]
    have b1 : (strL e.attrs[i].key.data.toList).length ≤ 122 := strL_bd (n := 100) h7.1 (by decide)
    have b2 : (strL e.attrs[i].value.data.toList).length ≤ 122 := strL_bd (n := 100) h7.2 (by decide)
    omega
  have a5 : (strL e.target.data.toList).length ≤ 322 := strL_bd (n := 300) h2 (by decide)
  have a6 : 244 * e.attrs.length ≤ 244 * 30 := Nat.mul_le_mul_left _ h5
  omega
theorem small_body {e : En} (hs : SmallE e) (hk : EnOk e) : (bodyL e).length ≤ 20000 := by
  have a1 := strL_bd (small_head hs) (by decide)
  obtain ⟨h1, h2, h3, h4, h5, h6⟩ := hs
  unfold bodyL
  simp only [List.length_append]
  have a2 := numL_le hk.size.1 hk.size.2
  have a3 : (strL e.digest.data.toList).length ≤ 122 := strL_bd (n := 100) h3 (by decide)
  have a4 := numL_le (n := (e.exts.length : Int)) (by omega) (by omega)
  have a5 : (e.exts.flatMap exL).length ≤ 63 * e.exts.length := flat_bd fun x hx => by
    obtain ⟨i, hi, rfl⟩ := List.getElem_of_mem hx
    have h7 := hk.exts.2 i
    rw [exAt_get hi] at h7
    unfold exL
    simp only [List.length_append]
    have b1 := numL_le h7.s.1 h7.s.2
    have b2 := numL_le h7.o.1 h7.o.2
    have b3 := numL_le h7.l.1 h7.l.2
    omega
  have a6 : 63 * e.exts.length ≤ 63 * 30 := Nat.mul_le_mul_left _ h4
  omega
/-- entries with the same head -/
theorem headL_inj {x y : En} (hx : chkE x = 0) (hy : chkE y = 0) : headL x = headL y ↔ x.hd = y.hd := by
  rw [headL_hd, headL_hd]
  have h1 := attrsE_len (chkE_rest hx).2.1
  have h2 := attrsE_len (chkE_rest hy).2.1
  exact hdL_inj ⟨chkE_kind hx, by show x.attrs.length ≤ 400; omega⟩ ⟨chkE_kind hy, by show y.attrs.length ≤ 400; omega⟩
/-- y with the size, the digest and the extents of x -/
def En.like (x y : En) : En := ⟨y.kind, y.path, y.attrs, y.target, x.size, x.digest, x.exts⟩
theorem like_eq {x y : En} : x = x.like y ↔ x.hd = y.hd := by
  cases x; cases y
  simp [En.like, En.hd]
end Go.Proofs.YtpkapcijgldhhaaGreatDoor
