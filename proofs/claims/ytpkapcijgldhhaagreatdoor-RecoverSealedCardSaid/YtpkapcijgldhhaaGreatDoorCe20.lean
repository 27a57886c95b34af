/-
  Chapter 45: a collection among the arguments, opened: a struct with a slice of frames.
  The field of 256 elements, plain: xor and the product; polynomials; Lagrange's interpolation.
-/
import Derived.Test.YtpkapcijgldhhaaGreatDoorCe07
import Derived.Test.YtpkapcijgldhhaaGreatDoorCe19
import Derived.WalkKit
namespace Go.Proofs.YtpkapcijgldhhaaGreatDoor
open Go.ChangeShapes Go.WideShapes Go.ChangeAt Go.RowKit Go.Deep
theorem fr_lay_cells : Tryz.prog.cellsOf 39 = 2 := by kernel_rfl
theorem fr_u32_cells : Tryz.prog.cellsOf 22 = 1 := by kernel_rfl
theorem fr_frs_cells : Tryz.prog.cellsOf 23 = 1 := by kernel_rfl
section
variable {H : Type} {enc : TypeId × Value → H} {w : World} {base : Nat}
/-- the bounds of what came in -/
structure FrWf (f : Fr) : Prop where
  kd : -9223372036854775808 ≤ f.kind ∧ f.kind ≤ 9223372036854775807
  re : -9223372036854775808 ≤ f.reel ∧ f.reel ≤ 9223372036854775807
  se : -9223372036854775808 ≤ f.session ∧ f.session ≤ 9223372036854775807
  ix : -9223372036854775808 ≤ f.index ∧ f.index ≤ 9223372036854775807
  le : -9223372036854775808 ≤ f.length ∧ f.length ≤ 9223372036854775807
  da : -9223372036854775808 ≤ f.data ∧ f.data ≤ 9223372036854775807
  sp : -9223372036854775808 ≤ f.spare ∧ f.spare ≤ 9223372036854775807
  pl : f.payload.size ≤ 9223372036854775807
theorem fr0_wf : FrWf fr0 := ⟨by decide, by decide, by decide, by decide, by decide, by decide, by decide, by decide⟩
set_option maxRecDepth 100000 in
theorem fr_elem {n : Nat} {cs : List Value} {y : DataW H × List MemPlace} (hl : cs.length = 9) (h : DataW.trod enc Tryz.prog w base (fun _ => true) true n 46 cs = some y) : ∃ c : Fr, cs = c.vals ∧ FrWf c := by
  obtain ⟨xs, k, _, hy, _, hxl, hf⟩ := DataW.trod_struct Tryz.underlying46 h
  match xs, hxl, cs, hl with
  | [y0, y1, y2, y3, y4, y5, y6, y7], _, [v0, v1, v2, v3, v4, v5, v6, v7, v8], _ =>
    have g0 := hf 0 _ rfl
    have g1 := hf 1 _ rfl
    have g2 := hf 2 _ rfl
    have g3 := hf 3 _ rfl
    have g4 := hf 4 _ rfl
    have g5 := hf 5 _ rfl
    have g6 := hf 6 _ rfl
    have g7 := hf 7 _ rfl
    simp [en_str_cells, en_int_cells, fr_lay_cells, fr_u32_cells] at g0 g1 g2 g3 g4 g5 g6 g7
    obtain ⟨k0, e0, q0, z0⟩ := DataW.trod_int Tryz.underlying3 g0
    obtain ⟨k1, e1, q1, z1⟩ := DataW.trod_int Tryz.underlying3 g1
    obtain ⟨k2, e2, q2, z2⟩ := DataW.trod_int Tryz.underlying3 g2
    obtain ⟨k3, e3, q3, z3⟩ := DataW.trod_int Tryz.underlying3 g3
    obtain ⟨k4, e4, q4, z4⟩ := DataW.trod_int Tryz.underlying3 g4
    obtain ⟨k6, e6, q6, z6⟩ := DataW.trod_int Tryz.underlying22 g6
    obtain ⟨s7, e7, q7, z7⟩ := DataW.trod_string Tryz.underlying9 g7
    obtain ⟨xl, kl, _, _, _, hxl, hfl⟩ := DataW.trod_struct Tryz.underlying39 g5
    match xl, hxl with
    | [l0, l1], _ =>
      have f0 := hfl 0 _ rfl
      have f1 := hfl 1 _ rfl
      simp [en_int_cells] at f0 f1
      obtain ⟨m0, d0, p0, r0⟩ := DataW.trod_int Tryz.underlying3 f0
      obtain ⟨m1, d1, p1, r1⟩ := DataW.trod_int Tryz.underlying3 f1
      simp only [List.cons.injEq, and_true] at e0 e1 e2 e3 e4 e6 e7 d0 d1
      subst e0 e1 e2 e3 e4 e6 e7 d0 d1
      unfold maxLen at z7
      exact ⟨⟨k0, k1, k2, k3, k4, m0, m1, k6, s7⟩, rfl, ⟨wf_boundsi64 z0, wf_boundsi64 z1, wf_boundsi64 z2, wf_boundsi64 z3, wf_boundsi64 z4, wf_boundsi64 r0, wf_boundsi64 r1, z7⟩⟩
end
end Go.Proofs.YtpkapcijgldhhaaGreatDoor

namespace Go.Proofs.YtpkapcijgldhhaaGreatDoor
theorem all8 {p : UInt8 → Prop} (h : ∀ n, n < 256 → p (UInt8.ofNat n)) (a : UInt8) : p a := by
  have := h a.toNat a.toNat_lt
  rwa [UInt8.ofNat_toNat] at this
/-- twice an element -/
def dbl (a : UInt8) : UInt8 := if 128 ≤ a then (a <<< 1) ^^^ 29 else a <<< 1
/-- the product, bit by bit of b -/
def mulF : Nat → UInt8 → UInt8 → UInt8
  | 0, _, _ => 0
  | k + 1, a, b => (if b &&& 1 = 1 then a else 0) ^^^ mulF k (dbl a) (b >>> 1)
def mulG (a b : UInt8) : UInt8 := mulF 8 a b
theorem x_comm (a b : UInt8) : a ^^^ b = b ^^^ a := UInt8.xor_comm a b
theorem x_assoc (a b c : UInt8) : a ^^^ b ^^^ c = a ^^^ (b ^^^ c) := UInt8.xor_assoc a b c
theorem x_left (a b c : UInt8) : a ^^^ (b ^^^ c) = b ^^^ (a ^^^ c) := by rw [← x_assoc, x_comm a b, x_assoc]
theorem x_self (a : UInt8) : a ^^^ a = 0 := UInt8.xor_self
theorem x_zero (a : UInt8) : a ^^^ 0 = a := UInt8.xor_zero
theorem zero_x (a : UInt8) : 0 ^^^ a = a := UInt8.zero_xor
theorem x_cancel (a b : UInt8) : a ^^^ (a ^^^ b) = b := by rw [← x_assoc, x_self, zero_x]
theorem x_eq_zero {a b : UInt8} (h : a ^^^ b = 0) : a = b := by
  have := congrArg (a ^^^ ·) h
  simp only [x_cancel, x_zero] at this
  exact this.symm
theorem x_four (a b c d : UInt8) : (a ^^^ b) ^^^ (c ^^^ d) = (a ^^^ c) ^^^ (b ^^^ d) := by rw [x_assoc, x_left b, ← x_assoc]
theorem and_x (a b c : UInt8) : (a ^^^ b) &&& c = (a &&& c) ^^^ (b &&& c) := by
  apply UInt8.toNat_inj.1
  simp only [UInt8.toNat_and, UInt8.toNat_xor, Nat.and_xor_distrib_right]
theorem and_one (a : UInt8) : a &&& 1 = 0 ∨ a &&& 1 = 1 := all8 (p := fun a => a &&& 1 = 0 ∨ a &&& 1 = 1) (by decide +kernel) a
theorem and_top (a : UInt8) : a &&& 128 = 0 ∨ a &&& 128 = 128 := all8 (p := fun a => a &&& 128 = 0 ∨ a &&& 128 = 128) (by decide +kernel) a
theorem dbl_eq (a : UInt8) : dbl a = (a <<< 1) ^^^ (if a &&& 128 = 128 then 29 else 0) := all8 (p := fun a => dbl a = (a <<< 1) ^^^ (if a &&& 128 = 128 then 29 else 0)) (by decide +kernel) a
theorem dbl_x (a b : UInt8) : dbl (a ^^^ b) = dbl a ^^^ dbl b := by
  rw [dbl_eq, dbl_eq, dbl_eq, UInt8.shiftLeft_xor, and_x, x_four]
  congr 1
  rcases and_top a with h | h <;> rcases and_top b with h' | h' <;> rw [h, h'] <;> decide
theorem low_x (a b x : UInt8) : (if (a ^^^ b) &&& 1 = 1 then x else 0) = (if a &&& 1 = 1 then x else 0) ^^^ (if b &&& 1 = 1 then x else 0) := by
  rw [and_x]
  rcases and_one a with h | h <;> rcases and_one b with h' | h' <;> rw [h, h'] <;> simp
theorem if_x (p : Prop) [Decidable p] (a b : UInt8) : (if p then a ^^^ b else 0) = (if p then a else 0) ^^^ (if p then b else 0) := by
  split
  · rfl
  · rw [x_self]
theorem mulF_x : ∀ (k : Nat) (a a' b : UInt8), mulF k (a ^^^ a') b = mulF k a b ^^^ mulF k a' b
  | 0, _, _, _ => (x_self 0).symm
  | k + 1, a, a', b => by rw [mulF, mulF, mulF, dbl_x, mulF_x k, if_x, x_four]
theorem mulF_y : ∀ (k : Nat) (a b b' : UInt8), mulF k a (b ^^^ b') = mulF k a b ^^^ mulF k a b'
  | 0, _, _, _ => (x_self 0).symm
  | k + 1, a, b, b' => by rw [mulF, mulF, mulF, UInt8.shiftRight_xor, mulF_y k, low_x, x_four]
theorem gm_x (a a' b : UInt8) : mulG (a ^^^ a') b = mulG a b ^^^ mulG a' b := mulF_x 8 a a' b
theorem gm_y (a b b' : UInt8) : mulG a (b ^^^ b') = mulG a b ^^^ mulG a b' := mulF_y 8 a b b'
/-- an additive function is known by its values at the powers of two -/
theorem lin_ext {f g : UInt8 → UInt8} (hf : ∀ a b, f (a ^^^ b) = f a ^^^ f b) (hg : ∀ a b, g (a ^^^ b) = g a ^^^ g b)
    (h : f 1 = g 1 ∧ f 2 = g 2 ∧ f 4 = g 4 ∧ f 8 = g 8 ∧ f 16 = g 16 ∧ f 32 = g 32 ∧ f 64 = g 64 ∧ f 128 = g 128) (a : UInt8) : f a = g a := by
  have f0 : f 0 = 0 := by have := hf 0 0; rwa [x_self, x_self] at this
  have g0 : g 0 = 0 := by have := hg 0 0; rwa [x_self, x_self] at this
  have hs : a = (if a &&& 1 = 1 then 1 else 0) ^^^ ((if a &&& 2 = 2 then 2 else 0) ^^^ ((if a &&& 4 = 4 then 4 else 0) ^^^ ((if a &&& 8 = 8 then 8 else 0) ^^^ ((if a &&& 16 = 16 then 16 else 0) ^^^ ((if a &&& 32 = 32 then 32 else 0) ^^^ ((if a &&& 64 = 64 then 64 else 0) ^^^ (if a &&& 128 = 128 then 128 else 0))))))) :=
    all8 (p := fun a => a = (if a &&& 1 = 1 then 1 else 0) ^^^ ((if a &&& 2 = 2 then 2 else 0) ^^^ ((if a &&& 4 = 4 then 4 else 0) ^^^ ((if a &&& 8 = 8 then 8 else 0) ^^^ ((if a &&& 16 = 16 then 16 else 0) ^^^ ((if a &&& 32 = 32 then 32 else 0) ^^^ ((if a &&& 64 = 64 then 64 else 0) ^^^ (if a &&& 128 = 128 then 128 else 0)))))))) (by decide +kernel) a
  obtain ⟨h0, h1, h2, h3, h4, h5, h6, h7⟩ := h
  have sel : ∀ (p : Prop) [Decidable p] (x : UInt8), f x = g x → f (if p then x else 0) = g (if p then x else 0) := fun p _ x hx => by
    split
    · exact hx
    · rw [f0, g0]
  rw [hs]
  simp only [hf, hg]
  rw [sel _ _ h0, sel _ _ h1, sel _ _ h2, sel _ _ h3, sel _ _ h4, sel _ _ h5, sel _ _ h6, sel _ _ h7]
theorem gm_comm (a b : UInt8) : mulG a b = mulG b a := by
  refine lin_ext (f := fun a => mulG a b) (g := fun a => mulG b a) (fun x y => gm_x x y b) (fun x y => gm_y b x y) ?_ a
  have key : ∀ x : UInt8, (mulG x 1 = mulG 1 x ∧ mulG x 2 = mulG 2 x ∧ mulG x 4 = mulG 4 x ∧ mulG x 8 = mulG 8 x ∧ mulG x 16 = mulG 16 x ∧ mulG x 32 = mulG 32 x ∧ mulG x 64 = mulG 64 x ∧ mulG x 128 = mulG 128 x) → mulG x b = mulG b x := fun x h =>
    lin_ext (f := fun b => mulG x b) (g := fun b => mulG b x) (fun y z => gm_y x y z) (fun y z => gm_x y z x) h b
  exact ⟨key _ (by decide +kernel), key _ (by decide +kernel), key _ (by decide +kernel), key _ (by decide +kernel), key _ (by decide +kernel), key _ (by decide +kernel), key _ (by decide +kernel), key _ (by decide +kernel)⟩
theorem gm_assoc (a b c : UInt8) : mulG (mulG a b) c = mulG a (mulG b c) := by
  refine lin_ext (f := fun a => mulG (mulG a b) c) (g := fun a => mulG a (mulG b c)) (fun x y => by simp only [gm_x]) (fun x y => by simp only [gm_x]) ?_ a
  have k2 : ∀ x y : UInt8, (∀ z ∈ [(1 : UInt8), 2, 4, 8, 16, 32, 64, 128], mulG (mulG x y) z = mulG x (mulG y z)) → mulG (mulG x y) c = mulG x (mulG y c) := fun x y h =>
    lin_ext (f := fun c => mulG (mulG x y) c) (g := fun c => mulG x (mulG y c)) (fun u v => by simp only [gm_y]) (fun u v => by simp only [gm_y]) ⟨h _ (by simp), h _ (by simp), h _ (by simp), h _ (by simp), h _ (by simp), h _ (by simp), h _ (by simp), h _ (by simp)⟩ c
  have key : ∀ x : UInt8, (∀ y ∈ [(1 : UInt8), 2, 4, 8, 16, 32, 64, 128], ∀ z ∈ [(1 : UInt8), 2, 4, 8, 16, 32, 64, 128], mulG (mulG x y) z = mulG x (mulG y z)) → mulG (mulG x b) c = mulG x (mulG b c) := fun x h =>
    lin_ext (f := fun b => mulG (mulG x b) c) (g := fun b => mulG x (mulG b c)) (fun u v => by simp only [gm_x, gm_y]) (fun u v => by simp only [gm_x, gm_y]) ⟨k2 _ _ (h _ (by simp)), k2 _ _ (h _ (by simp)), k2 _ _ (h _ (by simp)), k2 _ _ (h _ (by simp)), k2 _ _ (h _ (by simp)), k2 _ _ (h _ (by simp)), k2 _ _ (h _ (by simp)), k2 _ _ (h _ (by simp))⟩ b
  exact ⟨key _ (by decide +kernel), key _ (by decide +kernel), key _ (by decide +kernel), key _ (by decide +kernel), key _ (by decide +kernel), key _ (by decide +kernel), key _ (by decide +kernel), key _ (by decide +kernel)⟩
theorem gm_one (a : UInt8) : mulG a 1 = a := all8 (p := fun a => mulG a 1 = a) (by decide +kernel) a
theorem gone_m (a : UInt8) : mulG 1 a = a := by rw [gm_comm, gm_one]
theorem gm_zero (a : UInt8) : mulG a 0 = 0 := all8 (p := fun a => mulG a 0 = 0) (by decide +kernel) a
theorem gzero_m (a : UInt8) : mulG 0 a = 0 := by rw [gm_comm, gm_zero]
/-- a to the power 2^k - 2 .. as the squares go -/
def powF : Nat → UInt8 → UInt8 → Nat → UInt8
  | 0, p, _, _ => p
  | k + 1, p, a, n => if n = 0 then p else powF k (if n % 2 = 1 then mulG p a else p) (mulG a a) (n / 2)
def invG (a : UInt8) : UInt8 := if a = 0 then 0 else powF 64 1 a 254
theorem gm_inv {a : UInt8} (h : a ≠ 0) : mulG a (invG a) = 1 := all8 (p := fun a => a ≠ 0 → mulG a (invG a) = 1) (by decide +kernel) a h
theorem gm_cancel {a b c : UInt8} (h : a ≠ 0) (he : mulG a b = mulG a c) : b = c := by
  have := congrArg (mulG (invG a)) he
  rwa [← gm_assoc, ← gm_assoc, gm_comm (invG a), gm_inv h, gone_m, gone_m] at this
theorem gm_ne {a b : UInt8} (h : mulG a b = 0) (ha : a ≠ 0) : b = 0 := gm_cancel ha (by rw [h, gm_zero])
theorem gm_left (a b c : UInt8) : mulG a (mulG b c) = mulG b (mulG a c) := by rw [← gm_assoc, gm_comm a b, gm_assoc]
theorem gm_four (a b c d : UInt8) : mulG (mulG a b) (mulG c d) = mulG (mulG a c) (mulG b d) := by rw [gm_assoc, gm_left b, ← gm_assoc]
def divG (a b : UInt8) : UInt8 := mulG a (invG b)
theorem gd_mul {a b : UInt8} (h : b ≠ 0) : mulG (divG a b) b = a := by rw [divG, gm_assoc, gm_comm (invG b), gm_inv h, gm_one]
theorem gd_uniq {a b x : UInt8} (h : b ≠ 0) (hx : mulG x b = a) : x = divG a b := gm_cancel h (by rw [gm_comm b x, gm_comm b, gd_mul h, hx])
theorem gd_div {a b c d : UInt8} (hb : b ≠ 0) (hd : d ≠ 0) : mulG (divG a b) (divG c d) = divG (mulG a c) (mulG b d) := by
  refine gd_uniq (fun h => hd (gm_ne h hb)) ?_
  rw [gm_four, gd_mul hb, gd_mul hd]
/-- a polynomial of degree below n -/
def Poly : Nat → (UInt8 → UInt8) → Prop
  | 0, f => ∀ x, f x = 0
  | n + 1, f => ∃ c g, Poly n g ∧ ∀ x, f x = c ^^^ mulG x (g x)
theorem poly_zero : ∀ n, Poly n (fun _ => 0)
  | 0 => fun _ => rfl
  | n + 1 => ⟨0, _, poly_zero n, fun x => by rw [gm_zero, x_self]⟩
theorem poly_congr : ∀ {n : Nat} {f g : UInt8 → UInt8}, Poly n f → (∀ x, g x = f x) → Poly n g
  | 0, _, _, h, e => fun x => (e x).trans (h x)
  | _ + 1, _, _, ⟨c, k, hk, h⟩, e => ⟨c, k, hk, fun x => (e x).trans (h x)⟩
theorem poly_succ : ∀ {n : Nat} {f : UInt8 → UInt8}, Poly n f → Poly (n + 1) f
  | 0, f, h => ⟨0, _, poly_zero 0, fun x => by rw [gm_zero, x_self, h x]⟩
  | _ + 1, _, ⟨c, g, hg, h⟩ => ⟨c, g, poly_succ hg, h⟩
theorem poly_add : ∀ {n : Nat} {f g : UInt8 → UInt8}, Poly n f → Poly n g → Poly n (fun x => f x ^^^ g x)
  | 0, _, _, hf, hg => fun x => by show _ ^^^ _ = _; rw [hf x, hg x, x_self]
  | _ + 1, _, _, ⟨c, f', hf, ef⟩, ⟨d, g', hg, eg⟩ => ⟨c ^^^ d, _, poly_add hf hg, fun x => by show _ ^^^ _ = _; rw [ef x, eg x, x_four, gm_y]⟩
theorem poly_scale : ∀ {n : Nat} {f : UInt8 → UInt8} (a : UInt8), Poly n f → Poly n (fun x => mulG a (f x))
  | 0, _, a, h => fun x => by show mulG _ _ = _; rw [h x, gm_zero]
  | _ + 1, _, a, ⟨c, g, hg, h⟩ => ⟨mulG a c, _, poly_scale a hg, fun x => by show mulG _ _ = _; rw [h x, gm_y, gm_left]⟩
theorem poly_const (c : UInt8) : Poly 1 (fun _ => c) := ⟨c, _, poly_zero 0, fun x => by rw [gm_zero, x_zero]⟩
theorem poly_lin {n : Nat} {f : UInt8 → UInt8} (a : UInt8) (h : Poly n f) : Poly (n + 1) (fun x => mulG (x ^^^ a) (f x)) :=
  poly_congr (poly_add (show Poly (n + 1) (fun x => mulG x (f x)) from ⟨0, f, h, fun x => by rw [zero_x]⟩) (poly_succ (poly_scale a h))) fun x => gm_x x a (f x)
/-- a polynomial less its value at a is divided by x - a -/
theorem poly_factor (a : UInt8) : ∀ {n : Nat} {f : UInt8 → UInt8}, Poly (n + 1) f → ∃ g, Poly n g ∧ ∀ x, f x = f a ^^^ mulG (x ^^^ a) (g x)
  | 0, f, ⟨c, g, hg, h⟩ => ⟨fun _ => 0, fun _ => rfl, fun x => by rw [h x, h a, hg x, hg a]; simp only [gm_zero, x_zero]⟩
  | n + 1, f, ⟨c, g, hg, h⟩ => by
    obtain ⟨k, hk, e⟩ := poly_factor a hg
    refine ⟨fun x => g a ^^^ mulG x (k x), ⟨g a, k, hk, fun x => rfl⟩, fun x => ?_⟩
    rw [h x, h a, e x]
    simp only [gm_x, gm_y]
    rw [gm_left x a, x_assoc]
    congr 1
    simp only [x_assoc]
    rw [x_left (mulG a (g a)), x_left (mulG a (g a)), x_cancel]
/-- a polynomial with as many zeros as its degree allows none -/
theorem poly_roots : ∀ {n : Nat} {f : UInt8 → UInt8} (xs : List UInt8), Poly n f → xs.Nodup → xs.length = n → (∀ a ∈ xs, f a = 0) → ∀ x, f x = 0
  | 0, _, _, h, _, _, _ => h
  | n + 1, f, [], _, _, hl, _ => by cases hl
  | n + 1, f, a :: xs, h, hd, hl, hz => by
    obtain ⟨g, hg, e⟩ := poly_factor a h
    have h0 : f a = 0 := hz a List.mem_cons_self
    have := poly_roots xs hg (List.nodup_cons.1 hd).2 (Nat.succ.inj hl) fun b hb => by
      have h1 := e b
      rw [hz b (List.mem_cons_of_mem _ hb), h0, zero_x] at h1
      exact gm_ne h1.symm fun hx => (List.nodup_cons.1 hd).1 ((x_eq_zero hx) ▸ hb)
    intro x
    rw [e x, h0, this x, gm_zero, x_self]
/-- the weight of the block k at x, over the first i blocks -/
def wtG (xs : List UInt8) (k : Nat) (x : UInt8) : Nat → UInt8
  | 0 => 1
  | i + 1 => if i = k then wtG xs k x i else mulG (wtG xs k x i) (divG (x ^^^ xs.getD i 0) (xs.getD k 0 ^^^ xs.getD i 0))
def aboveG (xs : List UInt8) (k : Nat) (x : UInt8) : Nat → UInt8
  | 0 => 1
  | i + 1 => if i = k then aboveG xs k x i else mulG (aboveG xs k x i) (x ^^^ xs.getD i 0)
theorem above_ne {xs : List UInt8} {k : Nat} {x : UInt8} : ∀ n, (∀ i, i < n → i ≠ k → x ≠ xs.getD i 0) → aboveG xs k x n ≠ 0
  | 0, _ => by show (1 : UInt8) ≠ 0; decide
  | n + 1, h => by
    have ih := above_ne n fun i hi => h i (by omega)
    rw [aboveG]
    split
    · exact ih
    · rename_i hk
      exact fun e => h n (by omega) hk (x_eq_zero (gm_ne e ih))
theorem wt_above {xs : List UInt8} {k : Nat} (x : UInt8) : ∀ n, (∀ i, i < n → i ≠ k → xs.getD k 0 ≠ xs.getD i 0) → wtG xs k x n = divG (aboveG xs k x n) (aboveG xs k (xs.getD k 0) n)
  | 0, _ => by show (1 : UInt8) = divG 1 1; decide +kernel
  | n + 1, h => by
    have ih := wt_above x n fun i hi => h i (by omega)
    rw [wtG, aboveG, aboveG]
    split
    · exact ih
    · rename_i hk
      rw [ih]
      exact gd_div (above_ne n fun i hi => h i (by omega)) fun e => h n (by omega) hk (x_eq_zero e)
theorem wt_one {xs : List UInt8} {k : Nat} : ∀ n, (∀ i, i < n → i ≠ k → xs.getD k 0 ≠ xs.getD i 0) → wtG xs k (xs.getD k 0) n = 1
  | 0, _ => rfl
  | n + 1, h => by
    have ih := wt_one n fun i hi => h i (by omega)
    rw [wtG]
    split
    · exact ih
    · rename_i hk
      have hne : xs.getD k 0 ^^^ xs.getD n 0 ≠ 0 := fun e => h n (by omega) hk (x_eq_zero e)
      rw [ih, gone_m, divG, gm_inv hne]
theorem wt_null {xs : List UInt8} {k j : Nat} (hj : j ≠ k) : ∀ n, j < n → wtG xs k (xs.getD j 0) n = 0
  | 0, h => absurd h (Nat.not_lt_zero _)
  | n + 1, h => by
    rw [wtG]
    by_cases e : j = n
    · subst e
      rw [if_neg hj, x_self, divG, gzero_m, gm_zero]
    · have ih := wt_null (xs := xs) hj n (by omega)
      split
      · exact ih
      · rw [ih, gzero_m]
def sumX : Nat → (Nat → UInt8) → UInt8
  | 0, _ => 0
  | k + 1, f => sumX k f ^^^ f k
theorem sumX_congr {f g : Nat → UInt8} : ∀ {n : Nat}, (∀ k, k < n → f k = g k) → sumX n f = sumX n g
  | 0, _ => rfl
  | n + 1, h => by rw [sumX, sumX, sumX_congr fun k hk => h k (by omega), h n (by omega)]
theorem sumX_null {f : Nat → UInt8} : ∀ {n : Nat}, (∀ k, k < n → f k = 0) → sumX n f = 0
  | 0, _ => rfl
  | n + 1, h => by rw [sumX, sumX_null fun k hk => h k (by omega), h n (by omega), x_self]
theorem sumX_one {f : Nat → UInt8} {j : Nat} : ∀ {n : Nat}, j < n → (∀ k, k < n → k ≠ j → f k = 0) → sumX n f = f j
  | 0, h, _ => absurd h (Nat.not_lt_zero _)
  | n + 1, h, hz => by
    rw [sumX]
    by_cases e : j = n
    · subst e
      rw [sumX_null fun k hk => hz k (by omega) (by omega), zero_x]
    · rw [sumX_one (by omega) fun k hk hj => hz k (by omega) hj, hz n (by omega) fun h => e h.symm, x_zero]
theorem poly_sumX {m : Nat} {f : Nat → UInt8 → UInt8} : ∀ n, (∀ k, k < n → Poly m (f k)) → Poly m (fun x => sumX n fun k => f k x)
  | 0, _ => poly_zero m
  | n + 1, h => poly_add (poly_sumX n fun k hk => h k (by omega)) (h n (by omega))
theorem poly_wt (xs : List UInt8) (k : Nat) : ∀ n, Poly (if k < n then n else n + 1) (fun x => wtG xs k x n)
  | 0 => by rw [if_neg (Nat.not_lt_zero _)]; exact poly_const 1
  | n + 1 => by
    have ih := poly_wt xs k n
    by_cases e : n = k
    · subst e
      rw [if_neg (Nat.lt_irrefl _)] at ih
      rw [if_pos (Nat.lt_succ_self _)]
      exact poly_congr ih fun x => by show wtG _ _ _ (n + 1) = _; rw [wtG, if_pos rfl]
    · have step : ∀ m, Poly m (fun x => wtG xs k x n) → Poly (m + 1) (fun x => wtG xs k x (n + 1)) := fun m h =>
        poly_congr (poly_scale (invG (xs.getD k 0 ^^^ xs.getD n 0)) (poly_lin (xs.getD n 0) h)) fun x => by
          show wtG _ _ _ (n + 1) = _
          rw [wtG, if_neg e, divG, gm_comm (wtG xs k x n), gm_comm (x ^^^ _) (invG _), gm_assoc]
      have := step _ ih
      by_cases hk : k < n
      · rw [if_pos hk] at this; rw [if_pos (by omega)]; exact this
      · rw [if_neg hk] at this; rw [if_neg (by omega)]; exact this
/-- the byte at x of the stripe through the values b at the points xs -/
def lagG (xs : List UInt8) (b : Nat → UInt8) (x : UInt8) : UInt8 := sumX xs.length fun k => mulG (wtG xs k x xs.length) (b k)
theorem poly_lag (xs : List UInt8) (b : Nat → UInt8) : Poly xs.length (lagG xs b) :=
  poly_sumX _ fun k hk => by
    have := poly_wt xs k xs.length
    rw [if_pos hk] at this
    exact poly_congr (poly_scale (b k) this) fun x => gm_comm _ _
theorem gf_get {xs : List UInt8} {i : Nat} (h : i < xs.length) : xs.getD i 0 = xs[i] := by rw [List.getD_eq_getElem?_getD, List.getElem?_eq_getElem h]; rfl
theorem gf_apart {xs : List UInt8} (hd : xs.Nodup) {i k : Nat} (hi : i < xs.length) (hk : k < xs.length) (h : i ≠ k) : xs.getD k 0 ≠ xs.getD i 0 := fun e => by
  rw [gf_get hi, gf_get hk] at e
  have hp := List.pairwise_iff_getElem.1 hd
  rcases Nat.lt_or_gt_of_ne h with hlt | hlt
  · exact hp i k hi hk hlt e.symm
  · exact hp k i hk hi hlt e
theorem lag_point {xs : List UInt8} (hd : xs.Nodup) (b : Nat → UInt8) {j : Nat} (hj : j < xs.length) : lagG xs b (xs.getD j 0) = b j := by
  rw [lagG, sumX_one hj fun k hk hne => by rw [wt_null (fun e => hne e.symm) _ hj, gzero_m]]
  rw [wt_one _ fun i hi hne => gf_apart hd hi hj hne, gone_m]
/-- a polynomial is known by as many values -/
theorem lag_uniq {f : UInt8 → UInt8} {xs : List UInt8} (hf : Poly xs.length f) (hd : xs.Nodup) (b : Nat → UInt8) (hb : ∀ k, k < xs.length → b k = f (xs.getD k 0)) (x : UInt8) : lagG xs b x = f x := by
  refine x_eq_zero (poly_roots (f := fun x => lagG xs b x ^^^ f x) xs (poly_add (poly_lag xs b) hf) hd rfl (fun a ha => ?_) x)
  obtain ⟨j, hj, rfl⟩ := List.getElem_of_mem ha
  show lagG xs b _ ^^^ f _ = 0
  rw [← gf_get hj, lag_point hd b hj, hb j hj, x_self]
/-! ### the product of the reference: the product of polynomials, reduced -/
theorem nx_left (a b c : Nat) : a ^^^ (b ^^^ c) = b ^^^ (a ^^^ c) := by rw [← Nat.xor_assoc, Nat.xor_comm a b, Nat.xor_assoc]
def tmA (a b : Nat) : Nat → Nat
  | 0 => 0
  | k + 1 => if (b >>> k) &&& 1 = 1 then tmA a b k ^^^ (a <<< k) else tmA a b k
def tmB (o : Nat) : Nat → Nat
  | 0 => o
  | j + 1 => if (tmB o j >>> (14 - j)) &&& 1 = 1 then tmB o j ^^^ (285 <<< (6 - j)) else tmB o j
theorem tmA_y (a b b' : Nat) : ∀ k, tmA a (b ^^^ b') k = tmA a b k ^^^ tmA a b' k
  | 0 => (Nat.xor_self 0).symm
  | k + 1 => by
    rw [tmA, tmA, tmA, tmA_y a b b' k, Nat.shiftRight_xor_distrib, Nat.and_xor_distrib_right]
    have h2 : ∀ n : Nat, n &&& 1 = 0 ∨ n &&& 1 = 1 := fun n => by rw [Nat.and_one_is_mod]; omega
    rcases h2 (b >>> k) with h | h <;> rcases h2 (b' >>> k) with h' | h' <;> rw [h, h'] <;> simp [Nat.xor_assoc]
    · rw [Nat.xor_comm (a <<< k), nx_left]
    · rw [nx_left (a <<< k), Nat.xor_self, Nat.xor_zero]
theorem tmA_x (a a' b : Nat) : ∀ k, tmA (a ^^^ a') b k = tmA a b k ^^^ tmA a' b k
  | 0 => (Nat.xor_self 0).symm
  | k + 1 => by
    rw [tmA, tmA, tmA, tmA_x a a' b k, Nat.shiftLeft_xor_distrib]
    split
    · simp only [Nat.xor_assoc]; rw [nx_left (tmA a' b k)]
    · rfl
theorem tmB_x (o o' : Nat) : ∀ j, tmB (o ^^^ o') j = tmB o j ^^^ tmB o' j
  | 0 => rfl
  | j + 1 => by
    rw [tmB, tmB, tmB, tmB_x o o' j, Nat.shiftRight_xor_distrib, Nat.and_xor_distrib_right]
    have h2 : ∀ n : Nat, n &&& 1 = 0 ∨ n &&& 1 = 1 := fun n => by rw [Nat.and_one_is_mod]; omega
    rcases h2 (tmB o j >>> (14 - j)) with h | h <;> rcases h2 (tmB o' j >>> (14 - j)) with h' | h' <;> rw [h, h'] <;> simp [Nat.xor_assoc]
    · rw [Nat.xor_comm (285 <<< (6 - j)), nx_left]
    · rw [nx_left (285 <<< (6 - j)), Nat.xor_self, Nat.xor_zero]
def timesR (a b : UInt8) : UInt8 := UInt8.ofNat (tmB (tmA a.toNat b.toNat 8) 7)
theorem times_x (a a' b : UInt8) : timesR (a ^^^ a') b = timesR a b ^^^ timesR a' b := by
  unfold timesR; rw [UInt8.toNat_xor, tmA_x, tmB_x, UInt8.ofNat_xor]
theorem times_y (a b b' : UInt8) : timesR a (b ^^^ b') = timesR a b ^^^ timesR a b' := by
  unfold timesR; rw [UInt8.toNat_xor, tmA_y, tmB_x, UInt8.ofNat_xor]
theorem times_eq (a b : UInt8) : timesR a b = mulG a b := by
  refine lin_ext (f := fun a => timesR a b) (g := fun a => mulG a b) (fun x y => times_x x y b) (fun x y => gm_x x y b) ?_ a
  have key : ∀ x : UInt8, (∀ y ∈ [(1 : UInt8), 2, 4, 8, 16, 32, 64, 128], timesR x y = mulG x y) → timesR x b = mulG x b := fun x h =>
    lin_ext (f := fun b => timesR x b) (g := fun b => mulG x b) (fun y z => times_y x y z) (fun y z => gm_y x y z) ⟨h _ (by simp), h _ (by simp), h _ (by simp), h _ (by simp), h _ (by simp), h _ (by simp), h _ (by simp), h _ (by simp)⟩ b
  exact ⟨key _ (by decide +kernel), key _ (by decide +kernel), key _ (by decide +kernel), key _ (by decide +kernel), key _ (by decide +kernel), key _ (by decide +kernel), key _ (by decide +kernel), key _ (by decide +kernel)⟩
end Go.Proofs.YtpkapcijgldhhaaGreatDoor
