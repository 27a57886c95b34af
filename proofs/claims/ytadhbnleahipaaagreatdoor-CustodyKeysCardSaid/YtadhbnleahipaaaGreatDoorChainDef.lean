/-
  Chapter 47: terms and chains as plain lists; Seed.
-/
import Derived.Test.YtadhbnleahipaaaGreatDoorLawSigns
import Derived.Deep.CutBlock
import Derived.Deep.CutRange
import Derived.Deep.RegionHeld3
import Derived.BigQuiet
namespace Go.Proofs.YtadhbnleahipaaaGreatDoor
open Go.RowKit
/-! Seed, Chain -/
def lKeeper : List UInt8 := [107, 101, 101, 112, 101, 114, 32]
def seedL (i : Int) : List UInt8 := lKeeper ++ numL i
theorem seed_any (i : Int) (w : World) (h1 : -9223372036854775808 ≤ i) (h2 : i ≤ 9223372036854775807) : Calls Tryz.prog 24 #[.int .i64 i] w (StrS (seedL i) w) := by
  have hl : (numL i).length ≤ 30 := by rw [numL_length]; have := itoa_len h1 h2; omega
  go_enter Tryz.func24, Tryz.ntmps24
  go_wp2_with fail
  refine (refNumber_any i _ h1 h2).mono ?_
  rintro e w1 ⟨t, rfl, ht, rfl⟩
  have hz : t.size ≤ 30 := by rw [← toList_size, ht.out]; exact hl
  go_wp2_with fail
  go_ret
  exact ⟨_, rfl, by rw [Hid, append_list, ht.out]; rfl, rfl⟩
/-- a term of a keeper -/
structure Tm where
  fr : Int
  un : Int
  media : Bool
  key : Int
def Tm.vals (c : Tm) : List Value := [.int .i64 c.fr, .int .i64 c.un, .bool c.media, .int .i64 c.key]
def tm0 : Tm := ⟨0, 0, false, 0⟩
def tmAt (T : List Tm) (i : Nat) : Tm := T.getD i tm0
def TmAt (w : World) (b o : Nat) (T : List Tm) : Prop := ∀ i, i < T.length → w.rangeAt b (o + i * 4) (tmAt T i).vals
theorem TmAt.below {n : Nat} {A B : World} {b o : Nat} {T : List Tm} (h : TmAt A b o T) (hb : Below n A B) (hn : b < n) : TmAt B b o T :=
  fun i hi j v hv => (hb.cell (p := ⟨b, o + i * 4 + j, none⟩) hn).trans (h i hi j v hv)
/-- a slice of terms -/
def TmRow (w : World) (v : Value) (T : List Tm) : Prop :=
  T.length ≤ maxLen ∧ ((T = [] ∧ ∃ a cap, v = .slice a 0 cap ∧ (a = none → cap = 0)) ∨ (0 < T.length ∧ ∃ b o cap, v = .slice (some ⟨b, o, none⟩) T.length cap ∧ T.length ≤ cap ∧ cap ≤ maxLen ∧ b < w.heap.size ∧ TmAt w b o T))
structure TmOk (c : Tm) : Prop where
  fr : -9223372036854775808 ≤ c.fr ∧ c.fr ≤ 9223372036854775807
  un : -9223372036854775808 ≤ c.un ∧ c.un ≤ 9223372036854775807
  key : -9223372036854775808 ≤ c.key ∧ c.key ≤ 9223372036854775807
/-- the statement of keeper i, unsigned -/
def bareC (t : Tm) (i : Nat) : Cu := ⟨bA (rootL (seedL i) 1), if t.media then bA (sumB (seedL i)) else ByteArray.empty, t.fr, t.un, ByteArray.empty⟩
def byC (i : Nat) : Nat := i - 1
def chainC (t : Tm) (i : Nat) : Cu := if signE (bareC t i) 1 t.key = 0 then signC (bareC t i) (seedL (byC i)) 1 t.key else bareC t i
def chainV (T : List Tm) : List Cu := (List.range T.length).map fun i => chainC (tmAt T i) i
/-- a slice of statements of the call's own -/
def OwnCus (base : Nat) (w : World) (v : Value) (L : List Cu) : Prop := w.ownsRow base 29 5 v L.length (L.flatMap Cu.vals)
theorem tmCells {w : World} {b o : Nat} {T : List Tm} (h : TmAt w b o T) {i : Nat} (hi : i < T.length) :
    w.cell? ⟨b, o + i * 4, none⟩ = some (.int .i64 (tmAt T i).fr) ∧ w.cell? ⟨b, o + i * 4 + 1, none⟩ = some (.int .i64 (tmAt T i).un) ∧ w.cell? ⟨b, o + i * 4 + 2, none⟩ = some (.bool (tmAt T i).media) ∧ w.cell? ⟨b, o + i * 4 + 3, none⟩ = some (.int .i64 (tmAt T i).key) :=
  ⟨h i hi 0 _ rfl, h i hi 1 _ rfl, h i hi 2 _ rfl, h i hi 3 _ rfl⟩
def accV (T : List Tm) (k : Nat) : List Cu := (List.range k).map fun i => chainC (tmAt T i) i
theorem accV_succ (T : List Tm) (k : Nat) : accV T (k + 1) = accV T k ++ [chainC (tmAt T k) k] := by rw [accV, List.range_succ, List.map_append]; rfl
theorem vals_len (L : List Cu) : (L.flatMap Cu.vals).length = L.length * 5 := by
  induction L with
  | nil => rfl
  | cons c L ih => rw [List.flatMap_cons, List.length_append, ih, List.length_cons]; show 5 + _ = _; omega
theorem seedL_len (i : Nat) (h : i ≤ 1000000) : (seedL (i : Int)).length ≤ 100 := by
  have h1 : (numL (i : Int)).length ≤ 30 := by rw [numL_length]; have := itoa_len (show -9223372036854775808 ≤ (i : Int) by omega) (show (i : Int) ≤ 9223372036854775807 by omega); omega
  rw [seedL, List.length_append]
  have h3 : lKeeper.length = 7 := rfl
  omega
theorem bA_size (l : List UInt8) : (bA l).size = l.length := rfl
theorem rootL_le (s : List UInt8) (h : Int) : (rootL s h).length ≤ 16 := by
  rw [rootL]
  split
  · exact Nat.zero_le _
  · exact treeL_le _ _ _ _
theorem bareC_ok {t : Tm} (h : TmOk t) (i : Nat) : CuOk (bareC t i) := by
  have h1 : (bareC t i).root.size ≤ 1000000 := by show (bA _).size ≤ _; rw [bA_size]; exact Nat.le_trans (rootL_le _ _) (by decide)
  refine ⟨h1, ?_, Nat.zero_le _, h.fr, h.un⟩
  show (if t.media then bA (sumB (seedL i)) else ByteArray.empty).size ≤ _
  split
  · rw [bA_size, sumB_length]; decide
  · exact Nat.zero_le _
def ZeroC (W : World) (B : Nat) : Prop := W.cell? ⟨B, 0, none⟩ = some (.string ⟨#[]⟩) ∧ W.cell? ⟨B, 1, none⟩ = some (.string ⟨#[]⟩) ∧ W.cell? ⟨B, 2, none⟩ = some (.int .i64 0) ∧ W.cell? ⟨B, 3, none⟩ = some (.int .i64 0) ∧ W.cell? ⟨B, 4, none⟩ = some (.string ⟨#[]⟩) ∧
    W.frozen? ⟨B, 0, none⟩ = false ∧ W.frozen? ⟨B, 1, none⟩ = false ∧ W.frozen? ⟨B, 2, none⟩ = false ∧ W.frozen? ⟨B, 3, none⟩ = false ∧ W.frozen? ⟨B, 4, none⟩ = false
theorem infoCu : (Tryz.prog.info? 29).map (fun i => (i.zero, i.size, i.bytes)) = some (some (.agg #[.string ⟨#[]⟩, .string ⟨#[]⟩, .int .i64 0, .int .i64 0, .string ⟨#[]⟩]), 5, 64) := by kernel_rfl
theorem BoxC.otherPut {W : World} {B B' : Nat} {c : Cu} (h : BoxC W B c) (hne : B ≠ B') (c' : Cu) : BoxC (World.putC W B' c') B c :=
  ((((h.other hne 0 _).other hne 1 _).other hne 2 _).other hne 3 _).other hne 4 _
theorem chain_finA {wc wb w1 : World} {B : Nat} {bc sc : Cu} (bB3 : BoxC wc B bc) (kb3 : Below B w1 wc) (hb9 : Below wc.drew.heap.size wc.drew wb) :
    BoxC (wb.alloc (.cells #[.string sc.root, .string sc.media, .int .i64 sc.fr, .int .i64 sc.un, .string sc.sig] 29)) wb.heap.size sc ∧ B < wb.heap.size ∧
    BoxC (wb.alloc (.cells #[.string sc.root, .string sc.media, .int .i64 sc.fr, .int .i64 sc.un, .string sc.sig] 29)) B bc ∧ Below B w1 (wb.alloc (.cells #[.string sc.root, .string sc.media, .int .i64 sc.fr, .int .i64 sc.un, .string sc.sig] 29)) := by
  have h := step2 (below_drew0 (below_refl wc)) hb9
  have hlt := bB3.lt
  have hs := h.size
  exact ⟨BoxC.new wb sc, by omega, (bB3.below h).alloc _, (kb3.trans (h.mono (by omega))).alloc (by omega) _⟩
theorem chain_finB {wc wb w1 : World} {B : Nat} {bc sc : Cu} (bB3 : BoxC wc B bc) (kb3 : Below B w1 wc)
    (hb9 : Below (wc.alloc (.cells #[.string ⟨#[]⟩, .string ⟨#[]⟩, .int .i64 0, .int .i64 0, .string ⟨#[]⟩] 29)).drew.heap.size (wc.alloc (.cells #[.string ⟨#[]⟩, .string ⟨#[]⟩, .int .i64 0, .int .i64 0, .string ⟨#[]⟩] 29)).drew wb) :
    BoxC (World.putC wb wc.heap.size sc) wc.heap.size sc ∧ B < wc.heap.size ∧ BoxC (World.putC wb wc.heap.size sc) B bc ∧ Below B w1 (World.putC wb wc.heap.size sc) := by
  have h := step2 (below_drew0 ((below_refl wc).alloc (Nat.le_refl _) (.cells #[.string ⟨#[]⟩, .string ⟨#[]⟩, .int .i64 0, .int .i64 0, .string ⟨#[]⟩] 29))) hb9
  have hlt := bB3.lt
  have hz : BoxC (wc.alloc (.cells #[.string ⟨#[]⟩, .string ⟨#[]⟩, .int .i64 0, .int .i64 0, .string ⟨#[]⟩] 29)).drew wc.heap.size cu0 := BoxC.new wc cu0
  exact ⟨(hz.below hb9).put sc, hlt, (bB3.below h).otherPut (by omega) sc, below_putC (kb3.trans (h.mono (by omega))) (by omega) sc⟩
def ChainP (L : List Cu) (w : World) (e : Ending) (w' : World) : Prop := ∃ v : Value, e = .returned v ∧ OwnCus w.heap.size w' v L ∧ Below w.heap.size w w'
theorem strL_len30 {l : List UInt8} {n : Nat} (h : l.length ≤ n) (hn : n ≤ 1000000) : (strL l).length ≤ n + 30 := by
  have := itoa_len (n := ((l.length : Nat) : Int)) (by omega) (by omega)
  rw [strL_length]; omega
theorem signL_len560 (s : List UInt8) (k : Int) (m : List UInt8) : (signL s k m).length ≤ 560 := by
  rw [signL]
  split
  · exact Nat.zero_le _
  · rw [sigL_length]; exact Nat.le_refl _
theorem numL_len30 {i : Int} (h1 : -9223372036854775808 ≤ i) (h2 : i ≤ 9223372036854775807) : (numL i).length ≤ 30 := by rw [numL_length]; have := itoa_len h1 h2; omega
theorem treeSign1_len (s m : List UInt8) (key : Int) : (treeSignL s 1 key m).length ≤ 1000 := by
  rw [treeSignL, if_neg (by decide)]
  split
  · exact Nat.zero_le _
  · rename_i h
    have h2 : ¬ key < 0 ∧ key < 2 := ⟨fun e => h (.inl e), by
      have : ¬ ((2 ^ (1 : Int).toNat : Nat) : Int) ≤ key := fun e => h (.inr e)
      have e2 : ((2 ^ (1 : Int).toNat : Nat) : Int) = 2 := by decide
      rw [e2] at this; omega⟩
    have n1 := numL_len30 (i := key) (by omega) (by omega)
    have n2 := numL_len30 (i := 1) (by decide) (by decide)
    have n3 := strL_len30 (signL_len560 s key m) (by decide)
    rw [show (1 : Int).toNat = 1 from rfl, pathL, pathL]
    have n4 := strL_len30 (treeL_le s 1 0 (if key.toNat / 2 ^ 0 % 2 = 1 then key.toNat / 2 ^ 0 - 1 else key.toNat / 2 ^ 0 + 1)) (by decide)
    simp only [List.length_append, List.length_nil]
    omega
theorem chainC_ok {t : Tm} (h : TmOk t) (i : Nat) : CuOk (chainC t i) := by
  have hb := bareC_ok h i
  rw [chainC]
  split
  · rename_i he
    rw [signC, if_neg (by omega)]
    exact ⟨hb.root, hb.media, by show (bA _).size ≤ _; rw [bA_size]; exact Nat.le_trans (treeSign1_len _ _ _) (by decide), hb.fr, hb.un⟩
  · exact hb
theorem chainV_length (T : List Tm) : (chainV T).length = T.length := by simp [chainV]
theorem chainV_at {T : List Tm} {i : Nat} (h : i < T.length) : cuAt (chainV T) i = chainC (tmAt T i) i := by
  rw [cuAt_get (by rw [chainV_length]; exact h)]; simp [chainV]
theorem chainV_ok {T : List Tm} (h : ∀ i, TmOk (tmAt T i)) : CusOk (chainV T) := by
  intro j
  by_cases hj : j < T.length
  · rw [chainV_at hj]; exact chainC_ok (h j) j
  · rw [cuAt, List.getD_eq_getElem?_getD, List.getElem?_eq_none (by rw [chainV_length]; omega)]
    exact ⟨by decide, by decide, by decide, by decide, by decide⟩
theorem flat_get (L : List Cu) : ∀ i j v, i < L.length → (cuAt L i).vals[j]? = some v → (L.flatMap Cu.vals)[i * 5 + j]? = some v := by
  induction L with
  | nil => intro i j v h; exact absurd h (Nat.not_lt_zero _)
  | cons c L ih =>
    intro i j v hi hv
    rw [List.flatMap_cons]
    cases i with
    | zero =>
      have hj : j < 5 := by have := (List.getElem?_eq_some_iff.1 hv).1; simpa [Cu.vals] using this
      rw [List.getElem?_append_left (by show _ < 5; omega), Nat.zero_mul, Nat.zero_add]
      exact hv
    | succ i =>
      rw [List.getElem?_append_right (by show 5 ≤ _; omega), show (i + 1) * 5 + j - c.vals.length = i * 5 + j from by show (i + 1) * 5 + j - 5 = _; omega]
      exact ih i j v (by simpa using hi) hv
theorem OwnCus.cells' {base : Nat} {w : World} {v : Value} {L : List Cu} (h : OwnCus base w v L) {g cap : Nat} (hv : v = .slice (some ⟨g, 0, none⟩) L.length cap) (i : Nat) (u : Value) (hu : (L.flatMap Cu.vals)[i]? = some u) : w.cell? ⟨g, i, none⟩ = some u := by
  have := World.ownsRow.cells h (g := g) (by rw [hv]; rfl) i u hu
  rwa [Addr.add_mid, Nat.zero_add] at this
theorem cuRow_own {base : Nat} {w : World} {v : Value} {L : List Cu} (h : OwnCus base w v L) : CuRow w v L := by
  rcases h.2 with ⟨rfl, h0⟩ | ⟨g, cap, cur, rfl, _, hg, hl, hm, hcs, htk⟩
  · have : L = [] := List.eq_nil_of_length_eq_zero h0
    subst this; exact cuRow_nil w
  · by_cases h0 : 0 < L.length
    · refine ⟨Nat.le_trans hl hm, .inr ⟨h0, g, 0, cap, rfl, hl, hm, (Array.getElem?_eq_some_iff.1 hg).1, fun i hi j u hu => ?_⟩⟩
      have := OwnCus.cells' h rfl (i * 5 + j) u (flat_get L i j u hi hu)
      rw [Nat.zero_add]; exact this
    · have : L = [] := List.eq_nil_of_length_eq_zero (by omega)
      subst this
      exact ⟨by decide, .inl ⟨rfl, _, cap, rfl, fun e => by cases e⟩⟩
end Go.Proofs.YtadhbnleahipaaaGreatDoor
