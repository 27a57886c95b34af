/-
  Rows of structs: slices of attributes and of extents in memory.
  The walks of attribute.Check and of its reference.
  The walks of the reference's check of attributes, and of Same and Great.
-/
import Derived.Test.YtpkapcijgldhhaaGreatDoorCa07
import Derived.Deep.MidRow
import Derived.BigQuiet
import Derived.IntWalk
namespace Go.Proofs.YtpkapcijgldhhaaGreatDoor
open Go.RowKit Go.Shelf

section
variable {α : Type}
/-- n cells for each element: element i begins at o + i * n -/
def GAt (n : Nat) (f : α → List Value) (d : α) (w : World) (b o : Nat) (L : List α) : Prop := ∀ i, i < L.length → w.rangeAt b (o + i * n) (f (L.getD i d))
theorem GAt.below {n m : Nat} {f : α → List Value} {d : α} {A B : World} {b o : Nat} {L : List α} (h : GAt n f d A b o L) (hb : Below m A B) (hm : b < m) : GAt n f d B b o L :=
  fun i hi j v hv => (hb.cell (p := ⟨b, o + i * n + j, none⟩) hm).trans (h i hi j v hv)
def GRow (n : Nat) (f : α → List Value) (d : α) (w : World) (v : Value) (L : List α) : Prop :=
  L.length ≤ maxLen ∧ ((L = [] ∧ ∃ a cap, v = .slice a 0 cap ∧ (a = none → cap = 0)) ∨ (0 < L.length ∧ ∃ b o cap, v = .slice (some ⟨b, o, none⟩) L.length cap ∧ L.length ≤ cap ∧ cap ≤ maxLen ∧ b < w.heap.size ∧ GAt n f d w b o L))
theorem GRow.below {n : Nat} {f : α → List Value} {d : α} {w w' : World} {v : Value} {L : List α} (h : GRow n f d w v L) (hb : Below w.heap.size w w') : GRow n f d w' v L := by
  obtain ⟨h1, h2⟩ := h
  refine ⟨h1, ?_⟩
  rcases h2 with h2 | ⟨h2, b, o, cap, h3, h4, h5, h6, h7⟩
  · exact .inl h2
  · exact .inr ⟨h2, b, o, cap, h3, h4, h5, Nat.lt_of_lt_of_le h6 hb.size, h7.below hb h6⟩
theorem GRow.nil {n : Nat} {f : α → List Value} {d : α} (w : World) : GRow n f d w (.slice none 0 0) [] := ⟨Nat.zero_le _, .inl ⟨rfl, none, 0, rfl, fun _ => rfl⟩⟩
theorem GRow.form {n : Nat} {f : α → List Value} {d : α} {w : World} {v : Value} {L : List α} (h : GRow n f d w v L) : ∃ a cap, v = .slice a L.length cap := by
  rcases h.2 with ⟨rfl, a, cap, h, _⟩ | ⟨_, b, o, cap, h, _⟩
  · exact ⟨a, cap, h⟩
  · exact ⟨_, cap, h⟩
/-- a slice of the call's own -/
def OwnG (base : Nat) (T : TypeId) (n : Nat) (f : α → List Value) (w : World) (v : Value) (L : List α) : Prop := w.ownsRow base T n v L.length (L.flatMap f)
theorem gflat_get {n : Nat} {f : α → List Value} {d : α} (hf : ∀ x, (f x).length = n) (L : List α) : ∀ i j v, i < L.length → (f (L.getD i d))[j]? = some v → (L.flatMap f)[i * n + j]? = some v := by
  induction L with
  | nil => intro i j v h; exact absurd h (Nat.not_lt_zero _)
  | cons c L ih =>
    intro i j v hi hv
    rw [List.flatMap_cons]
    cases i with
    | zero =>
      have hj : j < n := by have := (List.getElem?_eq_some_iff.1 hv).1; rwa [hf] at this
      rw [List.getElem?_append_left (by rw [hf]; omega), Nat.zero_mul, Nat.zero_add]
      simpa using hv
    | succ i =>
      have e : (i + 1) * n + j = n + (i * n + j) := by rw [Nat.succ_mul]; omega
      rw [List.getElem?_append_right (by rw [hf]; omega), hf, e, Nat.add_sub_cancel_left]
      exact ih i j v (by simpa using hi) (by simpa using hv)
theorem OwnG.row {base : Nat} {T : TypeId} {n : Nat} {f : α → List Value} {d : α} (hf : ∀ x, (f x).length = n) {w : World} {v : Value} {L : List α} (h : OwnG base T n f w v L) : GRow n f d w v L := by
  have h' := h
  rcases h.2 with ⟨rfl, h0⟩ | ⟨g, cap, cur, rfl, _, hg, hl, hm, hcs, htk⟩
  · have : L = [] := List.eq_nil_of_length_eq_zero h0
    subst this; exact GRow.nil w
  · by_cases h0 : 0 < L.length
    · refine ⟨Nat.le_trans hl hm, .inr ⟨h0, g, 0, cap, rfl, hl, hm, (Array.getElem?_eq_some_iff.1 hg).1, fun i hi j u hu => ?_⟩⟩
      have := World.ownsRow.cells h' (g := g) rfl (i * n + j) u (gflat_get hf L i j u hi hu)
      rw [Addr.add_mid, Nat.zero_add] at this
      rw [Nat.zero_add]; exact this
    · have : L = [] := List.eq_nil_of_length_eq_zero (by omega)
      subst this
      exact ⟨Nat.zero_le _, .inl ⟨rfl, _, cap, rfl, fun e => by cases e⟩⟩
end

/-! attributes -/
def At.vals (x : At) : List Value := [.string x.key, .string x.value]
def AtAt (w : World) (b o : Nat) (A : List At) : Prop := GAt 2 At.vals at0 w b o A
def AtRow (w : World) (v : Value) (A : List At) : Prop := GRow 2 At.vals at0 w v A
theorem atCells {w : World} {b o : Nat} {A : List At} (h : AtAt w b o A) {i : Nat} (hi : i < A.length) :
    w.cell? ⟨b, o + i * 2, none⟩ = some (.string (atAt A i).key) ∧ w.cell? ⟨b, o + i * 2 + 1, none⟩ = some (.string (atAt A i).value) := ⟨h i hi 0 _ rfl, h i hi 1 _ rfl⟩
structure AtOk (x : At) : Prop where
  key : x.key.size ≤ 1000000
  value : x.value.size ≤ 1000000
/-! extents -/
def Ex.vals (x : Ex) : List Value := [.int .i64 x.s, .int .i64 x.o, .int .i64 x.l]
def ExAt (w : World) (b o : Nat) (X : List Ex) : Prop := GAt 3 Ex.vals ex0 w b o X
def ExRow (w : World) (v : Value) (X : List Ex) : Prop := GRow 3 Ex.vals ex0 w v X
theorem exCells {w : World} {b o : Nat} {X : List Ex} (h : ExAt w b o X) {i : Nat} (hi : i < X.length) :
    w.cell? ⟨b, o + i * 3, none⟩ = some (.int .i64 (exAt X i).s) ∧ w.cell? ⟨b, o + i * 3 + 1, none⟩ = some (.int .i64 (exAt X i).o) ∧ w.cell? ⟨b, o + i * 3 + 2, none⟩ = some (.int .i64 (exAt X i).l) := ⟨h i hi 0 _ rfl, h i hi 1 _ rfl, h i hi 2 _ rfl⟩
structure ExOk (x : Ex) : Prop where
  s : -9223372036854775808 ≤ x.s ∧ x.s ≤ 9223372036854775807
  o : -9223372036854775808 ≤ x.o ∧ x.o ≤ 9223372036854775807
  l : -9223372036854775808 ≤ x.l ∧ x.l ≤ 9223372036854775807
/-! entries -/
structure EnOk (e : En) : Prop where
  kind : -9223372036854775808 ≤ e.kind ∧ e.kind ≤ 9223372036854775807
  path : e.path.size ≤ 1000000
  attrs : e.attrs.length ≤ 1000000 ∧ ∀ i, AtOk (atAt e.attrs i)
  target : e.target.size ≤ 1000000
  size : -9223372036854775808 ≤ e.size ∧ e.size ≤ 9223372036854775807
  digest : e.digest.size ≤ 1000000
  exts : e.exts.length ≤ 1000000 ∧ ∀ i, ExOk (exAt e.exts i)
def En.vals (e : En) (va vx : Value) : List Value := [.int .i64 e.kind, .string e.path, va, .string e.target, .int .i64 e.size, .string e.digest, vx]
/-- the value of an entry, as a struct -/
def enV (e : En) (va vx : Value) : Value := .agg #[.int .i64 e.kind, .string e.path, va, .string e.target, .int .i64 e.size, .string e.digest, vx]
/-- a block that holds given cells of type T -/
def Box (W : World) (B : Nat) (cs : List Value) (T : TypeId) : Prop := W.heap[B]? = some (.cells cs.toArray T (0, 0))
theorem Box.lt {W : World} {B : Nat} {cs : List Value} {T : TypeId} (h : Box W B cs T) : B < W.heap.size := (Array.getElem?_eq_some_iff.1 h).1
theorem Box.new (W : World) (cs : List Value) (T : TypeId) : Box (W.alloc (.cells cs.toArray T)) W.heap.size cs T := heap_alloc_new W _
theorem Box.below {W W' : World} {B : Nat} {cs : List Value} {T : TypeId} (h : Box W B cs T) (hb : Below W.heap.size W W') : Box W' B cs T := (hb.block B h.lt).trans h
theorem Box.below' {W W' : World} {B n : Nat} {cs : List Value} {T : TypeId} (h : Box W B cs T) (hb : Below n W W') (hn : B < n) : Box W' B cs T := (hb.block B hn).trans h
theorem Box.cell {W : World} {B : Nat} {cs : List Value} {T : TypeId} (h : Box W B cs T) (j : Nat) : W.cell? ⟨B, j, none⟩ = cs[j]? := by
  unfold World.cell?
  rw [show W.heap[B]? = _ from h]; simp
theorem Box.frozen {W : World} {B : Nat} {cs : List Value} {T : TypeId} (h : Box W B cs T) (j : Nat) : W.frozen? ⟨B, j, none⟩ = false := by
  unfold World.frozen?
  rw [show W.heap[B]? = _ from h]; simp
end Go.Proofs.YtpkapcijgldhhaaGreatDoor

namespace Go.Proofs.YtpkapcijgldhhaaGreatDoor
open Go.RowKit Go.Shelf

theorem keySet_ascii : ∀ (j : Nat) b, (⟨#[97, 98, 99, 100, 101, 102, 103, 104, 105, 106, 107, 108, 109, 110, 111, 112, 113, 114, 115, 116, 117, 118, 119, 120, 121, 122, 48, 49, 50, 51, 52, 53, 54, 55, 56, 57, 46, 95, 45]⟩ : ByteArray).data.toList[j]? = some b → b.toNat < 128 := by
  intro j b h
  have hm : b ∈ keySet := List.mem_of_getElem? h
  have : keySet.all (fun c => decide (c.toNat < 128)) = true := by decide
  simpa using List.all_eq_true.1 this b hm
theorem trim_keys_any (d : ByteArray) (w : World) (hs : d.size ≤ 9223372036854775807) :
    Calls Tryz.prog 173 #[.string d, .string ⟨#[97, 98, 99, 100, 101, 102, 103, 104, 105, 106, 107, 108, 109, 110, 111, 112, 113, 114, 115, 116, 117, 118, 119, 120, 121, 122, 48, 49, 50, 51, 52, 53, 54, 55, 56, 57, 46, 95, 45]⟩] w fun e w' =>
      ∃ t : ByteArray, e = .returned (.string t) ∧ Hid (t.data.toList = [] ↔ d.data.toList.all okC = true) ∧ Below w.heap.size w w' := by
  refine (Any.strings_Trim_laid Tryz.lays160 (by kernel_rfl) d ⟨#[97, 98, 99, 100, 101, 102, 103, 104, 105, 106, 107, 108, 109, 110, 111, 112, 113, 114, 115, 116, 117, 118, 119, 120, 121, 122, 48, 49, 50, 51, 52, 53, 54, 55, 56, 57, 46, 95, 45]⟩ w hs (by decide) keySet_ascii).mono ?_
  rintro e w1 ⟨rfl, hb⟩
  exact ⟨_, rfl, trim_keys _, hb⟩
def keyE (l : List UInt8) : Int := if keyB l then 0 else 7
theorem keyE_no {l : List UInt8} (h : keyB l = false) : keyE l = 7 := by rw [keyE, h]; rfl
theorem keyE_yes {l : List UInt8} (h : keyB l = true) : keyE l = 0 := by rw [keyE, h]; rfl
theorem keyB_of (s : ByteArray) : keyB s.data.toList = (decide (1 ≤ s.size) && decide (s.size ≤ 32) && s.data.toList.all okC) := rfl
set_option maxHeartbeats 1000000 in
theorem key_any (s : ByteArray) (w : World) (hs : s.size ≤ 1000000) : Calls Tryz.prog 235 #[.string s] w (IntP (keyE s.data.toList) w) := by
  have HT := Lib.hid (fun w => trim_keys_any s w (by omega))
  by_cases h0 : s.data.toList = []
  · have he : s.toList.isEmpty = true := by rw [isEmpty_list, h0]; rfl
    have HK : Hid (keyE s.data.toList = 7) := by rw [Hid, h0]; rfl
    clear h0
    go_enter Tryz.func235, Tryz.ntmps235
    go_wp2_with fail
    go_ret
    exact ⟨ret_int HK.out.symm, below_refl _⟩
  have he : s.toList.isEmpty = false := by rw [isEmpty_list]; simpa using h0
  have hpos : 1 ≤ s.size := size_pos h0
  clear h0
  by_cases h1 : 32 < s.size
  · have HK : Hid (keyE s.data.toList = 7) := keyE_no (by rw [keyB_of, decide_eq_false (show ¬ s.size ≤ 32 by omega)]; simp)
    go_enter Tryz.func235, Tryz.ntmps235
    go_wp2_with fail
    go_ret
    exact ⟨ret_int HK.out.symm, below_refl _⟩
  have HK := Lib.hid (keyB_of s)
  rw [decide_eq_true hpos, decide_eq_true (show s.size ≤ 32 by omega), Bool.true_and, Bool.true_and] at HK
  go_enter Tryz.func235, Tryz.ntmps235
  go_wp2_with fail
  refine (HT.out _).mono ?_
  rintro e w1 ⟨t, rfl, ht, hb⟩
  by_cases ha : s.data.toList.all okC = true
  · have hte : t.toList.isEmpty = true := by rw [isEmpty_list, ht.out.2 ha]; rfl
    rw [ha] at HK
    clear ht HT ha
    go_wp2_with fail
    go_ret
    exact ⟨ret_int (keyE_yes HK.out).symm, hb⟩
  · have hte : t.toList.isEmpty = false := by
      rw [isEmpty_list]
      have : ¬ t.data.toList = [] := fun e => ha (ht.out.1 e)
      simpa using this
    rw [show s.data.toList.all okC = false from by simpa using ha] at HK
    clear ht HT ha
    go_wp2_with fail
    go_ret
    exact ⟨ret_int (keyE_no HK.out).symm, hb⟩
set_option maxHeartbeats 1000000 in
theorem attr_any (k v : ByteArray) (w : World) (hk : k.size ≤ 1000000) (hv : v.size ≤ 1000000) : Calls Tryz.prog 214 #[.agg #[.string k, .string v]] w (IntP (attrOne k v) w) := by
  have HK := Lib.hid (fun w => key_any k w hk)
  have HA : Hid (attrOne k v = if keyB k.data.toList = false then 7 else if 64 < v.size then 6 else 0) := rfl
  have hb0 : Below w.heap.size w (w.alloc (.cells #[.string k, .string v] 192)) := (below_refl _).alloc (Nat.le_refl _) _
  cases hkb : keyB k.data.toList
  · rw [keyE_no hkb] at HK
    rw [if_pos hkb] at HA
    clear hkb
    go_enter Tryz.func214, Tryz.ntmps214
    go_wp2_with fail
    refine (HK.out _).mono ?_
    rintro e w1 ⟨rfl, hb⟩
    go_wp2_with fail
    go_ret
    exact ⟨ret_int HA.out.symm, step2 hb0 hb⟩
  · rw [keyE_yes hkb] at HK
    rw [if_neg (by rw [hkb]; decide)] at HA
    clear hkb
    by_cases h64 : 64 < v.size
    · rw [if_pos h64] at HA
      go_enter Tryz.func214, Tryz.ntmps214
      go_wp2_with fail
      refine (HK.out _).mono ?_
      rintro e w1 ⟨rfl, hb⟩
      have c1 : w1.cell? ⟨w.heap.size, 1, none⟩ = some (.string v) := (hb.cell (p := ⟨w.heap.size, 1, none⟩) (by simp)).trans (alloc_new_cell _ _ _ 1)
      go_wp2_with fail
      go_ret
      exact ⟨ret_int HA.out.symm, step2 hb0 hb⟩
    · rw [if_neg h64] at HA
      go_enter Tryz.func214, Tryz.ntmps214
      go_wp2_with fail
      refine (HK.out _).mono ?_
      rintro e w1 ⟨rfl, hb⟩
      have c1 : w1.cell? ⟨w.heap.size, 1, none⟩ = some (.string v) := (hb.cell (p := ⟨w.heap.size, 1, none⟩) (by simp)).trans (alloc_new_cell _ _ _ 1)
      go_wp2_with fail
      go_ret
      exact ⟨ret_int HA.out.symm, step2 hb0 hb⟩
theorem cmp_range : ∀ (a b : List UInt8), Lib.compareBytes a b = -1 ∨ Lib.compareBytes a b = 0 ∨ Lib.compareBytes a b = 1
  | [], [] => .inr (.inl rfl)
  | [], _ :: _ => .inl rfl
  | _ :: _, [] => .inr (.inr rfl)
  | a :: r, b :: s => by
    rw [Lib.compareBytes]
    split
    · exact .inl rfl
    · split
      · exact .inr (.inr rfl)
      · exact cmp_range r s
theorem neq0 {e : Int} (h : ¬ e = 0) : ((e == 0) = false) ∧ ((e != 0) = true) := by simp [h]
/-- what an element of the row gives -/
theorem attrE_bad {A : List At} {k : Nat} {e : Int} (h : attrOne (atAt A k).key (atAt A k).value = e) (he : e ≠ 0) : attrE A k = e := by rw [attrE, h, if_neg he]
theorem attrE_first {A : List At} (h : attrOne (atAt A 0).key (atAt A 0).value = 0) : attrE A 0 = 0 := by rw [attrE, if_pos h, if_pos rfl]
theorem attrE_next {A : List At} {m : Nat} (h : attrOne (atAt A (m + 1)).key (atAt A (m + 1)).value = 0) : attrE A (m + 1) = attrTwo (atAt A m).key (atAt A (m + 1)).key := by
  rw [attrE, if_pos h, if_neg (by omega), Nat.add_sub_cancel]
theorem attrsE_stop {A : List At} {k : Nat} {e : Int} (h16 : ¬ 16 < A.length) (h : firstE (attrE A) k = 0) (hk : k < A.length) (he : attrE A k = e) (h0 : e ≠ 0) : attrsE A = e := by
  rw [attrsE, if_neg h16, firstE_stop h (by rw [he]; exact h0) hk, he]
set_option maxRecDepth 100000 in
set_option maxHeartbeats 2000000 in
theorem attrs1 (b o cap : Nat) (A : List At) (w : World) (h0 : 0 < A.length) (h16 : ¬ 16 < A.length) (hb : b < w.heap.size) (hA : AtAt w b o A) (hok : ∀ i, AtOk (atAt A i)) :
    Calls Tryz.prog 183 #[.slice (some ⟨b, o, none⟩) A.length cap] w (IntP (attrsE A) w) := by
  have HC := Lib.hid hA
  have HOK := Lib.hid hok
  clear hA hok
  go_enter Tryz.func183, Tryz.ntmps183
  go_wp2_with fail
  go_loopw [11] (fun i wr => ∃ k : Nat, k ≤ A.length ∧ i = .int .i64 k ∧ Hid (firstE (attrE A) k = 0) ∧ Below w.heap.size w wr) (fun i _ => A.length - (intOf i).toNat)
  case atStart => exact ⟨0, by omega, rfl, rfl, below_refl _⟩
  case round =>
    obtain ⟨k, hk, rfl, hE, hbw⟩ := hrel
    by_cases hlt : k < A.length
    · have HCr := Lib.hid (show AtAt wr b o A from HC.out.below hbw hb)
      obtain ⟨c0, c1⟩ := atCells HCr.out hlt
      have hx := HOK.out k
      have HX := Lib.hid (fun w => attr_any (atAt A k).key (atAt A k).value w hx.key hx.value)
      have hbs := hbw.size
      have hbW : Below wr.heap.size wr (wr.alloc (.cells #[.string (atAt A k).key, .string (atAt A k).value] 192)) := (below_refl wr).alloc (Nat.le_refl _) _
      have hbX := Box.new wr (atAt A k).vals 192
      have S1 := Lib.hid (fun e => @attrE_bad A k e)
      have S2 := Lib.hid (fun e => @attrsE_stop A k e h16 hE.out hlt)
      have S3 := Lib.hid (fun h : attrE A k = 0 => firstE_next hE.out h)
      have S4 := Lib.hid (fun h : k = 0 => show attrOne (atAt A k).key (atAt A k).value = 0 → attrE A k = 0 from by subst h; exact attrE_first)
      have S5 := Lib.hid (fun m (h : k = m + 1) => show attrOne (atAt A k).key (atAt A k).value = 0 → attrE A k = attrTwo (atAt A m).key (atAt A k).key from by subst h; exact attrE_next)
      change Box (wr.alloc (.cells #[.string (atAt A k).key, .string (atAt A k).value] 192)) _ _ _ at hbX
      rw [At.vals] at hbX
      generalize (atAt A k).key = kk at *
      generalize (atAt A k).value = kv at *
      by_cases h1 : attrOne kk kv = 0
      case neg =>
        obtain ⟨q1, q2⟩ := neq0 h1
        have HR := Lib.hid (S2.out _ (S1.out _ rfl h1) h1)
        clear h1 S1 S2 S3 S4 S5 hE HCr hx
        generalize attrOne kk kv = e1 at *
        go_wp2_with fail
        refine (HX.out _).mono ?_
        rintro e w2 ⟨rfl, hb2⟩
        go_wp2_with fail
        go_ret
        exact ⟨ret_int HR.out.symm, step2 hbw (step2 hbW hb2)⟩
      rw [h1] at HX
      have H1 := Lib.hid h1
      clear S1 h1
      by_cases hk0 : k = 0
      · have HE2 := Lib.hid (S3.out (S4.out hk0 H1.out))
        subst hk0
        simp only [Nat.zero_mul, Nat.add_zero] at c0 c1
        clear S2 S3 S4 S5 hE HCr hx H1
        go_wp2_with fail
        refine (HX.out _).mono ?_
        rintro e w2 ⟨rfl, hb2⟩
        go_wp2_with fail
        go_roundw
        case rel => exact ⟨0 + 1, by omega, by go_num, HE2, step2 hbw (step2 hbW hb2)⟩
        case measure => simp [intOf]; omega
      · obtain ⟨m, hm⟩ : ∃ m, k = m + 1 := ⟨k - 1, by omega⟩
        have H5 := Lib.hid (S5.out m hm H1.out)
        obtain ⟨d0, _⟩ := atCells HCr.out (i := m) (by omega)
        generalize (atAt A m).key = kp at *
        subst hm
        clear S4 S5 hE HCr hx H1
        have HT : Hid (attrTwo kp kk = if Lib.compareBytes kp.data.toList kk.data.toList = 0 then 8 else if Lib.compareBytes kp.data.toList kk.data.toList = 1 then 14 else 0) := rfl
        have HCM := Lib.hid (fun W => Tryz.strings_Compare kp kk W)
        have HCR := Lib.hid (cmp_range kp.data.toList kk.data.toList)
        generalize Lib.compareBytes kp.data.toList kk.data.toList = cv at *
        go_wp2_with fail
        refine (HX.out _).mono ?_
        rintro e w2 ⟨rfl, hb2⟩
        have HB2 := hbX.below hb2
        have x0 : w2.cell? ⟨wr.heap.size, 0, none⟩ = some (.string kk) := HB2.cell 0
        have hb3 := step2 hbw (step2 hbW hb2)
        have d0' : w2.cell? ⟨b, o + m * 2, none⟩ = some (.string kp) := ((step2 hbW hb2).cell (p := ⟨b, o + m * 2, none⟩) (by show b < _; omega)).trans d0
        clear c0 c1 d0 HX hbX HB2
        go_upto_region 10 with (fail)
        have wm : IntKind.i64.wrap (m : Int) = m := IntWalk.i64_in _ (by omega)
        have wm1 : IntKind.i64.wrap (((m + 1 : Nat) : Int) - 1) = m := by rw [show ((m + 1 : Nat) : Int) - 1 = m from by omega]; exact wm
        have hml : (m : Int) < (A.length : Int) := by omega
        go_quiet ((go_at_call 215; exact Calls.quiet_of_same (HCM.out _)))
        clear wm wm1 HCM x0 d0'
        rcases HCR.out with rfl | rfl | rfl
        · have HE2 := Lib.hid (S3.out (H5.out.trans HT.out))
          clear S2 S3 HT HCR
          go_wp2_with fail
          go_roundw
          case rel => exact ⟨m + 1 + 1, by omega, by go_num, HE2, below_drewN hb3 _⟩
          case measure => simp [intOf]; omega
        · have HR := Lib.hid (S2.out 8 (H5.out.trans HT.out) (by decide))
          clear S2 S3 HT HCR
          go_wp2_with fail
          go_ret
          exact ⟨ret_int HR.out.symm, below_drewN hb3 _⟩
        · have HR := Lib.hid (S2.out 14 (H5.out.trans HT.out) (by decide))
          clear S2 S3 HT HCR
          go_wp2_with fail
          go_ret
          exact ⟨ret_int HR.out.symm, below_drewN hb3 _⟩
    · obtain rfl : k = A.length := by omega
      have HR : Hid (attrsE A = 0) := by rw [Hid, attrsE, if_neg h16]; exact hE.out
      go_wp2_with fail
      go_ret
      exact ⟨ret_int HR.out.symm, hbw⟩
end Go.Proofs.YtpkapcijgldhhaaGreatDoor

namespace Go.Proofs.YtpkapcijgldhhaaGreatDoor
open Go.RowKit Go.Shelf

theorem attrCheck_any (v : Value) (A : List At) (w : World) (hr : AtRow w v A) (hok : ∀ i, AtOk (atAt A i)) :
    Calls Tryz.prog 183 #[v] w (IntP (attrsE A) w) := by
  obtain ⟨hmax, hr⟩ := hr
  unfold maxLen at hmax
  by_cases h16 : 16 < A.length
  · have hv : ∃ a cap, v = .slice a A.length cap := by
      rcases hr with ⟨rfl, a, cap, rfl, _⟩ | ⟨_, b, o, cap, rfl, _⟩
      · exact ⟨a, cap, rfl⟩
      · exact ⟨_, cap, rfl⟩
    have HR : Hid (attrsE A = 6) := by rw [Hid, attrsE, if_pos h16]
    obtain ⟨a, cap, rfl⟩ := hv
    clear hr hok
    generalize A.length = n at *
    go_enter Tryz.func183, Tryz.ntmps183
    go_wp2_with fail
    go_ret
    exact ⟨ret_int HR.out.symm, below_refl _⟩
  rcases hr with ⟨rfl, a, cap, rfl, _⟩ | ⟨h0, b, o, cap, rfl, _, _, hb, hA⟩
  · have HR : Hid (attrsE [] = 0) := rfl
    clear hok
    go_enter Tryz.func183, Tryz.ntmps183
    go_wp2_with fail
    refine wp_loop_rounds 1 ?_; rw [rounds_succ]
    go_wp2_with fail
    go_ret
    exact ⟨ret_int HR.out.symm, below_refl _⟩
  · exact attrs1 b o cap A w h0 h16 hb hA hok

theorem cmp_eq0 : ∀ (a b : List UInt8), (b == a) = decide (Lib.compareBytes a b = 0)
  | [], [] => rfl
  | [], _ :: _ => rfl
  | _ :: _, [] => rfl
  | a :: r, b :: s => by
    have ih := cmp_eq0 r s
    rw [Lib.compareBytes, List.cons_beq_cons]
    by_cases h1 : a < b
    · have : ¬ b = a := fun e => by subst e; exact absurd h1 (UInt8.lt_irrefl _)
      simp [h1, this]
    · by_cases h2 : b < a
      · have : ¬ b = a := fun e => by subst e; exact absurd h2 (UInt8.lt_irrefl _)
        simp [h1, h2, this]
      · have : b = a := UInt8.le_antisymm (UInt8.not_lt.1 h1) (UInt8.not_lt.1 h2)
        subst this
        simp only [h1, if_false, beq_self_eq_true, Bool.true_and]
        exact ih
theorem cmp_less : ∀ (a b : List UInt8), Op.bytesLess b a = decide (Lib.compareBytes a b = 1)
  | [], [] => rfl
  | [], _ :: _ => rfl
  | _ :: _, [] => rfl
  | a :: r, b :: s => by
    have ih := cmp_less r s
    rw [Lib.compareBytes, Op.bytesLess]
    by_cases h1 : a < b
    · have h3 : ¬ b < a := fun e => absurd (UInt8.lt_trans h1 e) (UInt8.lt_irrefl _)
      have : ¬ b = a := fun e => by subst e; exact absurd h1 (UInt8.lt_irrefl _)
      simp [h1, h3, this]
    · by_cases h2 : b < a
      · simp [h1, h2]
      · have : b = a := UInt8.le_antisymm (UInt8.not_lt.1 h1) (UInt8.not_lt.1 h2)
        subst this
        simp only [h1, if_false, beq_self_eq_true, Bool.true_and, decide_false, Bool.false_or]
        exact ih
/-! equality -/
open Classical in
noncomputable def isB (p : Prop) : Bool := decide p
theorem isB_yes {p : Prop} (h : p) : isB p = true := by unfold isB; simp [h]
theorem isB_no {p : Prop} (h : ¬ p) : isB p = false := by unfold isB; simp [h]
theorem isB_iff {p q : Prop} (h : p ↔ q) : isB p = isB q := by rw [propext h]
end Go.Proofs.YtpkapcijgldhhaaGreatDoor
