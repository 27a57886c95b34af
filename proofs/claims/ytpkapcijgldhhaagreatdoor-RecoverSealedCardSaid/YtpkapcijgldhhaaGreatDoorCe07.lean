/-
  The walks of attribute.Check and of its reference.
  The walks of the reference's check of attributes, and of Same and Great.
  The walks of Great and of Equal, the program's and the reference's.
  Chapter 36: an entry among the arguments, opened: a struct with two slices of structs.
-/
import Derived.Test.YtpkapcijgldhhaaGreatDoorCe06
import Derived.BigQuiet
import Derived.IntWalk
import Derived.Test.YtpkapcijgldhhaaGreatDoorCe02
import Derived.Deep.Slices
import Derived.Deep.Fields
import Derived.ChangeSame
namespace Go.Proofs.YtpkapcijgldhhaaGreatDoor
open Go.RowKit Go.Shelf

theorem keySet_ascii : ∀ (j : Nat) b, (⟨#[97, 98, 99, 100, 101, 102, 103, 104, 105, 106, 107, 108, 109, 110, 111, 112, 113, 114, 115, 116, 117, 118, 119, 120, 121, 122, 48, 49, 50, 51, 52, 53, 54, 55, 56, 57, 46, 95, 45]⟩ : ByteArray).data.toList[j]? = some b → b.toNat < 128 := by
  intro j b h
  have hm : b ∈ keySet := List.mem_of_getElem? h
  have : keySet.all (fun c => decide (c.toNat < 128)) = true := by decide
  simpa using List.all_eq_true.1 this b hm
theorem trim_keys_any (d : ByteArray) (w : World) (hs : d.size ≤ 9223372036854775807) :
    Calls Tryz.prog 173 #[.string d, .string ⟨#[97, 98, 99, 100, 101, 102, 103, 104, 105, 106, 107, 108, 109, 110, 111, 112, 113, 114, 115, 116, 117, 118, 119, 120, 121, 122, 48, 49, 50, 51, 52, 53, 54, 55, 56, 57, 46, 95, 45]⟩] w fun e w' =>
      ∃ t : ByteArray, e = .returned (.string t) ∧ Hid (t.data.toList = [] ↔ d.data.toList.all okC = true) ∧ Below w.heap.size w w' := by
  refine (Any.strings_Trim_laid Tryz.lays160 (by kernel_rfl) d ⟨#[97, 98, 99, 100, 101, 102, 103, 104, 105, 106, 107, 108, 109, 110, 111, 112, 113, 114, 115, 116, 117, 118, 119, 120, 121, 122, 48, 49, 50, 51, 52, 53, 54, 55, 56, 57, 46, 95, 45]⟩ w hs (by decide) keySet_ascii).mono ?_
  rintro e w1 ⟨rfl, hb⟩
  exact ⟨_, rfl, trim_keys _, hb⟩
def keyE (l : List UInt8) : Int := if keyB l then 0 else 7
theorem keyE_no {l : List UInt8} (h : keyB l = false) : keyE l = 7 := by rw [keyE, h]; rfl
theorem keyE_yes {l : List UInt8} (h : keyB l = true) : keyE l = 0 := by rw [keyE, h]; rfl
theorem keyB_of (s : ByteArray) : keyB s.data.toList = (decide (1 ≤ s.size) && decide (s.size ≤ 32) && s.data.toList.all okC) := rfl
set_option maxHeartbeats 1000000 in
theorem key_any (s : ByteArray) (w : World) (hs : s.size ≤ 1000000) : Calls Tryz.prog 235 #[.string s] w (IntP (keyE s.data.toList) w) := by
  have HT := Lib.hid (fun w => trim_keys_any s w (by omega))
  by_cases h0 : s.data.toList = []
  · have he : s.toList.isEmpty = true := by rw [isEmpty_list, h0]; rfl
    have HK : Hid (keyE s.data.toList = 7) := by rw [Hid, h0]; rfl
    clear h0
    go_enter Tryz.func235, Tryz.ntmps235
    go_wp2_with fail
    go_ret
    exact ⟨ret_int HK.out.symm, below_refl _⟩
  have he : s.toList.isEmpty = false := by rw [isEmpty_list]; simpa using h0
  have hpos : 1 ≤ s.size := size_pos h0
  clear h0
  by_cases h1 : 32 < s.size
  · have HK : Hid (keyE s.data.toList = 7) := keyE_no (by rw [keyB_of, decide_eq_false (show ¬ s.size ≤ 32 by omega)]; simp)
    go_enter Tryz.func235, Tryz.ntmps235
    go_wp2_with fail
    go_ret
    exact ⟨ret_int HK.out.symm, below_refl _⟩
  have HK := Lib.hid (keyB_of s)
  rw [decide_eq_true hpos, decide_eq_true (show s.size ≤ 32 by omega), Bool.true_and, Bool.true_and] at HK
  go_enter Tryz.func235, Tryz.ntmps235
  go_wp2_with fail
  refine (HT.out _).mono ?_
  rintro e w1 ⟨t, rfl, ht, hb⟩
  by_cases ha : s.data.toList.all okC = true
  · have hte : t.toList.isEmpty = true := by rw [isEmpty_list, ht.out.2 ha]; rfl
    rw [ha] at HK
    clear ht HT ha
    go_wp2_with fail
    go_ret
    exact ⟨ret_int (keyE_yes HK.out).symm, hb⟩
  · have hte : t.toList.isEmpty = false := by
      rw [isEmpty_list]
      have : ¬ t.data.toList = [] := fun e => ha (ht.out.1 e)
      simpa using this
    rw [show s.data.toList.all okC = false from by simpa using ha] at HK
    clear ht HT ha
    go_wp2_with fail
    go_ret
    exact ⟨ret_int (keyE_no HK.out).symm, hb⟩
set_option maxHeartbeats 1000000 in
theorem attr_any (k v : ByteArray) (w : World) (hk : k.size ≤ 1000000) (hv : v.size ≤ 1000000) : Calls Tryz.prog 214 #[.agg #[.string k, .string v]] w (IntP (attrOne k v) w) := by
  have HK := Lib.hid (fun w => key_any k w hk)
  have HA : Hid (attrOne k v = if keyB k.data.toList = false then 7 else if 64 < v.size then 6 else 0) := rfl
  have hb0 : Below w.heap.size w (w.alloc (.cells #[.string k, .string v] 192)) := (below_refl _).alloc (Nat.le_refl _) _
  cases hkb : keyB k.data.toList
  · rw [keyE_no hkb] at HK
    rw [if_pos hkb] at HA
    clear hkb
    go_enter Tryz.func214, Tryz.ntmps214
    go_wp2_with fail
    refine (HK.out _).mono ?_
    rintro e w1 ⟨rfl, hb⟩
    go_wp2_with fail
    go_ret
    exact ⟨ret_int HA.out.symm, step2 hb0 hb⟩
  · rw [keyE_yes hkb] at HK
    rw [if_neg (by rw [hkb]; decide)] at HA
    clear hkb
    by_cases h64 : 64 < v.size
    · rw [if_pos h64] at HA
      go_enter Tryz.func214, Tryz.ntmps214
      go_wp2_with fail
      refine (HK.out _).mono ?_
      rintro e w1 ⟨rfl, hb⟩
      have c1 : w1.cell? ⟨w.heap.size, 1, none⟩ = some (.string v) := (hb.cell (p := ⟨w.heap.size, 1, none⟩) (by simp)).trans (alloc_new_cell _ _ _ 1)
      go_wp2_with fail
      go_ret
      exact ⟨ret_int HA.out.symm, step2 hb0 hb⟩
    · rw [if_neg h64] at HA
      go_enter Tryz.func214, Tryz.ntmps214
      go_wp2_with fail
      refine (HK.out _).mono ?_
      rintro e w1 ⟨rfl, hb⟩
      have c1 : w1.cell? ⟨w.heap.size, 1, none⟩ = some (.string v) := (hb.cell (p := ⟨w.heap.size, 1, none⟩) (by simp)).trans (alloc_new_cell _ _ _ 1)
      go_wp2_with fail
      go_ret
      exact ⟨ret_int HA.out.symm, step2 hb0 hb⟩
theorem cmp_range : ∀ (a b : List UInt8), Lib.compareBytes a b = -1 ∨ Lib.compareBytes a b = 0 ∨ Lib.compareBytes a b = 1
  | [], [] => .inr (.inl rfl)
  | [], _ :: _ => .inl rfl
  | _ :: _, [] => .inr (.inr rfl)
  | a :: r, b :: s => by
    rw [Lib.compareBytes]
    split
    · exact .inl rfl
    · split
      · exact .inr (.inr rfl)
      · exact cmp_range r s
theorem neq0 {e : Int} (h : ¬ e = 0) : ((e == 0) = false) ∧ ((e != 0) = true) := by simp [h]
/-- what an element of the row gives -/
theorem attrE_bad {A : List At} {k : Nat} {e : Int} (h : attrOne (atAt A k).key (atAt A k).value = e) (he : e ≠ 0) : attrE A k = e := by rw [attrE, h, if_neg he]
theorem attrE_first {A : List At} (h : attrOne (atAt A 0).key (atAt A 0).value = 0) : attrE A 0 = 0 := by rw [attrE, if_pos h, if_pos rfl]
theorem attrE_next {A : List At} {m : Nat} (h : attrOne (atAt A (m + 1)).key (atAt A (m + 1)).value = 0) : attrE A (m + 1) = attrTwo (atAt A m).key (atAt A (m + 1)).key := by
  rw [attrE, if_pos h, if_neg (by omega), Nat.add_sub_cancel]
theorem attrsE_stop {A : List At} {k : Nat} {e : Int} (h16 : ¬ 16 < A.length) (h : firstE (attrE A) k = 0) (hk : k < A.length) (he : attrE A k = e) (h0 : e ≠ 0) : attrsE A = e := by
  rw [attrsE, if_neg h16, firstE_stop h (by rw [he]; exact h0) hk, he]
set_option maxRecDepth 100000 in
set_option maxHeartbeats 2000000 in
theorem attrs1 (b o cap : Nat) (A : List At) (w : World) (h0 : 0 < A.length) (h16 : ¬ 16 < A.length) (hb : b < w.heap.size) (hA : AtAt w b o A) (hok : ∀ i, AtOk (atAt A i)) :
    Calls Tryz.prog 183 #[.slice (some ⟨b, o, none⟩) A.length cap] w (IntP (attrsE A) w) := by
  have HC := Lib.hid hA
  have HOK := Lib.hid hok
  clear hA hok
  go_enter Tryz.func183, Tryz.ntmps183
  go_wp2_with fail
  go_loopw [11] (fun i wr => ∃ k : Nat, k ≤ A.length ∧ i = .int .i64 k ∧ Hid (firstE (attrE A) k = 0) ∧ Below w.heap.size w wr) (fun i _ => A.length - (intOf i).toNat)
  case atStart => exact ⟨0, by omega, rfl, rfl, below_refl _⟩
  case round =>
    obtain ⟨k, hk, rfl, hE, hbw⟩ := hrel
    by_cases hlt : k < A.length
    · have HCr := Lib.hid (show AtAt wr b o A from HC.out.below hbw hb)
      obtain ⟨c0, c1⟩ := atCells HCr.out hlt
      have hx := HOK.out k
      have HX := Lib.hid (fun w => attr_any (atAt A k).key (atAt A k).value w hx.key hx.value)
      have hbs := hbw.size
      have hbW : Below wr.heap.size wr (wr.alloc (.cells #[.string (atAt A k).key, .string (atAt A k).value] 192)) := (below_refl wr).alloc (Nat.le_refl _) _
      have hbX := Box.new wr (atAt A k).vals 192
      have S1 := Lib.hid (fun e => @attrE_bad A k e)
      have S2 := Lib.hid (fun e => @attrsE_stop A k e h16 hE.out hlt)
      have S3 := Lib.hid (fun h : attrE A k = 0 => firstE_next hE.out h)
      have S4 := Lib.hid (fun h : k = 0 => show attrOne (atAt A k).key (atAt A k).value = 0 → attrE A k = 0 from by subst h; exact attrE_first)
      have S5 := Lib.hid (fun m (h : k = m + 1) => show attrOne (atAt A k).key (atAt A k).value = 0 → attrE A k = attrTwo (atAt A m).key (atAt A k).key from by subst h; exact attrE_next)
      change Box (wr.alloc (.cells #[.string (atAt A k).key, .string (atAt A k).value] 192)) _ _ _ at hbX
      rw [At.vals] at hbX
      generalize (atAt A k).key = kk at *
      generalize (atAt A k).value = kv at *
      by_cases h1 : attrOne kk kv = 0
      case neg =>
        obtain ⟨q1, q2⟩ := neq0 h1
        have HR := Lib.hid (S2.out _ (S1.out _ rfl h1) h1)
        clear h1 S1 S2 S3 S4 S5 hE HCr hx
        generalize attrOne kk kv = e1 at *
        go_wp2_with fail
        refine (HX.out _).mono ?_
        rintro e w2 ⟨rfl, hb2⟩
        go_wp2_with fail
        go_ret
        exact ⟨ret_int HR.out.symm, step2 hbw (step2 hbW hb2)⟩
      rw [h1] at HX
      have H1 := Lib.hid h1
      clear S1 h1
      by_cases hk0 : k = 0
      · have HE2 := Lib.hid (S3.out (S4.out hk0 H1.out))
        subst hk0
        simp only [Nat.zero_mul, Nat.add_zero] at c0 c1
        clear S2 S3 S4 S5 hE HCr hx H1
        go_wp2_with fail
        refine (HX.out _).mono ?_
        rintro e w2 ⟨rfl, hb2⟩
        go_wp2_with fail
        go_roundw
        case rel => exact ⟨0 + 1, by omega, by go_num, HE2, step2 hbw (step2 hbW hb2)⟩
        case measure => simp [intOf]; omega
      · obtain ⟨m, hm⟩ : ∃ m, k = m + 1 := ⟨k - 1, by omega⟩
        have H5 := Lib.hid (S5.out m hm H1.out)
        obtain ⟨d0, _⟩ := atCells HCr.out (i := m) (by omega)
        generalize (atAt A m).key = kp at *
        subst hm
        clear S4 S5 hE HCr hx H1
        have HT : Hid (attrTwo kp kk = if Lib.compareBytes kp.data.toList kk.data.toList = 0 then 8 else if Lib.compareBytes kp.data.toList kk.data.toList = 1 then 14 else 0) := rfl
        have HCM := Lib.hid (fun W => Tryz.strings_Compare kp kk W)
        have HCR := Lib.hid (cmp_range kp.data.toList kk.data.toList)
        generalize Lib.compareBytes kp.data.toList kk.data.toList = cv at *
        go_wp2_with fail
        refine (HX.out _).mono ?_
        rintro e w2 ⟨rfl, hb2⟩
        have HB2 := hbX.below hb2
        have x0 : w2.cell? ⟨wr.heap.size, 0, none⟩ = some (.string kk) := HB2.cell 0
        have hb3 := step2 hbw (step2 hbW hb2)
        have d0' : w2.cell? ⟨b, o + m * 2, none⟩ = some (.string kp) := ((step2 hbW hb2).cell (p := ⟨b, o + m * 2, none⟩) (by show b < _; omega)).trans d0
        clear c0 c1 d0 HX hbX HB2
        go_upto_region 10 with (fail)
        have wm : IntKind.i64.wrap (m : Int) = m := IntWalk.i64_in _ (by omega)
        have wm1 : IntKind.i64.wrap (((m + 1 : Nat) : Int) - 1) = m := by rw [show ((m + 1 : Nat) : Int) - 1 = m from by omega]; exact wm
        have hml : (m : Int) < (A.length : Int) := by omega
        go_quiet ((go_at_call 215; exact Calls.quiet_of_same (HCM.out _)))
        clear wm wm1 HCM x0 d0'
        rcases HCR.out with rfl | rfl | rfl
        · have HE2 := Lib.hid (S3.out (H5.out.trans HT.out))
          clear S2 S3 HT HCR
          go_wp2_with fail
          go_roundw
          case rel => exact ⟨m + 1 + 1, by omega, by go_num, HE2, below_drewN hb3 _⟩
          case measure => simp [intOf]; omega
        · have HR := Lib.hid (S2.out 8 (H5.out.trans HT.out) (by decide))
          clear S2 S3 HT HCR
          go_wp2_with fail
          go_ret
          exact ⟨ret_int HR.out.symm, below_drewN hb3 _⟩
        · have HR := Lib.hid (S2.out 14 (H5.out.trans HT.out) (by decide))
          clear S2 S3 HT HCR
          go_wp2_with fail
          go_ret
          exact ⟨ret_int HR.out.symm, below_drewN hb3 _⟩
    · obtain rfl : k = A.length := by omega
      have HR : Hid (attrsE A = 0) := by rw [Hid, attrsE, if_neg h16]; exact hE.out
      go_wp2_with fail
      go_ret
      exact ⟨ret_int HR.out.symm, hbw⟩
end Go.Proofs.YtpkapcijgldhhaaGreatDoor

namespace Go.Proofs.YtpkapcijgldhhaaGreatDoor
open Go.RowKit Go.Shelf

theorem attrCheck_any (v : Value) (A : List At) (w : World) (hr : AtRow w v A) (hok : ∀ i, AtOk (atAt A i)) :
    Calls Tryz.prog 183 #[v] w (IntP (attrsE A) w) := by
  obtain ⟨hmax, hr⟩ := hr
  unfold maxLen at hmax
  by_cases h16 : 16 < A.length
  · have hv : ∃ a cap, v = .slice a A.length cap := by
      rcases hr with ⟨rfl, a, cap, rfl, _⟩ | ⟨_, b, o, cap, rfl, _⟩
      · exact ⟨a, cap, rfl⟩
      · exact ⟨_, cap, rfl⟩
    have HR : Hid (attrsE A = 6) := by rw [Hid, attrsE, if_pos h16]
    obtain ⟨a, cap, rfl⟩ := hv
    clear hr hok
    generalize A.length = n at *
    go_enter Tryz.func183, Tryz.ntmps183
    go_wp2_with fail
    go_ret
    exact ⟨ret_int HR.out.symm, below_refl _⟩
  rcases hr with ⟨rfl, a, cap, rfl, _⟩ | ⟨h0, b, o, cap, rfl, _, _, hb, hA⟩
  · have HR : Hid (attrsE [] = 0) := rfl
    clear hok
    go_enter Tryz.func183, Tryz.ntmps183
    go_wp2_with fail
    refine wp_loop_rounds 1 ?_; rw [rounds_succ]
    go_wp2_with fail
    go_ret
    exact ⟨ret_int HR.out.symm, below_refl _⟩
  · exact attrs1 b o cap A w h0 h16 hb hA hok

/-! equality -/
open Classical in
noncomputable def isB (p : Prop) : Bool := decide p
theorem isB_yes {p : Prop} (h : p) : isB p = true := by unfold isB; simp [h]
theorem isB_no {p : Prop} (h : ¬ p) : isB p = false := by unfold isB; simp [h]
theorem isB_iff {p q : Prop} (h : p ↔ q) : isB p = isB q := by rw [propext h]
end Go.Proofs.YtpkapcijgldhhaaGreatDoor

namespace Go.Proofs.YtpkapcijgldhhaaGreatDoor
open Go.RowKit Go.Shelf

theorem size_one (w : World) (o : Obj) : (w.alloc o).heap.size = w.heap.size + 1 := by simp
end Go.Proofs.YtpkapcijgldhhaaGreatDoor

namespace Go.Proofs.YtpkapcijgldhhaaGreatDoor
open Go.ChangeShapes Go.WideShapes Go.ChangeAt Go.RowKit Go.Deep
theorem en_str_cells : Tryz.prog.cellsOf 9 = 1 := by kernel_rfl
theorem en_int_cells : Tryz.prog.cellsOf 3 = 1 := by kernel_rfl
theorem grow_nil {α : Type} {n : Nat} {f : α → List Value} {d : α} (w : World) (a : Option Addr) (c : Nat) (h : a = none → c = 0) : GRow n f d w (.slice a 0 c) [] := ⟨Nat.zero_le _, .inl ⟨rfl, a, c, rfl, h⟩⟩
section
variable {H : Type} {enc : TypeId × Value → H} {w : World} {base : Nat} {spare : Nat → Bool} {held : Bool}
set_option maxRecDepth 100000 in
/-- a slice of structs, read as data, is a row -/
theorem grow_of {α : Type} {n : Nat} {f : α → List Value} {d : α} {P : α → Prop} {T E : TypeId} (hT : Tryz.prog.underlying T = some (.slice E)) (hC : Tryz.prog.cellsOf E = n) (hn : 0 < n) (hf : ∀ x, (f x).length = n) (hd : P d)
    (elem : ∀ {k : Nat} {cs : List Value} {y : DataW H × List MemPlace}, cs.length = n → DataW.trod enc Tryz.prog w base (fun _ => true) true k E cs = some y → ∃ c : α, cs = f c ∧ P c)
    {a0 : Option Addr} {len cap fuel : Nat} {y : DataW H × List MemPlace} (h : DataW.trod enc Tryz.prog w base (fun _ => true) true fuel T [Value.slice a0 len cap] = some y) :
    ∃ L : List α, GRow n f d w (.slice a0 len cap) L ∧ ∀ j, P (L.getD j d) := by
  rcases open_slice hT h with ⟨hcs, _⟩ | ⟨a, len', cap', m, n', D, Pl, hcs, _, hl, hm, hmm, _, hx⟩
  · have hcs' : Value.slice a0 len cap = Value.slice none 0 0 := by simpa using hcs
    rw [hcs']
    exact ⟨[], grow_nil w none 0 (fun _ => rfl), fun j => by simpa using hd⟩
  · have hcs' : Value.slice a0 len cap = Value.slice (some a) len' cap' := by simpa using hcs
    rw [hcs']
    simp only [if_true] at hmm
    subst hmm
    by_cases h0 : len' = 0
    · subst h0
      exact ⟨[], grow_nil w (some a) m (fun e => by cases e), fun j => by simpa using hd⟩
    have each : ∀ i, i < m → ∃ c : α, P c ∧ ∀ j v, (f c)[j]? = some v → w.cell? ((a.add (i * n)).add j) = some v := fun i hi => by
      obtain ⟨cs', h1, h2⟩ := hx i hi
      rw [hC] at h1
      obtain ⟨_, hlen, hcell⟩ := World.cells?_some h1
      obtain ⟨c, rfl, hwf⟩ := elem hlen h2
      refine ⟨c, hwf, fun j v hv => ?_⟩
      have hj : j < n := by have := (List.getElem?_eq_some_iff.1 hv).1; rwa [hf] at this
      rw [← hv]; exact hcell j hj
    haveI : Inhabited α := ⟨d⟩
    obtain ⟨q, hq⟩ := choose_lt each
    have hsp : a.spot = none := by
      obtain ⟨v, hv⟩ : ∃ v, (f (q 0))[0]? = some v := ⟨_, List.getElem?_eq_getElem (by rw [hf]; exact hn)⟩
      have := (hq 0 (by omega)).2 0 _ hv
      unfold World.cell? at this
      split at this
      · split at this
        · cases this
        · rename_i hs
          cases hsp : a.spot with
          | none => rfl
          | some x => exfalso; apply hs; unfold Addr.add; simp [hsp]
      · cases this
    obtain ⟨b, o, sp⟩ := a
    simp only at hsp
    subst hsp
    have hget : ∀ i, i < len' → ((List.range len').map q).getD i d = q i := fun i hi => by
      rw [List.getD_eq_getElem?_getD, List.getElem?_eq_getElem (by simpa using hi)]; simp
    have hcellq : ∀ i, i < len' → w.rangeAt b (o + i * n) (f (q i)) := fun i hi j v hv => by
      have h1 := (hq i (by omega)).2 j v hv
      rw [Addr.add_mid, Addr.add_mid] at h1; exact h1
    refine ⟨(List.range len').map q, ⟨by simp; omega, .inr ⟨by simp; omega, b, o, m, by simp, by simpa using hl, hm, ?_, ?_⟩⟩, fun j => ?_⟩
    · obtain ⟨v, hv⟩ : ∃ v, (f (q 0))[0]? = some v := ⟨_, List.getElem?_eq_getElem (by rw [hf]; exact hn)⟩
      exact World.block_lt_of_cell? w _ (hcellq 0 (by omega) 0 _ hv)
    · intro i hi
      have hi' : i < len' := by simpa using hi
      rw [hget i hi']; exact hcellq i hi'
    · by_cases hj : j < len'
      · rw [hget j hj]; exact (hq j (by omega)).1
      · rw [List.getD_eq_getElem?_getD, List.getElem?_eq_none (by simp; omega)]; exact hd
end
theorem laidOutE : laidOutB Tryz.prog = true := by kernel_rfl
end Go.Proofs.YtpkapcijgldhhaaGreatDoor
