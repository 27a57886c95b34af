/-
  A directory text is accepted: the reference.
  A directory text is accepted: the program.
  The directory of a session out of frames, in the reference.
  The directory of a session out of frames, in the program.
  The examples of the chapter; the bound on collections.
  Chapter 45: the law of directories, walked out of the contracts.
-/
import Derived.Test.YtpkapcijgldhhaaGreatDoorMh
import Derived.Test.YtpkapcijgldhhaaGreatDoorEntRows
import Derived.Test.YtpkapcijgldhhaaGreatDoorMe
import Derived.Test.YtpkapcijgldhhaaGreatDoorHdW
import Derived.Test.YtpkapcijgldhhaaGreatDoorMg
import Derived.Test.YtpkapcijgldhhaaGreatDoorMb
import Derived.Test.YtpkapcijgldhhaaGreatDoorHash
import Derived.Deep.RegionHeld3
import Derived.Test.YtpkapcijgldhhaaGreatDoorMf
import Derived.Test.YtpkapcijgldhhaaGreatDoorSum
import Derived.Test.YtpkapcijgldhhaaGreatDoorMi
import Derived.Maps.OwnIn
import Derived.Maps.Views
namespace Go.Proofs.YtpkapcijgldhhaaGreatDoor
open Go.RowKit Go.Shelf
def AccQ (b : Bool) (w : World) (e : Ending) (w' : World) : Prop := e = .returned (.int .i64 (if b then 1 else 0)) ∧ Below w.heap.size w w'
theorem cut_str (b : ByteArray) (k : Nat) : (b.extract 8 k).data.toList = (b.data.toList.take k).drop 8 := by
  simp [List.drop_take]
theorem one_sumRf (st : ByteArray) (W W' : World) (h : st.size ≤ 1000000000) (hb : Below (W.alloc (.cells #[.string st] 9)).heap.size (W.alloc (.cells #[.string st] 9)) W') : Calls Tryz.prog 28 #[.slice (some ⟨W.heap.size, 0, none⟩) 1 1] W' (StrP (sumB st.data.toList) W') := by
  have e : (([st] : List ByteArray).map fun s => s.data.toList).flatten = st.data.toList := by simp
  have := sumR_any _ [st] _ ((strs_new W [st] 9 (by simp [maxLen])).below hb) (by rw [e]; have : st.data.toList.length = st.size := rfl; omega)
  rw [e] at this
  exact this
set_option maxRecDepth 100000 in
set_option maxHeartbeats 40000000 in
theorem acceptedR_any (s root : ByteArray) (session : Int) (w : World) (hs : s.size ≤ 1000000) :
    Calls Tryz.prog 34 #[.string s, .int .i64 session, .string root] w (AccQ (isB (AccR s.data.toList session root.data.toList)) w) := by
  have HD := Lib.hid (qdecode_walk s w hs)
  go_enter Tryz.func34, Tryz.ntmps34
  go_wp2_with fail
  refine HD.out.mono ?_
  intro e w1 he
  clear HD
  rcases hd : dirR s.data.toList with x | x
  · rw [hd] at he
    obtain ⟨rfl, hb1⟩ := he
    have Ho := Lib.hid (acc_err (s := session) (root := root.data.toList) hd)
    obtain ⟨x1, x2⟩ := neq0 (nz_dirR _ _ hd)
    obtain ⟨kP, bP⟩ := boxr w1 [.int .i64 0, .int .i64 0, .string ⟨#[]⟩, .slice none 0 0, .string ⟨#[]⟩, .string ⟨#[]⟩] 53
    have k2 := step2 hb1 kP
    clear hd
    go_wp2_with fail
    go_ret
    rw [Ho.out]
    exact ⟨rfl, k2⟩
  rw [hd] at he
  obtain ⟨v, rfl, ho, hb1⟩ := he
  obtain ⟨va, vc, rfl⟩ := ho.row.form
  obtain ⟨kP, bP⟩ := boxr w1 [.int .i64 x.number, .int .i64 x.date, .string (bA' x.prev), .slice va x.entries.length vc, .string ⟨#[]⟩, .string (bA' x.sl)] 53
  have k2 := step2 hb1 kP
  obtain ⟨W2, hW2⟩ : ∃ W2, w1.alloc (.cells [.int .i64 x.number, .int .i64 x.date, .string (bA' x.prev), .slice va x.entries.length vc, .string ⟨#[]⟩, .string (bA' x.sl)].toArray 53) = W2 := ⟨_, rfl⟩
  rw [hW2] at kP bP k2
  have Hd := Lib.hid hd
  clear hd ho
  go_upto_region 2 with (fail)
  clear hW2 hb1
  have c0 : W2.cell? ⟨w1.heap.size, 0, none⟩ = some (.int .i64 x.number) := bP.cell 0
  have c5 : W2.cell? ⟨w1.heap.size, 5, none⟩ = some (.string (bA' x.sl)) := bP.cell 5
  by_cases hn : x.number = session
  case neg =>
    have Ho := Lib.hid (acc_num (root := root.data.toList) Hd.out hn)
    have y1 : (x.number != session) = true := bne_iff_ne.2 hn
    clear hn
    go_wp2_with fail
    go_ret
    rw [Ho.out]
    exact ⟨rfl, k2⟩
  have y1 : (x.number != session) = false := by rw [hn]; simp
  by_cases hr : root = ⟨#[]⟩
  · subst hr
    have Ho := Lib.hid (acc_plain Hd.out hn)
    clear hn
    go_wp2_with fail
    go_ret
    rw [show isB (AccR s.data.toList session (⟨#[]⟩ : ByteArray).data.toList) = true from Ho.out]
    exact ⟨rfl, k2⟩
  have y2 : (root.toList == []) = false := by rw [ByteArray.toList_eq]; exact beq_eq_false_iff_ne.2 (fun h => hr (str_inj h))
  have Ho := Lib.hid (acc_root (root := root.data.toList) Hd.out hn (fun h => hr (str_inj h)))
  have hsb := sealed_bd Hd.out
  have hsl := strL_ge x.sl
  have hsz : s.data.toList.length = s.size := rfl
  have HS := Lib.hid (refString_any (bA' x.sl) W2 (by show x.sl.length ≤ _; omega))
  rw [bA'_list] at HS
  clear hr hn
  go_wp2_with fail
  refine HS.out.mono ?_
  rintro e w3 ⟨t, rfl, ht, rfl⟩
  have k3 := k2
  have kB := below_refl W2
  clear HS
  have htz : t.size = (strL x.sl).length := by rw [← toList_size, ht.out]
  obtain ⟨m, hm⟩ : ∃ m : Nat, s.size - (strL x.sl).length = m := ⟨_, rfl⟩
  have hm1 : (s.size : Int) - (t.size : Int) = (m : Int) := by omega
  have hm2 : IntKind.i64.wrap ((s.size : Int) - (t.size : Int)) = (m : Int) := by rw [hm1]; exact IntWalk.i64_in _ (by omega)
  have hm3 : 8 ≤ m := by omega
  have hm4 : m ≤ s.size := by omega
  have hm5 : (8 : Int) ≤ (m : Int) ∧ (m : Int) ≤ (s.size : Int) := by omega
  have hse : Hid ((s.extract 8 m).data.toList = sealed s.data.toList x) := by
    rw [Hid, cut_str, sealed, ← hm, hsz]
  have hxz : (s.extract 8 m).size ≤ 1000000000 := by simp; omega
  go_upto_region 7 with (fail)
  try rw [hm]
  generalize s.extract 8 m = sg at *
  have b0 := below_refl W2
  have bA := b0.alloc (Nat.le_refl _) (.cells #[.string sg] 9)
  have HSB := Lib.hid (one_sumRf sg W2 (World.drew (World.alloc W2 (.cells #[.string sg] 9))) hxz (below_drew0 (below_refl _)))
  have bd := below_drew0 b0
  have bAd := below_drew0 bA
  have HC := Lib.hid (show ∀ W, Below W2.heap.size W2 W → W.cell? ⟨w1.heap.size, 5, none⟩ = some (.string (bA' x.sl)) from fun W hW => (bP.below hW).cell 5)
  have s0 := HC.out _ bd
  have s1 := HC.out _ bAd
  rw [← hse.out] at Ho
  have HV := Lib.hid (show ∀ W (d : ByteArray), Below W2.heap.size W2 W → d.data.toList = sumB sg.data.toList → Calls Tryz.prog 68 #[.string root, .string d, .string (bA' x.sl)] W (VerP (verifyL root.data.toList (sumB sg.data.toList) x.sl) W) from fun W d hW hd => by
    have hdz : d.size ≤ 32 := by rw [← toList_size, hd, sumB_length]; decide
    have := verifyR_any root d (bA' x.sl) W (by omega) (by show x.sl.length ≤ _; omega)
    rw [hd, bA'_list] at this; exact this)
  clear ht htz hm hm1 hm2 hm3 hm4 hm5 hse hsb hsl hsz c0 
  go_region_held3 (fun W => W.cell? ⟨w1.heap.size, 5, none⟩ = some (.string (bA' x.sl)))
    (with_reducible assumption)
    (first
      | (go_at_call 28; (with_reducible refine HSB.out.mono ?_); rintro e w4 ⟨d, rfl, hdd, hb4⟩; have k4 := step2 bAd hb4; have s4 := HC.out _ k4)
      | (go_at_call 68; (with_reducible refine (HV.out _ d k4 hdd.out).mono ?_); rintro e w5 ⟨kn, kx, rfl, hv, hb5⟩; have k5 := step2 k4 hb5; have s5 := HC.out _ k5))
  have kF := step2 k3 k5
  clear HV HC HSB s0 s1 s4 s5 k4 k5
  rw [hv.out] at Ho
  dsimp only at Ho
  by_cases hk : kx = 0
  · subst hk
    replace Ho := Lib.hid (Ho.out.trans (isB_yes rfl))
    clear hv
    go_wp2_with fail
    go_ret
    rw [Ho.out]
    exact ⟨rfl, kF⟩
  · replace Ho := Lib.hid (Ho.out.trans (isB_no hk))
    obtain ⟨z1, z2⟩ := neq0 hk
    clear hv hk
    go_wp2_with fail
    go_ret
    rw [Ho.out]
    exact ⟨rfl, kF⟩
end Go.Proofs.YtpkapcijgldhhaaGreatDoor

namespace Go.Proofs.YtpkapcijgldhhaaGreatDoor
open Go.RowKit Go.Shelf
theorem one_sumPf (st : ByteArray) (W W' : World) (h : st.size ≤ 1000000000) (hb : Below (W.alloc (.cells #[.string st] 9)).heap.size (W.alloc (.cells #[.string st] 9)) W') : Calls Tryz.prog 64 #[.slice (some ⟨W.heap.size, 0, none⟩) 1 1] W' (StrP (sumB st.data.toList) W') := by
  have e : (([st] : List ByteArray).map fun s => s.data.toList).flatten = st.data.toList := by simp
  have := sum_any _ [st] _ ((strs_new W [st] 9 (by simp [maxLen])).below hb) (by simp) (by rw [e]; have : st.data.toList.length = st.size := rfl; omega)
  rw [e] at this
  exact this
set_option maxRecDepth 100000 in
set_option maxHeartbeats 40000000 in
theorem accepted_any (s root : ByteArray) (session : Int) (w : World) (he : Env w) (hm : HasMax w) (hs : s.size ≤ 1000000) :
    Calls Tryz.prog 32 #[.string s, .int .i64 session, .string root] w (BoolP (isB (AccR s.data.toList session root.data.toList)) w) := by
  have HE := Lib.hid (show ∀ W, Below w.heap.size w W → Env W from fun W hW => he.below hW)
  have HD := Lib.hid (ddecode_walk s w hs he hm)
  clear he hm
  go_enter Tryz.func32, Tryz.ntmps32
  go_wp2_with fail
  refine HD.out.mono ?_
  intro e w1 he
  clear HD
  rcases hd : dirR s.data.toList with x | x
  · rw [hd] at he
    obtain ⟨rfl, hb1⟩ := he
    have Ho := Lib.hid (acc_err (s := session) (root := root.data.toList) hd)
    obtain ⟨x1, x2⟩ := neq0 (nz_dirR _ _ hd)
    obtain ⟨kP, bP⟩ := boxr w1 [.int .i64 0, .int .i64 0, .string ⟨#[]⟩, .slice none 0 0, .string ⟨#[]⟩, .string ⟨#[]⟩] 53
    have k2 := step2 hb1 kP
    clear hd
    go_wp2_with fail
    go_ret
    rw [Ho.out]
    exact ⟨rfl, k2⟩
  rw [hd] at he
  obtain ⟨v, rfl, ho, hb1⟩ := he
  obtain ⟨va, vc, rfl⟩ := ho.row.form
  obtain ⟨kP, bP⟩ := boxr w1 [.int .i64 x.number, .int .i64 x.date, .string (bA' x.prev), .slice va x.entries.length vc, .string ⟨#[]⟩, .string (bA' x.sl)] 53
  have k2 := step2 hb1 kP
  obtain ⟨W2, hW2⟩ : ∃ W2, w1.alloc (.cells [.int .i64 x.number, .int .i64 x.date, .string (bA' x.prev), .slice va x.entries.length vc, .string ⟨#[]⟩, .string (bA' x.sl)].toArray 53) = W2 := ⟨_, rfl⟩
  rw [hW2] at kP bP k2
  have Hd := Lib.hid hd
  clear hd ho
  go_upto_region 2 with (fail)
  clear hW2 hb1
  have c0 : W2.cell? ⟨w1.heap.size, 0, none⟩ = some (.int .i64 x.number) := bP.cell 0
  have c5 : W2.cell? ⟨w1.heap.size, 5, none⟩ = some (.string (bA' x.sl)) := bP.cell 5
  by_cases hn : x.number = session
  case neg =>
    have Ho := Lib.hid (acc_num (root := root.data.toList) Hd.out hn)
    have y1 : (x.number != session) = true := bne_iff_ne.2 hn
    clear hn
    go_wp2_with fail
    go_ret
    rw [Ho.out]
    exact ⟨rfl, k2⟩
  have y1 : (x.number != session) = false := by rw [hn]; simp
  by_cases hr : root = ⟨#[]⟩
  · subst hr
    have Ho := Lib.hid (acc_plain Hd.out hn)
    clear hn
    go_wp2_with fail
    go_ret
    rw [show isB (AccR s.data.toList session (⟨#[]⟩ : ByteArray).data.toList) = true from Ho.out]
    exact ⟨rfl, k2⟩
  have y2 : (root.toList == []) = false := by rw [ByteArray.toList_eq]; exact beq_eq_false_iff_ne.2 (fun h => hr (str_inj h))
  have Ho := Lib.hid (acc_root (root := root.data.toList) Hd.out hn (fun h => hr (str_inj h)))
  have hsb := sealed_bd Hd.out
  have hsl := strL_ge x.sl
  have hsz : s.data.toList.length = s.size := rfl
  have HS := Lib.hid (string_any (bA' x.sl) W2 (HE.out _ k2) (by show x.sl.length ≤ _; omega))
  rw [bA'_list] at HS
  clear hr hn
  go_wp2_with fail
  refine HS.out.mono ?_
  rintro e w3 ⟨t, rfl, ht, hb3⟩
  have k3 := step2 k2 hb3
  replace bP := bP.below hb3
  replace c0 : w3.cell? ⟨w1.heap.size, 0, none⟩ = some (.int .i64 x.number) := bP.cell 0
  replace c5 : w3.cell? ⟨w1.heap.size, 5, none⟩ = some (.string (bA' x.sl)) := bP.cell 5
  clear HS
  have htz : t.size = (strL x.sl).length := by rw [← toList_size, ht.out]
  obtain ⟨m, hm⟩ : ∃ m : Nat, s.size - (strL x.sl).length = m := ⟨_, rfl⟩
  have hm1 : (s.size : Int) - (t.size : Int) = (m : Int) := by omega
  have hm2 : IntKind.i64.wrap ((s.size : Int) - (t.size : Int)) = (m : Int) := by rw [hm1]; exact IntWalk.i64_in _ (by omega)
  have hm3 : 8 ≤ m := by omega
  have hm4 : m ≤ s.size := by omega
  have hm5 : (8 : Int) ≤ (m : Int) ∧ (m : Int) ≤ (s.size : Int) := by omega
  have hse : Hid ((s.extract 8 m).data.toList = sealed s.data.toList x) := by
    rw [Hid, cut_str, sealed, ← hm, hsz]
  have hxz : (s.extract 8 m).size ≤ 1000000000 := by simp; omega
  go_upto_region 7 with (fail)
  try rw [hm]
  generalize s.extract 8 m = sg at *
  have b0 := below_refl w3
  have bA := b0.alloc (Nat.le_refl _) (.cells #[.string sg] 9)
  have HSB := Lib.hid (one_sumPf sg w3 (World.drew (World.alloc w3 (.cells #[.string sg] 9))) hxz (below_drew0 (below_refl _)))
  have bd := below_drew0 b0
  have bAd := below_drew0 bA
  have HC := Lib.hid (show ∀ W, Below w3.heap.size w3 W → W.cell? ⟨w1.heap.size, 5, none⟩ = some (.string (bA' x.sl)) from fun W hW => (bP.below hW).cell 5)
  have s0 := HC.out _ bd
  have s1 := HC.out _ bAd
  rw [← hse.out] at Ho
  have HV := Lib.hid (show ∀ W (d : ByteArray), Below w3.heap.size w3 W → d.data.toList = sumB sg.data.toList → Calls Tryz.prog 63 #[.string root, .string d, .string (bA' x.sl)] W (VerP (verifyL root.data.toList (sumB sg.data.toList) x.sl) W) from fun W d hW hd => by
    have hdz : d.size ≤ 32 := by rw [← toList_size, hd, sumB_length]; decide
    have := verify_any root d (bA' x.sl) W (HE.out _ (step2 k3 hW)) (by omega) (by show x.sl.length ≤ _; omega)
    rw [hd, bA'_list] at this; exact this)
  clear ht htz hm hm1 hm2 hm3 hm4 hm5 hse hsb hsl hsz c0 HE
  go_region_held3 (fun W => W.cell? ⟨w1.heap.size, 5, none⟩ = some (.string (bA' x.sl)))
    (with_reducible assumption)
    (first
      | (go_at_call 64; (with_reducible refine HSB.out.mono ?_); rintro e w4 ⟨d, rfl, hdd, hb4⟩; have k4 := step2 bAd hb4; have s4 := HC.out _ k4)
      | (go_at_call 63; (with_reducible refine (HV.out _ d k4 hdd.out).mono ?_); rintro e w5 ⟨kn, kx, rfl, hv, hb5⟩; have k5 := step2 k4 hb5; have s5 := HC.out _ k5))
  have kF := step2 k3 k5
  clear HV HC HSB s0 s1 s4 s5 k4 k5
  rw [hv.out] at Ho
  dsimp only at Ho
  by_cases hk : kx = 0
  · subst hk
    replace Ho := Lib.hid (Ho.out.trans (isB_yes rfl))
    clear hv
    go_wp2_with fail
    go_ret
    rw [Ho.out]
    exact ⟨rfl, kF⟩
  · replace Ho := Lib.hid (Ho.out.trans (isB_no hk))
    obtain ⟨z1, z2⟩ := neq0 hk
    clear hv hk
    go_wp2_with fail
    go_ret
    rw [Ho.out]
    exact ⟨rfl, kF⟩
end Go.Proofs.YtpkapcijgldhhaaGreatDoor

namespace Go.Proofs.YtpkapcijgldhhaaGreatDoor
open Go.RowKit Go.Shelf
def dirS (o : Option (List UInt8)) : ByteArray := match o with | some t => bA' t | none => ⟨#[]⟩
def dirE (o : Option (List UInt8)) : Int := match o with | some _ => 0 | none => 19
def DirP (o : Option (List UInt8)) (w : World) (e : Ending) (w' : World) : Prop := e = .returned (.tuple #[.string (dirS o), .int .i64 (dirE o)]) ∧ Below w.heap.size w w'
theorem DirP.none {w w' : World} {R : Option (List UInt8)} (h : R = .none) (hb : Below w.heap.size w w') : DirP R w (.returned (.tuple #[.string ⟨#[]⟩, .int .i64 19])) w' := by subst h; exact ⟨rfl, hb⟩
theorem DirP.some {w w' : World} {R : Option (List UInt8)} {t : List UInt8} (h : R = .some t) (hb : Below w.heap.size w w') : DirP R w (.returned (.tuple #[.string (bA' t), .int .i64 0])) w' := by subst h; exact ⟨rfl, hb⟩
set_option maxRecDepth 100000 in
set_option maxHeartbeats 4000000 in
theorem directoryR_any (ar : Int) (v : Value) (F : List Fr) (s : Int) (root : ByteArray) (w : World) (hr : FrRow w v F) (hF : SmallF F) :
    Calls Tryz.prog 14 #[.agg #[.int .u32 ar, v], .int .i64 s, .string root] w (DirP (goD F s root.data.toList 15) w) := by
  have HO := Lib.hid (show ∀ W, Below w.heap.size w W → ∀ k, Calls Tryz.prog 33 #[.agg #[.int .u32 ar, v], .int .i64 s, .int .i64 k] W (PartQ (textR F s k) W) from fun W hW k => textR_any ar v F s k W (hr.below hW) hF)
  have HT := Lib.hid (fun k t (h : textR F s k = some t) => text_bd hF h)
  have HA := Lib.hid (show ∀ W (t : List UInt8), t.length ≤ 100000 → Calls Tryz.prog 34 #[.string (bA' t), .int .i64 s, .string root] W (AccQ (isB (AccR t s root.data.toList)) W) from fun W t ht => by
    have := acceptedR_any (bA' t) root s W (by show t.length ≤ _; omega)
    rw [bA'_list] at this; exact this)
  clear hr hF
  obtain ⟨R, hR⟩ : ∃ R, goD F s root.data.toList 15 = R := ⟨_, rfl⟩
  rw [hR]
  have HR := Lib.hid (show goD F s root.data.toList (15 - 0) = R from hR)
  clear hR
  obtain ⟨kb0, bC0⟩ := boxr w [.int .u32 ar, v] 25
  go_enter Tryz.func14, Tryz.ntmps14
  go_upto_region 1 with (fail)
  obtain ⟨W0, hW0⟩ : ∃ W0, w.alloc (.cells [.int .u32 ar, v].toArray 25) = W0 := ⟨_, rfl⟩
  change Code.wp _ _ _ _ (w.alloc (.cells [.int .u32 ar, v].toArray 25))
  rw [hW0] at kb0 bC0 ⊢
  clear hW0
  go_wp2_with fail
  go_loopw [8, 9] (fun i _ wr => ∃ k : Nat, k ≤ 15 ∧ i = .int .i64 k ∧ Below w.heap.size w wr ∧ Box wr w.heap.size [.int .u32 ar, v] 25 ∧ Hid (goD F s root.data.toList (15 - k) = R)) (fun i _ _ => 15 - (intOf i).toNat)
  case atStart => exact ⟨0, by omega, rfl, kb0, bC0, HR⟩
  case round =>
    clear HR kb0 bC0
    obtain ⟨k, hk, rfl, kb, bC, hg⟩ := hrel
    by_cases hlt : k < 15
    · obtain ⟨c0, c1⟩ := bC.cells2
      have HP := Lib.hid (HO.out _ kb k)
      go_wp2_with fail
      refine HP.out.mono ?_
      rintro e w4 ⟨he, hb4⟩
      have k4 := step2 kb hb4
      have bC4 := bC.below hb4
      clear HP c0 c1 kb bC
      rcases hp : textR F s k with _ | t
      · rw [hp] at he
        obtain rfl := he
        have hs : Hid (goD F s root.data.toList (15 - (k + 1)) = R) := (goD_no hlt hp).symm.trans hg.out
        obtain ⟨kP, bP⟩ := boxr w4 (partV none) 75
        have k5 := step2 k4 kP
        have bC5 := bC4.below kP
        obtain ⟨W5, hW5⟩ : ∃ W5, w4.alloc (.cells (partV none).toArray 75) = W5 := ⟨_, rfl⟩
        rw [hW5] at kP bP k5 bC5
        clear hp hg
        dsimp only [partV]
        go_upto_region 5 with (fail)
        change Code.wp _ _ _ _ (w4.alloc (.cells (partV none).toArray 75))
        rw [hW5]
        clear hW5 bC4 k4 hb4
        obtain ⟨p0, p1⟩ := bP.cells2
        go_wp2_with fail
        go_roundw
        case rel => exact ⟨k + 1, by omega, by go_num, k5, bC5, hs⟩
        case measure => simp [intOf]; omega
      · rw [hp] at he
        obtain rfl := he
        have htb := HT.out _ _ hp
        obtain ⟨kP, bP⟩ := boxr w4 (partV (some t)) 75
        have k5 := step2 k4 kP
        have bC5 := bC4.below kP
        obtain ⟨W5, hW5⟩ : ∃ W5, w4.alloc (.cells (partV (some t)).toArray 75) = W5 := ⟨_, rfl⟩
        rw [hW5] at kP bP k5 bC5
        dsimp only [partV]
        go_upto_region 5 with (fail)
        change Code.wp _ _ _ _ (w4.alloc (.cells (partV (some t)).toArray 75))
        rw [hW5]
        clear hW5 bC4 k4 hb4
        obtain ⟨p0, p1⟩ := bP.cells2
        have HQ := Lib.hid (HA.out W5 t htb)
        go_wp2_with fail
        refine HQ.out.mono ?_
        rintro e w6 ⟨he, hb6⟩
        have k6 := step2 k5 hb6
        have bC6 := bC5.below hb6
        obtain ⟨p0, p1⟩ := (bP.below hb6).cells2
        clear HQ
        cases ha : isB (AccR t s root.data.toList) with
        | true =>
          rw [ha] at he
          obtain rfl := he
          have hs : Hid (R = some t) := hg.out.symm.trans (goD_yes hlt hp ha)
          clear hg hp ha
          go_wp2_with fail
          go_ret2
          exact .some hs.out k6
        | false =>
          rw [ha] at he
          obtain rfl := he
          have hs : Hid (goD F s root.data.toList (15 - (k + 1)) = R) := (goD_not hlt hp ha).symm.trans hg.out
          clear hg hp ha
          go_wp2_with fail
          go_roundw
          case rel => exact ⟨k + 1, by omega, by go_num, k6, bC6, hs⟩
          case measure => simp [intOf]; omega
    · obtain rfl : k = 15 := by omega
      have hs : Hid (R = none) := hg.out.symm
      clear hg
      go_wp2_with fail
      go_ret2
      exact .none hs.out kb
end Go.Proofs.YtpkapcijgldhhaaGreatDoor

namespace Go.Proofs.YtpkapcijgldhhaaGreatDoor
open Go.RowKit Go.Shelf
set_option maxRecDepth 100000 in
set_option maxHeartbeats 4000000 in
theorem directory_any (ar : Int) (v : Value) (F : List Fr) (s : Int) (root : ByteArray) (w : World) (he : Env w) (hm : HasMax w) (hr : FrRow w v F) (hF : SmallF F) :
    Calls Tryz.prog 13 #[.agg #[.int .u32 ar, v], .int .i64 s, .string root] w (DirP (goD F s root.data.toList 15) w) := by
  have HO := Lib.hid (show ∀ W, Below w.heap.size w W → ∀ k : Nat, k < 15 → Calls Tryz.prog 31 #[.agg #[.int .u32 ar, v], .int .i64 s, .int .i64 k] W (PartP (textR F s k) W) from fun W hW k hk => text_any ar v F s k hk W (hr.below hW) hF)
  have HT := Lib.hid (fun k t (h : textR F s k = some t) => text_bd hF h)
  have HA := Lib.hid (show ∀ W (t : List UInt8), Below w.heap.size w W → t.length ≤ 100000 → Calls Tryz.prog 32 #[.string (bA' t), .int .i64 s, .string root] W (BoolP (isB (AccR t s root.data.toList)) W) from fun W t hW ht => by
    have := accepted_any (bA' t) root s W (he.below hW) (hm.below hW) (by show t.length ≤ _; omega)
    rw [bA'_list] at this; exact this)
  clear hr hF he hm
  obtain ⟨R, hR⟩ : ∃ R, goD F s root.data.toList 15 = R := ⟨_, rfl⟩
  rw [hR]
  have HR := Lib.hid (show goD F s root.data.toList (15 - 0) = R from hR)
  clear hR
  obtain ⟨kb0, bC0⟩ := boxr w [.int .u32 ar, v] 25
  go_enter Tryz.func13, Tryz.ntmps13
  go_upto_region 1 with (fail)
  obtain ⟨W0, hW0⟩ : ∃ W0, w.alloc (.cells [.int .u32 ar, v].toArray 25) = W0 := ⟨_, rfl⟩
  change Code.wp _ _ _ _ (w.alloc (.cells [.int .u32 ar, v].toArray 25))
  rw [hW0] at kb0 bC0 ⊢
  clear hW0
  go_wp2_with fail
  go_loopw [8, 9, 10, 11] (fun _ _ _ i wr => ∃ k : Nat, k ≤ 15 ∧ i = .int .i64 k ∧ Below w.heap.size w wr ∧ Box wr w.heap.size [.int .u32 ar, v] 25 ∧ Hid (goD F s root.data.toList (15 - k) = R)) (fun _ _ _ i _ => 15 - (intOf i).toNat)
  case atStart => exact ⟨0, by omega, rfl, kb0, bC0, HR⟩
  case round =>
    clear HR kb0 bC0
    obtain ⟨k, hk, rfl, kb, bC, hg⟩ := hrel
    by_cases hlt : k < 15
    · obtain ⟨c0, c1⟩ := bC.cells2
      have HP := Lib.hid (HO.out _ kb k hlt)
      go_wp2_with fail
      refine HP.out.mono ?_
      rintro e w4 ⟨he, hb4⟩
      have k4 := step2 kb hb4
      have bC4 := bC.below hb4
      clear HP c0 c1 kb bC hb4
      rcases hp : textR F s k with _ | t
      · rw [hp] at he
        obtain ⟨x, rfl⟩ := he
        have hs : Hid (goD F s root.data.toList (15 - (k + 1)) = R) := (goD_no hlt hp).symm.trans hg.out
        clear hp hg
        go_wp2_with fail
        go_roundw
        case rel => exact ⟨k + 1, by omega, by go_num, k4, bC4, hs⟩
        case measure => simp [intOf]; omega
      · rw [hp] at he
        obtain rfl := he
        have htb := HT.out _ _ hp
        have HQ := Lib.hid (HA.out w4 t k4 htb)
        go_wp2_with fail
        refine HQ.out.mono ?_
        rintro e w6 ⟨he, hb6⟩
        have k6 := step2 k4 hb6
        have bC6 := bC4.below hb6
        clear HQ k4 bC4 hb6
        cases ha : isB (AccR t s root.data.toList) with
        | true =>
          rw [ha] at he
          obtain rfl := he
          have hs : Hid (R = some t) := hg.out.symm.trans (goD_yes hlt hp ha)
          clear hg hp ha
          go_wp2_with fail
          go_ret2
          exact .some hs.out k6
        | false =>
          rw [ha] at he
          obtain rfl := he
          have hs : Hid (goD F s root.data.toList (15 - (k + 1)) = R) := (goD_not hlt hp ha).symm.trans hg.out
          clear hg hp ha
          go_wp2_with fail
          go_roundw
          case rel => exact ⟨k + 1, by omega, by go_num, k6, bC6, hs⟩
          case measure => simp [intOf]; omega
    · obtain rfl : k = 15 := by omega
      have hs : Hid (R = none) := hg.out.symm
      clear hg
      go_wp2_with fail
      go_ret2
      exact .none hs.out kb
end Go.Proofs.YtpkapcijgldhhaaGreatDoor

namespace Go.Proofs.YtpkapcijgldhhaaGreatDoor
open Go.RowKit Go.Shelf
attribute [local go_sem] Oper.semAt_some
theorem fold_nil (s i : Int) : ∀ k, foldS [] s i k = some none
  | 0 => rfl
  | k + 1 => by rw [foldS, fold_nil s i k]; rfl
theorem part_nil (s fm i : Int) : partR [] s fm i = none := by rw [part_fold (by rfl), fold_nil]
theorem text_nil (s fm : Int) : textR [] s fm = none := text_none (part_nil s fm 0)
theorem goD_nil (s : Int) (root : List UInt8) : ∀ k, goD [] s root k = none
  | 0 => rfl
  | k + 1 => by rw [goD, text_nil]; exact goD_nil s root k
theorem smallF_nil : SmallF [] := ⟨Nat.zero_le _, fun f hf => by cases hf⟩
theorem frRow_nil (w : World) : FrRow w (.slice none 0 0) [] := ⟨Nat.zero_le _, .inl ⟨rfl, none, 0, rfl, fun _ => rfl⟩⟩
theorem infoLay : (Tryz.prog.info? 39).map (·.size) = some 2 := by kernel_rfl
set_option maxRecDepth 100000 in
set_option maxHeartbeats 4000000 in
theorem layout0_any (s : Int) (w : World) : Calls Tryz.prog 35 #[.agg #[.int .u32 0, .slice none 0 0], .int .i64 s] w (fun e w' => e = .returned (.tuple #[.agg #[.int .i64 0, .int .i64 0], .int .i64 19]) ∧ Below w.heap.size w w') := by
  have hmm := @run_makeMap Tryz.prog
  have hm0 := (World.ownsMap_made ((w.alloc (.cells #[.int .u32 0, .slice none 0 0] 25)).alloc (.cells #[.int .i64 0, .int .i64 0] 39)) Tryz.prog 39 (plainElem (H := Unit) Tryz.prog 4)).alloc (.cells #[.int .i64 0, .int .i64 0] 39)
  have hln := hm0.len Tryz.underlying123 3
  simp only [World.size_alloc] at hln
  clear hm0
  go_enter Tryz.func35, Tryz.ntmps35
  go_wp2_with fail
  refine wp_loop_rounds 1 ?_; rw [rounds_succ]
  go_wp2_with fail
  obtain ⟨k1, _⟩ := boxr w [.int .u32 0, .slice none 0 0] 25
  obtain ⟨k2, b2⟩ := boxr (w.alloc (.cells [.int .u32 0, .slice none 0 0].toArray 25)) [.int .i64 0, .int .i64 0] 39
  have k3 : Below ((w.alloc (.cells [.int .u32 0, .slice none 0 0].toArray 25)).alloc (.cells [.int .i64 0, .int .i64 0].toArray 39)).heap.size ((w.alloc (.cells [.int .u32 0, .slice none 0 0].toArray 25)).alloc (.cells [.int .i64 0, .int .i64 0].toArray 39)) (((w.alloc (.cells [.int .u32 0, .slice none 0 0].toArray 25)).alloc (.cells [.int .i64 0, .int .i64 0].toArray 39)).alloc (.map #[] 0)) := (Below.refl _ _).alloc (Nat.le_refl _) _
  obtain ⟨k4, _⟩ := boxr (((w.alloc (.cells [.int .u32 0, .slice none 0 0].toArray 25)).alloc (.cells [.int .i64 0, .int .i64 0].toArray 39)).alloc (.map #[] 0)) [.int .i64 0, .int .i64 0] 39
  have hb := (b2.below k3).below k4
  have kb := step2 (step2 (step2 k1 k2) k3) k4
  rw [World.size_alloc] at hb
  clear hln hmm k1 k2 k3 k4 b2
  refine bodyPost_ret (results_cell_tmp_mid rfl _ _ (w.heap.size + 1) 0 rfl [.int .i64 0, .int .i64 0] _ (fun j v hv => by rw [Nat.zero_add]; exact (hb.cell j).trans hv) Tryz.underlying39 rfl infoLay) rfl ⟨rfl, kb⟩
theorem outside_any (n m : Int) (w : World) (h : 0 ≤ n ∧ n ≤ m) : Calls Tryz.prog 42 #[.int .i64 n, .int .i64 m] w (fun e w' => e = .returned (.bool false) ∧ w' = w) := by
  go_enter Tryz.func42, Tryz.ntmps42
  go_wp2_with fail
  go_ret
  refine ⟨?_, rfl⟩
  rw [show (decide (n < 0) || decide (m < n)) = false from by rw [decide_eq_false (by omega), decide_eq_false (by omega)]; rfl]
  rfl
set_option maxRecDepth 100000 in
set_option maxHeartbeats 4000000 in
theorem block0_any (s : Int) (w : World) : Calls Tryz.prog 15 #[.agg #[.int .u32 0, .slice none 0 0], .int .i64 s, .int .i64 0] w (fun e w' => e = .returned (.tuple #[.string ⟨#[]⟩, .int .i64 19]) ∧ Below w.heap.size w w') := by
  refine (callsIn_wide (n := 9)).1 ?_
  refine callsIn_of_wp_marks Tryz.func15 rfl trivial ?_ rfl
  simp only [Tryz.ntmps15, List.size_toArray, List.length_cons, List.length_nil, Nat.reduceAdd, Nat.reduceSub, Array.replicate_succ, Array.replicate_zero, List.push_toArray, List.append_toArray, List.nil_append, List.cons_append]
  obtain ⟨k1, b1⟩ := boxr w [.int .u32 0, .slice none 0 0] 25
  obtain ⟨k2, b2⟩ := boxr (w.alloc (.cells [.int .u32 0, .slice none 0 0].toArray 25)) [.string ⟨#[]⟩] 9
  obtain ⟨k3, b3⟩ := boxr ((w.alloc (.cells [.int .u32 0, .slice none 0 0].toArray 25)).alloc (.cells [.string ⟨#[]⟩].toArray 9)) [.int .i64 0] 28
  have kb := step2 (step2 k1 k2) k3
  replace b2 := b2.below k3
  replace b1 := (b1.below k2).below k3
  simp only [World.size_alloc] at b2 b3
  obtain ⟨W1, hW1⟩ : ∃ W1, ((w.alloc (.cells [.int .u32 0, .slice none 0 0].toArray 25)).alloc (.cells [.string ⟨#[]⟩].toArray 9)).alloc (.cells [.int .i64 0].toArray 28) = W1 := ⟨_, rfl⟩
  rw [hW1] at b1 b2 b3 kb
  clear k1 k2 k3
  obtain ⟨c0, c1⟩ := b1.cells2
  gi_wp2_with fail
  refine ⟨trivial, (callsIn_wide.2 (layout0_any s W1)).mono ?_⟩
  rintro e w2 ⟨rfl, hb2⟩
  have k2 := step2 kb hb2
  replace b2 := b2.below hb2
  replace b3 := b3.below hb2
  clear hW1 c0 c1 b1 kb hb2
  have r0 : w2.cell? ⟨w.heap.size + 1, 0, none⟩ = some (.string ⟨#[]⟩) := b2.cell 0
  have r1 : w2.cell? ⟨w.heap.size + 1 + 1, 0, none⟩ = some (.int .i64 0) := b3.cell 0
  have g0 : w2.frozen? ⟨w.heap.size + 1, 0, none⟩ = false := b2.frozen 0
  have g1 : w2.frozen? ⟨w.heap.size + 1 + 1, 0, none⟩ = false := b3.frozen 0
  have h1 : w.heap.size + 1 < w2.heap.size := b2.lt
  have h2 : w.heap.size + 1 + 1 < w2.heap.size := b3.lt
  gi_wp2_with fail
  have B2 : Box ((w2.setCell ⟨w.heap.size + 1, 0, none⟩ (.string ⟨#[]⟩)).setCell ⟨w.heap.size + 1 + 1, 0, none⟩ (.int .i64 19)) (w.heap.size + 1) [.string ⟨#[]⟩] 9 := (b2.set (j := 0) _).setOther (j := 0) (by omega) _
  have B3 : Box ((w2.setCell ⟨w.heap.size + 1, 0, none⟩ (.string ⟨#[]⟩)).setCell ⟨w.heap.size + 1 + 1, 0, none⟩ (.int .i64 19)) (w.heap.size + 1 + 1) [.int .i64 19] 28 := (b3.setOther (j := 0) (by omega) _).set (j := 0) _
  have kS : Below w.heap.size w ((w2.setCell ⟨w.heap.size + 1, 0, none⟩ (.string ⟨#[]⟩)).setCell ⟨w.heap.size + 1 + 1, 0, none⟩ (.int .i64 19)) := (k2.setCell (p := ⟨w.heap.size + 1, 0, none⟩) (Nat.le_succ _) _).setCell (p := ⟨w.heap.size + 1 + 1, 0, none⟩) (by show w.heap.size ≤ w.heap.size + 1 + 1; omega) _
  generalize (w2.setCell ⟨w.heap.size + 1, 0, none⟩ (.string ⟨#[]⟩)).setCell ⟨w.heap.size + 1 + 1, 0, none⟩ (.int .i64 19) = WS at *
  obtain ⟨kP, _⟩ := boxr WS [.int .i64 0, .int .i64 0] 39
  have q0 : (WS.alloc (.cells #[.int .i64 0, .int .i64 0] 39)).cell? ⟨w.heap.size + 1, 0, none⟩ = some (.string ⟨#[]⟩) := (B2.below kP).cell 0
  have q1 : (WS.alloc (.cells #[.int .i64 0, .int .i64 0] 39)).cell? ⟨w.heap.size + 1 + 1, 0, none⟩ = some (.int .i64 19) := (B3.below kP).cell 0
  refine ⟨.tuple #[.string ⟨#[]⟩, .int .i64 19], ?_, rfl, step2 kS kP⟩
  simp [results, Tryz.f15, go_sem, q0, q1]
theorem bytes0_any (w : World) : Calls Tryz.prog 17 #[.agg #[.int .u32 0, .slice none 0 0], .agg #[.int .i64 0, .int .i64 0, .int .i64 3]] w (fun e w' => e = .returned (.tuple #[.string ⟨#[0, 0, 0]⟩, .int .i64 0]) ∧ Below w.heap.size w w') := by
  have H1 := Lib.hid (fun W => outside_any 0 255 W (by decide))
  have H2 := Lib.hid (fun W => outside_any 0 2147483647 W (by decide))
  have H3 := Lib.hid (fun W => outside_any 3 65536 W (by decide))
  have HR := Lib.hid (fun W => Tryz.strings_Repeat ⟨#[0]⟩ 3 W (by decide) (by decide))
  obtain ⟨k1, b1⟩ := boxr w [.int .u32 0, .slice none 0 0] 25
  obtain ⟨k2, b2⟩ := boxr (w.alloc (.cells [.int .u32 0, .slice none 0 0].toArray 25)) [.int .i64 0, .int .i64 0, .int .i64 3] 34
  have kb := step2 k1 k2
  rw [World.size_alloc] at b2
  go_enter Tryz.func17, Tryz.ntmps17
  go_upto_region 2 with (fail)
  obtain ⟨W0, hW0⟩ : ∃ W0, (w.alloc (.cells [.int .u32 0, .slice none 0 0].toArray 25)).alloc (.cells [.int .i64 0, .int .i64 0, .int .i64 3].toArray 34) = W0 := ⟨_, rfl⟩
  change Code.wp _ _ _ _ ((w.alloc (.cells [.int .u32 0, .slice none 0 0].toArray 25)).alloc (.cells [.int .i64 0, .int .i64 0, .int .i64 3].toArray 34))
  rw [hW0] at b2 kb ⊢
  clear hW0 k1 k2 b1
  have c0 : W0.cell? ⟨w.heap.size + 1, 0, none⟩ = some (.int .i64 0) := b2.cell 0
  have c1 : W0.cell? ⟨w.heap.size + 1, 1, none⟩ = some (.int .i64 0) := b2.cell 1
  have c2 : W0.cell? ⟨w.heap.size + 1, 2, none⟩ = some (.int .i64 3) := b2.cell 2
  go_wp2_with fail
  refine (H1.out _).mono ?_
  rintro e w1 ⟨rfl, rfl⟩
  go_wp2_with fail
  refine (H2.out _).mono ?_
  rintro e w1 ⟨rfl, rfl⟩
  go_wp2_with fail
  refine (H3.out _).mono ?_
  rintro e w1 ⟨rfl, rfl⟩
  go_wp2_with fail
  refine (HR.out _).mono ?_
  rintro e w1 ⟨rfl, hb1⟩
  go_wp2_with fail
  go_ret2
  exact ⟨rfl, step2 kb hb1⟩
theorem alive45_any (w : World) (he : Env w) (hm : HasMax w) : Calls Tryz.prog 11 #[] w (BoolP true w) := by
  have HD := Lib.hid (directory_any 0 (.slice none 0 0) [] 1 ⟨#[]⟩ w he hm (frRow_nil w) smallF_nil)
  rw [goD_nil] at HD
  go_enter Tryz.func11, Tryz.ntmps11
  go_wp2_with fail
  refine HD.out.mono ?_
  rintro e w1 ⟨rfl, hb1⟩
  dsimp only [dirS, dirE]
  clear HD
  go_wp2_with fail
  refine (block0_any 1 w1).mono ?_
  rintro e w2 ⟨rfl, hb2⟩
  go_wp2_with fail
  refine (bytes0_any w2).mono ?_
  rintro e w3 ⟨rfl, hb3⟩
  go_wp2_with fail
  go_ret
  exact ⟨rfl, step2 (step2 hb1 hb2) hb3⟩
def GrP45 (F : List Fr) (w : World) (e : Ending) (w' : World) : Prop := ∃ g : Int, e = .returned (.int .i64 g) ∧ Hid (g = 1 ∨ (g = 0 ∧ SmallF F)) ∧ Below w.heap.size w w'
set_option maxRecDepth 100000 in
set_option maxHeartbeats 4000000 in
theorem great45_any (ar : Int) (v : Value) (F : List Fr) (w : World) (hr : FrRow w v F) (hz : ∀ i, i < F.length → (frAt F i).payload.size ≤ 9223372036854775807) :
    Calls Tryz.prog 12 #[.agg #[.int .u32 ar, v]] w (GrP45 F w) := by
  have hmax := hr.1
  unfold maxLen at hmax
  have hv : ∃ a c, v = .slice a F.length c ∧ (0 < F.length → ∃ b o, a = some ⟨b, o, none⟩ ∧ b < w.heap.size ∧ FrAt w b o F) := by
    rcases hr.2 with ⟨rfl, a, cap, rfl, _⟩ | ⟨h0, b, o, cap, rfl, _, _, hb, hF⟩
    · exact ⟨a, cap, rfl, fun h => absurd h (Nat.lt_irrefl _)⟩
    · exact ⟨_, cap, rfl, fun _ => ⟨b, o, rfl, hb, hF⟩⟩
  obtain ⟨a, c, rfl, hnz⟩ := hv
  clear hr
  obtain ⟨kb0, bC0⟩ := boxr w [.int .u32 ar, .slice a F.length c] 25
  go_enter Tryz.func12, Tryz.ntmps12
  go_upto_region 1 with (fail)
  obtain ⟨W0, hW0⟩ : ∃ W0, w.alloc (.cells [.int .u32 ar, .slice a F.length c].toArray 25) = W0 := ⟨_, rfl⟩
  change Code.wp _ _ _ _ (w.alloc (.cells [.int .u32 ar, .slice a F.length c].toArray 25))
  rw [hW0] at kb0 bC0 ⊢
  clear hW0
  have c1 : W0.cell? ⟨w.heap.size, 1, none⟩ = some (.slice a F.length c) := bC0.cell 1
  by_cases h4 : 150 < F.length
  · clear hnz hz bC0
    go_wp2_with fail
    go_ret
    exact ⟨1, rfl, .inl rfl, kb0⟩
  have h4i : ¬ (150 : Int) < (F.length : Int) := by omega
  go_wp2_with fail
  go_loopw [4, 12] (fun _ i wr => ∃ k : Nat, k ≤ F.length ∧ i = .int .i64 k ∧ Below w.heap.size w wr ∧ Hid (∀ j, j < k → (frAt F j).payload.size ≤ 100)) (fun _ i _ => F.length - (intOf i).toNat)
  case atStart => exact ⟨0, by omega, rfl, kb0, fun j hj => absurd hj (Nat.not_lt_zero _)⟩
  case round =>
    clear kb0 bC0 c1
    obtain ⟨k, hk, rfl, kb, hs⟩ := hrel
    by_cases hlt : k < F.length
    · obtain ⟨b, o, rfl, hb, hF⟩ := hnz (by omega)
      obtain ⟨q0, q1, q2, q3, q4, q5, q6, q7, q8⟩ := frCells (hF.below kb hb) (i := k) hlt
      have hix : (0 : Int) ≤ (k : Int) ∧ (k : Int) < (F.length : Int) := by omega
      have hzk := hz k hlt
      obtain ⟨kF, bF⟩ := boxr wr (frAt F k).vals 46
      have k1 := step2 kb kF
      obtain ⟨W1, hW1⟩ : ∃ W1, wr.alloc (.cells (frAt F k).vals.toArray 46) = W1 := ⟨_, rfl⟩
      rw [hW1] at kF bF k1
      clear hF hnz hz
      go_upto_region 5 with (fail)
      go_upto_region 6 with (fail)
      change Code.wp _ _ _ _ (wr.alloc (.cells (frAt F k).vals.toArray 46))
      rw [hW1]
      clear hW1 q0 q1 q2 q3 q4 q5 q6 q7 q8
      have z8 : W1.cell? ⟨wr.heap.size, 8, none⟩ = some (.string (frAt F k).payload) := bF.cell 8
      clear bF kF
      by_cases hp : 100 < (frAt F k).payload.size
      · clear hs
        go_wp2_with fail
        go_ret
        exact ⟨1, rfl, .inl rfl, k1⟩
      · have hs2 : Hid (∀ j, j < k + 1 → (frAt F j).payload.size ≤ 100) := fun j hj => by
          by_cases e : j = k
          · subst e; omega
          · exact hs.out j (by omega)
        clear hs
        go_wp2_with fail
        go_roundw
        case rel => exact ⟨k + 1, by omega, by go_num, k1, hs2⟩
        case measure => simp [intOf]; omega
    · obtain rfl : k = F.length := by omega
      have hsm : SmallF F := ⟨by omega, fun f hf => by
        obtain ⟨i, hi, rfl⟩ := List.getElem_of_mem hf
        rw [← frAt_get hi]; exact hs.out i hi⟩
      clear hs hnz hz
      go_wp2_with fail
      go_ret
      exact ⟨0, rfl, .inr ⟨rfl, hsm⟩, kb⟩
end Go.Proofs.YtpkapcijgldhhaaGreatDoor

namespace Go.Proofs.YtpkapcijgldhhaaGreatDoor
open Go.RowKit Go.Shelf
set_option maxRecDepth 100000 in
set_option maxHeartbeats 4000000 in
theorem lawDir45_any (ar : Int) (v : Value) (F : List Fr) (s : Int) (root : ByteArray) (w : World) (he : Env w) (hm : HasMax w) (hr : FrRow w v F) (hz : ∀ i, i < F.length → (frAt F i).payload.size ≤ 9223372036854775807) (_hs : -9223372036854775808 ≤ s ∧ s ≤ 9223372036854775807) (_ht : root.size ≤ 140737488355328) :
    Calls Tryz.prog 3 #[.agg #[.int .u32 ar, v], .int .i64 s, .string root] w (TrueP w) := by
  have HA := Lib.hid (show ∀ W, Below w.heap.size w W → _ from fun W hW => alive45_any W (he.below hW) (hm.below hW))
  have HG := Lib.hid (show ∀ W, Below w.heap.size w W → _ from fun W hW => great45_any ar v F W (hr.below hW) hz)
  have HD := Lib.hid (show ∀ W, Below w.heap.size w W → SmallF F → _ from fun W hW hF => directory_any ar v F s root W (he.below hW) (hm.below hW) (hr.below hW) hF)
  have HR := Lib.hid (show ∀ W, Below w.heap.size w W → SmallF F → _ from fun W hW hF => directoryR_any ar v F s root W (hr.below hW) hF)
  clear he hm hr hz
  generalize goD F s root.data.toList 15 = R at *
  obtain ⟨kb0, bC0⟩ := boxr w [.int .u32 ar, v] 25
  go_enter Tryz.func3, Tryz.ntmps3
  go_upto_region 1 with (fail)
  obtain ⟨W0, hW0⟩ : ∃ W0, w.alloc (.cells [.int .u32 ar, v].toArray 25) = W0 := ⟨_, rfl⟩
  change Code.wp _ _ _ _ (w.alloc (.cells [.int .u32 ar, v].toArray 25))
  rw [hW0] at kb0 bC0 ⊢
  clear hW0
  go_wp2_with fail
  refine (HA.out _ kb0).mono ?_
  rintro e w1 ⟨rfl, hb1⟩
  have k1 := step2 kb0 hb1
  have bC1 := bC0.below hb1
  obtain ⟨c0, c1⟩ := bC1.cells2
  clear HA kb0 bC0 hb1
  go_wp2_with fail
  refine (HG.out _ k1).mono ?_
  rintro e w2 ⟨g, rfl, hg, hb2⟩
  have k2 := step2 k1 hb2
  have bC2 := bC1.below hb2
  obtain ⟨d0, d1⟩ := bC2.cells2
  clear HG c0 c1 k1 bC1 hb2
  rcases hg.out with rfl | ⟨rfl, hF⟩
  · clear HD HR hg
    go_wp2_with fail
    go_ret
    exact ⟨rfl, k2⟩
  have HF := Lib.hid hF
  clear hg hF
  by_cases hl : 100 < root.size
  · clear HD HR HF
    go_wp2_with fail
    go_ret
    exact ⟨rfl, k2⟩
  go_wp2_with fail
  refine (HD.out _ k2 HF.out).mono ?_
  rintro e w3 ⟨rfl, hb3⟩
  have k3 := step2 k2 hb3
  have bC3 := bC2.below hb3
  obtain ⟨e0, e1⟩ := bC3.cells2
  clear HD d0 d1 k2 bC2 hb3
  go_wp2_with fail
  refine (HR.out _ k3 HF.out).mono ?_
  rintro e w4 ⟨rfl, hb4⟩
  have k4 := step2 k3 hb4
  clear HR e0 e1 bC3 hb4
  go_wp2_with fail
  go_ret
  exact ⟨rfl, k4⟩
end Go.Proofs.YtpkapcijgldhhaaGreatDoor
