/-
  A sealed directory text is accepted under its root alone. Plain.
  The reference's signed part of a session that is valid, whatever it holds.
  The reference's encoding of a session, whatever it holds.
  A directory text is accepted: the reference.
-/
import Derived.Test.YtpkapcijgldhhaaGreatDoorCf01
import Derived.Test.YtpkapcijgldhhaaGreatDoorCf02
import Derived.Test.YtpkapcijgldhhaaGreatDoorCf03
import Derived.Test.YtpkapcijgldhhaaGreatDoorCf19
import Derived.Test.YtpkapcijgldhhaaGreatDoorCf04
import Derived.Test.YtpkapcijgldhhaaGreatDoorCf05
import Derived.Test.YtpkapcijgldhhaaGreatDoorCf06
import Derived.Test.YtpkapcijgldhhaaGreatDoorCf07
import Derived.Test.YtpkapcijgldhhaaGreatDoorCf08
import Derived.Test.YtpkapcijgldhhaaGreatDoorCf14
import Derived.Test.YtpkapcijgldhhaaGreatDoorCf15
import Derived.Test.YtpkapcijgldhhaaGreatDoorCf16
import Derived.Test.YtpkapcijgldhhaaGreatDoorCf09
import Derived.Test.YtpkapcijgldhhaaGreatDoorCf10
import Derived.Test.YtpkapcijgldhhaaGreatDoorCf11
import Derived.Test.YtpkapcijgldhhaaGreatDoorCf12
import Derived.Test.YtpkapcijgldhhaaGreatDoorCe27
import Derived.Test.YtpkapcijgldhhaaGreatDoorCe32
import Derived.Test.YtpkapcijgldhhaaGreatDoorCe19
import Derived.Test.YtpkapcijgldhhaaGreatDoorCe06
import Derived.Test.YtpkapcijgldhhaaGreatDoorCe24
import Derived.Test.YtpkapcijgldhhaaGreatDoorCe10
import Derived.Test.YtpkapcijgldhhaaGreatDoorCe17
import Derived.Deep.RegionHeld3
namespace Go.Proofs.YtpkapcijgldhhaaGreatDoor
open Go.RowKit Go.Shelf
theorem sgnE_seal {s : Se} (h : sgnE s = 0) {g : ByteArray} (hg : g.size ≤ 2000) : sgnE { s with sl := g } = 0 := by
  unfold sgnE at h ⊢
  show (if fieldsE s.number s.date s.prev.size = 0 then (if 14680064 < s.stream.size ∨ 400 < s.entries.length then 6 else if entsE s.entries = 0 then (if 2000 < g.size ∨ 90000000 < (signedL s).length then 6 else 0) else entsE s.entries) else fieldsE s.number s.date s.prev.size) = (0 : Int)
  split at h
  · rename_i h0
    rw [if_pos h0]
    split at h
    · cases h
    rename_i h1
    rw [if_neg h1]
    split at h
    · rename_i h2
      rw [if_pos h2]
      split at h
      · cases h
      rename_i h3
      rw [if_neg (by omega)]
    · rename_i h2
      rw [if_neg h2]; exact h
  · rename_i h0
    rw [if_neg h0]; exact h
theorem signedL_seal (s : Se) (g : ByteArray) : signedL { s with sl := g } = signedL s := rfl
theorem textL_len (s : Se) : (textL s).length = 8 + (signedL s).length + (strL s.sl.data.toList).length := by
  unfold textL withLen restL
  rw [List.length_append, List.length_append, dg_length]; omega
theorem sealed_text (s : Se) : sealed (textL s) s.de = signedL s := by
  unfold sealed
  have h1 : (textL s).length - (strL s.de.sl).length = 8 + (signedL s).length := by
    rw [textL_len]; show _ - (strL s.sl.data.toList).length = _; omega
  rw [h1]
  unfold textL withLen restL
  generalize hd : dg 8 (signedL s ++ strL s.sl.data.toList).length = D
  have hD : D.length = 8 := by rw [← hd, dg_length]
  rw [← List.append_assoc, List.take_left' (by rw [List.length_append, hD]), List.drop_left' hD]
/-- the signature as bytes -/
def sigB (seed : ByteArray) (k : Int) (l : List UInt8) : ByteArray := bA' (treeSignL seed.data.toList 1 k (sumB l))
theorem acc_sealed {s : Se} (h : sgnE s = 0) {root : List UInt8} (hr : root ≠ []) : isB (AccR (textL s) s.number root) = isB ((verifyL root (sumB (signedL s)) s.sl.data.toList).2 = 0) := by
  have := acc_root (l := textL s) (s := s.number) (x := s.de) (dir_round h) rfl hr
  rw [sealed_text] at this
  exact this
theorem rootL_ne (seed : List UInt8) : rootL seed 1 ≠ [] := fun e => by
  have h := tree_len seed 1 1 0 (Nat.le_refl _) (by decide)
  have h2 := rootL_at seed 1 (by decide)
  rw [show ((1 : Nat) : Int) = 1 from rfl] at h2
  rw [← h2, e] at h
  cases h
theorem verify_none (root m : List UInt8) : (verifyL root m []).2 ≠ 0 := by
  have h : rdNum [] 0 = (0, 0, 4) ∨ (rdNum [] 0).2.2 ≠ 0 := by
    refine .inr ?_
    rcases hr : rdNum ([] : List UInt8) 0 with ⟨n, x, e⟩
    intro he
    have he : e = 0 := he
    subst he
    obtain ⟨m, _, h1, h2, _⟩ := rdNum_next (a := 0) hr
    simp at h2; omega
  have hn : (rdNum ([] : List UInt8) 0).2.2 ≠ 0 := by
    rcases h with h | h
    · rw [h]; decide
    · exact h
  rw [verifyL_none (by rw [parseL, if_pos hn])]
  decide
theorem strL_len30S {l : List UInt8} {n : Nat} (h : l.length ≤ n) (hn : n ≤ 1000000) : (strL l).length ≤ n + 30 := by
  have := itoa_len (n := ((l.length : Nat) : Int)) (by omega) (by omega)
  rw [strL_length]; omega
theorem signL_len560S (s : List UInt8) (k : Int) (m : List UInt8) : (signL s k m).length ≤ 560 := by
  rw [signL]
  split
  · exact Nat.zero_le _
  · rw [sigL_length]; exact Nat.le_refl _
theorem numL_len30S {i : Int} (h1 : -9223372036854775808 ≤ i) (h2 : i ≤ 9223372036854775807) : (numL i).length ≤ 30 := by rw [numL_length]; have := itoa_len h1 h2; omega
theorem treeSign1_lenS (s m : List UInt8) (key : Int) : (treeSignL s 1 key m).length ≤ 1000 := by
  rw [treeSignL, if_neg (by decide)]
  split
  · exact Nat.zero_le _
  · rename_i h
    have h2 : ¬ key < 0 ∧ key < 2 := ⟨fun e => h (.inl e), by
      have : ¬ ((2 ^ (1 : Int).toNat : Nat) : Int) ≤ key := fun e => h (.inr e)
      have e2 : ((2 ^ (1 : Int).toNat : Nat) : Int) = 2 := by decide
      rw [e2] at this; omega⟩
    have n1 := numL_len30S (i := key) (by omega) (by omega)
    have n2 := numL_len30S (i := 1) (by decide) (by decide)
    have n3 := strL_len30S (signL_len560S s key m) (by decide)
    rw [show (1 : Int).toNat = 1 from rfl, pathL, pathL]
    have n4 := strL_len30S (treeL_le s 1 0 (if key.toNat / 2 ^ 0 % 2 = 1 then key.toNat / 2 ^ 0 - 1 else key.toNat / 2 ^ 0 + 1)) (by decide)
    simp only [List.length_append, List.length_nil]
    omega
theorem sig_size (seed : ByteArray) (k : Int) (l : List UInt8) : (sigB seed k l).size ≤ 1000 := by
  show (bA' (treeSignL seed.data.toList 1 k (sumB l))).data.toList.length ≤ 1000
  rw [bA'_list]
  exact treeSign1_lenS _ _ _
/-- the frames of a text on one reel -/
theorem one_frames {n : Int} {l root : List UInt8} {x : De} (hx : dirR l = .ok x) : goD (framesN n 1 0 l 1) n root 15 = if isB (AccR l n root) = true then some l else none := by
  have hF : OfText n 1 0 l (framesN n 1 0 l 1) := ofText_of (by decide) fun f hf => hf
  have ht : ∀ fm : Int, textR (framesN n 1 0 l 1) n fm = some l := text_all hF (len_read hx) fun i hi => ⟨0, by
    unfold framesN
    refine List.mem_flatMap.2 ⟨0, List.mem_range.2 (by decide), ?_⟩
    unfold rowD
    exact List.mem_map.2 ⟨i, List.mem_range.2 hi, rfl⟩⟩
  by_cases h : isB (AccR l n root) = true
  · rw [if_pos h]; exact goD_all ht h
  · rw [if_neg h]; exact goD_refused ht (by simpa using h) 15
/-- with a root, a text sealed under a seed is accepted if the root is the seed's -/
theorem goD_seal {s : Se} (h : sgnE s = 0) (seed : ByteArray) (k : Nat) (hk : k < 2) (root : List UInt8) (hr : root ≠ []) :
    goD (framesN s.number 1 0 (textL { s with sl := sigB seed k (signedL s) }) 1) s.number root 15 = if rootL seed.data.toList 1 = root then some (textL { s with sl := sigB seed k (signedL s) }) else none := by
  have hs : sgnE { s with sl := sigB seed k (signedL s) } = 0 := sgnE_seal h (Nat.le_trans (sig_size seed _ _) (by decide))
  rw [one_frames (dir_round hs)]
  have ha := acc_sealed hs hr
  have hv : (verifyL root (sumB (signedL { s with sl := sigB seed k (signedL s) })) ({ s with sl := sigB seed k (signedL s) } : Se).sl.data.toList).2 = if rootL seed.data.toList 1 = root then 0 else 17 := by
    show (verifyL root (sumB (signedL s)) (bA' (treeSignL seed.data.toList 1 k (sumB (signedL s)))).data.toList).2 = _
    rw [bA'_list]
    have := verify_sign root seed.data.toList (sumB (signedL s)) 1 k (by decide) hk
    rw [show ((1 : Nat) : Int) = 1 from rfl] at this
    rw [this]
    split <;> rfl
  rw [hv] at ha
  by_cases he : rootL seed.data.toList 1 = root
  · rw [if_pos he] at ha ⊢
    rw [ha, isB_yes rfl, if_pos rfl]
  · rw [if_neg he] at ha ⊢
    rw [ha, isB_no (by decide), if_neg (by decide)]
theorem goD_bare {s : Se} (h : sgnE s = 0) (hs : s.sl.data.toList = []) (root : List UInt8) (hr : root ≠ []) : goD (framesN s.number 1 0 (textL s) 1) s.number root 15 = none := by
  rw [one_frames (dir_round h), acc_sealed h hr, hs, isB_no (verify_none _ _), if_neg (by decide)]
theorem goD_open {s : Se} (h : sgnE s = 0) : goD (framesN s.number 1 0 (textL s) 1) s.number [] 15 = some (textL s) := by
  have ha : isB (AccR (textL s) s.number []) = true := acc_plain (dir_round h) rfl
  rw [one_frames (dir_round h), ha, if_pos rfl]
end Go.Proofs.YtpkapcijgldhhaaGreatDoor

namespace Go.Proofs.YtpkapcijgldhhaaGreatDoor
open Go.RowKit Go.Shelf
def MidS (s : Se) : Prop := s.prev.size ≤ 100 ∧ s.stream.size ≤ 14680064 ∧ s.sl.size ≤ 2100 ∧ s.entries.length ≤ 400 ∧
  ∀ i, i < s.entries.length → MidE (enAt s.entries i) ∧ (-9223372036854775808 ≤ (enAt s.entries i).size ∧ (enAt s.entries i).size ≤ 9223372036854775807)
theorem mid_body {e : En} (hs : MidE e) (hk : EnBig e) (hz : -9223372036854775808 ≤ e.size ∧ e.size ≤ 9223372036854775807) : (bodyL e).length ≤ 4200000 := by
  have a1 := strL_bd (mid_head hs) (by decide)
  obtain ⟨h1, h2, h3, h4, h5⟩ := hs
  unfold bodyL
  simp only [List.length_append]
  have a2 := numL_le hz.1 hz.2
  have a3 : (strL e.digest.data.toList).length ≤ 122 := strL_bd (n := 100) h3 (by decide)
  have a4 := numL_le (n := (e.exts.length : Int)) (by omega) (by omega)
  have a5 : (e.exts.flatMap exL).length ≤ 63 * e.exts.length := flat_bd fun x hx => by
    obtain ⟨i, hi, rfl⟩ := List.getElem_of_mem hx
    have h7 := hk.exts.2 i
    rw [exAt_get hi] at h7
    unfold exL
    simp only [List.length_append]
    have b1 := numL_le h7.s.1 h7.s.2
    have b2 := numL_le h7.o.1 h7.o.2
    have b3 := numL_le h7.l.1 h7.l.2
    omega
  have a6 : 63 * e.exts.length ≤ 63 * 65536 := Nat.mul_le_mul_left _ h4
  omega
set_option maxRecDepth 100000 in
set_option maxHeartbeats 4000000 in
theorem rsigned_mid (s : Se) (a : Option Addr) (c : Nat) (w : World) (ok : SeBig s) (hs : MidS s) (hr : EnRow w (.slice a s.entries.length c) s.entries) (hc : ∀ i, i < s.entries.length → chkE (enAt s.entries i) = 0) :
    Calls Tryz.prog 25 #[.agg #[.int .i64 s.number, .int .i64 s.date, .string s.prev, .slice a s.entries.length c, .string s.stream, .string s.sl]] w (StrP (signedL s) w) := by
  have HX := Lib.hid (show ∀ W, Below w.heap.size w W → EnRow W (.slice a s.entries.length c) s.entries from fun W hW => hr.below hW)
  have HO := Lib.hid ok.ents
  have HC := Lib.hid hc
  have hn := ok.number
  have hd := ok.date
  obtain ⟨hp, hst, hsl, hN0, hSm⟩ := hs
  have HSm := Lib.hid hSm
  have hN := hN0
  have HL : Hid (signedL s = numL s.number ++ numL s.date ++ strL s.prev.data.toList ++ numL s.stream.size ++ strL (sumB s.stream.data.toList) ++ numL s.entries.length ++ s.entries.flatMap bodyL) := rfl
  clear hr ok hc hSm
  generalize signedL s = R at *
  generalize s.number = n at *
  generalize s.date = d at *
  generalize s.prev = p at *
  generalize s.stream = st at *
  generalize s.sl = sl at *
  generalize s.entries = X at *
  have hd1 := Lib.hid (fun W => digest_any st W (by omega))
  obtain ⟨t1, ht1, z1, H1⟩ := numQ n hn
  obtain ⟨t2, ht2, z2, H2⟩ := numQ d hd
  obtain ⟨t3, ht3, z3, H3⟩ := refStringQ p (by omega)
  obtain ⟨t4, ht4, z4, H4⟩ := numQ (st.size : Int) (by omega)
  obtain ⟨t6, ht6, z6, H6⟩ := numQ (X.length : Int) (by omega)
  have hcat := Lib.hid (show ∀ (a b : ByteArray), a.size + b.size ≤ 1000000 → ∃ c : ByteArray, Hid (c.data.toList = a.data.toList ++ b.data.toList) ∧ c.size ≤ a.size + b.size ∧ ∀ W : World, (Op.stringOp .add a b).run Tryz.prog W = .ok (.string c) W from fun a b h =>
    ⟨a ++ b, append_list a b, by rw [ByteArray.size_append]; exact Nat.le_refl _, fun W => run_string_add_sum W a b (by omega)⟩)
  obtain ⟨y2, hy2, zy2, r2⟩ := hcat.out t1 t2 (by omega)
  obtain ⟨y3, hy3, zy3, r3⟩ := hcat.out y2 t3 (by omega)
  obtain ⟨y4, hy4, zy4, r4⟩ := hcat.out y3 t4 (by omega)
  obtain ⟨hb0, bB⟩ := box1'' w [.int .i64 n, .int .i64 d, .string p, .slice a X.length c, .string st, .string sl] 53
  change Below _ _ (w.alloc (.cells #[.int .i64 n, .int .i64 d, .string p, .slice a X.length c, .string st, .string sl] 53)) at hb0
  change Box (w.alloc (.cells #[.int .i64 n, .int .i64 d, .string p, .slice a X.length c, .string st, .string sl] 53)) _ _ _ at bB
  go_enter Tryz.func25, Tryz.ntmps25
  go_upto_region 1 with (fail)
  obtain ⟨W0, hW0⟩ : ∃ W0, w.alloc (.cells #[.int .i64 n, .int .i64 d, .string p, .slice a X.length c, .string st, .string sl] 53) = W0 := ⟨_, rfl⟩
  change Code.wp _ _ _ _ (w.alloc (.cells #[.int .i64 n, .int .i64 d, .string p, .slice a X.length c, .string st, .string sl] 53))
  rw [hW0] at hb0 bB ⊢
  clear hW0
  obtain ⟨c0, c1, c2, c3, c4, c5⟩ := bB.cells6
  have hbd : Below w.heap.size w W0.drew := below_drew0 hb0
  have bBd := bB.drewN' 1
  change Box W0.drew _ _ _ at bBd
  go_cut [3] from 7 to 32 (fun v wc => ∃ u : ByteArray, v = .string u ∧ Hid (u.data.toList = numL n ++ numL d ++ strL p.data.toList ++ numL st.size ++ strL (sumB st.data.toList) ++ numL X.length) ∧ u.size ≤ 2000 ∧ Below w.heap.size w wc ∧ Box wc w.heap.size [.int .i64 n, .int .i64 d, .string p, .slice a X.length c, .string st, .string sl] 53)
  case first =>
    clear HX HO HC HSm
    go_region_held3 (fun w' => w'.cell? ⟨w.heap.size, 0, none⟩ = some (.int .i64 n) ∧ w'.cell? ⟨w.heap.size, 1, none⟩ = some (.int .i64 d) ∧ w'.cell? ⟨w.heap.size, 2, none⟩ = some (.string p) ∧ w'.cell? ⟨w.heap.size, 3, none⟩ = some (.slice a X.length c) ∧ w'.cell? ⟨w.heap.size, 4, none⟩ = some (.string st) ∧ w'.cell? ⟨w.heap.size, 5, none⟩ = some (.string sl))
      (first | with_reducible exact ⟨c0, c1, c2, c3, c4, c5⟩ | with_reducible exact Box.cells6 bBd | with_reducible exact Box.cells6 bB2)
      (first
        | (go_at_call 51; (with_reducible refine (H1.out _).mono ?_); rintro e3 W3 ⟨rfl, rfl⟩)
        | (go_at_call 51; (with_reducible refine (H2.out _).mono ?_); rintro e3 W3 ⟨rfl, rfl⟩)
        | (go_at_call 30; (with_reducible refine (H3.out _).mono ?_); rintro e3 W3 ⟨rfl, rfl⟩)
        | (go_at_call 51; (with_reducible refine (H4.out _).mono ?_); rintro e3 W3 ⟨rfl, rfl⟩)
        | (go_at_call 52; (with_reducible refine (hd1.out _).mono ?_); rintro e2 W2 ⟨t0, rfl, ht0, hb⟩; have hb2 := step2 hbd hb; have bB2 := bBd.below hb; have zt0 : t0.size = 32 := (by rw [← toList_size, ht0.out, sumB_length]); obtain ⟨t5, ht5, z5, H5⟩ := refStringQ t0 (by omega); obtain ⟨y5, hy5, zy5, r5⟩ := hcat.out y4 t5 (by omega); obtain ⟨y6, hy6, zy6, r6⟩ := hcat.out y5 t6 (by omega))
        | (go_at_call 30; (with_reducible refine (H5.out _).mono ?_); rintro e3 W3 ⟨rfl, rfl⟩)
        | (go_at_call 51; (with_reducible refine (H6.out _).mono ?_); rintro e3 W3 ⟨rfl, rfl⟩))
    all_goals
      go_wp2_with fail
      go_meet
      case rel => exact ⟨y6, rfl, by rw [Hid, hy6.out, hy5.out, hy4.out, hy3.out, hy2.out, ht1.out, ht2.out, ht3.out, ht4.out, ht5.out, ht0.out, ht6.out], by omega, hb2, bB2⟩
  case rest =>
    obtain ⟨u0, rfl, hu0, zu0, hb2, bB2⟩ := hcut
    clear hb0 bB hbd bBd c0 c1 c2 c3 c4 c5 H1 H2 H3 H4 H6 hd1 hcat ht1 ht2 ht3 ht4 ht6 z1 z2 z3 z4 z6 hy2 hy3 hy4 zy2 zy3 zy4 r2 r3 r4
    obtain ⟨W2, rfl⟩ : ∃ W2, W2 = wc := ⟨_, rfl⟩
    have hbW : w.heap.size < W2.heap.size := bB2.lt
    go_upto_block 0 with (fail)
    go_wp2_with fail
    go_loopw [3, 4, 5, 6] (fun u i _ _ wr => ∃ (k : Nat) (v : ByteArray), k ≤ X.length ∧ i = .int .i64 k ∧ u = .string v ∧ Hid (v.data.toList = u0.data.toList ++ (X.take k).flatMap bodyL) ∧ v.size ≤ 2000 + 4200000 * k ∧ Below W2.heap.size W2 wr) (fun _ i _ _ _ => X.length - (intOf i).toNat)
    case atStart => exact ⟨0, u0, by omega, rfl, rfl, by rw [Hid]; simp, by omega, below_refl _⟩
    case round =>
      obtain ⟨k, v, hk, rfl, rfl, hv, zv, hbr⟩ := hrel
      have bBr := bB2.below hbr
      obtain ⟨c0, c1, c2, c3, c4, c5⟩ := bBr.cells6
      by_cases hlt : k < X.length
      · obtain ⟨b, o, a1, m1, a2, m2, rfl, hA, hXx, x0, x1, x2, x3, x4, x5, x6⟩ := (HX.out _ (step2 hb2 hbr)).at' hlt
        have HG := Lib.hid (refEncode_big (enAt X k) _ _ wr hA hXx (HO.out k hlt) (HSm.out k hlt).2)
        rw [HC.out k hlt, if_pos rfl] at HG
        have HT := Lib.hid (take_flatE X k hlt)
        have HBd := Lib.hid (mid_body (HSm.out k hlt).1 (HO.out k hlt) (HSm.out k hlt).2)
        clear hA hXx
        generalize bodyL (enAt X k) = bl at *
        generalize enAt X k = ee at *
        go_wp2_with fail
        refine HG.out.mono ?_
        rintro e w2 ⟨t, rfl, ht, hb⟩
        have zt : t.size ≤ 4200000 := by rw [← toList_size, ht.out]; exact HBd.out
        have hv2 : Hid ((v ++ t).data.toList = u0.data.toList ++ (X.take (k + 1)).flatMap bodyL) := by
          rw [Hid, append_list, hv.out, ht.out, HT.out]; simp only [List.append_assoc]
        have zv2 : (v ++ t).size ≤ 2000 + 4200000 * (k + 1) := by rw [ByteArray.size_append]; omega
        have hbr2 := step2 hbr hb
        have z9 : v.size + t.size ≤ 10000000000 := by omega
        clear HG x0 x1 x2 x3 x4 x5 x6 c0 c1 c2 c3 c4 c5 bBr hb
        go_wp2_with fail
        go_roundw
        case rel => exact ⟨k + 1, _, by omega, by go_num, rfl, hv2, zv2, hbr2⟩
        case measure => simp [intOf]; omega
      · obtain rfl : k = X.length := by omega
        have hte : X.take X.length = X := List.take_of_length_le (Nat.le_refl _)
        rw [hte] at hv
        clear hte
        go_wp2_with fail
        go_ret
        exact ⟨_, rfl, by rw [Hid, hv.out, hu0.out, HL.out], step2 hb2 hbr⟩
end Go.Proofs.YtpkapcijgldhhaaGreatDoor

namespace Go.Proofs.YtpkapcijgldhhaaGreatDoor
open Go.RowKit Go.Shelf
/-- what Check answers -/
def ckS (s : Se) : Int := if fieldsE s.number s.date s.prev.size = 0 then (if 14680064 < s.stream.size ∨ 400 < s.entries.length then 6 else if entsE s.entries = 0 then (if 2000 < s.sl.size then 6 else 0) else entsE s.entries) else fieldsE s.number s.date s.prev.size
theorem rcheck40_big (s : Se) (a : Option Addr) (c : Nat) (w : World) (ok : SeBig s) (hr : EnRow w (.slice a s.entries.length c) s.entries) :
    Calls Tryz.prog 48 #[.agg #[.int .i64 s.number, .int .i64 s.date, .string s.prev, .slice a s.entries.length c, .string s.stream, .string s.sl]] w (IntP (ckS s) w) := by
  by_cases h : 14680064 < s.stream.size
  · have e : ckS s = chkS (fieldsE s.number s.date s.prev.size) 401 (entsE s.entries) s.sl.size := by
      unfold ckS chkS
      by_cases h0 : fieldsE s.number s.date s.prev.size = 0
      · rw [if_pos h0, if_pos h0, if_pos (Or.inl h), if_pos (by decide)]
      · rw [if_neg h0, if_neg h0]
    rw [e]; exact rcheck40_far s a c w ok h hr
  · have e : ckS s = chkS (fieldsE s.number s.date s.prev.size) s.entries.length (entsE s.entries) s.sl.size := by
      unfold ckS chkS
      by_cases h0 : fieldsE s.number s.date s.prev.size = 0
      · rw [if_pos h0, if_pos h0]
        by_cases h1 : 400 < s.entries.length
        · rw [if_pos (Or.inr h1), if_pos h1]
        · rw [if_neg (by omega), if_neg h1]
      · rw [if_neg h0, if_neg h0]
    rw [e]; exact rcheck40_near s a c w ok (by omega) hr
theorem ckS_parts {s : Se} (h : ckS s = 0) : fieldsE s.number s.date s.prev.size = 0 ∧ s.stream.size ≤ 14680064 ∧ s.entries.length ≤ 400 ∧ entsE s.entries = 0 ∧ s.sl.size ≤ 2000 := by
  unfold ckS at h
  by_cases h0 : fieldsE s.number s.date s.prev.size = 0
  · rw [if_pos h0] at h
    by_cases h1 : 14680064 < s.stream.size ∨ 400 < s.entries.length
    · rw [if_pos h1] at h; cases h
    · rw [if_neg h1] at h
      by_cases h2 : entsE s.entries = 0
      · rw [if_pos h2] at h
        by_cases h3 : 2000 < s.sl.size
        · rw [if_pos h3] at h; cases h
        · exact ⟨h0, by omega, by omega, h2, by omega⟩
      · rw [if_neg h2] at h; exact absurd h h2
  · rw [if_neg h0] at h; exact absurd h h0
theorem sgnE_ck {s : Se} : sgnE s = if ckS s = 0 then (if 90000000 < (signedL s).length then 6 else 0) else ckS s := by
  by_cases h : ckS s = 0
  · rw [if_pos h]
    obtain ⟨h0, h1, h2, h3, h4⟩ := ckS_parts h
    unfold sgnE
    rw [if_pos h0, if_neg (by omega), if_pos h3]
    by_cases h5 : 90000000 < (signedL s).length
    · rw [if_pos h5, if_pos (Or.inr h5)]
    · rw [if_neg h5, if_neg (by omega)]
  · rw [if_neg h]
    unfold sgnE
    unfold ckS at h ⊢
    by_cases h0 : fieldsE s.number s.date s.prev.size = 0
    · rw [if_pos h0] at h ⊢
      rw [if_pos h0]
      by_cases h1 : 14680064 < s.stream.size ∨ 400 < s.entries.length
      · rw [if_pos h1, if_pos h1]
      · rw [if_neg h1] at h ⊢
        rw [if_neg h1]
        by_cases h2 : entsE s.entries = 0
        · rw [if_pos h2] at h ⊢
          rw [if_pos h2]
          by_cases h3 : 2000 < s.sl.size
          · rw [if_pos h3, if_pos (Or.inl h3)]
          · rw [if_neg h3] at h; exact absurd rfl h
        · rw [if_neg h2, if_neg h2]
    · rw [if_neg h0, if_neg h0]
theorem ents_each {X : List En} (h : entsE X = 0) (i : Nat) (hi : i < X.length) : chkE (enAt X i) = 0 := firstE_all (f := fun i => chkE (enAt X i)) h i hi
theorem midS_of {s : Se} (h : ckS s = 0) : MidS s ∧ ∀ i, i < s.entries.length → chkE (enAt s.entries i) = 0 := by
  obtain ⟨h0, h1, h2, h3, h4⟩ := ckS_parts h
  have hb := fieldsE_bd h0
  refine ⟨⟨by omega, h1, by omega, h2, fun i hi => ?_⟩, fun i hi => ents_each h3 i hi⟩
  have hc := ents_each h3 i hi
  have hx := (chkE_exts hc).2.2
  exact ⟨mid_of hc, by omega⟩
set_option maxRecDepth 100000 in
set_option maxHeartbeats 4000000 in
theorem rencode_big (s : Se) (a : Option Addr) (c : Nat) (w : World) (ok : SeBig s) (hr : EnRow w (.slice a s.entries.length c) s.entries) :
    Calls Tryz.prog 21 #[.agg #[.int .i64 s.number, .int .i64 s.date, .string s.prev, .slice a s.entries.length c, .string s.stream, .string s.sl]] w (HeadP (if sgnE s = 0 then textL s else []) (sgnE s) w) := by
  have HK := Lib.hid (show ∀ W, Below w.heap.size w W → Calls Tryz.prog 48 #[.agg #[.int .i64 s.number, .int .i64 s.date, .string s.prev, .slice a s.entries.length c, .string s.stream, .string s.sl]] W (IntP (ckS s) W) from fun W hW => rcheck40_big s a c W ok (hr.below hW))
  have HSg := Lib.hid (show ckS s = 0 → ∀ W, Below w.heap.size w W → Calls Tryz.prog 25 #[.agg #[.int .i64 s.number, .int .i64 s.date, .string s.prev, .slice a s.entries.length c, .string s.stream, .string s.sl]] W (StrP (signedL s) W) from fun h W hW => rsigned_mid s a c W ok (midS_of h).1 (hr.below hW) (midS_of h).2)
  have HSL := Lib.hid (show ckS s = 0 → s.sl.size ≤ 2000 from fun h => (ckS_parts h).2.2.2.2)
  have HT : Hid (textL s = dg 8 (signedL s ++ strL s.sl.data.toList).length ++ (signedL s ++ strL s.sl.data.toList)) := rfl
  have G1 := Lib.hid (show ckS s ≠ 0 → sgnE s = ckS s ∧ (if sgnE s = 0 then textL s else []) = [] from fun h => by
    have e : sgnE s = ckS s := by rw [sgnE_ck, if_neg h]
    exact ⟨e, by rw [e, if_neg h]⟩)
  have G2 := Lib.hid (show ckS s = 0 → 90000000 < (signedL s).length → sgnE s = 6 ∧ (if sgnE s = 0 then textL s else []) = [] from fun h h2 => by
    have e : sgnE s = 6 := by rw [sgnE_ck, if_pos h, if_pos h2]
    exact ⟨e, by rw [e, if_neg (by decide)]⟩)
  have G3 := Lib.hid (show ckS s = 0 → ¬ 90000000 < (signedL s).length → sgnE s = 0 ∧ (if sgnE s = 0 then textL s else []) = textL s from fun h h2 => by
    have e : sgnE s = 0 := by rw [sgnE_ck, if_pos h, if_neg h2]
    exact ⟨e, by rw [e, if_pos rfl]⟩)
  generalize (if sgnE s = 0 then textL s else []) = L at *
  generalize textL s = TL at *
  generalize signedL s = SL at *
  generalize sgnE s = se at *
  generalize ckS s = ce at *
  clear hr ok
  generalize s.number = n at *
  generalize s.date = d at *
  generalize s.prev = p at *
  generalize s.stream = st at *
  generalize s.sl = sl at *
  generalize s.entries = X at *
  obtain ⟨hb0, bB⟩ := box1'' w [.int .i64 n, .int .i64 d, .string p, .slice a X.length c, .string st, .string sl] 53
  change Below _ _ (w.alloc (.cells #[.int .i64 n, .int .i64 d, .string p, .slice a X.length c, .string st, .string sl] 53)) at hb0
  change Box (w.alloc (.cells #[.int .i64 n, .int .i64 d, .string p, .slice a X.length c, .string st, .string sl] 53)) _ _ _ at bB
  go_enter Tryz.func21, Tryz.ntmps21
  go_upto_region 1 with (fail)
  obtain ⟨W0, hW0⟩ : ∃ W0, w.alloc (.cells #[.int .i64 n, .int .i64 d, .string p, .slice a X.length c, .string st, .string sl] 53) = W0 := ⟨_, rfl⟩
  change Code.wp _ _ _ _ (w.alloc (.cells #[.int .i64 n, .int .i64 d, .string p, .slice a X.length c, .string st, .string sl] 53))
  rw [hW0] at hb0 bB ⊢
  clear hW0
  obtain ⟨c0, c1, c2, c3, c4, c5⟩ := bB.cells6
  go_wp2_with fail
  refine (HK.out W0 hb0).mono ?_
  rintro e W1 ⟨rfl, hb⟩
  have hb1 := step2 hb0 hb
  have bB1 := bB.below hb
  clear hb0 bB hb c0 c1 c2 c3 c4 c5 HK
  by_cases hc : ce = 0
  case neg =>
    have q1 : (ce != 0) = true := by rw [bne_iff_ne]; exact hc
    have HL0 := Lib.hid (G1.out hc)
    clear hc G1 G2 G3 HSg HSL
    go_wp2_with fail
    go_ret2
    obtain ⟨rfl, rfl⟩ := HL0.out
    exact ⟨_, rfl, rfl, hb1⟩
  have HS2 := Lib.hid (HSg.out hc)
  have hsl := HSL.out hc
  have G4 := Lib.hid (G2.out hc)
  have G5 := Lib.hid (G3.out hc)
  clear G1 G2 G3 HSg HSL
  subst hc
  obtain ⟨c0, c1, c2, c3, c4, c5⟩ := bB1.cells6
  go_wp2_with fail
  refine (HS2.out W1 hb1).mono ?_
  rintro e W2 ⟨t, rfl, ht, hb⟩
  have hb2 := step2 hb1 hb
  have bB2 := bB1.below hb
  have hte : SL.length = t.size := by rw [← ht.out, toList_size]
  clear hb1 bB1 hb c0 c1 c2 c3 c4 c5 HS2
  obtain ⟨c0, c1, c2, c3, c4, c5⟩ := bB2.cells6
  rw [hte] at G4 G5
  by_cases hlim : 90000000 < t.size
  · have HL0 := Lib.hid (G4.out hlim)
    clear G4 G5 hte
    go_wp2_with fail
    go_ret2
    obtain ⟨rfl, rfl⟩ := HL0.out
    exact ⟨_, rfl, rfl, hb2⟩
  have HL0 := Lib.hid (G5.out hlim)
  clear G4 G5 hte
  obtain ⟨t2, ht2, z2, H2⟩ := refStringQ sl (by omega)
  have z3 : t.size + t2.size ≤ 90010000 := by omega
  go_wp2_with fail
  refine (H2.out W2).mono ?_
  rintro e W3 ⟨rfl, rfl⟩
  have hu : Hid ((t ++ t2).data.toList = SL ++ strL sl.data.toList) := by rw [Hid, append_list, ht.out, ht2.out]
  have zu : (t ++ t2).size ≤ 90010000 := by rw [ByteArray.size_append]; exact z3
  obtain ⟨u, hue⟩ : ∃ u, t ++ t2 = u := ⟨_, rfl⟩
  have HD := Lib.hid (fun W => rdigits_any u.size W (by rw [← hue]; omega))
  rw [hue] at hu zu
  go_upto_region 8 with (fail)
  have Hue := Lib.hid hue; clear hue
  go_wp2_with fail
  refine (HD.out _).mono ?_
  rintro e W4 ⟨t3, rfl, ht3, rfl⟩
  have z4 : t3.size = 8 := by rw [← toList_size, ht3.out, dg_length]
  have z5 : t3.size + u.size ≤ 100000000 := by omega
  go_wp2_with fail
  go_ret2
  obtain ⟨rfl, rfl⟩ := HL0.out
  exact ⟨_, rfl, by rw [Hid, append_list, HT.out, ht3.out, ← hu.out]; rfl, hb2⟩
end Go.Proofs.YtpkapcijgldhhaaGreatDoor

namespace Go.Proofs.YtpkapcijgldhhaaGreatDoor
open Go.RowKit Go.Shelf
theorem one_sumRf (st : ByteArray) (W W' : World) (h : st.size ≤ 1000000000) (hb : Below (W.alloc (.cells #[.string st] 9)).heap.size (W.alloc (.cells #[.string st] 9)) W') : Calls Tryz.prog 28 #[.slice (some ⟨W.heap.size, 0, none⟩) 1 1] W' (StrP (sumB st.data.toList) W') := by
  have e : (([st] : List ByteArray).map fun s => s.data.toList).flatten = st.data.toList := by simp
  have := sumR_any _ [st] _ ((strs_new W [st] 9 (by simp [maxLen])).below hb) (by rw [e]; have : st.data.toList.length = st.size := rfl; omega)
  rw [e] at this
  exact this
end Go.Proofs.YtpkapcijgldhhaaGreatDoor
