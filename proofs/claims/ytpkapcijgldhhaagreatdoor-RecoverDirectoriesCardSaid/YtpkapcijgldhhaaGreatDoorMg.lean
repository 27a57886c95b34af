/-
  The walk of the reference's reading of the entries of a directory text.
  The walk of the reference's check of what is read of a session.
  The walk of the reference's Decode of a directory text.
-/
import Derived.Test.YtpkapcijgldhhaaGreatDoorMf
import Derived.Test.YtpkapcijgldhhaaGreatDoorRdD
import Derived.Deep.Cut
import Derived.Deep.CutRange
import Derived.Deep.CutBlock
import Derived.BigRegion
import Derived.Test.YtpkapcijgldhhaaGreatDoorMe
import Derived.Deep.RegionHeld3
namespace Go.Proofs.YtpkapcijgldhhaaGreatDoor
open Go.RowKit Go.Shelf

/-- what Decode gives as index and error -/
def atN : Except Int (En × Int) → Int
  | .ok p => p.2
  | .error _ => 0
def erN : Except Int (En × Int) → Int
  | .ok _ => 0
  | .error x => x
theorem rs_dec {W : World} {R : Nat} {s : ByteArray} {r : Except Int (En × Int)} (hb : Box W R [.string s, .int .i64 (atN r), .int .i64 (erN r)] 170) (hz : ∀ x, r = .error x → x ≠ 0) : RS 170 W R s (stAt r) := by
  rcases r with x | ⟨y, b⟩
  · exact ⟨hz x rfl, _, hb⟩
  · exact hb
theorem decQ_one {r : Except Int (En × Int)} {W W' : World} {e : Ending} (h : DecQ r W e W') : ∃ a1 m1 a2 m2, e = .returned (.tuple #[.agg #[.int .i64 (stEn r).kind, .string (stEn r).path, .slice a1 (stEn r).attrs.length m1, .string (stEn r).target, .int .i64 (stEn r).size, .string (stEn r).digest, .slice a2 (stEn r).exts.length m2], .int .i64 (atN r), .int .i64 (erN r)]) ∧
    OwnG W.heap.size 192 2 At.vals W' (.slice a1 (stEn r).attrs.length m1) (stEn r).attrs ∧ OwnG W.heap.size 34 3 Ex.vals W' (.slice a2 (stEn r).exts.length m2) (stEn r).exts ∧ Below W.heap.size W W' := by
  rcases r with x | ⟨y, b⟩
  · exact ⟨none, 0, none, 0, h.1, World.ownsRow_nil _ _ _ _, World.ownsRow_nil _ _ _ _, h.2⟩
  · obtain ⟨va, vx, h1, h2, h3, h4⟩ := h
    obtain ⟨a1, m1, rfl⟩ := (OwnG.row (n := 2) (f := At.vals) (d := at0) (fun _ => rfl) h2).form
    obtain ⟨a2, m2, rfl⟩ := (OwnG.row (n := 3) (f := Ex.vals) (d := ex0) (fun _ => rfl) h3).form
    exact ⟨a1, m1, a2, m2, h1, h2, h3, h4⟩
/-- the entries that are read, whatever stands around them -/
def EntsN (l : List UInt8) (r : Except Int (Int × Int)) (X : List En) (st : Except Int Int) : Prop := ∀ n d p z g, bs6 l n d p z g r = bs8 l n d p z g X (st >>= txt l)
theorem entsN_err (l : List UInt8) (x : Int) : EntsN l (.error x) [] (.error x) := fun _ _ _ _ _ => rfl
theorem entsN_row {l : List UInt8} {M : Nat} {b0 : Int} {X : List En} {st : Except Int Int} (h : RowSt (decR l) b0 M M X st) : EntsN l (.ok ((M : Int), b0)) X st := fun n d p z g => by
  show bs7 l n d p z g (rowR (decR l) b0 ((M : Int)).toNat) = _
  rw [Int.toNat_natCast]
  exact bs7_end h
def EntsQ (l : List UInt8) (r : Except Int (Int × Int)) (s : ByteArray) (R : Nat) (W : World) (e : Ending) (W' : World) : Prop := ∃ v X st, e = .returned v ∧ OwnEn W.heap.size W' v X ∧ RS 170 W' R s st ∧ Keep R W W' ∧ EntsN l r X st
theorem keep_below {R : Nat} {W W1 W2 : World} (h : Keep R W W1) (hb : Below W.heap.size W1 W2) (hR : R ≤ W.heap.size) : Keep R W W2 :=
  ⟨h.1.trans (hb.mono hR), fun j h1 h2 => by rw [← h.2 j h1 h2]; exact hb.block j h2⟩
set_option maxRecDepth 100000 in
set_option maxHeartbeats 4000000 in
theorem qents_any (s : ByteArray) (R : Nat) (st : Except Int Int) (W : World) (hr : RS 170 W R s st) (hs : s.size ≤ 1000000) :
    Calls Tryz.prog 110 #[.pointer (some ⟨R, 0, none⟩)] W (EntsQ s.data.toList (st >>= cnt4 s.data.toList) s R W) := by
  have hRW := hr.lt
  have HC := Lib.hid (qnum_any s R st W hr hs)
  obtain ⟨r7, hr7⟩ : ∃ r7, (st >>= cnt4 s.data.toList) = r7 := ⟨_, rfl⟩
  rw [hr7]
  have HC4 : Hid (∀ c b, r7 = .ok (c, b) → (0 ≤ c ∧ c ≤ 400) ∧ 0 ≤ b ∧ b ≤ s.data.toList.length) := Lib.hid fun c b h => cnt4_pos (hr7.trans h)
  have HS6 : Hid (r7 = (match st >>= nmb s.data.toList with | .error x => .error x | .ok p => if 400 < p.1 then .error 6 else if p.1 < 0 then .error 2 else .ok p)) := by rw [Hid, ← hr7]; exact cnt4_split _ _
  obtain ⟨r6, hr6⟩ : ∃ r6, (st >>= nmb s.data.toList) = r6 := ⟨_, rfl⟩
  rw [hr6] at HC HS6
  have HD := Lib.hid (fun (b : Int) (W' : World) (h1 : -9223372036854775808 ≤ b) (h2 : b ≤ 9223372036854775807) => rdecode_walk s b W' hs h1 h2)
  have eg := enters_of Tryz.func154 (by kernel_rfl) rfl
  have hl : s.data.toList.length = s.size := rfl
  obtain ⟨i0, hi, hz0, hz1, hz2⟩ := info_parts infoEn
  clear hr6 hr7 hr
  go_enter Tryz.func110, Tryz.ntmps110
  go_wp2_with fail
  refine HC.out.mono ?_
  rintro e WA ⟨rfl, hstA, hkA⟩
  clear HC
  obtain ⟨c2, f2⟩ := hstA.err
  rcases r6 with x | ⟨c, b4⟩
  · obtain rfl : r7 = .error x := HS6.out
    have hx : x ≠ 0 := hstA.1
    change WA.cell? _ = some (.int .i64 x) at c2
    have q1 : (x == 0) = false := by rw [beq_eq_false_iff_ne]; exact hx
    have q2 : (x != 0) = true := by rw [bne_iff_ne]; exact hx
    have s1 : stNum (.error x : Except Int (Int × Int)) = 0 := rfl
    rw [s1]
    clear hx
    go_wp2_with fail
    refine wp_loop_rounds 1 ?_; rw [rounds_succ]
    go_wp2_with fail
    go_ret
    exact ⟨_, [], .error x, rfl, OwnEn.nil _ _, hstA, hkA, entsN_err _ _⟩
  have s1 : stNum (.ok (c, b4) : Except Int (Int × Int)) = c := rfl
  rw [s1]
  change WA.cell? _ = some (.int .i64 0) at c2
  have bRA : Box WA R [.string s, .int .i64 b4, .int .i64 0] 170 := hstA
  have HS7 : Hid (r7 = if 400 < c then .error 6 else if c < 0 then .error 2 else .ok (c, b4)) := HS6.out
  by_cases h4 : 400 < c
  · obtain rfl : r7 = .error 6 := HS7.out.trans (if_pos h4)
    go_wp2_with fail
    refine wp_loop_rounds 1 ?_; rw [rounds_succ]
    go_wp2_with fail
    go_ret
    exact ⟨_, [], .error 6, rfl, OwnEn.nil _ _, ⟨by decide, b4, bRA.set (j := 2) (.int .i64 6)⟩, keep_set hkA _, entsN_err _ _⟩
  by_cases h0 : c < 0
  · obtain rfl : r7 = .error 2 := HS7.out.trans ((if_neg h4).trans (if_pos h0))
    go_wp2_with fail
    refine wp_loop_rounds 1 ?_; rw [rounds_succ]
    go_wp2_with fail
    go_ret
    exact ⟨_, [], .error 2, rfl, OwnEn.nil _ _, ⟨by decide, b4, bRA.set (j := 2) (.int .i64 2)⟩, keep_set hkA _, entsN_err _ _⟩
  obtain rfl : r7 = .ok (c, b4) := HS7.out.trans ((if_neg h4).trans (if_neg h0))
  obtain ⟨_, hb4⟩ := HC4.out c b4 rfl
  obtain ⟨M, rfl⟩ := Int.eq_ofNat_of_zero_le (show 0 ≤ c by omega)
  have HB4 := Lib.hid hb4
  have hM : M ≤ 400 := by omega
  have hWA := hkA.1.size
  clear HS6 HS7 HC4 hb4 h4 h0 s1
  go_wp2_with fail
  go_loopw [4, 5] (fun o i wr => ∃ (k : Nat) (X : List En) (st : Except Int Int), k ≤ M ∧ i = .int .i64 k ∧ X.length = k ∧ Hid (RowSt (decR s.data.toList) b4 M k X st) ∧ RS 170 wr R s st ∧ Keep R W wr ∧ OwnEn W.heap.size wr o X) (fun _ i _ => M - (intOf i).toNat)
  case atStart => exact ⟨0, [], .ok b4, by omega, rfl, rfl, rfl, hstA, hkA, OwnEn.nil _ _⟩
  case round =>
    obtain ⟨k, X, st, hk, rfl, rfl, hrow, hstB, hkB, ownB⟩ := hrel
    clear hstA hkA bRA c2 f2 hWA
    obtain ⟨xa, xc, rfl⟩ := ownB.form
    by_cases hlt : X.length < M
    case neg =>
      obtain rfl : M = X.length := by omega
      have HE := Lib.hid (entsN_row hrow.out)
      go_wp2_with fail
      go_ret
      exact ⟨_, X, st, rfl, ownB, hstB, hkB, HE.out⟩
    cases st with
    | error x =>
      have c2 : wr.cell? ⟨R, 2, none⟩ = some (.int .i64 x) := hstB.err.1
      have hx : x ≠ 0 := hstB.1
      have q1 : (x == 0) = false := by rw [beq_eq_false_iff_ne]; exact hx
      have HE := Lib.hid (entsN_row (rowSn_err hrow.out))
      clear hx
      go_wp2_with fail
      go_ret
      exact ⟨_, X, .error x, rfl, ownB, hstB, hkB, HE.out⟩
    | ok b =>
      have c2 : wr.cell? ⟨R, 2, none⟩ = some (.int .i64 0) := hstB.err.1
      have bR0 : Box wr R [.string s, .int .i64 b, .int .i64 0] 170 := hstB
      have r0 : wr.cell? ⟨R, 0, none⟩ = some (.string s) := bR0.cell 0
      have r1 : wr.cell? ⟨R, 1, none⟩ = some (.int .i64 b) := bR0.cell 1
      have hbb := rowSn_bd hrow.out HB4.out
      have HT := Lib.hid (fun r h => rowEn_next (r := r) hrow.out hlt h)
      have HC0 := fun W' => HD.out b W' (by omega) (by omega)
      rw [decA_dec] at HC0
      have HZ := Lib.hid (fun (x : Int) (h : decR s.data.toList b = .error x) => nz_decR _ _ _ h)
      obtain ⟨r, hrr⟩ : ∃ r, decR s.data.toList b = r := ⟨_, rfl⟩
      rw [hrr] at HC0 HZ
      have HNX := Lib.hid (HT.out r hrr)
      have HRS := Lib.hid (fun (W' : World) h => rs_dec (W := W') (R := R) (s := s) (r := r) h HZ.out)
      have HC1 := fun W' => (HC0 W').mono fun e w' h => decQ_one h
      clear HC0 HZ hrr HT hbb hrow
      generalize stEn r = y at *
      generalize stAt r = st2 at *
      generalize atN r = ra at *
      generalize erN r = rx at *
      have HC : Hid (∀ W', Below wr.heap.size wr W' → Calls Tryz.prog 154 #[.string s, .int .i64 b] W' fun e w' => ∃ a1 m1 a2 m2, e = .returned (.tuple #[.agg #[.int .i64 y.kind, .string y.path, .slice a1 y.attrs.length m1, .string y.target, .int .i64 y.size, .string y.digest, .slice a2 y.exts.length m2], .int .i64 ra, .int .i64 rx]) ∧ OwnG W'.heap.size 192 2 At.vals w' (.slice a1 y.attrs.length m1) y.attrs ∧ OwnG W'.heap.size 34 3 Ex.vals w' (.slice a2 y.exts.length m2) y.exts ∧ Below W'.heap.size W' w') := Lib.hid fun W' _ => HC1 W'
      clear HC1
      go_upto_region 10 with (fail)
      have hRl := bR0.lt
      have kbd : Below wr.heap.size wr wr.drew := below_drew0 (below_refl wr)
      obtain ⟨hbF, bF0⟩ := box1' wr [.int .i64 0, .string ⟨#[]⟩, .slice none 0 0, .string ⟨#[]⟩, .int .i64 0, .string ⟨#[]⟩, .slice none 0 0] 109
      change Below _ _ (wr.alloc (.cells #[.int .i64 0, .string ⟨#[]⟩, .slice none 0 0, .string ⟨#[]⟩, .int .i64 0, .string ⟨#[]⟩, .slice none 0 0] 109)) at hbF
      change Box (wr.alloc (.cells #[.int .i64 0, .string ⟨#[]⟩, .slice none 0 0, .string ⟨#[]⟩, .int .i64 0, .string ⟨#[]⟩, .slice none 0 0] 109)) _ _ _ at bF0
      have kbe : Below wr.heap.size wr (wr.alloc (.cells #[.int .i64 0, .string ⟨#[]⟩, .slice none 0 0, .string ⟨#[]⟩, .int .i64 0, .string ⟨#[]⟩, .slice none 0 0] 109)).drew := below_drew0 hbF
      have bFe : Box (wr.alloc (.cells #[.int .i64 0, .string ⟨#[]⟩, .slice none 0 0, .string ⟨#[]⟩, .int .i64 0, .string ⟨#[]⟩, .slice none 0 0] 109)).drew wr.heap.size [.int .i64 0, .string ⟨#[]⟩, .slice none 0 0, .string ⟨#[]⟩, .int .i64 0, .string ⟨#[]⟩, .slice none 0 0] 109 := bF0
      have hne0 : wr.heap.size ≠ R := by omega
      go_cut [6, 7, 8] from 47 to 59 (fun v6 v7 v8 wc => ∃ F a1 m1 a2 m2, v6 = .pointer (some ⟨F, 0, none⟩) ∧ wr.heap.size ≤ F ∧ v7 = .int .i64 ra ∧ v8 = .int .i64 rx ∧ Box wc F [.int .i64 y.kind, .string y.path, .slice a1 y.attrs.length m1, .string y.target, .int .i64 y.size, .string y.digest, .slice a2 y.exts.length m2] 109 ∧ Below wr.heap.size wr wc ∧ OwnG wr.heap.size 192 2 At.vals wc (.slice a1 y.attrs.length m1) y.attrs ∧ OwnG wr.heap.size 34 3 Ex.vals wc (.slice a2 y.exts.length m2) y.exts)
      case first =>
        go_region_held3 (fun w => w.cell? ⟨R, 0, none⟩ = some (.string s) ∧ w.cell? ⟨R, 1, none⟩ = some (.int .i64 b))
          (first | with_reducible exact ⟨r0, r1⟩ | with_reducible exact SK | go_keep | exact ⟨Box.cell (Box.other7 bR1 hne0 (.int .i64 y.kind) (.string y.path) (.slice a1 y.attrs.length m1) (.string y.target) (.int .i64 y.size) (.string y.digest) (.slice a2 y.exts.length m2)) 0, Box.cell (Box.other7 bR1 hne0 (.int .i64 y.kind) (.string y.path) (.slice a1 y.attrs.length m1) (.string y.target) (.int .i64 y.size) (.string y.digest) (.slice a2 y.exts.length m2)) 1⟩)
          (first
            | (go_at_call 154; (with_reducible refine (HC.out _ kbd).mono ?_); rintro e w1 ⟨a1, m1, a2, m2, rfl, hA, hX, hb1⟩; have kb1 := step2 kbd hb1; have bR1 := bR0.below kb1; have SK : w1.cell? ⟨R, 0, none⟩ = some (.string s) ∧ w1.cell? ⟨R, 1, none⟩ = some (.int .i64 b) := ⟨bR1.cell 0, bR1.cell 1⟩; have hlR := bR1.lt; have way : True := trivial)
            | (go_at_call 154; (with_reducible refine (HC.out _ kbe).mono ?_); rintro e w1 ⟨a1, m1, a2, m2, rfl, hA, hX, hb1⟩; have kb1 := step2 kbe hb1; have bR1 := bR0.below kb1; have SK : w1.cell? ⟨R, 0, none⟩ = some (.string s) ∧ w1.cell? ⟨R, 1, none⟩ = some (.int .i64 b) := ⟨bR1.cell 0, bR1.cell 1⟩; have hlR := bR1.lt; have bF1 := bFe.below hb1; obtain ⟨f0, f1, f2, f3, f4, f5, f6⟩ := bF1.cells7; obtain ⟨g0, g1, g2, g3, g4, g5, g6⟩ := bF1.froz7))
        all_goals
          go_wp2_with fail
          go_meet
          first
            | (have hway := way
               obtain ⟨hb2, bF⟩ := box1' w1 [.int .i64 y.kind, .string y.path, .slice a1 y.attrs.length m1, .string y.target, .int .i64 y.size, .string y.digest, .slice a2 y.exts.length m2] 109
               exact ⟨_, _, _, _, _, rfl, hb1.size, rfl, rfl, bF, step2 kb1 hb2, owns_below hA hb2, owns_below hX hb2⟩)
            | exact ⟨_, _, _, _, _, rfl, Nat.le_refl _, rfl, rfl, bF1.set7 (.int .i64 y.kind) (.string y.path) (.slice a1 y.attrs.length m1) (.string y.target) (.int .i64 y.size) (.string y.digest) (.slice a2 y.exts.length m2), below_set7 kb1 (Nat.le_refl _) (.int .i64 y.kind) (.string y.path) (.slice a1 y.attrs.length m1) (.string y.target) (.int .i64 y.size) (.string y.digest) (.slice a2 y.exts.length m2), owns_mono (owns_low7 hA (by simp) (.int .i64 y.kind) (.string y.path) (.slice a1 y.attrs.length m1) (.string y.target) (.int .i64 y.size) (.string y.digest) (.slice a2 y.exts.length m2)) (by simp), owns_mono (owns_low7 hX (by simp) (.int .i64 y.kind) (.string y.path) (.slice a1 y.attrs.length m1) (.string y.target) (.int .i64 y.size) (.string y.digest) (.slice a2 y.exts.length m2)) (by simp)⟩
      case rest =>
      obtain ⟨F, a1, m1, a2, m2, rfl, hF, rfl, rfl, bF, hbW, oA, oX⟩ := hcut
      clear r0 r1 c2 HC
      obtain ⟨W2, rfl⟩ : ∃ W2, W2 = wc := ⟨_, rfl⟩
      obtain ⟨LL, hLL, hG, hAll⟩ := ownB.below hbW
      have hLn : LL.length = X.length := by rw [← hLL, List.length_map]
      rw [OwnG, hLn] at hG
      have HLL := Lib.hid hLL
      have HAL := Lib.hid hAll
      have HLn := Lib.hid hLn
      have bR2 := bR0.below hbW
      have hk2 : Keep R W W2 := hkB.trans (Keep.of_below hbW (Nat.le_of_lt hRl))
      have hWr : W.heap.size ≤ wr.heap.size := hkB.1.size
      have hFR : F ≠ R := by omega
      clear hLL hAll hLn bR0 hkB hstB ownB hbW
      have y1 := bR2.frozen 1
      have y2 := bR2.frozen 2
      have c1 : W2.cell? ⟨R, 1, none⟩ = some (.int .i64 b) := bR2.cell 1
      have c2 : W2.cell? ⟨R, 2, none⟩ = some (.int .i64 0) := bR2.cell 2
      go_upto_region 13 with (fail)
      have b3 := (bR2.set (j := 1) (.int .i64 ra)).set (j := 2) (.int .i64 rx)
      simp only [List.set_cons_zero, List.set_cons_succ] at b3
      have hstC := HRS.out _ b3
      have kC := keep_set (j := 2) (keep_set (j := 1) hk2 (.int .i64 ra)) (.int .i64 rx)
      have bF3 := (bF.setOther (E' := R) (j := 1) (by omega) (.int .i64 ra)).setOther (E' := R) (j := 2) (by omega) (.int .i64 rx)
      have oA3 := owns_mono (owns_setLow (E := R) (j := 2) (owns_setLow (E := R) (j := 1) oA (by omega) (.int .i64 ra)) (by omega) (.int .i64 rx)) hWr
      have oX3 := owns_mono (owns_setLow (E := R) (j := 2) (owns_setLow (E := R) (j := 1) oX (by omega) (.int .i64 ra)) (by omega) (.int .i64 rx)) hWr
      have hG3 := owns_setLow (E := R) (j := 2) (owns_setLow (E := R) (j := 1) hG (by omega) (.int .i64 ra)) (by omega) (.int .i64 rx)
      have HAL3 : Hid (∀ x ∈ LL, OwnA W.heap.size ((W2.setCell ⟨R, 1, none⟩ (.int .i64 ra)).setCell ⟨R, 2, none⟩ (.int .i64 rx)) x) := Lib.hid fun x hx => by
        have h := HAL.out x hx
        exact ⟨owns_setLow (E := R) (j := 2) (owns_setLow (E := R) (j := 1) h.1 (by omega) (.int .i64 ra)) (by omega) (.int .i64 rx), owns_setLow (E := R) (j := 2) (owns_setLow (E := R) (j := 1) h.2 (by omega) (.int .i64 ra)) (by omega) (.int .i64 rx)⟩
      obtain ⟨W3, hW3⟩ : ∃ W3, (W2.setCell ⟨R, 1, none⟩ (.int .i64 ra)).setCell ⟨R, 2, none⟩ (.int .i64 rx) = W3 := ⟨_, rfl⟩
      change Code.wp _ _ _ _ ((W2.setCell ⟨R, 1, none⟩ (.int .i64 ra)).setCell ⟨R, 2, none⟩ (.int .i64 rx))
      rw [hW3] at b3 hstC kC bF3 oA3 oX3 hG3 HAL3 ⊢
      clear hW3 bR2 hk2 bF oA oX hG HAL y1 y2 c1 c2 HRS hF
      obtain ⟨f0, f1, f2, f3, f4, f5, f6⟩ := bF3.cells7
      have hWz : W.heap.size ≤ W3.heap.size := kC.1.size
      go_wp2_with (at_builtin; refine wpList_append_own _ rfl _ _ 51 rfl W.heap.size 109 i0 (.agg #[.int .i64 0, .string ⟨#[]⟩, .slice none 0 0, .string ⟨#[]⟩, .int .i64 0, .string ⟨#[]⟩, .slice none 0 0]) 7 112 Tryz.underlying51 hi hz0 hz1 hz2 rfl (by decide) _ _ _ rfl (hG3.alloc _) ⟨W3.heap.size, 0, none⟩ 1 1 [.int .i64 y.kind, .string y.path, .slice a1 y.attrs.length m1, .string y.target, .int .i64 y.size, .string y.digest, .slice a2 y.exts.length m2] rfl rfl ?c1 ?c2 ?c3 ?c4 ?c5 ?_)
      case c1 => exact fun j u hu => cell_new7 W3 _ _ _ _ _ _ _ _ j u hu
      case c2 => exact fun u hu => one7 y a1 a2 _ m1 _ m2 u hu
      case c3 => unfold maxLen; omega
      case c4 => omega
      case c5 => simp; omega
      intro v' w5 own5 hgrow5 _
      have hba : Below W3.heap.size W3 (W3.alloc (.cells #[.int .i64 y.kind, .string y.path, .slice a1 y.attrs.length m1, .string y.target, .int .i64 y.size, .string y.digest, .slice a2 y.exts.length m2] 109)) := (below_refl W3).alloc (Nat.le_refl _) _
      have hgr := grew_of (hG3.alloc _) hgrow5
      have hb5 : Below W.heap.size (W3.alloc (.cells #[.int .i64 y.kind, .string y.path, .slice a1 y.attrs.length m1, .string y.target, .int .i64 y.size, .string y.digest, .slice a2 y.exts.length m2] 109)) w5 := below_grownBy (Below.refl _ _) (hG3.alloc _) hgrow5 (by simp; omega)
      obtain ⟨a4, c4, rfl⟩ := own_form own5
      have hstD := (hstC.keepE hba hstC.lt).keepE hb5 hRW
      have kD : Keep R W w5 := keep_below (kC.trans (Keep.of_below hba (Nat.le_of_lt hstC.lt))) hb5 (Nat.le_of_lt hRW)
      have ownD : OwnEn W.heap.size w5 (.slice a4 (X.length + 1) c4) (X ++ [y]) := by
        refine ⟨LL ++ [⟨y, .slice a1 y.attrs.length m1, .slice a2 y.exts.length m2⟩], by rw [List.map_append, HLL.out]; rfl, ?_, fun x hx => ?_⟩
        · rw [OwnG, List.length_append, HLn.out, List.flatMap_append]; exact own5
        · rcases List.mem_append.1 hx with hx | hx
          · exact ((HAL3.out x hx).below hba).grew hgr
          · rw [List.mem_singleton] at hx; subst hx
            exact (OwnA.below (x := ⟨y, .slice a1 y.attrs.length m1, .slice a2 y.exts.length m2⟩) ⟨oA3, oX3⟩ hba).grew hgr
      clear hstC kC bF3 oA3 oX3 hG3 HAL3 b3 own5 hgrow5 hba hgr hb5 HLL HLn f0 f1 f2 f3 f4 f5 f6 hWz
      go_wp2_with fail
      go_roundw
      case rel => exact ⟨X.length + 1, X ++ [y], st2, by omega, by go_num, by simp, HNX, hstD, kD, ownD⟩
      case measure => simp [intOf]; omega
end Go.Proofs.YtpkapcijgldhhaaGreatDoor

namespace Go.Proofs.YtpkapcijgldhhaaGreatDoor
open Go.RowKit Go.Shelf

set_option maxRecDepth 100000 in
set_option maxHeartbeats 4000000 in
theorem after_any (n d z : Int) (p g st sl : ByteArray) (X : List En) (xa : Option Addr) (m c : Nat) (w : World) (_hp : p.size ≤ 9223372036854775807) :
    Calls Tryz.prog 111 #[.agg #[.int .i64 n, .int .i64 d, .string p, .slice xa m c, .string st, .string sl], .int .i64 z, .string g] w (IntP (aftE ⟨n, d, p.data.toList, z, g.data.toList, X, sl.data.toList⟩) w) := by
  have hb0 : Below w.heap.size w (w.alloc (.cells #[.int .i64 n, .int .i64 d, .string p, .slice xa m c, .string st, .string sl] 53)) := (below_refl _).alloc (Nat.le_refl _) _
  have hA := aft_cases n d p.data.toList z g.data.toList X sl.data.toList
  have hC := fields_cases n d p.size
  have ep : p.data.toList.length = p.size := rfl
  have eg : g.data.toList.length = g.size := rfl
  have es : sl.data.toList.length = sl.size := rfl
  rw [ep, eg, es] at hA
  obtain ⟨r, hr⟩ : ∃ r, aftE ⟨n, d, p.data.toList, z, g.data.toList, X, sl.data.toList⟩ = r := ⟨_, rfl⟩
  rw [hr] at hA ⊢
  obtain ⟨f, hf⟩ : ∃ f, fieldsE n d p.size = f := ⟨_, rfl⟩
  rw [hf] at hA hC
  clear hr hf ep eg es
  have HA := Lib.hid hA
  have HC := Lib.hid hC
  clear hA hC
  rcases HC.out with ⟨he, hc⟩ | ⟨g1, g2, g3, g4, hc⟩
  · subst he
    have hr : r = 2 := by rcases HA.out with ⟨_, h⟩ | ⟨h, _⟩ <;> first | exact h | cases h
    subst hr
    have HC := Lib.hid hc
    clear hc
    rcases HC.out with k1 | ⟨k1, k2⟩ | ⟨k1, k2, k3⟩ | ⟨k1, k2, k3, k4⟩
    all_goals
      clear HC HA
      go_enter Tryz.func111, Tryz.ntmps111
      go_wp2_with fail
      go_ret
      exact ⟨rfl, hb0⟩
  · have HC2 := Lib.hid hc
    clear HC hc
    rcases HC2.out with ⟨he, h1, h2⟩ | ⟨he, h1⟩ | ⟨he, h1⟩
    · subst he
      have hr : r = 1 := by rcases HA.out with ⟨_, h⟩ | ⟨h, _⟩ <;> first | exact h | cases h
      subst hr
      have p1 : ((p.size : Int) == 0) = false := by rw [beq_eq_false_iff_ne]; omega
      have p2 : ((p.size : Int) != 0) = true := by rw [bne_iff_ne]; omega
      have q1 : ((p.size : Int) == 32) = false := by rw [beq_eq_false_iff_ne]; omega
      have q2 : ((p.size : Int) != 32) = true := by rw [bne_iff_ne]; omega
      clear HC2 HA h1 h2
      go_enter Tryz.func111, Tryz.ntmps111
      go_wp2_with fail
      go_ret
      exact ⟨rfl, hb0⟩
    · subst he
      have HB := Lib.hid (HA.out.resolve_left fun h => h.1 rfl).2
      have p1 : ((p.size : Int) == 0) = true := by rw [beq_iff_eq]; omega
      have p2 : ((p.size : Int) != 0) = false := by rw [bne_eq_false_iff_eq]; omega
      have q1 : ((p.size : Int) == 32) = false := by rw [beq_eq_false_iff_ne]; omega
      have q2 : ((p.size : Int) != 32) = true := by rw [bne_iff_ne]; omega
      clear HC2 HA h1
      rcases HB.out with ⟨hr, z1⟩ | ⟨hr, z1, z2⟩ | ⟨z1, z2, h3⟩
      · subst hr
        clear HB
        go_enter Tryz.func111, Tryz.ntmps111
        go_wp2_with fail
        go_ret
        exact ⟨rfl, hb0⟩
      · subst hr
        clear HB
        go_enter Tryz.func111, Tryz.ntmps111
        go_wp2_with fail
        go_ret
        exact ⟨rfl, hb0⟩
      have H3 := Lib.hid h3
      clear h3 HB
      rcases H3.out with ⟨hr, k⟩ | ⟨k, h4⟩
      · subst hr
        have u1 : ((g.size : Int) == 32) = false := by rw [beq_eq_false_iff_ne]; omega
        have u2 : ((g.size : Int) != 32) = true := by rw [bne_iff_ne]; omega
        clear H3 k
        go_enter Tryz.func111, Tryz.ntmps111
        go_wp2_with fail
        go_ret
        exact ⟨rfl, hb0⟩
      have H4 := Lib.hid h4
      have u1 : ((g.size : Int) == 32) = true := by rw [beq_iff_eq]; omega
      have u2 : ((g.size : Int) != 32) = false := by rw [bne_eq_false_iff_eq]; omega
      clear h4 H3 k
      rcases H4.out with ⟨hr, k⟩ | ⟨hr, k⟩
      · subst hr
        clear H4
        go_enter Tryz.func111, Tryz.ntmps111
        go_wp2_with fail
        go_ret
        exact ⟨rfl, hb0⟩
      · subst hr
        clear H4
        go_enter Tryz.func111, Tryz.ntmps111
        go_wp2_with fail
        go_ret
        exact ⟨rfl, hb0⟩
    · subst he
      have HB := Lib.hid (HA.out.resolve_left fun h => h.1 rfl).2
      have p1 : ((p.size : Int) == 0) = false := by rw [beq_eq_false_iff_ne]; omega
      have p2 : ((p.size : Int) != 0) = true := by rw [bne_iff_ne]; omega
      have q1 : ((p.size : Int) == 32) = true := by rw [beq_iff_eq]; omega
      have q2 : ((p.size : Int) != 32) = false := by rw [bne_eq_false_iff_eq]; omega
      clear HC2 HA h1
      rcases HB.out with ⟨hr, z1⟩ | ⟨hr, z1, z2⟩ | ⟨z1, z2, h3⟩
      · subst hr
        clear HB
        go_enter Tryz.func111, Tryz.ntmps111
        go_wp2_with fail
        go_ret
        exact ⟨rfl, hb0⟩
      · subst hr
        clear HB
        go_enter Tryz.func111, Tryz.ntmps111
        go_wp2_with fail
        go_ret
        exact ⟨rfl, hb0⟩
      have H3 := Lib.hid h3
      clear h3 HB
      rcases H3.out with ⟨hr, k⟩ | ⟨k, h4⟩
      · subst hr
        have u1 : ((g.size : Int) == 32) = false := by rw [beq_eq_false_iff_ne]; omega
        have u2 : ((g.size : Int) != 32) = true := by rw [bne_iff_ne]; omega
        clear H3 k
        go_enter Tryz.func111, Tryz.ntmps111
        go_wp2_with fail
        go_ret
        exact ⟨rfl, hb0⟩
      have H4 := Lib.hid h4
      have u1 : ((g.size : Int) == 32) = true := by rw [beq_iff_eq]; omega
      have u2 : ((g.size : Int) != 32) = false := by rw [bne_eq_false_iff_eq]; omega
      clear h4 H3 k
      rcases H4.out with ⟨hr, k⟩ | ⟨hr, k⟩
      · subst hr
        clear H4
        go_enter Tryz.func111, Tryz.ntmps111
        go_wp2_with fail
        go_ret
        exact ⟨rfl, hb0⟩
      · subst hr
        clear H4
        go_enter Tryz.func111, Tryz.ntmps111
        go_wp2_with fail
        go_ret
        exact ⟨rfl, hb0⟩
end Go.Proofs.YtpkapcijgldhhaaGreatDoor

namespace Go.Proofs.YtpkapcijgldhhaaGreatDoor
open Go.RowKit Go.Shelf

theorem resQ {W : World} {D : Nat} {v0 v1 v2 v3 v4 v5 : Value} (tmps : Array Value) (n : Int) (t : ByteArray) (x : Int) (b : Box W D [v0, v1, v2, v3, v4, v5] 53) (h2 : tmps[2]?.getD undef = .pointer (some ⟨D, 0, none⟩)) (h3 : tmps[3]?.getD undef = .int .i64 n) (h4 : tmps[4]?.getD undef = .string t) (h5 : tmps[5]?.getD undef = .int .i64 x) :
    (results Tryz.f67 tmps).run Tryz.prog W = .ok (.tuple #[.agg #[v0, v1, v2, v3, v4, v5], .int .i64 n, .string t, .int .i64 x]) W := by
  obtain ⟨c0, c1, c2, c3, c4, c5⟩ := b.cells6
  simp [results, Tryz.results67, go_sem, h2, h3, h4, h5, c0, c1, c2, c3, c4, c5]
theorem cell_other6 {W : World} {D R j : Nat} {v : Value} (h : W.cell? ⟨R, j, none⟩ = some v) (hne : D ≠ R) (u0 u1 u2 u3 u4 u5 : Value) :
    ((((((W.setCell ⟨D, 0, none⟩ u0).setCell ⟨D, 1, none⟩ u1).setCell ⟨D, 2, none⟩ u2).setCell ⟨D, 3, none⟩ u3).setCell ⟨D, 4, none⟩ u4).setCell ⟨D, 5, none⟩ u5).cell? ⟨R, j, none⟩ = some v := by
  have k : ∀ (V : World) (i : Nat) (u : Value), V.cell? ⟨R, j, none⟩ = some v → (V.setCell ⟨D, i, none⟩ u).cell? ⟨R, j, none⟩ = some v := fun V i u hv => by
    rw [← hv, World.cell?, World.cell?]
    simp only [World.setCell, Array.getElem?_modify]
    rw [if_neg (by omega)]
  exact k _ _ _ (k _ _ _ (k _ _ _ (k _ _ _ (k _ _ _ (k _ _ _ h)))))
theorem cell_drew (W : World) (a : Addr) : W.drew.cell? a = W.cell? a := rfl
theorem cell_other6d {W : World} {D R j : Nat} {v : Value} (h : W.cell? ⟨R, j, none⟩ = some v) (hne : D ≠ R) (u0 u1 u2 u3 u4 u5 : Value) :
    ((((((W.setCell ⟨D, 0, none⟩ u0).setCell ⟨D, 1, none⟩ u1).setCell ⟨D, 2, none⟩ u2).setCell ⟨D, 3, none⟩ u3).setCell ⟨D, 4, none⟩ u4).setCell ⟨D, 5, none⟩ u5).drew.cell? ⟨R, j, none⟩ = some v := (cell_drew _ _).trans (cell_other6 h hne u0 u1 u2 u3 u4 u5)
theorem drew6 {W : World} {D : Nat} {cs : List Value} {T : TypeId} (h : Box W D cs T) : Box W.drew D cs T := h
set_option maxRecDepth 100000 in
set_option maxHeartbeats 4000000 in
theorem qdecode_walk (s : ByteArray) (w : World) (hs : s.size ≤ 1000000) : Calls Tryz.prog 67 #[.string s] w (DirQ (dirR s.data.toList) w) := by
  obtain ⟨Q, hQ⟩ : ∃ Q, dirR s.data.toList = Q := ⟨_, rfl⟩
  rw [hQ]
  have HQ := Lib.hid hQ.symm; clear hQ
  obtain ⟨kb0, bD0⟩ := box1' w zeroS 53
  change Below _ _ (w.alloc (.cells #[.int .i64 0, .int .i64 0, .string ⟨#[]⟩, .slice none 0 0, .string ⟨#[]⟩, .string ⟨#[]⟩] 53)) at kb0
  change Box (w.alloc (.cells #[.int .i64 0, .int .i64 0, .string ⟨#[]⟩, .slice none 0 0, .string ⟨#[]⟩, .string ⟨#[]⟩] 53)) _ _ _ at bD0
  have HL := Lib.hid (fun W => refLength_any s W (by omega))
  go_enter Tryz.func67, Tryz.ntmps67
  go_upto_region 1 with (fail)
  obtain ⟨W0, hW0⟩ : ∃ W0, w.alloc (.cells #[.int .i64 0, .int .i64 0, .string ⟨#[]⟩, .slice none 0 0, .string ⟨#[]⟩, .string ⟨#[]⟩] 53) = W0 := ⟨_, rfl⟩
  change Code.wp _ _ _ _ (w.alloc (.cells #[.int .i64 0, .int .i64 0, .string ⟨#[]⟩, .slice none 0 0, .string ⟨#[]⟩, .string ⟨#[]⟩] 53))
  rw [hW0] at kb0 bD0 ⊢
  clear hW0
  have HS0 : Hid (Q = lenR s.data.toList >>= fun n => if (s.data.toList.length : Int) < n then .error 4 else if n < s.data.toList.length then .error 3 else bodyR s.data.toList) := HQ
  have hl : s.data.toList.length = s.size := rfl
  go_wp2_with fail
  refine (HL.out W0).mono ?_
  rintro e W1 ⟨rfl, rfl⟩
  clear HL HQ
  have HN : Hid (∀ n, lenR s.data.toList = .ok n → 8 ≤ n) := Lib.hid fun n h => by obtain ⟨_, _, rfl⟩ := lenR_ok.1 h; omega
  have HZ : Hid (∀ x, lenR s.data.toList = .error x → x ≠ 0) := Lib.hid fun x h => by
    unfold lenR at h
    split at h
    · cases h; decide
    split at h
    · cases h
    · cases h; decide
  rcases hr : lenR s.data.toList with x | n
  · have HRx : Hid (Q = .error x) := by rw [Hid, HS0.out, hr]; rfl
    have hx := HZ.out x hr
    have q1 : (x != 0) = true := by rw [bne_iff_ne]; exact hx
    have i1 : stInt (.error x) = 0 := rfl
    have i2 : errOf (.error x) = x := rfl
    rw [i1, i2]
    clear hr hx HS0 HN HZ
    unfold zeroS at bD0
    obtain ⟨d0, d1, d2, d3, d4, d5⟩ := bD0.cells6
    obtain ⟨y0, y1, y2, y3, y4, y5⟩ := bD0.froz6
    go_wp2_with fail
    have zz := bD0.set6 (.int .i64 0) (.int .i64 0) (.string ⟨#[]⟩) (.slice none 0 0) (.string ⟨#[]⟩) (.string ⟨#[]⟩)
    have kz := below_set6 kb0 (Nat.le_refl _) (.int .i64 0) (.int .i64 0) (.string ⟨#[]⟩) (.slice none 0 0) (.string ⟨#[]⟩) (.string ⟨#[]⟩)
    refine bodyPost_ret (P := Tryz.prog) (v := .tuple #[.agg #[.int .i64 0, .int .i64 0, .string ⟨#[]⟩, .slice none 0 0, .string ⟨#[]⟩, .string ⟨#[]⟩], .int .i64 0, .string ⟨#[]⟩, .int .i64 x]) (resQ _ _ _ _ zz rfl rfl rfl rfl) rfl ?_
    rw [HRx.out]
    exact ⟨rfl, kz⟩
  have hn8 := HN.out n hr
  have HS1 : Hid (Q = if (s.data.toList.length : Int) < n then .error 4 else if n < s.data.toList.length then .error 3 else bodyR s.data.toList) := by rw [Hid, HS0.out, hr]; rfl
  have i1 : stInt (.ok n) = n := rfl
  have i2 : errOf (.ok n) = 0 := rfl
  rw [i1, i2]
  clear hr HS0 HN HZ
  by_cases hlt : (s.size : Int) < n
  · have HRx : Hid (Q = .error 4) := by rw [Hid, HS1.out, hl, if_pos hlt]
    unfold zeroS at bD0
    obtain ⟨d0, d1, d2, d3, d4, d5⟩ := bD0.cells6
    obtain ⟨y0, y1, y2, y3, y4, y5⟩ := bD0.froz6
    go_wp2_with fail
    have zz := bD0.set6 (.int .i64 0) (.int .i64 0) (.string ⟨#[]⟩) (.slice none 0 0) (.string ⟨#[]⟩) (.string ⟨#[]⟩)
    have kz := below_set6 kb0 (Nat.le_refl _) (.int .i64 0) (.int .i64 0) (.string ⟨#[]⟩) (.slice none 0 0) (.string ⟨#[]⟩) (.string ⟨#[]⟩)
    refine bodyPost_ret (P := Tryz.prog) (v := .tuple #[.agg #[.int .i64 0, .int .i64 0, .string ⟨#[]⟩, .slice none 0 0, .string ⟨#[]⟩, .string ⟨#[]⟩], .int .i64 0, .string ⟨#[]⟩, .int .i64 4]) (resQ _ _ _ _ zz rfl rfl rfl rfl) rfl ?_
    rw [HRx.out]
    exact ⟨rfl, kz⟩
  by_cases hgt : n < (s.size : Int)
  · have HRx : Hid (Q = .error 3) := by rw [Hid, HS1.out, hl, if_neg hlt, if_pos hgt]
    unfold zeroS at bD0
    obtain ⟨d0, d1, d2, d3, d4, d5⟩ := bD0.cells6
    obtain ⟨y0, y1, y2, y3, y4, y5⟩ := bD0.froz6
    go_wp2_with fail
    have zz := bD0.set6 (.int .i64 0) (.int .i64 0) (.string ⟨#[]⟩) (.slice none 0 0) (.string ⟨#[]⟩) (.string ⟨#[]⟩)
    have kz := below_set6 kb0 (Nat.le_refl _) (.int .i64 0) (.int .i64 0) (.string ⟨#[]⟩) (.slice none 0 0) (.string ⟨#[]⟩) (.string ⟨#[]⟩)
    refine bodyPost_ret (P := Tryz.prog) (v := .tuple #[.agg #[.int .i64 0, .int .i64 0, .string ⟨#[]⟩, .slice none 0 0, .string ⟨#[]⟩, .string ⟨#[]⟩], .int .i64 0, .string ⟨#[]⟩, .int .i64 3]) (resQ _ _ _ _ zz rfl rfl rfl rfl) rfl ?_
    rw [HRx.out]
    exact ⟨rfl, kz⟩
  have HR0 : Hid (Q = bs1 s.data.toList ((.ok 8 : Except Int Int) >>= nmb s.data.toList)) := by rw [Hid, HS1.out, hl, if_neg hlt, if_neg hgt]; exact bodyR_steps _
  obtain rfl : n = (s.size : Int) := by omega
  clear HS1 hlt hgt
  have hDR : w.heap.size < W0.heap.size := bD0.lt
  obtain ⟨kbx, bR, bE⟩ := boxes2' W0 [.string s, .int .i64 8, .int .i64 0] zeroS 170 53
  change Below _ _ ((W0.alloc (.cells #[.string s, .int .i64 8, .int .i64 0] 170)).alloc (.cells #[.int .i64 0, .int .i64 0, .string ⟨#[]⟩, .slice none 0 0, .string ⟨#[]⟩, .string ⟨#[]⟩] 53)) at kbx
  change Box ((W0.alloc (.cells #[.string s, .int .i64 8, .int .i64 0] 170)).alloc (.cells #[.int .i64 0, .int .i64 0, .string ⟨#[]⟩, .slice none 0 0, .string ⟨#[]⟩, .string ⟨#[]⟩] 53)) _ _ _ at bR bE
  go_upto_region 10 with (fail)
  have kb2 := step2 kb0 kbx
  have bD2 := bD0.below kbx
  obtain ⟨W2, hW2⟩ : ∃ W2, (W0.alloc (.cells #[.string s, .int .i64 8, .int .i64 0] 170)).alloc (.cells #[.int .i64 0, .int .i64 0, .string ⟨#[]⟩, .slice none 0 0, .string ⟨#[]⟩, .string ⟨#[]⟩] 53) = W2 := ⟨_, rfl⟩
  change Code.wp _ _ _ _ ((W0.alloc (.cells #[.string s, .int .i64 8, .int .i64 0] 170)).alloc (.cells #[.int .i64 0, .int .i64 0, .string ⟨#[]⟩, .slice none 0 0, .string ⟨#[]⟩, .string ⟨#[]⟩] 53))
  rw [hW2] at kb2 bD2 bR bE ⊢
  clear hW2 kb0 bD0 kbx
  generalize W0.heap.size = R at *
  have hst2 : RS 170 W2 R s (.ok 8) := bR
  have bE2 : Box W2 (R + 1) [.int .i64 0, .int .i64 0, .string ⟨#[]⟩, .slice none 0 0, .string ⟨#[]⟩, .string ⟨#[]⟩] 53 := bE
  clear bR bE
  have hne0 : w.heap.size ≠ R := by omega
  have KB := Lib.hid (show ∀ W W', Below w.heap.size w W → Keep R W W' → Below w.heap.size w W' from fun W W' h1 h2 => h1.trans (h2.1.mono (Nat.le_of_lt hDR)))
  have KD := Lib.hid (show ∀ W W', Box W w.heap.size zeroS 53 → Keep R W W' → Box W' w.heap.size zeroS 53 from fun W W' h1 h2 => h1.below' h2.1 hDR)
  have HC := Lib.hid (qnum_any s (R) (.ok 8 : Except Int Int) W2 hst2 hs)
  obtain ⟨r1, hr1⟩ : ∃ r1, ((.ok 8 : Except Int Int) >>= nmb s.data.toList) = r1 := ⟨_, rfl⟩
  rw [hr1] at HC
  have HR1 := Lib.hid (HR0.out.trans (by rw [hr1, bs1_next]))

  clear hr1 HR0 hst2
  go_wp2_with fail
  refine HC.out.mono ?_
  rintro e W3 ⟨rfl, hst3, hk3⟩
  have kb3 := KB.out _ _ kb2 hk3
  have bD3 := KD.out _ _ bD2 hk3
  have bE3 := bE2.keep hk3 (by omega)
  obtain ⟨v1, hv1⟩ : ∃ v1, stNum r1 = v1 := ⟨_, rfl⟩
  rw [hv1]
  have HR1' := Lib.hid (by have h := HR1.out; rw [hv1] at h; exact h)
  have Hv1 := Lib.hid hv1
  clear HC kb2 bD2 bE2 hk3 hv1 HR1
  have HR1 := HR1'
  clear HR1'

  have ec : W3.cell? ⟨R + 1, 0, none⟩ = some (.int .i64 0) := bE3.cell 0
  have ef := bE3.frozen 0
  go_upto_region 11 with (fail)
  have hst4 := hst3.setOther (E := R + 1) (j := 0) (by omega) (.int .i64 v1)
  have bD4 := bD3.setOther (E' := R + 1) (j := 0) (by omega) (.int .i64 v1)
  have bE4 := bE3.set (j := 0) (.int .i64 v1)
  have kb4 := kb3.setCell (p := ⟨R + 1, 0, none⟩) (show w.heap.size ≤ R + 1 by omega) (.int .i64 v1)
  simp only [List.set_cons_zero] at bE4
  obtain ⟨W4, hW4⟩ : ∃ W4, W3.setCell ⟨R + 1, 0, none⟩ (.int .i64 v1) = W4 := ⟨_, rfl⟩
  change Code.wp _ _ _ _ (W3.setCell ⟨R + 1, 0, none⟩ (.int .i64 v1))
  rw [hW4] at hst4 bD4 bE4 kb4 ⊢
  clear hW4 ec ef hst3 bD3 bE3 kb3

  have HC := Lib.hid (qnum_any s (R) (stAt r1) W4 hst4 hs)
  obtain ⟨r2, hr2⟩ : ∃ r2, ((stAt r1) >>= nmb s.data.toList) = r2 := ⟨_, rfl⟩
  rw [hr2] at HC
  have HR2 := Lib.hid (HR1.out.trans (by rw [hr2, bs2_next]))

  clear hr2 HR1 hst4
  go_wp2_with fail
  refine HC.out.mono ?_
  rintro e W5 ⟨rfl, hst5, hk5⟩
  have kb5 := KB.out _ _ kb4 hk5
  have bD5 := KD.out _ _ bD4 hk5
  have bE5 := bE4.keep hk5 (by omega)
  obtain ⟨v2, hv2⟩ : ∃ v2, stNum r2 = v2 := ⟨_, rfl⟩
  rw [hv2]
  have HR2' := Lib.hid (by have h := HR2.out; rw [hv2] at h; exact h)
  have Hv2 := Lib.hid hv2
  clear HC kb4 bD4 bE4 hk5 hv2 HR2
  have HR2 := HR2'
  clear HR2'

  have ec : W5.cell? ⟨R + 1, 1, none⟩ = some (.int .i64 0) := bE5.cell 1
  have ef := bE5.frozen 1
  go_upto_region 12 with (fail)
  have hst6 := hst5.setOther (E := R + 1) (j := 1) (by omega) (.int .i64 v2)
  have bD6 := bD5.setOther (E' := R + 1) (j := 1) (by omega) (.int .i64 v2)
  have bE6 := bE5.set (j := 1) (.int .i64 v2)
  have kb6 := kb5.setCell (p := ⟨R + 1, 1, none⟩) (show w.heap.size ≤ R + 1 by omega) (.int .i64 v2)
  simp only [List.set_cons_zero, List.set_cons_succ] at bE6
  obtain ⟨W6, hW6⟩ : ∃ W6, W5.setCell ⟨R + 1, 1, none⟩ (.int .i64 v2) = W6 := ⟨_, rfl⟩
  change Code.wp _ _ _ _ (W5.setCell ⟨R + 1, 1, none⟩ (.int .i64 v2))
  rw [hW6] at hst6 bD6 bE6 kb6 ⊢
  clear hW6 ec ef hst5 bD5 bE5 kb5

  have HC := Lib.hid (qtext_any s (R) (stAt r2) W6 hst6 hs)
  obtain ⟨r3, hr3⟩ : ∃ r3, ((stAt r2) >>= txt s.data.toList) = r3 := ⟨_, rfl⟩
  rw [hr3] at HC
  have HR3 := Lib.hid (HR2.out.trans (by rw [hr3, bs3_next]))
  have HBS3 := Lib.hid (show (stStr r3).length ≤ s.data.toList.length from by rw [← hr3]; exact stStr_le _ _)
  clear hr3 HR2 hst6
  go_wp2_with fail
  refine HC.out.mono ?_
  rintro e W7 ⟨rfl, hst7, hk7⟩
  have kb7 := KB.out _ _ kb6 hk7
  have bD7 := KD.out _ _ bD6 hk7
  have bE7 := bE6.keep hk7 (by omega)
  obtain ⟨v3, hv3⟩ : ∃ v3, stStr r3 = v3 := ⟨_, rfl⟩
  rw [hv3]
  have HR3' := Lib.hid (by have h := HR3.out; rw [hv3] at h; exact h)
  have Hv3 := Lib.hid hv3
  clear HC kb6 bD6 bE6 hk7 hv3 HR3
  have HR3 := HR3'
  clear HR3'

  have ec : W7.cell? ⟨R + 1, 2, none⟩ = some (.string ⟨#[]⟩) := bE7.cell 2
  have ef := bE7.frozen 2
  go_upto_region 13 with (fail)
  have hst8 := hst7.setOther (E := R + 1) (j := 2) (by omega) (.string (bA' v3))
  have bD8 := bD7.setOther (E' := R + 1) (j := 2) (by omega) (.string (bA' v3))
  have bE8 := bE7.set (j := 2) (.string (bA' v3))
  have kb8 := kb7.setCell (p := ⟨R + 1, 2, none⟩) (show w.heap.size ≤ R + 1 by omega) (.string (bA' v3))
  simp only [List.set_cons_zero, List.set_cons_succ] at bE8
  obtain ⟨W8, hW8⟩ : ∃ W8, W7.setCell ⟨R + 1, 2, none⟩ (.string (bA' v3)) = W8 := ⟨_, rfl⟩
  change Code.wp _ _ _ _ (W7.setCell ⟨R + 1, 2, none⟩ (.string (bA' v3)))
  rw [hW8] at hst8 bD8 bE8 kb8 ⊢
  clear hW8 ec ef hst7 bD7 bE7 kb7

  have HBD3 : Hid ((bA' v3).size ≤ 9223372036854775807) := Lib.hid (by
    show v3.length ≤ 9223372036854775807
    rw [← Hv3.out]
    have h := HBS3.out
    have hl : s.data.toList.length = s.size := rfl
    omega)

  have HC := Lib.hid (qnum_any s (R) (stAt r3) W8 hst8 hs)
  obtain ⟨r4, hr4⟩ : ∃ r4, ((stAt r3) >>= nmb s.data.toList) = r4 := ⟨_, rfl⟩
  rw [hr4] at HC
  have HR4 := Lib.hid (HR3.out.trans (by rw [hr4, bs4_next]))

  clear hr4 HR3 hst8
  go_wp2_with fail
  refine HC.out.mono ?_
  rintro e W9 ⟨rfl, hst9, hk9⟩
  have kb9 := KB.out _ _ kb8 hk9
  have bD9 := KD.out _ _ bD8 hk9
  have bE9 := bE8.keep hk9 (by omega)
  obtain ⟨v4, hv4⟩ : ∃ v4, stNum r4 = v4 := ⟨_, rfl⟩
  rw [hv4]
  have HR4' := Lib.hid (by have h := HR4.out; rw [hv4] at h; exact h)
  have Hv4 := Lib.hid hv4
  clear HC kb8 bD8 bE8 hk9 hv4 HR4
  have HR4 := HR4'
  clear HR4'

  have HC := Lib.hid (qtext_any s (R) (stAt r4) W9 hst9 hs)
  obtain ⟨r5, hr5⟩ : ∃ r5, ((stAt r4) >>= txt s.data.toList) = r5 := ⟨_, rfl⟩
  rw [hr5] at HC
  have HR5 := Lib.hid (HR4.out.trans (by rw [hr5, bs5_next]))
  have HBS5 := Lib.hid (show (stStr r5).length ≤ s.data.toList.length from by rw [← hr5]; exact stStr_le _ _)
  clear hr5 HR4 hst9
  go_wp2_with fail
  refine HC.out.mono ?_
  rintro e W10 ⟨rfl, hst10, hk10⟩
  have kb10 := KB.out _ _ kb9 hk10
  have bD10 := KD.out _ _ bD9 hk10
  have bE10 := bE9.keep hk10 (by omega)
  obtain ⟨v5, hv5⟩ : ∃ v5, stStr r5 = v5 := ⟨_, rfl⟩
  rw [hv5]
  have HR5' := Lib.hid (by have h := HR5.out; rw [hv5] at h; exact h)
  have Hv5 := Lib.hid hv5
  clear HC kb9 bD9 bE9 hk10 hv5 HR5
  have HR5 := HR5'
  clear HR5'

  have HC := Lib.hid (qents_any s R (stAt r5) W10 hst10 hs)
  go_wp2_with fail
  refine HC.out.mono ?_
  rintro e W11 ⟨v, X, st, rfl, ownF, hstF, hkF, hEn⟩
  have HR8 : Hid (Q = bs8 s.data.toList v1 v2 v3 v4 v5 X (st >>= txt s.data.toList)) := Lib.hid (HR5.out.trans (hEn _ _ _ _ _))
  have hEn0 : R + 2 ≤ W10.heap.size := bE10.lt
  obtain ⟨xa, xc, rfl⟩ := ownF.form
  have kbF := KB.out _ _ kb10 hkF
  have bDF := KD.out _ _ bD10 hkF
  have bEF := bE10.keep hkF (by omega)
  clear HC kb10 bD10 bE10 hkF hEn HR5 hst10
  have ec : W11.cell? ⟨R + 1, 3, none⟩ = some (.slice none 0 0) := bEF.cell 3
  have ef := bEF.frozen 3
  go_upto_region 16 with (fail)
  have hstG := hstF.setOther (E := R + 1) (j := 3) (by omega) (.slice xa X.length xc)
  have bDG := bDF.setOther (E' := R + 1) (j := 3) (by omega) (.slice xa X.length xc)
  have bEG := bEF.set (j := 3) (.slice xa X.length xc)
  have kbG := kbF.setCell (p := ⟨R + 1, 3, none⟩) (show w.heap.size ≤ R + 1 by omega) (.slice xa X.length xc)
  have ownG := (ownF.mono hEn0).setLow (E := R + 1) (j := 3) (by omega) (.slice xa X.length xc)
  simp only [List.set_cons_zero, List.set_cons_succ] at bEG
  obtain ⟨WG, hWG⟩ : ∃ WG, W11.setCell ⟨R + 1, 3, none⟩ (.slice xa X.length xc) = WG := ⟨_, rfl⟩
  change Code.wp _ _ _ _ (W11.setCell ⟨R + 1, 3, none⟩ (.slice xa X.length xc))
  rw [hWG] at hstG bDG bEG kbG ownG ⊢
  clear hWG ec ef hstF bDF bEF kbF ownF hEn0
  have HC := Lib.hid (qtext_any s R st WG hstG hs)
  obtain ⟨r8, h8⟩ : ∃ r8, (st >>= txt s.data.toList) = r8 := ⟨_, rfl⟩
  rw [h8] at HC HR8
  clear h8 hstG
  have hEG : R + 1 < WG.heap.size := bEG.lt
  go_wp2_with fail
  refine HC.out.mono ?_
  rintro e WH ⟨rfl, hstH, hkH⟩
  have kbH := KB.out _ _ kbG hkH
  have bDH := KD.out _ _ bDG hkH
  have bEH := bEG.keep hkH (by omega)
  have ownH := ownG.keep hkH (by omega)
  obtain ⟨u, hu⟩ : ∃ u, stStr r8 = u := ⟨_, rfl⟩
  rw [hu]
  have Hu := Lib.hid hu; clear hu
  have ec : WH.cell? ⟨R + 1, 5, none⟩ = some (.string ⟨#[]⟩) := bEH.cell 5
  have ef := bEH.frozen 5
  clear HC kbG bDG bEG ownG hkH
  go_upto_region 17 with (fail)
  have hstI := hstH.setOther (E := R + 1) (j := 5) (by omega) (.string (bA' u))
  have bDI := bDH.setOther (E' := R + 1) (j := 5) (by omega) (.string (bA' u))
  have bEI := bEH.set (j := 5) (.string (bA' u))
  have kbI := kbH.setCell (p := ⟨R + 1, 5, none⟩) (show w.heap.size ≤ R + 1 by omega) (.string (bA' u))
  have ownI := ownH.setLow (E := R + 1) (j := 5) (by omega) (.string (bA' u))
  simp only [List.set_cons_zero, List.set_cons_succ] at bEI
  obtain ⟨WI, hWI⟩ : ∃ WI, WH.setCell ⟨R + 1, 5, none⟩ (.string (bA' u)) = WI := ⟨_, rfl⟩
  change Code.wp _ _ _ _ (WH.setCell ⟨R + 1, 5, none⟩ (.string (bA' u)))
  rw [hWI] at hstI bDI bEI kbI ownI ⊢
  clear hWI ec ef hstH bDH bEH kbH ownH
  obtain ⟨c2, f2⟩ := hstI.err
  rcases r8 with x | ⟨u', f⟩
  · have HRx : Hid (Q = .error x) := HR8
    have hx : x ≠ 0 := hstI.1
    change WI.cell? _ = some (.int .i64 x) at c2
    have q1 : (x == 0) = false := by rw [beq_eq_false_iff_ne]; exact hx
    have q2 : (x != 0) = true := by rw [bne_iff_ne]; exact hx
    clear hx
    unfold zeroS at bDI
    obtain ⟨d0, d1, d2, d3, d4, d5⟩ := bDI.cells6
    obtain ⟨y0, y1, y2, y3, y4, y5⟩ := bDI.froz6
    go_upto_region 22 with (fail)
    have c2s := cell_other6 c2 hne0 (.int .i64 0) (.int .i64 0) (.string ⟨#[]⟩) (.slice none 0 0) (.string ⟨#[]⟩) (.string ⟨#[]⟩)
    have c2t := cell_other6d c2 hne0 (.int .i64 0) (.int .i64 0) (.string ⟨#[]⟩) (.slice none 0 0) (.string ⟨#[]⟩) (.string ⟨#[]⟩)
    have c2e : WI.drew.cell? ⟨R, 2, none⟩ = some (.int .i64 x) := c2
    go_region_held3 (fun w => w.cell? ⟨R, 2, none⟩ = some (.int .i64 x)) (first | with_reducible exact c2 | with_reducible exact c2s | with_reducible exact c2t | with_reducible exact c2e) (fail)
    go_wp2_with fail
    have zz := drew6 (bDI.set6 (.int .i64 0) (.int .i64 0) (.string ⟨#[]⟩) (.slice none 0 0) (.string ⟨#[]⟩) (.string ⟨#[]⟩))
    have kz := below_drew0 (below_set6 kbI (Nat.le_refl _) (.int .i64 0) (.int .i64 0) (.string ⟨#[]⟩) (.slice none 0 0) (.string ⟨#[]⟩) (.string ⟨#[]⟩))
    refine bodyPost_ret (P := Tryz.prog) (v := .tuple #[.agg #[.int .i64 0, .int .i64 0, .string ⟨#[]⟩, .slice none 0 0, .string ⟨#[]⟩, .string ⟨#[]⟩], .int .i64 0, .string ⟨#[]⟩, .int .i64 x]) (resQ _ _ _ _ zz rfl rfl rfl rfl) rfl ?_
    rw [HRx.out]
    exact ⟨rfl, kz⟩

  obtain rfl : u' = u := Hu.out
  have HR9 : Hid (Q = finR s.data.toList ⟨v1, v2, v3, v4, v5, X, u'⟩ f) := HR8
  change WI.cell? _ = some (.int .i64 0) at c2
  have c1 : WI.cell? ⟨R, 1, none⟩ = some (.int .i64 f) := Box.cell hstI 1
  have bRI : Box WI R [.string s, .int .i64 f, .int .i64 0] 170 := hstI
  clear HR8 Hu
  by_cases hf : f = (s.size : Int)
  case neg =>
    have HRx : Hid (Q = .error 3) := by rw [Hid, HR9.out, finR, hl, if_neg hf]
    have k1 : (f == (s.size : Int)) = false := by rw [beq_eq_false_iff_ne]; exact hf
    have k2 : (f != (s.size : Int)) = true := by rw [bne_iff_ne]; exact hf
    have Hf := Lib.hid hf; clear hf
    go_upto_region 19 with (fail)
    have kbJ := kbI.setCell (p := ⟨R, 2, none⟩) (Nat.le_of_lt hDR) (.int .i64 3)
    have bDJ := bDI.setOther (E' := R) (j := 2) (by omega) (.int .i64 3)
    have bRJ := bRI.set (j := 2) (.int .i64 3)
    simp only [List.set_cons_zero, List.set_cons_succ] at bRJ
    obtain ⟨WJ, hWJ⟩ : ∃ WJ, WI.setCell ⟨R, 2, none⟩ (.int .i64 3) = WJ := ⟨_, rfl⟩
    change Code.wp _ _ _ _ (WI.setCell ⟨R, 2, none⟩ (.int .i64 3))
    rw [hWJ] at kbJ bDJ bRJ ⊢
    clear hWJ c1 c2 f2
    have c2 : WJ.cell? ⟨R, 2, none⟩ = some (.int .i64 3) := bRJ.cell 2
    unfold zeroS at bDJ
    obtain ⟨d0, d1, d2, d3, d4, d5⟩ := bDJ.cells6
    obtain ⟨y0, y1, y2, y3, y4, y5⟩ := bDJ.froz6
    go_upto_region 22 with (fail)
    have c2s := cell_other6 c2 hne0 (.int .i64 0) (.int .i64 0) (.string ⟨#[]⟩) (.slice none 0 0) (.string ⟨#[]⟩) (.string ⟨#[]⟩)
    have c2t := cell_other6d c2 hne0 (.int .i64 0) (.int .i64 0) (.string ⟨#[]⟩) (.slice none 0 0) (.string ⟨#[]⟩) (.string ⟨#[]⟩)
    have c2e : WJ.drew.cell? ⟨R, 2, none⟩ = some (.int .i64 3) := c2
    go_region_held3 (fun w => w.cell? ⟨R, 2, none⟩ = some (.int .i64 3)) (first | with_reducible exact c2 | with_reducible exact c2s | with_reducible exact c2t | with_reducible exact c2e) (fail)
    go_wp2_with fail
    have zz := drew6 (bDJ.set6 (.int .i64 0) (.int .i64 0) (.string ⟨#[]⟩) (.slice none 0 0) (.string ⟨#[]⟩) (.string ⟨#[]⟩))
    have kz := below_drew0 (below_set6 kbJ (Nat.le_refl _) (.int .i64 0) (.int .i64 0) (.string ⟨#[]⟩) (.slice none 0 0) (.string ⟨#[]⟩) (.string ⟨#[]⟩))
    refine bodyPost_ret (P := Tryz.prog) (v := .tuple #[.agg #[.int .i64 0, .int .i64 0, .string ⟨#[]⟩, .slice none 0 0, .string ⟨#[]⟩, .string ⟨#[]⟩], .int .i64 0, .string ⟨#[]⟩, .int .i64 3]) (resQ _ _ _ _ zz rfl rfl rfl rfl) rfl ?_
    rw [HRx.out]
    exact ⟨rfl, kz⟩

  have HR10 : Hid (Q = if aftE ⟨v1, v2, v3, v4, v5, X, u'⟩ = 0 then .ok ⟨v1, v2, v3, v4, v5, X, u'⟩ else .error (aftE ⟨v1, v2, v3, v4, v5, X, u'⟩)) := by rw [Hid, HR9.out, finR, hl, if_pos hf]
  have k1 : (f == (s.size : Int)) = true := by rw [beq_iff_eq]; exact hf
  have k2 : (f != (s.size : Int)) = false := by rw [bne_eq_false_iff_eq]; exact hf
  have Hf := Lib.hid hf
  have HF := Lib.hid (after_any v1 v2 v4 (bA' v3) (bA' v5) ⟨#[]⟩ (bA' u') X xa X.length xc WI HBD3.out)
  rw [bA'_list, bA'_list, bA'_list] at HF
  obtain ⟨ae, hae⟩ : ∃ ae, aftE ⟨v1, v2, v3, v4, v5, X, u'⟩ = ae := ⟨_, rfl⟩
  rw [hae] at HF HR10
  clear hae HR9 hf
  obtain ⟨e0, e1, e2, e3, e4, e5⟩ := bEI.cells6
  go_wp2_with fail
  refine HF.out.mono ?_
  rintro e WJ ⟨rfl, hbJ⟩
  have kbJ := step2 kbI hbJ
  have bDJ := bDI.below hbJ
  have bEJ := bEI.below hbJ
  have bRJ := bRI.below hbJ
  have ownJ := ownI.below hbJ
  clear kbI bDI bEI bRI ownI hbJ hstI c1 c2 f2 e0 e1 e2 e3 e4 e5 HF
  have c2 : WJ.cell? ⟨R, 2, none⟩ = some (.int .i64 0) := bRJ.cell 2
  have f2 := bRJ.frozen 2
  go_upto_region 21 with (fail)
  have kbK := kbJ.setCell (p := ⟨R, 2, none⟩) (Nat.le_of_lt hDR) (.int .i64 ae)
  have bDK := bDJ.setOther (E' := R) (j := 2) (by omega) (.int .i64 ae)
  have bEK := bEJ.setOther (E' := R) (j := 2) (by omega) (.int .i64 ae)
  have bRK := bRJ.set (j := 2) (.int .i64 ae)
  have ownK := ownJ.setLow (E := R) (j := 2) (by omega) (.int .i64 ae)
  simp only [List.set_cons_zero, List.set_cons_succ] at bRK
  obtain ⟨WK, hWK⟩ : ∃ WK, WJ.setCell ⟨R, 2, none⟩ (.int .i64 ae) = WK := ⟨_, rfl⟩
  change Code.wp _ _ _ _ (WJ.setCell ⟨R, 2, none⟩ (.int .i64 ae))
  rw [hWK] at kbK bDK bEK bRK ownK ⊢
  clear hWK c2 f2 kbJ bDJ bEJ bRJ ownJ
  have c2 : WK.cell? ⟨R, 2, none⟩ = some (.int .i64 ae) := bRK.cell 2
  obtain ⟨e0, e1, e2, e3, e4, e5⟩ := bEK.cells6
  by_cases hae : ae = 0
  case neg =>
    have HRx : Hid (Q = .error ae) := by rw [Hid, HR10.out, if_neg hae]
    have q2 : (ae != 0) = true := by rw [bne_iff_ne]; exact hae
    have Hae := Lib.hid hae; clear hae
    clear HR10
    unfold zeroS at bDK
    obtain ⟨d0, d1, d2, d3, d4, d5⟩ := bDK.cells6
    obtain ⟨y0, y1, y2, y3, y4, y5⟩ := bDK.froz6
    go_upto_region 22 with (fail)
    have c2s := cell_other6 c2 hne0 (.int .i64 0) (.int .i64 0) (.string ⟨#[]⟩) (.slice none 0 0) (.string ⟨#[]⟩) (.string ⟨#[]⟩)
    have c2t := cell_other6d c2 hne0 (.int .i64 0) (.int .i64 0) (.string ⟨#[]⟩) (.slice none 0 0) (.string ⟨#[]⟩) (.string ⟨#[]⟩)
    have c2e : WK.drew.cell? ⟨R, 2, none⟩ = some (.int .i64 ae) := c2
    go_region_held3 (fun w => w.cell? ⟨R, 2, none⟩ = some (.int .i64 ae)) (first | with_reducible exact c2 | with_reducible exact c2s | with_reducible exact c2t | with_reducible exact c2e) (fail)
    go_wp2_with fail
    have zz := drew6 (bDK.set6 (.int .i64 0) (.int .i64 0) (.string ⟨#[]⟩) (.slice none 0 0) (.string ⟨#[]⟩) (.string ⟨#[]⟩))
    have kz := below_drew0 (below_set6 kbK (Nat.le_refl _) (.int .i64 0) (.int .i64 0) (.string ⟨#[]⟩) (.slice none 0 0) (.string ⟨#[]⟩) (.string ⟨#[]⟩))
    refine bodyPost_ret (P := Tryz.prog) (v := .tuple #[.agg #[.int .i64 0, .int .i64 0, .string ⟨#[]⟩, .slice none 0 0, .string ⟨#[]⟩, .string ⟨#[]⟩], .int .i64 0, .string ⟨#[]⟩, .int .i64 ae]) (resQ _ _ _ _ zz rfl rfl rfl rfl) rfl ?_
    rw [HRx.out]
    exact ⟨rfl, kz⟩

  subst hae
  have HRk : Hid (Q = .ok ⟨v1, v2, v3, v4, v5, X, u'⟩) := by rw [Hid, HR10.out, if_pos rfl]
  clear HR10
  unfold zeroS at bDK
  obtain ⟨d0, d1, d2, d3, d4, d5⟩ := bDK.cells6
  obtain ⟨y0, y1, y2, y3, y4, y5⟩ := bDK.froz6
  go_wp2_with fail
  have zz := bDK.set6 (.int .i64 v1) (.int .i64 v2) (.string (bA' v3)) (.slice xa X.length xc) (.string ⟨#[]⟩) (.string (bA' u'))
  have kz := below_set6 kbK (Nat.le_refl _) (.int .i64 v1) (.int .i64 v2) (.string (bA' v3)) (.slice xa X.length xc) (.string ⟨#[]⟩) (.string (bA' u'))
  have oz := ownK.set6 (E := w.heap.size) (by omega) (.int .i64 v1) (.int .i64 v2) (.string (bA' v3)) (.slice xa X.length xc) (.string ⟨#[]⟩) (.string (bA' u'))
  refine bodyPost_ret (P := Tryz.prog) (v := .tuple #[.agg #[.int .i64 v1, .int .i64 v2, .string (bA' v3), .slice xa X.length xc, .string ⟨#[]⟩, .string (bA' u')], .int .i64 v4, .string (bA' v5), .int .i64 0]) (resQ _ _ _ _ zz rfl rfl rfl rfl) rfl ?_
  rw [HRk.out]
  exact ⟨_, rfl, oz.mono (by omega), kz⟩
end Go.Proofs.YtpkapcijgldhhaaGreatDoor
