/-
  The walk of the function that reads a head: it panics at the first error.
-/
import Derived.Test.YtpkapcijgldhhaaGreatDoorCe09
import Derived.Deep.RegionLaw
import Derived.Deep.RegionWith
namespace Go.Proofs.YtpkapcijgldhhaaGreatDoor
open Go.RowKit Go.Shelf

def HeadQ (r : Except Int Hd) (w : World) (e : Ending) (w' : World) : Prop := match r with
  | .ok h => ∃ va, e = .returned (.agg #[.int .i64 h.kind, .string h.path, va, .string h.target, .int .i64 0, .string ⟨#[]⟩, .slice none 0 0]) ∧ OwnG w.heap.size 192 2 At.vals w' va h.attrs ∧ Below w.heap.size w w'
  | .error x => e = .panicked (failP x) ∧ Below w.heap.size w w'
theorem owns_mono {w : World} {base base' : Nat} {e : TypeId} {size : Nat} {v : Value} {n : Nat} {xs : List Value} (h : w.ownsRow base e size v n xs) (hb : base' ≤ base) : w.ownsRow base' e size v n xs :=
  ⟨h.1, h.2.imp id fun ⟨g, cap, cur, hv, hg, r⟩ => ⟨g, cap, cur, hv, Nat.le_trans hb hg, r⟩⟩
theorem headQ_no {r : Except Int Hd} {x : Int} (h : r = .error x) (w w' : World) (hb : Below w.heap.size w w') : HeadQ r w (.panicked (failP x)) w' := by rw [h]; exact ⟨rfl, hb⟩
theorem owns_keep {W W' : World} {aB base : Nat} {e : TypeId} {size : Nat} {v : Value} {n : Nat} {xs : List Value} (h : W.ownsRow base e size v n xs) (hk : Keep aB W W') (hb : aB < base) : W'.ownsRow base e size v n xs := by
  refine ⟨h.1, ?_⟩
  rcases h.2 with h2 | ⟨g, cap, cur, hv, hg, hh, r⟩
  · exact .inl h2
  · exact .inr ⟨g, cap, cur, hv, hg, (hk.2 g (by omega) (Array.getElem?_eq_some_iff.1 hh).1).trans hh, r⟩
theorem Box.keep {W W' : World} {aB E : Nat} {cs : List Value} {T : TypeId} (h : Box W E cs T) (hk : Keep aB W W') (hb : aB < E) : Box W' E cs T := (hk.2 E hb h.lt).trans h
theorem owns_set {w : World} {base : Nat} {e : TypeId} {size : Nat} {v : Value} {n : Nat} {xs : List Value} (h : w.ownsRow base e size v n xs) (p : Addr) (u : Value) {cs : Array Value} {T : TypeId} {fz : Nat × Nat} (hp : w.heap[p.block]? = some (.cells cs T fz)) (hT : T ≠ e) : (w.setCell p u).ownsRow base e size v n xs := by
  refine ⟨h.1, h.2.imp id fun ⟨g, cap, cur, e1, e2, hg, r⟩ => ⟨g, cap, cur, e1, e2, ?_, r⟩⟩
  have hne : p.block ≠ g := by
    intro e'
    rw [e', hg] at hp
    cases hp
    exact hT rfl
  simp only [World.setCell, Array.getElem?_modify]
  rw [if_neg hne]; exact hg
theorem set_block {W : World} {B j : Nat} {cs : Array Value} {t : TypeId} {f : Nat × Nat} (v : Value) (h : W.heap[B]? = some (.cells cs t f)) : (W.setCell ⟨B, j, none⟩ v).heap[B]? = some (.cells (cs.setIfInBounds j v) t f) := by
  obtain ⟨hlt, hk⟩ := Array.getElem?_eq_some_iff.1 h
  show (W.heap.modify B _)[B]? = _
  rw [Array.getElem?_eq_getElem (by rw [Array.size_modify]; exact hlt), Array.getElem_modify_self, hk]
  rfl
theorem Box.set {W : World} {E j : Nat} {cs : List Value} {T : TypeId} (h : Box W E cs T) (v : Value) : Box (W.setCell ⟨E, j, none⟩ v) E (cs.set j v) T := by
  have := set_block (j := j) v h
  unfold Box
  rw [this]; simp
theorem cell_setOther {W : World} {E b j o : Nat} (hne : E ≠ b) (v : Value) : (W.setCell ⟨E, j, none⟩ v).cell? ⟨b, o, none⟩ = W.cell? ⟨b, o, none⟩ := by
  unfold World.cell?
  simp only [World.setCell, Array.getElem?_modify]
  rw [if_neg hne]
theorem Box.setOther {W : World} {E E' j : Nat} {cs : List Value} {T : TypeId} (h : Box W E cs T) (hne : E' ≠ E) (v : Value) : Box (W.setCell ⟨E', j, none⟩ v) E cs T := by
  unfold Box
  simp only [World.setCell, Array.getElem?_modify]
  rw [if_neg hne]; exact h
theorem RdAt.belowN {W W' : World} {s : ByteArray} {aB B n : Nat} {a : Int} (h : RdAt W s aB B a) (hb : Below n W W') (hn : B + 3 < n) : RdAt W' s aB B a := by
  have hl := h.lt
  have ha := h.la
  exact ⟨(hb.cell (p := ⟨B, 0, none⟩) (show B < _ by omega)).trans h.cs, (hb.cell (p := ⟨B + 1, 0, none⟩) (show B + 1 < _ by omega)).trans h.pa, (hb.cell (p := ⟨B + 2, 0, none⟩) (show B + 2 < _ by omega)).trans h.nu, (hb.cell (p := ⟨B + 3, 0, none⟩) hn).trans h.mu,
    (hb.cell (p := ⟨aB, 0, none⟩) (show aB < _ by omega)).trans h.ca, (hb.frozen (p := ⟨aB, 0, none⟩) (show aB < _ by omega)).trans h.fz, Nat.lt_of_lt_of_le hl hb.size, ha⟩
theorem RdAt.setOther {W : World} {s : ByteArray} {aB B E j : Nat} {a : Int} (h : RdAt W s aB B a) (hE : B + 3 < E) (v : Value) : RdAt (W.setCell ⟨E, j, none⟩ v) s aB B a := by
  have hl := h.lt
  have ha := h.la
  exact ⟨(cell_setOther (by omega) v).trans h.cs, (cell_setOther (by omega) v).trans h.pa, (cell_setOther (by omega) v).trans h.nu, (cell_setOther (by omega) v).trans h.mu, (cell_setOther (by omega) v).trans h.ca,
    (World.frozen?_setCell _ _ _ _).trans h.fz, by simpa using hl, ha⟩
theorem own_form {w : World} {base : Nat} {e : TypeId} {size : Nat} {v : Value} {n : Nat} {xs : List Value} (h : w.ownsRow base e size v n xs) : ∃ a c, v = .slice a n c := by
  rcases h.2 with ⟨rfl, rfl⟩ | ⟨g, cap, cur, rfl, _⟩
  · exact ⟨none, 0, rfl⟩
  · exact ⟨_, cap, rfl⟩
theorem step_append_own {P : Program} {w : World} {ops : Array Oper} {o : Oper} {a : Act} {K : Act → World → Prop} {Q : Exit → Act → World → Prop} {E : Prop} (hgd : o.guard = none) (s x : Operand) (t : TypeId)
    (ho : o.op = .call { callee := .builtin .append, args := #[s, x], argTypes := #[t, t] })
    (base : Nat) (e : TypeId) (i : TypeInfo) (z : Value) (size bytes : Nat) (ht : P.underlying t = some (.slice e)) (hi : P.info? e = some i) (hz : i.zero = some z)
    (hsize : i.size = size) (hby : i.bytes = bytes) (hzs : z.cells.size = size) (hsz : 0 < size)
    (v : Value) (n : Nat) (xs : List Value) (hs : a.eval s = v) (hown : w.ownsRow base e size v n xs)
    (ad : Addr) (m c : Nat) (news : List Value) (hx : a.eval x = .slice (some ad) m c) (hl : news.length = m * size) (hnews : ∀ j u, news[j]? = some u → w.cell? (ad.add j) = some u) (h1 : ∀ u ∈ news, u.oneCell' = true)
    (h63 : n + m ≤ maxLen) (hbytes : (n + m) * bytes ≤ 140737488355328) (hbase : base ≤ w.heap.size)
    (h : ∀ a' c' w', w'.ownsRow base e size (.slice a' (n + m) c') (n + m) (xs ++ news) → Hid (Below base w w') → K (a.put o.dst (.slice a' (n + m) c')) w') :
    if Region.wanted o (yielded ops a.tmps) = true then Oper.wp P o a w K Q else E := by
  have hw : Region.wanted o (yielded ops a.tmps) = true := by simp [Region.wanted, hgd]
  rw [if_pos hw]
  refine wp_append_own w s x t ho base e i z size bytes ht hi hz hsize hby hzs hsz v n xs hs hown ad m c news hx hl hnews h1 h63 hbytes hbase fun v' w' h2 h3 _ => ?_
  obtain ⟨a', c', rfl⟩ := own_form h2
  exact h a' c' w' h2 (below_grownBy (Below.refl _ _) hown h3 hbase)
theorem cell_str2 (w : World) (k v : ByteArray) (T : TypeId) (j : Nat) (x : Value) (h : [Value.string k, .string v][j]? = some x) : (w.alloc (.cells #[.string k, .string v] T)).cell? ((⟨w.heap.size, 0, none⟩ : Addr).add j) = some x := by
  rw [Addr.add_mid, Nat.zero_add, alloc_new_cell]; simpa using h
theorem infoAt : (Tryz.prog.info? 192).map (fun i => (i.zero, i.size, i.bytes)) = some (some (.agg #[.string ⟨#[]⟩, .string ⟨#[]⟩]), 2, 32) := by kernel_rfl
theorem readerB_any (s : ByteArray) (aB : Nat) (a : Int) (W : World) (B : Nat) (hB : W.heap.size = B) (ha : W.cell? ⟨aB, 0, none⟩ = some (.int .i64 a)) (hf : W.frozen? ⟨aB, 0, none⟩ = false) :
    Calls Tryz.prog 142 #[.string s, .pointer (some ⟨aB, 0, none⟩)] W fun e W' =>
      e = .returned (.tuple #[.func (.func 177) #[] #[.pointer (some ⟨B, 0, none⟩), .pointer (some ⟨B + 1, 0, none⟩), .pointer (some ⟨B + 3, 0, none⟩)],
        .func (.func 178) #[] #[.pointer (some ⟨B, 0, none⟩), .pointer (some ⟨B + 1, 0, none⟩), .pointer (some ⟨B + 3, 0, none⟩)],
        .func (.func 179) #[] #[.pointer (some ⟨B + 2, 0, none⟩), .pointer (some ⟨B + 3, 0, none⟩)]]) ∧ RdAt W' s aB B a ∧ Below B W W' := by
  subst hB
  exact reader_any s aB a W ha hf
set_option maxRecDepth 100000 in
set_option maxHeartbeats 2000000 in
theorem head_walk (s : ByteArray) (w : World) (he : Env w) (hs : s.size ≤ 1000000) : Calls Tryz.prog 143 #[.string s] w (HeadQ (headR s.data.toList) w) := by
  have eg2 := enters_of Tryz.func177 (by kernel_rfl) rfl
  have eg3 := enters_of Tryz.func178 (by kernel_rfl) rfl
  have eg4 := enters_of Tryz.func179 (by kernel_rfl) rfl
  have HR := Lib.hid (headR_steps s.data.toList)
  have HE := Lib.hid (show ∀ W, Below w.heap.size w W → Env W from fun W hW => he.below hW)
  clear he
  go_enter Tryz.func143, Tryz.ntmps143
  go_upto_region 2 with (fail)
  have hbx : Box ((w.alloc (.cells #[.int .i64 0, .string ⟨#[]⟩, .slice none 0 0, .string ⟨#[]⟩, .int .i64 0, .string ⟨#[]⟩, .slice none 0 0] 109)).alloc (.cells #[.int .i64 0] 3)) w.heap.size [.int .i64 0, .string ⟨#[]⟩, .slice none 0 0, .string ⟨#[]⟩, .int .i64 0, .string ⟨#[]⟩, .slice none 0 0] 109 :=
    (Box.new w [.int .i64 0, .string ⟨#[]⟩, .slice none 0 0, .string ⟨#[]⟩, .int .i64 0, .string ⟨#[]⟩, .slice none 0 0] 109).below ((below_refl _).alloc (Nat.le_refl _) _)
  have hb0 : Below w.heap.size w ((w.alloc (.cells #[.int .i64 0, .string ⟨#[]⟩, .slice none 0 0, .string ⟨#[]⟩, .int .i64 0, .string ⟨#[]⟩, .slice none 0 0] 109)).alloc (.cells #[.int .i64 0] 3)) :=
    ((below_refl w).alloc (Nat.le_refl _) _).alloc (by simp) _
  have hca : ((w.alloc (.cells #[.int .i64 0, .string ⟨#[]⟩, .slice none 0 0, .string ⟨#[]⟩, .int .i64 0, .string ⟨#[]⟩, .slice none 0 0] 109)).alloc (.cells #[.int .i64 0] 3)).cell? ⟨w.heap.size + 1, 0, none⟩ = some (.int .i64 0) := by
    rw [← size_one w (.cells #[.int .i64 0, .string ⟨#[]⟩, .slice none 0 0, .string ⟨#[]⟩, .int .i64 0, .string ⟨#[]⟩, .slice none 0 0] 109)]; exact alloc_new_cell _ _ _ 0
  have hfa : ((w.alloc (.cells #[.int .i64 0, .string ⟨#[]⟩, .slice none 0 0, .string ⟨#[]⟩, .int .i64 0, .string ⟨#[]⟩, .slice none 0 0] 109)).alloc (.cells #[.int .i64 0] 3)).frozen? ⟨w.heap.size + 1, 0, none⟩ = false := by
    rw [← size_one w (.cells #[.int .i64 0, .string ⟨#[]⟩, .slice none 0 0, .string ⟨#[]⟩, .int .i64 0, .string ⟨#[]⟩, .slice none 0 0] 109)]; exact alloc_new_frozen _ _ _ 0
  have hsz : w.heap.size + 1 < ((w.alloc (.cells #[.int .i64 0, .string ⟨#[]⟩, .slice none 0 0, .string ⟨#[]⟩, .int .i64 0, .string ⟨#[]⟩, .slice none 0 0] 109)).alloc (.cells #[.int .i64 0] 3)).heap.size := by simp
  obtain ⟨W0, hW0⟩ : ∃ W0, (w.alloc (.cells #[.int .i64 0, .string ⟨#[]⟩, .slice none 0 0, .string ⟨#[]⟩, .int .i64 0, .string ⟨#[]⟩, .slice none 0 0] 109)).alloc (.cells #[.int .i64 0] 3) = W0 := ⟨_, rfl⟩
  change Code.wp _ _ _ _ ((w.alloc (.cells #[.int .i64 0, .string ⟨#[]⟩, .slice none 0 0, .string ⟨#[]⟩, .int .i64 0, .string ⟨#[]⟩, .slice none 0 0] 109)).alloc (.cells #[.int .i64 0] 3))
  rw [hW0] at hbx hb0 hca hfa hsz ⊢
  clear hW0
  have KB := Lib.hid (show ∀ W W', Below w.heap.size w W → Keep (w.heap.size + 1) W W' → Below w.heap.size w W' from fun W W' h1 h2 => h1.trans (h2.1.mono (Nat.le_succ _)))
  have KX := Lib.hid (show ∀ W W', Box W w.heap.size [.int .i64 0, .string ⟨#[]⟩, .slice none 0 0, .string ⟨#[]⟩, .int .i64 0, .string ⟨#[]⟩, .slice none 0 0] 109 → Keep (w.heap.size + 1) W W' → Box W' w.heap.size [.int .i64 0, .string ⟨#[]⟩, .slice none 0 0, .string ⟨#[]⟩, .int .i64 0, .string ⟨#[]⟩, .slice none 0 0] 109 from fun W W' h1 h2 => h1.below' h2.1 (Nat.lt_succ_self _))
  obtain ⟨B, hB⟩ : ∃ B, W0.heap.size = B := ⟨_, rfl⟩
  have HRD := Lib.hid (readerB_any s (w.heap.size + 1) 0 W0 B hB hca hfa)
  have hBl : w.heap.size + 1 < B := by omega
  have HBe := Lib.hid hB
  clear hB hca hfa
  go_wp2_with fail
  refine HRD.out.mono ?_
  rintro e W1 ⟨rfl, hr1, hb1⟩
  have kb1 : Below w.heap.size w W1 := hb0.trans (hb1.mono (by omega))
  have bx1 := hbx.below' hb1 (by omega)
  clear hb0 hbx hb1 HRD hsz HBe
  go_wp2_with fail
  refine (namesQ_any W1).mono ?_
  rintro e W2 ⟨g, rfl, hg, bg, hb2⟩
  have hr2 := hr1.below hb2
  have kb2 := step2 kb1 hb2
  have bx2 := bx1.below hb2
  have hBg : w.heap.size + 1 < g := by have := hr1.lt; omega
  clear hr1 kb1 bx1 hb2 hg
  rcases hx : txt s.data.toList 0 with x | ⟨u, b1⟩
  · have HC := Lib.hid (txt_no' hx hr2 (HE.out _ kb2) (by omega))
    have HR2 : Hid (headR s.data.toList = .error x) := by rw [Hid, HR.out, hx]; rfl
    clear hx HR hr2 bg
    go_wp2_with fail
    refine HC.out.mono ?_
    rintro e W3 ⟨rfl, hk3⟩
    go_wp2_with fail
    exact ⟨rfl, headQ_no HR2.out _ _ (KB.out _ _ kb2 hk3)⟩
  have HC := Lib.hid (txt_ok' hx hr2 (HE.out _ kb2) (by omega))
  have HR2 : Hid (headR s.data.toList = if kindOf u = 0 then .error 3 else hd2 s.data.toList (kindOf u) (txt s.data.toList b1)) := by rw [Hid, HR.out, hx]; rfl
  clear hx HR hr2
  go_wp2_with fail
  refine HC.out.mono ?_
  rintro e W3 ⟨rfl, hr3, hk3⟩
  have kb3 := KB.out _ _ kb2 hk3
  have bx3 := KX.out _ _ bx2 hk3
  have HIX := Lib.hid (idx_any _ namesB (bA' u) W3 (strs_box (bg.keep hk3 hBg) (by unfold maxLen; decide)) (by decide))
  change Hid (Calls _ _ #[.slice (some ⟨g, 0, none⟩) 6 6, .string (bA' u)] _ _) at HIX
  clear HC kb2 bx2 bg hk3
  go_wp2_with fail
  refine HIX.out.mono ?_
  rintro e W4 ⟨n, rfl, hn, hb4⟩
  have hr4 := hr3.below hb4
  have kb4 := step2 kb3 hb4
  have bx4 := bx3.below hb4
  have hnk := idx_kind hn.out
  rw [bA'_list] at hnk
  clear HIX hr3 kb3 bx3 hb4 hn
  by_cases h0 : kindOf u = 0
  · have HR3 : Hid (headR s.data.toList = .error 3) := by rw [Hid, HR2.out, if_pos h0]
    have hneg : n < 0 := by omega
    clear HR2 h0 hnk hr4 bx4
    go_wp2_with fail
    exact ⟨rfl, headQ_no HR3.out _ _ kb4⟩
  rw [if_neg h0] at HR2
  have hk16 := (kindOf_iff.1 ⟨rfl, h0⟩).1
  generalize kindOf u = kd at *
  have hkd : n + 1 = kd := by omega
  have hn0 : 0 ≤ n := by omega
  have hn5 : n ≤ 5 := by omega
  have HKD := Lib.hid hkd
  clear hnk h0 hk16 hkd
  rcases hx : txt s.data.toList b1 with x | ⟨pt, b2⟩
  · have HC := Lib.hid (txt_no' hx hr4 (HE.out _ kb4) (by omega))
    have HR3 : Hid (headR s.data.toList = .error x) := by rw [Hid, HR2.out, hx]; rfl
    clear hx HR2 hr4
    go_wp2_with fail
    refine HC.out.mono ?_
    rintro e W5 ⟨rfl, hk5⟩
    go_wp2_with fail
    exact ⟨rfl, headQ_no HR3.out _ _ (KB.out _ _ kb4 hk5)⟩
  have HC := Lib.hid (txt_ok' hx hr4 (HE.out _ kb4) (by omega))
  have HR3 : Hid (headR s.data.toList = hd3 s.data.toList kd pt (cnt 400 s.data.toList b2)) := by rw [Hid, HR2.out, hx]; rfl
  clear hx HR2 hr4
  go_wp2_with fail
  refine HC.out.mono ?_
  rintro e W5 ⟨rfl, hr5, hk5⟩
  have kb5 := KB.out _ _ kb4 hk5
  have bx5 := KX.out _ _ bx4 hk5
  clear HC kb4 bx4 hk5
  go_upto_region 7 with (fail)
  have bE := Box.new W5 [.int .i64 (n + 1), .string (bA' pt), .slice none 0 0, .string ⟨#[]⟩, .int .i64 0, .string ⟨#[]⟩, .slice none 0 0] 109
  have hb6 : Below W5.heap.size W5 (W5.alloc (.cells #[.int .i64 (n + 1), .string (bA' pt), .slice none 0 0, .string ⟨#[]⟩, .int .i64 0, .string ⟨#[]⟩, .slice none 0 0] 109)) := (below_refl _).alloc (Nat.le_refl _) _
  change Box (W5.alloc (.cells #[.int .i64 (n + 1), .string (bA' pt), .slice none 0 0, .string ⟨#[]⟩, .int .i64 0, .string ⟨#[]⟩, .slice none 0 0] 109)) _ _ _ at bE
  obtain ⟨W6, hW6⟩ : ∃ W6, W5.alloc (.cells #[.int .i64 (n + 1), .string (bA' pt), .slice none 0 0, .string ⟨#[]⟩, .int .i64 0, .string ⟨#[]⟩, .slice none 0 0] 109) = W6 := ⟨_, rfl⟩
  change Code.wp _ _ _ _ (W5.alloc (.cells #[.int .i64 (n + 1), .string (bA' pt), .slice none 0 0, .string ⟨#[]⟩, .int .i64 0, .string ⟨#[]⟩, .slice none 0 0] 109))
  rw [hW6] at bE hb6 ⊢
  have hEB : w.heap.size + 1 < W5.heap.size := by have := hr5.lt; omega
  have hBE : B + 3 < W5.heap.size := hr5.lt
  have hr6 := hr5.below hb6
  have kb6 := step2 kb5 hb6
  have bx6 := bx5.below hb6
  clear hW6 hr5 kb5 bx5 hb6
  generalize W5.heap.size = E at *
  rcases hx : cnt 400 s.data.toList b2 with x | ⟨N, b3⟩
  · have HC := Lib.hid (cnt_no' hx hr6 (HE.out _ kb6) (by omega))
    have HR4 : Hid (headR s.data.toList = .error x) := by rw [Hid, HR3.out, hx]; rfl
    clear hx HR3 hr6
    go_wp2_with fail
    refine HC.out.mono ?_
    rintro e W7 ⟨rfl, hk7⟩
    go_wp2_with fail
    exact ⟨rfl, headQ_no HR4.out _ _ (KB.out _ _ kb6 hk7)⟩
  have HC := Lib.hid (cnt_ok' hx hr6 (HE.out _ kb6) (by omega))
  have HR4 : Hid (headR s.data.toList = hd4 s.data.toList kd pt (rowR (atR s.data.toList) b3 N.toNat)) := by rw [Hid, HR3.out, hx]; rfl
  obtain ⟨_, hN0, hN4⟩ := cnt_ok_parts hx
  clear hx HR3 hr6
  go_wp2_with fail
  refine HC.out.mono ?_
  rintro e W7 ⟨rfl, hr7, hk7⟩
  have kb7 := KB.out _ _ kb6 hk7
  have bx7 := KX.out _ _ bx6 hk7
  have bE7 := bE.keep hk7 hEB
  clear HC kb6 bx6 hk7 bE
  obtain ⟨M, rfl⟩ := Int.eq_ofNat_of_zero_le hN0
  rw [Int.toNat_natCast] at HR4
  have hM : M ≤ 400 := by omega
  have hown0 : W7.ownsRow (E + 1) 192 2 (.slice none 0 0) 0 [] := World.ownsRow_nil _ _ _ _
  go_wp2_with fail
  go_loopw [9, 31] (fun _ i wr => ∃ (k : Nat) (A : List At) (b : Int) (va : Value), k ≤ M ∧ i = .int .i64 k ∧ A.length = k ∧ Hid (rowR (atR s.data.toList) b3 k = .ok (A, b)) ∧ RdAt wr s (w.heap.size + 1) B b ∧ Below w.heap.size w wr ∧
      Box wr w.heap.size [.int .i64 0, .string ⟨#[]⟩, .slice none 0 0, .string ⟨#[]⟩, .int .i64 0, .string ⟨#[]⟩, .slice none 0 0] 109 ∧
      Box wr E [.int .i64 (n + 1), .string (bA' pt), va, .string ⟨#[]⟩, .int .i64 0, .string ⟨#[]⟩, .slice none 0 0] 109 ∧ OwnG (E + 1) 192 2 At.vals wr va A) (fun _ i _ => M - (intOf i).toNat)
  case atStart => exact ⟨0, [], b3, _, by omega, rfl, rfl, rfl, hr7, kb7, bx7, bE7, hown0⟩
  case round =>
    obtain ⟨k, A, b, va, hk, rfl, rfl, hrow, hr, kb, bx, bE8, hown⟩ := hrel
    clear hr7 kb7 bx7 bE7 hown0
    obtain ⟨ax, cx, rfl⟩ := (OwnG.row (n := 2) (f := At.vals) (d := at0) (fun _ => rfl) hown).form
    by_cases hlt : A.length < M
    · rcases hx : txt s.data.toList b with x | ⟨ku, b5⟩
      · have HC := Lib.hid (txt_no' hx hr (HE.out _ kb) (by omega))
        have HR5 : Hid (headR s.data.toList = .error x) := by rw [Hid, HR4.out, rowR_stop hrow.out (atR_e1 hx) M hlt]; rfl
        clear hx HR4 hr
        go_wp2_with fail
        refine HC.out.mono ?_
        rintro e W8 ⟨rfl, hk8⟩
        go_wp2_with fail
        exact ⟨rfl, headQ_no HR5.out _ _ (KB.out _ _ kb hk8)⟩
      have HC := Lib.hid (txt_ok' hx hr (HE.out _ kb) (by omega))
      have HX1 := Lib.hid hx
      clear hx hr
      go_wp2_with fail
      refine HC.out.mono ?_
      rintro e W8 ⟨rfl, hr8, hk8⟩
      have kb8 := KB.out _ _ kb hk8
      have bx8 := KX.out _ _ bx hk8
      have bE9 := bE8.keep hk8 hEB
      have own8 : OwnG (E + 1) 192 2 At.vals W8 (.slice ax A.length cx) A := owns_keep hown hk8 (by omega)
      clear HC kb bx hk8 bE8 hown
      have hd8 : Below W8.heap.size W8 W8.drew := below_drew0 (below_refl W8)
      go_upto_region 10 with (fail)
      rcases hx : txt s.data.toList b5 with x | ⟨vu, b6⟩
      · have HC := Lib.hid (txt_no' hx (hr8.below hd8) (HE.out _ (step2 kb8 hd8)) (by omega))
        have HR5 : Hid (headR s.data.toList = .error x) := by rw [Hid, HR4.out, rowR_stop hrow.out (atR_e2 HX1.out hx) M hlt]; rfl
        have e2 : W8.cell? ⟨E, 2, none⟩ = some (.slice ax A.length cx) := bE9.cell 2
        have kb9 := step2 kb8 hd8
        clear hx HR4 hr8
        refine wp_region_any (by kernel_rfl) ?_
        change wpAny _ _ _ _ _ _ _ (World.drew _)
        refine wpAny_take (i := 0) (v := ?_) rfl (by kernel_rfl) (by kernel_rfl) (by kernel_rfl) (fun _ _ _ h => h) (Or.inl ⟨by rfl, ?_⟩) ?_
        rotate_left
        · intro w
          go_simp
          with_reducible rfl
        refine wpAny_take (i := 2) (v := ?_) rfl (by kernel_rfl) (by kernel_rfl) (by kernel_rfl) (fun _ _ _ h => h) (Or.inl ⟨by rfl, ?_⟩) ?_
        rotate_left
        · intro w
          go_simp
          with_reducible rfl
        refine wpAny_take (i := 3) (v := ?_) rfl (by kernel_rfl) (by kernel_rfl) (by kernel_rfl) (fun _ _ _ h => h) (Or.inl ⟨by rfl, ?_⟩) ?_
        rotate_left
        · intro w
          go_simp
          with_reducible rfl
        refine wpAny_ready (rs := [1, 4]) (by kernel_rfl) (by simp) ?_
        refine AllReady.cons rfl (fun K hK => ?_) ?_
        · go_simp
          refine hK _ _ ?_
          clear hK K
          refine wpAny_ready (rs := [4]) (by kernel_rfl) (by simp) ?_
          refine AllReady.cons rfl (fun K hK => ?_) AllReady.nil
          go_simp
          go_at_call 178
          refine HC.out.mono ?_
          rintro e W9 ⟨rfl, hk9⟩
          exact ⟨rfl, headQ_no HR5.out _ _ (KB.out _ _ kb9 hk9)⟩
        · refine AllReady.cons rfl (fun K hK => ?_) AllReady.nil
          go_simp
          go_at_call 178
          refine HC.out.mono ?_
          rintro e W9 ⟨rfl, hk9⟩
          exact ⟨rfl, headQ_no HR5.out _ _ (KB.out _ _ kb9 hk9)⟩
      have HC := Lib.hid (txt_ok' hx (hr8.below hd8) (HE.out _ (step2 kb8 hd8)) (by omega))
      have HNX := Lib.hid (rowR_next hrow.out (atR_o HX1.out hx))
      have e2 : W8.cell? ⟨E, 2, none⟩ = some (.slice ax A.length cx) := bE9.cell 2
      have bEd := bE9.below hd8
      have bxd := bx8.below hd8
      have ownd : OwnG (E + 1) 192 2 At.vals W8.drew (.slice ax A.length cx) A := owns_below own8 hd8
      have kbd := step2 kb8 hd8
      clear hx hr8 bE9 bx8 own8 kb8
      obtain ⟨i0, hi, hz0, hz1, hz2⟩ := info_parts infoAt
      go_region_law (first
        | (go_simp; go_at_call 178; refine HC.out.mono ?_; rintro e W9 ⟨rfl, hr9, hk9⟩; have kb9 := KB.out _ _ kbd hk9; have bx9 := KX.out _ _ bxd hk9; have bE10 := bEd.keep hk9 hEB; have own9 := owns_keep ownd hk9 (by omega); have e2b : W9.cell? ⟨E, 2, none⟩ = some (.slice ax A.length cx) := bE10.cell 2; have hEl := bE10.lt)
        | (refine step_append_own rfl (.tmp 36) (.tmp 41) 106 rfl (E + 1) 192 i0 (.agg #[.string ⟨#[]⟩, .string ⟨#[]⟩]) 2 32 Tryz.underlying106 hi hz0 hz1 hz2 rfl (by decide) _ _ _ (by simp [Act.eval]) (own9.alloc _) ⟨W9.heap.size, 0, none⟩ 1 1 [.string (bA' ku), .string (bA' vu)] (by simp [Act.eval]) rfl (fun j x h => cell_str2 W9 (bA' ku) (bA' vu) _ j x h) (fun u hu => by rw [List.mem_cons, List.mem_singleton] at hu; rcases hu with rfl | rfl <;> rfl) (by unfold maxLen; omega) (by omega) (by simp; omega) ?_; intro a4 c4 W10 own10 hg4; have bE11 := (bE10.below ((below_refl W9).alloc (Nat.le_refl _) _)).below' hg4.out (Nat.lt_succ_self _); have e2c : W10.cell? ⟨E, 2, none⟩ = some (.slice ax A.length cx) := bE11.cell 2; have f2c := bE11.frozen 2))
      all_goals
        have hr10 := (hr9.below ((below_refl W9).alloc (Nat.le_refl _) (.cells #[.string (bA' ku), .string (bA' vu)] 192))).belowN hg4.out (by omega)
        have kb10 := (kb9.alloc kb9.size (.cells #[.string (bA' ku), .string (bA' vu)] 192)).trans (hg4.out.mono (by omega))
        have bx10 := (bx9.below ((below_refl W9).alloc (Nat.le_refl _) (.cells #[.string (bA' ku), .string (bA' vu)] 192))).below' hg4.out (by omega)
        have own11 : OwnG (E + 1) 192 2 At.vals W10 (.slice a4 (A.length + 1) c4) (A ++ [⟨bA' ku, bA' vu⟩]) := by
          rw [OwnG, List.length_append, List.flatMap_append]; exact own10
        have hr11 := hr10.setOther (j := 2) (E := E) hBE (.slice a4 (A.length + 1) c4)
        have kb11 := kb10.setCell (p := ⟨E, 2, none⟩) (show w.heap.size ≤ E by omega) (.slice a4 (A.length + 1) c4)
        have bx11 := bx10.setOther (j := 2) (E' := E) (by omega) (.slice a4 (A.length + 1) c4)
        have bE12 := bE11.set (j := 2) (.slice a4 (A.length + 1) c4)
        have own12 := owns_set own11 ⟨E, 2, none⟩ (.slice a4 (A.length + 1) c4) bE11 (by decide)
        simp only [List.set_cons_zero, List.set_cons_succ] at bE12
        clear hr9 kb9 bx9 bE10 own9 e2b hEl own10 hg4 bE11 e2c f2c hr10 kb10 bx10 own11 bEd bxd ownd kbd HC hrow
        simp only [Exit.inBlock, Exit.then]
        go_wp2_with fail
        go_roundw
        case rel => exact ⟨A.length + 1, A ++ [At.mk (bA' ku) (bA' vu)], b6, _, by omega, by go_num, by simp, HNX, hr11, kb11, bx11, bE12, own12⟩
        case measure => simp [intOf]; omega
    · obtain rfl : M = A.length := by omega
      rcases hx : txt s.data.toList b with x | ⟨tg, b4⟩
      · have HC := Lib.hid (txt_no' hx hr (HE.out _ kb) (by omega))
        have HR5 : Hid (headR s.data.toList = .error x) := by rw [Hid, HR4.out, hrow.out]; show hd5 _ _ _ _ (txt s.data.toList b) = _; rw [hx]; rfl
        clear hx HR4 hr
        go_wp2_with fail
        refine HC.out.mono ?_
        rintro e W8 ⟨rfl, hk8⟩
        go_wp2_with fail
        exact ⟨rfl, headQ_no HR5.out _ _ (KB.out _ _ kb hk8)⟩
      have HC := Lib.hid (txt_ok' hx hr (HE.out _ kb) (by omega))
      have HR5 : Hid (headR s.data.toList = if b4 = (s.size : Int) then .ok ⟨kd, bA' pt, A, bA' tg⟩ else .error 3) := by rw [Hid, HR4.out, hrow.out]; show hd5 _ _ _ _ (txt s.data.toList b) = _; rw [hx]; rfl
      clear hx HR4 hr
      go_wp2_with fail
      refine HC.out.mono ?_
      rintro e W8 ⟨rfl, hr8, hk8⟩
      have kb8 := KB.out _ _ kb hk8
      have bx8 := KX.out _ _ bx hk8
      have bE9 := bE8.keep hk8 hEB
      have own8 : OwnG (E + 1) 192 2 At.vals W8 (.slice ax A.length cx) A := owns_keep hown hk8 (by omega)
      have e3 : W8.cell? ⟨E, 3, none⟩ = some (.string ⟨#[]⟩) := bE9.cell 3
      have f3 := bE9.frozen 3
      have ca := hr8.ca
      clear HC kb bx hk8 bE8 hown
      go_upto_region 13 with (fail)
      have ca9 : (W8.setCell ⟨E, 3, none⟩ (.string (bA' tg))).cell? ⟨w.heap.size + 1, 0, none⟩ = some (.int .i64 b4) := (cell_setOther (by omega) _).trans ca
      have bEs := bE9.set (j := 3) (.string (bA' tg))
      have bXs := bx8.setOther (j := 3) (E' := E) (by omega) (.string (bA' tg))
      have kb9 := kb8.setCell (p := ⟨E, 3, none⟩) (show w.heap.size ≤ E by omega) (.string (bA' tg))
      have own9 : OwnG (E + 1) 192 2 At.vals (W8.setCell ⟨E, 3, none⟩ (.string (bA' tg))) (.slice ax A.length cx) A := owns_set own8 _ _ bE9 (by decide)
      simp only [List.set_cons_zero, List.set_cons_succ] at bEs
      obtain ⟨W9, hW9⟩ : ∃ W9, W8.setCell ⟨E, 3, none⟩ (.string (bA' tg)) = W9 := ⟨_, rfl⟩
      change Code.wp _ _ _ _ (W8.setCell ⟨E, 3, none⟩ (.string (bA' tg)))
      rw [hW9] at ca9 bEs bXs kb9 own9 ⊢
      clear hW9 e3 f3 ca bE9 bx8 kb8 own8 hr8
      by_cases hend : b4 = (s.size : Int)
      case neg =>
        rw [if_neg hend] at HR5
        have q1 : (b4 == (s.size : Int)) = false := by rw [beq_eq_false_iff_ne]; exact hend
        have q2 : (b4 != (s.size : Int)) = true := by rw [bne_iff_ne]; exact hend
        have Hend := Lib.hid hend; clear hend
        go_wp2_with fail
        exact ⟨rfl, headQ_no HR5.out _ _ kb9⟩
      rw [if_pos hend] at HR5
      have q1 : (b4 == (s.size : Int)) = true := by rw [beq_iff_eq]; exact hend
      have q2 : (b4 != (s.size : Int)) = false := by rw [bne_eq_false_iff_eq]; exact hend
      have Hend := Lib.hid hend; clear hend
      go_upto_region 15 with (fail)
      have e0 : W9.cell? ⟨E, 0, none⟩ = some (.int .i64 (n + 1)) := bEs.cell 0
      have e1 : W9.cell? ⟨E, 1, none⟩ = some (.string (bA' pt)) := bEs.cell 1
      have e2 : W9.cell? ⟨E, 2, none⟩ = some (.slice ax A.length cx) := bEs.cell 2
      have e3 : W9.cell? ⟨E, 3, none⟩ = some (.string (bA' tg)) := bEs.cell 3
      have e4 : W9.cell? ⟨E, 4, none⟩ = some (.int .i64 0) := bEs.cell 4
      have e5 : W9.cell? ⟨E, 5, none⟩ = some (.string ⟨#[]⟩) := bEs.cell 5
      have e6 : W9.cell? ⟨E, 6, none⟩ = some (.slice none 0 0) := bEs.cell 6
      have x0 : W9.cell? ⟨w.heap.size, 0, none⟩ = some (.int .i64 0) := bXs.cell 0
      have x1 : W9.cell? ⟨w.heap.size, 1, none⟩ = some (.string ⟨#[]⟩) := bXs.cell 1
      have x2 : W9.cell? ⟨w.heap.size, 2, none⟩ = some (.slice none 0 0) := bXs.cell 2
      have x3 : W9.cell? ⟨w.heap.size, 3, none⟩ = some (.string ⟨#[]⟩) := bXs.cell 3
      have x4 : W9.cell? ⟨w.heap.size, 4, none⟩ = some (.int .i64 0) := bXs.cell 4
      have x5 : W9.cell? ⟨w.heap.size, 5, none⟩ = some (.string ⟨#[]⟩) := bXs.cell 5
      have x6 : W9.cell? ⟨w.heap.size, 6, none⟩ = some (.slice none 0 0) := bXs.cell 6
      have y0 := bXs.frozen 0
      have y1 := bXs.frozen 1
      have y2 := bXs.frozen 2
      have y3 := bXs.frozen 3
      have y4 := bXs.frozen 4
      have y5 := bXs.frozen 5
      have y6 := bXs.frozen 6
      go_wp2_with fail
      have z1 := bXs.set (j := 0) (.int .i64 (n + 1))
      have o1 := owns_set own9 ⟨w.heap.size, 0, none⟩ (.int .i64 (n + 1)) bXs (by decide)
      have k1 := kb9.setCell (p := ⟨w.heap.size, 0, none⟩) (Nat.le_refl _) (.int .i64 (n + 1))
      have z2 := z1.set (j := 1) (.string (bA' pt))
      have o2 := owns_set o1 ⟨w.heap.size, 1, none⟩ (.string (bA' pt)) z1 (by decide)
      have k2 := k1.setCell (p := ⟨w.heap.size, 1, none⟩) (Nat.le_refl _) (.string (bA' pt))
      have z3 := z2.set (j := 2) (.slice ax A.length cx)
      have o3 := owns_set o2 ⟨w.heap.size, 2, none⟩ (.slice ax A.length cx) z2 (by decide)
      have k3 := k2.setCell (p := ⟨w.heap.size, 2, none⟩) (Nat.le_refl _) (.slice ax A.length cx)
      have z4 := z3.set (j := 3) (.string (bA' tg))
      have o4 := owns_set o3 ⟨w.heap.size, 3, none⟩ (.string (bA' tg)) z3 (by decide)
      have k4 := k3.setCell (p := ⟨w.heap.size, 3, none⟩) (Nat.le_refl _) (.string (bA' tg))
      have z5 := z4.set (j := 4) (.int .i64 0)
      have o5 := owns_set o4 ⟨w.heap.size, 4, none⟩ (.int .i64 0) z4 (by decide)
      have k5 := k4.setCell (p := ⟨w.heap.size, 4, none⟩) (Nat.le_refl _) (.int .i64 0)
      have z6 := z5.set (j := 5) (.string ⟨#[]⟩)
      have o6 := owns_set o5 ⟨w.heap.size, 5, none⟩ (.string ⟨#[]⟩) z5 (by decide)
      have k6 := k5.setCell (p := ⟨w.heap.size, 5, none⟩) (Nat.le_refl _) (.string ⟨#[]⟩)
      have z7 := z6.set (j := 6) (.slice none 0 0)
      have o7 := owns_set o6 ⟨w.heap.size, 6, none⟩ (.slice none 0 0) z6 (by decide)
      have k7 := k6.setCell (p := ⟨w.heap.size, 6, none⟩) (Nat.le_refl _) (.slice none 0 0)
      clear z1 z2 z3 z4 z5 z6 o1 o2 o3 o4 o5 o6 k1 k2 k3 k4 k5 k6 x0 x1 x2 x3 x4 x5 x6 y0 y1 y2 y3 y4 y5 y6 e0 e1 e2 e3 e4 e5 e6
      generalize (((((((W9.setCell ⟨w.heap.size, 0, none⟩ (.int .i64 (n + 1))).setCell ⟨w.heap.size, 1, none⟩ (.string (bA' pt))).setCell ⟨w.heap.size, 2, none⟩ (.slice ax A.length cx)).setCell ⟨w.heap.size, 3, none⟩ (.string (bA' tg))).setCell
        ⟨w.heap.size, 4, none⟩ (.int .i64 0)).setCell ⟨w.heap.size, 5, none⟩ (.string ⟨#[]⟩)).setCell ⟨w.heap.size, 6, none⟩ (.slice none 0 0)) = W10 at *
      have c0 : W10.cell? ⟨w.heap.size, 0, none⟩ = some (.int .i64 (n + 1)) := z7.cell 0
      have c1 : W10.cell? ⟨w.heap.size, 1, none⟩ = some (.string (bA' pt)) := z7.cell 1
      have c2 : W10.cell? ⟨w.heap.size, 2, none⟩ = some (.slice ax A.length cx) := z7.cell 2
      have c3 : W10.cell? ⟨w.heap.size, 3, none⟩ = some (.string (bA' tg)) := z7.cell 3
      have c4 : W10.cell? ⟨w.heap.size, 4, none⟩ = some (.int .i64 0) := z7.cell 4
      have c5 : W10.cell? ⟨w.heap.size, 5, none⟩ = some (.string ⟨#[]⟩) := z7.cell 5
      have c6 : W10.cell? ⟨w.heap.size, 6, none⟩ = some (.slice none 0 0) := z7.cell 6
      have hrow9 : OwnG w.heap.size 192 2 At.vals W10 (.slice ax A.length cx) A := owns_mono o7 (by omega)
      refine bodyPost_ret (v := .agg #[.int .i64 (n + 1), .string (bA' pt), .slice ax A.length cx, .string (bA' tg), .int .i64 0, .string ⟨#[]⟩, .slice none 0 0]) (by simp [results, Tryz.results143, go_sem, c0, c1, c2, c3, c4, c5, c6]) rfl ?_
      rw [HR5.out]
      exact ⟨_, by rw [← HKD.out], hrow9, k7⟩
end Go.Proofs.YtpkapcijgldhhaaGreatDoor
