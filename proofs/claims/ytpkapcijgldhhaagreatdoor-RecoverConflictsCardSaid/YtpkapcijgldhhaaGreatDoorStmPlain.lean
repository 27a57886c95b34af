/-
  Frames of a stream that are left, the blocks they give, and how many there are of a stripe. Plain.
  All frames of a stream: every block and every range of it is restored. Plain.
  All frames of a stream and some more that differ from them, at most as many of a stripe as there are spare reels: every block is restored. Plain.
-/
import Derived.Test.YtpkapcijgldhhaaGreatDoorCe47
import Derived.Test.YtpkapcijgldhhaaGreatDoorCe43
import Derived.Test.YtpkapcijgldhhaaGreatDoorCe21
namespace Go.Proofs.YtpkapcijgldhhaaGreatDoor
open Go.RowKit Go.Shelf
/-- the frames that a predicate on their places keeps -/
def selF (p : Nat → Bool) (G : List Fr) : Nat → List Fr
  | 0 => []
  | k + 1 => if p k then selF p G k ++ [frAt G k] else selF p G k
theorem selF_yes {p : Nat → Bool} {G : List Fr} {k : Nat} (h : p k = true) : selF p G (k + 1) = selF p G k ++ [frAt G k] := by rw [selF, if_pos h]
theorem selF_no {p : Nat → Bool} {G : List Fr} {k : Nat} (h : p k = false) : selF p G (k + 1) = selF p G k := by rw [selF, if_neg (by rw [h]; decide)]
theorem selF_len (p : Nat → Bool) (G : List Fr) : ∀ k, (selF p G k).length ≤ k
  | 0 => Nat.le_refl _
  | k + 1 => by
    have ih := selF_len p G k
    rw [selF]
    split
    · rw [List.length_append]; simp; exact ih
    · omega
theorem selF_sub (p : Nat → Bool) (G : List Fr) : ∀ k, k ≤ G.length → (selF p G k).Sublist (G.take k)
  | 0, _ => by simp [selF]
  | k + 1, h => by
    have ih := selF_sub p G k (by omega)
    have hg : G.take (k + 1) = G.take k ++ [frAt G k] := by rw [frAt_get (by omega)]; exact List.take_succ_eq_append_getElem (by omega)
    rw [selF, hg]
    split
    · exact ih.append (List.Sublist.refl _)
    · exact ih.trans (List.sublist_append_left _ _)
theorem selF_mem {p : Nat → Bool} {G : List Fr} {k : Nat} (h : k ≤ G.length) : ∀ f ∈ selF p G k, f ∈ G := fun _ hf => List.mem_of_mem_take ((selF_sub p G k h).subset hf)
theorem selF_mono {p q : Nat → Bool} (hpq : ∀ i, p i = true → q i = true) {G : List Fr} : ∀ k, ∀ f ∈ selF p G k, f ∈ selF q G k
  | 0, _, hf => by cases hf
  | k + 1, f, hf => by
    by_cases hp : p k = true
    · rw [selF_yes hp] at hf
      rw [selF_yes (hpq k hp)]
      rcases List.mem_append.1 hf with hf | hf
      · exact List.mem_append.2 (.inl (selF_mono hpq k f hf))
      · exact List.mem_append.2 (.inr hf)
    · rw [Bool.not_eq_true] at hp
      rw [selF_no hp] at hf
      have := selF_mono hpq k f hf
      by_cases hq : q k = true
      · rw [selF_yes hq]; exact List.mem_append.2 (.inl this)
      · rw [Bool.not_eq_true] at hq; rw [selF_no hq]; exact this
theorem frO_index (d sp : Nat) (t : List UInt8) (s : Int) (k r : Nat) : (frO d sp t s k r).index = (k : Int) := rfl
theorem frO_reel (d sp : Nat) (t : List UInt8) (s : Int) (k r : Nat) : (frO d sp t s k r).reel = (r : Int) := rfl
theorem frO_inj {d sp : Nat} {t : List UInt8} {s : Int} {k r k' r' : Nat} (h : frO d sp t s k r = frO d sp t s k' r') : k = k' ∧ r = r' := by
  have h1 := congrArg Fr.index h
  have h2 := congrArg Fr.reel h
  rw [frO_index, frO_index] at h1
  rw [frO_reel, frO_reel] at h2
  omega
theorem frL_nodup (d sp : Nat) (t : List UInt8) (s : Int) (n : Nat) : (frL d sp t s n).Nodup := by
  unfold frL
  refine List.pairwise_flatMap.2 ⟨fun k _ => ?_, ?_⟩
  · unfold frK
    refine List.Pairwise.map _ (R := fun a b => a ≠ b) (fun a b h e => h (frO_inj e).2) List.nodup_range
  · refine (List.nodup_range (n := n)).imp fun {a b} hab x hx y hy e => ?_
    unfold frK at hx hy
    obtain ⟨r, _, rfl⟩ := List.mem_map.1 hx
    obtain ⟨r', _, rfl⟩ := List.mem_map.1 hy
    exact hab (frO_inj e).1
/-- a list without repetition whose elements another has is not longer -/
theorem len_sub {α : Type} : ∀ {A B : List α}, A.Nodup → (∀ x ∈ A, x ∈ B) → A.length ≤ B.length
  | [], _, _, _ => Nat.zero_le _
  | a :: A, B, hA, h => by
    obtain ⟨B1, B2, rfl⟩ := List.append_of_mem (h a List.mem_cons_self)
    have hn := List.nodup_cons.1 hA
    have := len_sub (A := A) (B := B1 ++ B2) hn.2 fun x hx => by
      have hx' := h x (List.mem_cons_of_mem _ hx)
      rcases List.mem_append.1 hx' with h1 | h1
      · exact List.mem_append.2 (.inl h1)
      · rcases List.mem_cons.1 h1 with rfl | h1
        · exact absurd hx hn.1
        · exact List.mem_append.2 (.inr h1)
    simp only [List.length_append, List.length_cons] at this ⊢
    omega
/-- how many frames of a stripe there are -/
def cntF (F : List Fr) (i : Int) : Nat := (F.filter fun f => decide (f.index = i)).length
theorem cntF_nil (i : Int) : cntF [] i = 0 := rfl
theorem cntF_le (F : List Fr) (i : Int) : cntF F i ≤ F.length := List.length_filter_le _ _
theorem cntF_same (F : List Fr) {f : Fr} {i : Int} (h : f.index = i) : cntF (F ++ [f]) i = cntF F i + 1 := by
  unfold cntF; rw [List.filter_append, List.length_append, List.filter_cons_of_pos (by simpa using h)]; rfl
theorem cntF_other (F : List Fr) {f : Fr} {i : Int} (h : f.index ≠ i) : cntF (F ++ [f]) i = cntF F i := by
  unfold cntF; rw [List.filter_append, List.length_append, List.filter_cons_of_neg (by simpa using h)]; rfl
theorem cnt_rd {d sp : Nat} {t : List UInt8} {s : Int} {n : Nat} {F : List Fr} (h : ∀ f ∈ F, f ∈ frL d sp t s n) (hn : F.Nodup) (i : Nat) : cntF F (i : Int) = (rdS F s (i : Int) (d + sp)).length := by
  apply Nat.le_antisymm
  · have := len_sub (A := F.filter fun f => decide (f.index = (i : Int))) (B := (rdS F s (i : Int) (d + sp)).map (frO d sp t s i)) (hn.sublist List.filter_sublist) fun f hf => by
      obtain ⟨hf1, hi⟩ := List.mem_filter.1 hf
      have hi := of_decide_eq_true hi
      obtain ⟨k, r, _, hr, rfl⟩ := frL_mem.1 (h f hf1)
      rw [frO_index] at hi
      obtain rfl : k = i := by omega
      exact List.mem_map.2 ⟨r, rdS_mem.2 ⟨hr, (payB_iff h r k).2 hf1⟩, rfl⟩
    rw [List.length_map] at this
    exact this
  · have := len_sub (A := (rdS F s (i : Int) (d + sp)).map (frO d sp t s i)) (B := F.filter fun f => decide (f.index = (i : Int))) (List.Pairwise.map _ (R := fun a b => a ≠ b) (fun a b h e => h (frO_inj e).2) (rdS_nodup _ _ _ _)) fun f hf => by
      obtain ⟨r, hr, rfl⟩ := List.mem_map.1 hf
      exact List.mem_filter.2 ⟨(payB_iff h r i).1 (rdS_mem.1 hr).2, decide_eq_true (frO_index d sp t s i r)⟩
    rw [List.length_map] at this
    exact this
theorem stB_at {d : Nat} (hd : 1 ≤ d) (hd8 : d ≤ 8) (t : List UInt8) (b : Nat) : stB d t (b / d) (b % d) = dblk t b := by
  rw [stB_data (by omega) t _ (Nat.mod_lt _ (by omega)), Nat.div_add_mod' b d]
/-- what is restored of what is left -/
theorem blk_yes {d sp : Nat} {t : List UInt8} {s : Int} {n : Nat} {F : List Fr} (h : ∀ f ∈ F, f ∈ frL d sp t s n) (hn : F.Nodup) (hd : 1 ≤ d) (hd8 : d ≤ 8) (hs : sp ≤ 7) {b : Nat} (hb : b ≤ 65535)
    (hc : frO d sp t s (b / d) (b % d) ∈ F ∨ d ≤ cntF F ((b / d : Nat) : Int)) : blkR F s b = .ok (dblk t b) := by
  rw [cnt_rd h hn] at hc
  rw [blk_str (ofStr_of h) hd hd8 hs hb, stB_at hd hd8, if_pos (hc.imp (payB_iff h (b % d) (b / d)).2 id)]
theorem blk_no {d sp : Nat} {t : List UInt8} {s : Int} {n : Nat} {F : List Fr} (h : ∀ f ∈ F, f ∈ frL d sp t s n) (hn : F.Nodup) (hd : 1 ≤ d) (hd8 : d ≤ 8) (hs : sp ≤ 7) {b : Nat} (hb : b ≤ 65535)
    (h1 : frO d sp t s (b / d) (b % d) ∉ F) (h2 : ¬ d ≤ cntF F ((b / d : Nat) : Int)) : blkR F s b = .error 19 := by
  rw [cnt_rd h hn] at h2
  rw [blk_str (ofStr_of h) hd hd8 hs hb, stB_at hd hd8, if_neg (fun hc => hc.elim (fun e => h1 ((payB_iff h (b % d) (b / d)).1 e)) h2)]
theorem dblk_pre {t : List UInt8} {b m : Nat} (hm : m ≤ 28) (hl : 28 * b + m ≤ t.length) : (dblk t b).take m = (t.drop (28 * b)).take m := by
  apply bytes_ext
  · rw [List.length_take, List.length_take, dblk_length, List.length_drop]; omega
  · intro i hi
    rw [List.length_take, dblk_length] at hi
    unfold dblk
    rw [List.getD_eq_getElem?_getD, List.getD_eq_getElem?_getD, List.getElem?_take_of_lt (by omega), List.getElem?_take_of_lt (by omega), List.getElem?_map, List.getElem?_range (by omega), List.getElem?_drop, ← List.getD_eq_getElem?_getD]
    rfl
/-! ### the place of a frame -/
def posF (f : Fr) : Int × Int := (f.index, f.reel)
theorem frO_pos (d sp : Nat) (t : List UInt8) (s : Int) (k r : Nat) : posF (frO d sp t s k r) = ((k : Int), (r : Int)) := rfl
theorem pos_mem {d sp : Nat} {t : List UInt8} {s : Int} {n : Nat} {F : List Fr} (h : ∀ f ∈ F, f ∈ frL d sp t s n) (k r : Nat) : ((k : Int), (r : Int)) ∈ F.map posF ↔ frO d sp t s k r ∈ F := by
  constructor
  · intro hm
    obtain ⟨f, hf, e⟩ := List.mem_map.1 hm
    obtain ⟨k', r', _, _, rfl⟩ := frL_mem.1 (h f hf)
    rw [frO_pos] at e
    have h1 := (Prod.mk.inj e).1
    have h2 := (Prod.mk.inj e).2
    obtain rfl : k' = k := by omega
    obtain rfl : r' = r := by omega
    exact hf
  · intro hf; exact List.mem_map.2 ⟨_, hf, rfl⟩
theorem setP_at {K : List (Int × Int)} (hK : ∀ y ∈ K, wf64 y.1 ∧ wf64 y.2) {x : Int × Int} (hx : wf64 x.1 ∧ wf64 x.2) : (setP K).atKey (keyP x) (.lit (.bool false)) = .lit (.bool (decide (x ∈ K))) := by
  have main : ∀ G : List (Int × Int), (∀ y ∈ G.reverse, wf64 y.1 ∧ wf64 y.2) → (setP G.reverse).atKey (keyP x) (.lit (.bool false)) = .lit (.bool (decide (x ∈ G.reverse))) := by
    intro G
    induction G with
    | nil => intro _; simp; rfl
    | cons y G ih =>
      intro h
      rw [List.reverse_cons] at h ⊢
      have ih := ih fun z hz => h z (List.mem_append.2 (.inl hz))
      have hy := h y (List.mem_append.2 (.inr (List.mem_singleton.2 rfl)))
      rw [setP_snoc]
      by_cases e : x = y
      · subst e
        have hm : Maps.IsMap (setP G.reverse) := (Maps.tidy_setOf _ _ (keyP_lit _)).isMap
        rw [Maps.atKey_put_same hm (show WideAt.IsKeyLit (keyP x) from trivial), decide_eq_true (List.mem_append.2 (.inr (List.mem_singleton.2 rfl)))]
      · rw [Maps.atKey_put_other (fun h => e (keyP_inj hx hy h)), ih]
        have : (x ∈ G.reverse ++ [y]) ↔ x ∈ G.reverse := by
          rw [List.mem_append, List.mem_singleton]
          exact ⟨fun h => h.resolve_right e, .inl⟩
        simp only [this]
  have := main K.reverse (by rw [List.reverse_reverse]; exact hK)
  rwa [List.reverse_reverse] at this
/-! ### the counts of the stripes -/
def CntM (D : DataW Unit) (F : List Fr) : Prop := Maps.IsMap D ∧ ∀ i : Int, D.atKey (.int .i64 i) (.lit (.int .i64 0)) = .lit (.int .i64 (cntF F i : Nat))
theorem CntM.start : CntM (.map []) [] := ⟨⟨[], rfl⟩, fun _ => rfl⟩
theorem CntM.snoc {D : DataW Unit} {F : List Fr} (h : CntM D F) (f : Fr) : CntM (D.put (.int .i64 f.index) (.lit (.int .i64 ((cntF F f.index : Nat) + 1 : Int)))) (F ++ [f]) := by
  refine ⟨h.1.put _ _, fun i => ?_⟩
  by_cases e : f.index = i
  · subst e
    rw [Maps.atKey_put_same h.1 (show WideAt.IsKeyLit (Lit.int .i64 f.index) from trivial), cntF_same F rfl]
    rfl
  · rw [Maps.atKey_put_other (fun h => e (by injection h with _ h; exact h.symm)), h.2, cntF_other F e]
theorem frL_here {d sp n : Nat} {t : List UInt8} {s : Int} (hd : 1 ≤ d) {b : Nat} (hb : b / d < n) : frO d sp t s (b / d) (b % d) ∈ frL d sp t s n :=
  frL_mem.2 ⟨_, _, hb, by have := Nat.mod_lt b (show 0 < d by omega); omega, rfl⟩
theorem stripe_lt {d b l : Nat} (hd : 1 ≤ d) (hb : 28 * b < l) : b / d < nStr d l := by
  rw [nStr_lt hd]
  have h1 : b / d * d ≤ b := Nat.div_mul_le_self b d
  have h2 : b / d * (28 * d) = 28 * (b / d * d) := by rw [← Nat.mul_assoc, Nat.mul_comm (b / d) 28, Nat.mul_assoc]
  omega
theorem blk_all {d sp : Nat} {t : List UInt8} {s : Int} (hd : 1 ≤ d) (hd8 : d ≤ 8) (hs : sp ≤ 7) {b : Nat} (hb : b ≤ 65535) (hl : 28 * b < t.length) :
    blkR (frL d sp t s (nStr d t.length)) s b = .ok (dblk t b) := by
  exact blk_yes (fun f hf => hf) (frL_nodup _ _ _ _ _) hd hd8 hs hb (.inl (frL_here hd (stripe_lt hd hl)))
theorem cut_dblk {t : List UInt8} {a e : Nat} (h : a < e) (he : e ≤ t.length) : cutB (dblk t (a / 28)) a e = (t.drop a).take (stepB a e) := by
  have h1 := stepB_pos h
  have h2 : stepB a e + a % 28 ≤ 28 := by
    unfold stepB
    have := Nat.mod_lt a (show 0 < 28 by decide)
    omega
  have h3 := Nat.div_add_mod a 28
  apply bytes_ext
  · rw [cutB_len (by rw [dblk_length]; omega) h, List.length_take, List.length_drop]; omega
  · intro i hi
    rw [cutB_len (by rw [dblk_length]; omega) h] at hi
    unfold cutB dblk
    rw [List.getD_eq_getElem?_getD, List.getD_eq_getElem?_getD, List.getElem?_take_of_lt hi, List.getElem?_take_of_lt hi, List.getElem?_drop, List.getElem?_map, List.getElem?_range (by omega), List.getElem?_drop, ← List.getD_eq_getElem?_getD]
    simp only [Option.map_some, Option.getD_some]
    congr 1
    omega
theorem go_all {d sp : Nat} {t : List UInt8} {s : Int} (hd : 1 ≤ d) (hd8 : d ≤ 8) (hs : sp ≤ 7) (ht : t.length ≤ 100000) {e : Nat} (he : e ≤ t.length) :
    ∀ (f a : Nat) (x : List UInt8), e - a ≤ f → a ≤ e → goB (frL d sp t s (nStr d t.length)) s e f a x = .ok (x ++ (t.drop a).take (e - a))
  | 0, a, x, h1, h2 => by
    have : e - a = 0 := by omega
    rw [goB, this]; simp
  | f + 1, a, x, h1, h2 => by
    rw [goB]
    by_cases hlt : a < e
    · have hp := stepB_pos hlt
      rw [if_pos hlt, blk_all hd hd8 hs (by omega) (by omega)]
      simp only
      rw [if_neg (by rw [dblk_length]; omega), go_all hd hd8 hs ht he f _ _ (by omega) (by omega), cut_dblk hlt he, List.append_assoc]
      congr 2
      have e1 : e - a = stepB a e + (e - (a + stepB a e)) := by omega
      conv => rhs; rw [e1, List.take_add, List.drop_drop]
    · have : e - a = 0 := by omega
      rw [if_neg hlt, this]; simp
/-- every range of a stream -/
theorem byt_all {d sp : Nat} {t : List UInt8} (hd : 1 ≤ d) (hd8 : d ≤ 8) (hs : sp ≤ 7) (ht : t.length ≤ 60000) {i j : Nat} (hij : i ≤ j) (hj : j ≤ t.length) :
    bytR (frL d sp t 3 (nStr d t.length)) 3 (i : Int) ((j - i : Nat) : Int) = .ok ((t.drop i).take (j - i)) := by
  have ho : ¬ outX 3 (i : Int) ((j - i : Nat) : Int) := by unfold outX; omega
  rw [byt_go ho (by omega), Int.toNat_natCast, Int.toNat_natCast, go_all hd hd8 hs (by omega) (by omega) _ _ _ (by omega) (by omega)]
  rw [List.nil_append, Nat.add_sub_cancel_left]
theorem pay_one {k s r i : Int} : ∀ (L : List Fr) (g f : Fr), payR k s r i (some g) L = .ok f → f = g ∧ ∀ x ∈ L, fits k s r i x → x = g
  | [], g, f, h => by injection h with h; exact ⟨h.symm, fun x hx => by cases hx⟩
  | y :: L, g, f, h => by
    rw [payR] at h
    by_cases hf : fits k s r i y
    · rw [isB_yes hf, if_pos rfl] at h
      by_cases hg : g = y
      · rw [isB_yes hg, if_pos rfl] at h
        obtain ⟨h1, h2⟩ := pay_one L y f h
        subst hg
        refine ⟨h1, fun x hx hfx => ?_⟩
        rcases List.mem_cons.1 hx with rfl | hx
        · rfl
        · exact h2 x hx hfx
      · rw [isB_no hg, if_neg (by decide)] at h; cases h
    · rw [isB_no hf, if_neg (by decide)] at h
      obtain ⟨h1, h2⟩ := pay_one L g f h
      refine ⟨h1, fun x hx hfx => ?_⟩
      rcases List.mem_cons.1 hx with rfl | hx
      · exact absurd hfx hf
      · exact h2 x hx hfx
theorem pay_same {k s r i : Int} : ∀ {L : List Fr} {f : Fr}, payR k s r i none L = .ok f → ∀ x ∈ L, fits k s r i x → x = f
  | [], f, h, x, hx, _ => by cases hx
  | y :: L, f, h, x, hx, hfx => by
    rw [payR] at h
    by_cases hf : fits k s r i y
    · rw [isB_yes hf, if_pos rfl] at h
      obtain ⟨h1, h2⟩ := pay_one L y f h
      subst h1
      rcases List.mem_cons.1 hx with rfl | hx
      · rfl
      · exact h2 x hx hfx
    · rw [isB_no hf, if_neg (by decide)] at h
      rcases List.mem_cons.1 hx with rfl | hx
      · exact absurd hfx hf
      · exact pay_same h x hx hfx
/-- a frame of the stream with another payload -/
def BadF (d sp : Nat) (t : List UInt8) (s : Int) (n : Nat) (e : Fr) : Prop := ∃ (k r : Nat) (p : ByteArray), k < n ∧ r < d + sp ∧ p ≠ bA' (stB d t k r) ∧ e = { frO d sp t s k r with payload := p }
structure CflI (d sp : Nat) (t : List UInt8) (s : Int) (n : Nat) (E : List Fr) : Prop where
  bad : ∀ e ∈ E, BadF d sp t s n e
  few : ∀ i : Int, cntF E i ≤ sp
theorem CflI.start (d sp : Nat) (t : List UInt8) (s : Int) (n : Nat) : CflI d sp t s n [] := ⟨fun _ he => (nomatch he), fun _ => Nat.zero_le _⟩
theorem CflI.snoc {d sp : Nat} {t : List UInt8} {s : Int} {n : Nat} {E : List Fr} (h : CflI d sp t s n E) {e : Fr} (hb : BadF d sp t s n e) (hc : cntF E e.index < sp) : CflI d sp t s n (E ++ [e]) := by
  refine ⟨fun x hx => ?_, fun i => ?_⟩
  · rcases List.mem_append.1 hx with hx | hx
    · exact h.bad x hx
    · rw [List.mem_singleton.1 hx]; exact hb
  · by_cases q : e.index = i
    · subst q; rw [cntF_same E rfl]; omega
    · rw [cntF_other E q]; exact h.few i
theorem split_len (q : Nat → Bool) : ∀ L : List Nat, L.length = (L.filter q).length + (L.filter fun x => !q x).length
  | [] => rfl
  | a :: L => by
    have := split_len q L
    cases h : q a <;> simp [h] <;> omega
theorem cfl_of {d sp : Nat} {t : List UInt8} {s : Int} {n : Nat} {E : List Fr} (h : CflI d sp t s n E) : OfStr (frL d sp t s n ++ E) d sp t s := by
  refine ⟨fun f hf => ?_, fun r i p hp => ?_⟩
  · rcases List.mem_append.1 hf with hf | hf
    · obtain ⟨k, r, _, _, rfl⟩ := frL_mem.1 hf
      exact ⟨rfl, rfl⟩
    · obtain ⟨k, r, p, _, _, _, rfl⟩ := h.bad f hf
      exact ⟨rfl, rfl⟩
  · unfold payB at hp
    rcases hq : payR 66 s r i none (frL d sp t s n ++ E) with x | f
    · rw [hq] at hp; cases hp
    · rw [hq] at hp
      injection hp with hp
      obtain ⟨hf, h1, h2, h3, h4⟩ := pay_none hq
      rcases List.mem_append.1 hf with hf | hf
      · obtain ⟨k, r', _, _, rfl⟩ := frL_mem.1 hf
        have e1 : (r' : Int) = (r : Int) := h3
        have e2 : (k : Int) = (i : Int) := h4
        obtain rfl : r' = r := by omega
        obtain rfl : k = i := by omega
        rw [← hp, frO_pay, bA'_list]
      · obtain ⟨k, r', p', hk, hr, hne, rfl⟩ := h.bad f hf
        have e1 : (r' : Int) = (r : Int) := h3
        have e2 : (k : Int) = (i : Int) := h4
        obtain rfl : r' = r := by omega
        obtain rfl : k = i := by omega
        have := pay_same hq (frO d sp t s k r') (List.mem_append.2 (.inl (frL_mem.2 ⟨k, r', hk, hr, rfl⟩))) ⟨rfl, rfl, rfl, rfl⟩
        have e3 := congrArg Fr.payload this
        rw [frO_pay] at e3
        exact absurd e3.symm hne
theorem cfl_blk {d sp : Nat} {t : List UInt8} {s : Int} {E : List Fr} (h : CflI d sp t s (nStr d t.length) E) (hd : 1 ≤ d) (hd8 : d ≤ 8) (hs : sp ≤ 7) {b : Nat} (hb : b ≤ 65535) (hl : 28 * b < t.length) :
    blkR (frL d sp t s (nStr d t.length) ++ E) s b = .ok (dblk t b) := by
  have hi := stripe_lt hd hl
  rw [blk_str (cfl_of h) hd hd8 hs hb, stB_at hd hd8]
  generalize nStr d t.length = n at *
  generalize b / d = i at *
  refine if_pos (.inr ?_)
  have hfind : ∀ r, r < d + sp → ((i : Int), (r : Int)) ∉ E.map posF → (payB (frL d sp t s n ++ E) s (r : Int) (i : Int)).isSome = true := fun r hr hno => by
    have : payR 66 s r i none (frL d sp t s n ++ E) = .ok (frO d sp t s i r) := by
      refine pay_find (fun x hx hfx => ?_) ⟨frO d sp t s i r, List.mem_append.2 (.inl (frL_mem.2 ⟨i, r, hi, hr, rfl⟩)), rfl, rfl, rfl, rfl⟩
      rcases List.mem_append.1 hx with hx | hx
      · obtain ⟨k, r', _, _, rfl⟩ := frL_mem.1 hx
        have e1 : (r' : Int) = (r : Int) := hfx.2.2.1
        have e2 : (k : Int) = (i : Int) := hfx.2.2.2
        obtain rfl : r' = r := by omega
        obtain rfl : k = i := by omega
        rfl
      · exact absurd (List.mem_map.2 ⟨x, hx, Prod.ext hfx.2.2.2 hfx.2.2.1⟩) hno
    rw [payB_ok this]; rfl
  have hsp := split_len (fun r : Nat => (payB (frL d sp t s n ++ E) s (r : Int) (i : Int)).isSome) (List.range (d + sp))
  rw [List.length_range] at hsp
  have hbad : ((List.range (d + sp)).filter fun r : Nat => !(payB (frL d sp t s n ++ E) s (r : Int) (i : Int)).isSome).length ≤ cntF E (i : Int) := by
    have := len_sub (A := ((List.range (d + sp)).filter fun r : Nat => !(payB (frL d sp t s n ++ E) s (r : Int) (i : Int)).isSome).map fun (r : Nat) => ((i : Int), (r : Int))) (B := (E.filter fun f => decide (f.index = (i : Int))).map posF)
      (List.Pairwise.map _ (R := fun a b => a ≠ b) (fun a b h e => h (by have := (Prod.mk.inj e).2; omega)) (List.Pairwise.sublist List.filter_sublist List.nodup_range)) fun x hx => by
        obtain ⟨r, hr, rfl⟩ := List.mem_map.1 hx
        obtain ⟨hr1, hr2⟩ := List.mem_filter.1 hr
        have hr1 := List.mem_range.1 hr1
        have hin : ((i : Int), (r : Int)) ∈ E.map posF := by
          apply Classical.byContradiction
          intro hno
          rw [hfind r hr1 hno] at hr2
          cases hr2
        obtain ⟨f, hf, e⟩ := List.mem_map.1 hin
        exact List.mem_map.2 ⟨f, List.mem_filter.2 ⟨hf, decide_eq_true (Prod.mk.inj e).1⟩, e⟩
    rw [List.length_map, List.length_map] at this
    exact this
  have := h.few (i : Int)
  show d ≤ (rdS (frL d sp t s n ++ E) s (i : Int) (d + sp)).length
  unfold rdS
  omega
/-- an altered byte -/
theorem xor_ne {x c : UInt8} (h : c ≠ 0) : x ^^^ c ≠ x := fun e => h (by
  have : (x ^^^ c) ^^^ x = x ^^^ x := by rw [e]
  rw [UInt8.xor_comm x c, UInt8.xor_assoc, UInt8.xor_self, UInt8.xor_zero] at this
  exact this)
end Go.Proofs.YtpkapcijgldhhaaGreatDoor
