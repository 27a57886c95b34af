/-
  The frames that are left, and the set of their indices. Plain.
  A frame out of bytes, in the reference.
  The walks of the readers of directory texts: the program's, which takes the reading function, and the reference's.
-/
import Derived.Test.YtpkapcijgldhhaaGreatDoorCe24
import Derived.Maps.Views
import Derived.Test.YtpkapcijgldhhaaGreatDoorCe22
import Derived.Test.YtpkapcijgldhhaaGreatDoorCe13
import Derived.Lib.LazyBuf
import Derived.Deep.RegionHeld3
import Derived.Deep.QuietTactic
import Derived.BigQuiet
namespace Go.Proofs.YtpkapcijgldhhaaGreatDoor
/-- a frame is left if the list is too short or says so -/
def keepB (L : List Bool) (i : Nat) : Bool := decide (L.length ≤ i) || L.getD i false
def keptF (L : List Bool) (G : List Fr) : Nat → List Fr
  | 0 => []
  | k + 1 => if keepB L k then keptF L G k ++ [frAt G k] else keptF L G k
theorem keptF_yes {L : List Bool} {G : List Fr} {k : Nat} (h : keepB L k = true) : keptF L G (k + 1) = keptF L G k ++ [frAt G k] := by rw [keptF, if_pos h]
theorem keptF_no {L : List Bool} {G : List Fr} {k : Nat} (h : keepB L k = false) : keptF L G (k + 1) = keptF L G k := by rw [keptF, if_neg (by rw [h]; decide)]
theorem keptF_len (L : List Bool) (G : List Fr) : ∀ k, (keptF L G k).length ≤ k
  | 0 => Nat.le_refl _
  | k + 1 => by
    have ih := keptF_len L G k
    rw [keptF]
    split
    · rw [List.length_append]; simp; exact ih
    · omega
theorem keptF_mem {L : List Bool} {G : List Fr} : ∀ {k : Nat}, k ≤ G.length → ∀ f ∈ keptF L G k, f ∈ G
  | 0, _, f, hf => by cases hf
  | k + 1, h, f, hf => by
    rw [keptF] at hf
    split at hf
    · rcases List.mem_append.1 hf with hf | hf
      · exact keptF_mem (by omega) f hf
      · obtain rfl := List.mem_singleton.1 hf
        rw [frAt_get (by omega)]; exact List.getElem_mem _
    · exact keptF_mem (by omega) f hf
/-- the indices below K that are left -/
def leftN (F : List Fr) (K : Nat) : Nat := ((List.range K).filter fun i : Nat => F.any fun f => f.index == (i : Int)).length
theorem filter_new (p : Nat → Bool) (j : Nat) : ∀ K : Nat, (K ≤ j → ((List.range K).filter fun i => p i || i == j).length = ((List.range K).filter p).length) ∧ (j < K → p j = false → ((List.range K).filter fun i => p i || i == j).length = ((List.range K).filter p).length + 1)
  | 0 => ⟨fun _ => rfl, fun h => absurd h (Nat.not_lt_zero _)⟩
  | K + 1 => by
    obtain ⟨h1, h2⟩ := filter_new p j K
    have e : ∀ q : Nat → Bool, ((List.range (K + 1)).filter q).length = ((List.range K).filter q).length + (if q K then 1 else 0) := fun q => by
      rw [List.range_succ, List.filter_append, List.length_append]
      cases h : q K <;> simp [h]
    rw [e, e]
    refine ⟨fun hk => ?_, fun hk hp => ?_⟩
    · rw [h1 (by omega)]
      have : (K == j) = false := by rw [beq_eq_false_iff_ne]; omega
      rw [this, Bool.or_false]
    · by_cases hj : j = K
      · subst hj
        rw [h1 (Nat.le_refl _), hp]; simp
      · rw [h2 (by omega) hp]
        have : (K == j) = false := by rw [beq_eq_false_iff_ne]; omega
        rw [this, Bool.or_false]
        omega
theorem leftN_snoc {F : List Fr} {f : Fr} {K j : Nat} (hf : f.index = (j : Int)) (hj : j < K) : leftN (F ++ [f]) K = if F.any (fun g => g.index == (j : Int)) then leftN F K else leftN F K + 1 := by
  have e : (fun i : Nat => (F ++ [f]).any fun g => g.index == (i : Int)) = fun i : Nat => (F.any fun g => g.index == (i : Int)) || i == j := by
    funext i
    rw [List.any_append]
    congr 1
    simp only [List.any_cons, List.any_nil, Bool.or_false, hf]
    rw [Bool.eq_iff_iff, beq_iff_eq, beq_iff_eq]
    omega
  unfold leftN
  rw [e]
  by_cases h : (F.any fun g => g.index == (j : Int)) = true
  · rw [if_pos h]
    congr 1
    apply List.filter_congr
    intro i _
    by_cases hi : i = j
    · subst hi; rw [h]; rfl
    · have : (i == j) = false := by rw [beq_eq_false_iff_ne]; exact hi
      rw [this, Bool.or_false]
  · rw [if_neg h]
    exact (filter_new (fun i : Nat => F.any fun g => g.index == (i : Int)) j K).2 hj (by simpa using h)
theorem leftN_all {F : List Fr} {K : Nat} : leftN F K = K ↔ ∀ i, i < K → ∃ f ∈ F, f.index = (i : Int) := by
  have h := List.length_filter_eq_length_iff (l := List.range K) (p := fun i : Nat => F.any fun f => f.index == (i : Int))
  rw [List.length_range] at h
  unfold leftN
  rw [h]
  constructor
  · intro h i hi
    have h1 := h i (List.mem_range.2 hi)
    obtain ⟨f, hf, he⟩ := List.any_eq_true.1 h1
    exact ⟨f, hf, by simpa using he⟩
  · intro h i hi
    obtain ⟨f, hf, he⟩ := h i (List.mem_range.1 hi)
    exact List.any_eq_true.2 ⟨f, hf, by simpa using he⟩
/-- the set of the indices -/
def keyI (f : Fr) : Lit := .int .i64 f.index
def setI (F : List Fr) : DataW Unit := Maps.setOf (.lit (.bool true)) (F.map keyI)
theorem setI_snoc (F : List Fr) (f : Fr) : setI (F ++ [f]) = (setI F).put (keyI f) (.lit (.bool true)) := by
  unfold setI; rw [List.map_append]; exact Maps.setOf_snoc _ _ _
theorem keyI_lit (F : List Fr) : ∀ x ∈ F.map keyI, WideAt.IsKeyLit x := fun x hx => by
  obtain ⟨f, _, rfl⟩ := List.mem_map.1 hx
  trivial
theorem setI_size {K : Nat} : ∀ (F : List Fr), (∀ f ∈ F, ∃ j : Nat, j < K ∧ f.index = (j : Int)) → Maps.size (setI F) = leftN F K := by
  have main : ∀ G : List Fr, (∀ f ∈ G.reverse, ∃ j : Nat, j < K ∧ f.index = (j : Int)) → Maps.size (setI G.reverse) = leftN G.reverse K := by
    intro G
    induction G with
    | nil =>
      intro _
      show Maps.size (setI []) = leftN [] K
      have : leftN [] K = 0 := by unfold leftN; simp
      rw [this]; rfl
    | cons f G ih =>
      intro h
      rw [List.reverse_cons] at h ⊢
      have ih := ih fun g hg => h g (List.mem_append.2 (.inl hg))
      obtain ⟨j, hj, hf⟩ := h f (List.mem_append.2 (.inr (List.mem_singleton.2 rfl)))
      have ht : Maps.Tidy (setI G.reverse) := Maps.tidy_setOf _ _ (keyI_lit _)
      rw [setI_snoc, Maps.size_put ht, leftN_snoc hf hj, ih]
      have e : Maps.has (setI G.reverse) (keyI f) = G.reverse.any (fun g => g.index == (j : Int)) := by
        unfold setI
        rw [Maps.has_setOf _ _ _ (keyI_lit _), List.any_map]
        congr 1
        funext g
        show Lit.sameKey (.int .i64 g.index) (.int .i64 f.index) = _
        rw [hf]
        simp only [Lit.sameKey, true_and]
        rw [Bool.eq_iff_iff, beq_iff_eq, decide_eq_true_eq]
      rw [e]
  intro F h
  have := main F.reverse (by rw [List.reverse_reverse]; exact h)
  rwa [List.reverse_reverse] at this
end Go.Proofs.YtpkapcijgldhhaaGreatDoor

namespace Go.Proofs.YtpkapcijgldhhaaGreatDoor
open Go.RowKit Go.Shelf
theorem infoFrame : (Tryz.prog.info? 46).map (·.size) = some 9 := by kernel_rfl
theorem infoB8 : (Tryz.prog.info? 5).map (fun i => (i.zero, i.size, i.bytes)) = some (some (.int .u8 0), 1, 1) := by kernel_rfl
theorem pad_bytes (l : List UInt8) (j : Nat) (hj : j < 28) (hl : l.length ≤ 28) : (padL l)[j]? = some (l.getD j 0) := by
  unfold padL
  by_cases h : j < l.length
  · rw [List.getElem?_append_left h, List.getD_eq_getElem?_getD, List.getElem?_eq_getElem h]; rfl
  · rw [List.getElem?_append_right (by omega), List.getElem?_replicate, if_pos (by omega), List.getD_eq_getElem?_getD, List.getElem?_eq_none (by omega)]; rfl
theorem make_back (W1 : World) (A B : Nat) (t : ByteArray) (ht : t.size ≤ 28) (h : W1.ownsRow A 5 1 (.slice (some ⟨B, 0, none⟩) 28 28) 28 (madeCells (Value.int .u8 0).cells (28 * 1)).toList) :
    (Builtin.copy_ #[60, 9] 3 #[.slice (some ⟨B, 0, none⟩) 28 28, .string t]).run Tryz.prog W1 = .ok (goInt t.size) (W1.setCells B 0 (t.data.toList.map fun x => Value.int .u8 (x.toNat : Int))) ∧
    (convert 60 9 (.slice (some ⟨B, 0, none⟩) 28 28)).run Tryz.prog (W1.setCells B 0 (t.data.toList.map fun x => Value.int .u8 (x.toNat : Int))) = .ok (.string (bA' (padL t.data.toList))) (W1.setCells B 0 (t.data.toList.map fun x => Value.int .u8 (x.toNat : Int))) := by
  have hz : t.data.toList.length = t.size := rfl
  have hc : ∀ j, j < 28 → W1.cell? ⟨B, j, none⟩ = some (.int .u8 0) := fun j hj => by
    have h1 : (madeCells (Value.int .u8 0).cells (28 * 1)).toList[j]? = some (Value.int .u8 0) := by simp [madeCells, Value.cells, hj, Nat.mod_one]
    have h2 := h.cells (g := B) rfl j _ h1
    rwa [Addr.add_mid, Nat.zero_add] at h2
  have hfz : ∀ j, W1.frozen? ⟨B, j, none⟩ = false := fun j => by
    rcases h.2 with ⟨hv, _⟩ | ⟨g, cap, cur, hv, _, hg, _⟩
    · cases hv
    · cases hv; simp [World.frozen?, hg]
  refine ⟨run_copy_string W1 _ _ _ 5 B 0 28 28 t Tryz.underlying60 ?_ ht (fun j hj => by rw [Nat.zero_add, hc j (by omega)]; rfl) (fun j _ => by rw [Nat.zero_add]; exact hfz j), ?_⟩
  · intro w
    simp [Go.sizeOf, go_sem]
    rfl
  · have hp : (padL t.data.toList).length = 28 := padL_length (by omega)
    have := run_convert_bytes_back (W1.setCells B 0 (t.data.toList.map fun x => Value.int .u8 (x.toNat : Int))) 60 9 5 ⟨B, 0, none⟩ 28 (padL t.data.toList) Tryz.underlying60 Tryz.underlying5 Tryz.underlying9 (fun j hj => by
      rw [Addr.add_mid, Nat.zero_add]
      rw [hp] at hj
      have hl : (t.data.toList.map fun x => Value.int .u8 (x.toNat : Int)).length = t.size := by rw [List.length_map, hz]
      by_cases hjt : j < t.size
      · have h1 := World.cell?_setCells_in B (t.data.toList.map fun x => Value.int .u8 (x.toNat : Int)) 0 W1 (fun i hi => by rw [Nat.zero_add, hc i (by omega)]; rfl) j (by rw [hl]; exact hjt)
        rw [Nat.zero_add] at h1
        have h2 := pad_bytes t.data.toList j hj (by omega)
        rw [List.getD_eq_getElem?_getD, List.getElem?_eq_getElem (l := t.data.toList) (by rw [hz]; exact hjt)] at h2
        rw [h1, List.getElem_map, (List.getElem?_eq_some_iff.1 h2).2]
        rfl
      · rw [World.cell?_setCells_out B _ 0 W1 ⟨B, j, none⟩ (fun _ _ => .inr (by rw [hl]; show 0 + t.size ≤ j; omega)), hc j hj]
        have h2 := pad_bytes t.data.toList j hj (by omega)
        rw [List.getD_eq_getElem?_getD, List.getElem?_eq_none (l := t.data.toList) (by rw [hz]; omega)] at h2
        rw [(List.getElem?_eq_some_iff.1 h2).2]
        rfl)
    rw [hp] at this
    exact this
def mkFr (re se ix d sp ar : Int) (t : ByteArray) : Fr := ⟨66, re, se, ix, t.size, d, sp, ar, bA' (padL t.data.toList)⟩
set_option maxRecDepth 100000 in
set_option maxHeartbeats 4000000 in
theorem make13_any (re se ix d sp ar : Int) (t : ByteArray) (w : World) (ht : t.size ≤ 28) :
    Calls Tryz.prog 47 #[.int .i64 re, .int .i64 se, .int .i64 ix, .agg #[.int .i64 d, .int .i64 sp], .int .u32 ar, .string t] w (fun e w' => e = .returned (.agg (mkFr re se ix d sp ar t).vals.toArray) ∧ Below w.heap.size w w') := by
  obtain ⟨i0, hi, hz0, hz1, hz2⟩ := info_parts infoB8
  obtain ⟨kb0, bC0⟩ := boxr w [.int .i64 d, .int .i64 sp] 39
  obtain ⟨kb1, bX0⟩ := boxr (w.alloc (.cells [.int .i64 d, .int .i64 sp].toArray 39)) fr0.vals 46
  replace bC0 := bC0.below kb1
  replace kb0 := step2 kb0 kb1
  clear kb1
  rw [World.size_alloc] at bX0
  have ht2 : ¬ 28 < t.size := by omega
  go_enter Tryz.func47, Tryz.ntmps47
  go_upto_region 1 with (fail)
  obtain ⟨W0, hW0⟩ : ∃ W0, (w.alloc (.cells [.int .i64 d, .int .i64 sp].toArray 39)).alloc (.cells fr0.vals.toArray 46) = W0 := ⟨_, rfl⟩
  change Code.wp _ _ _ _ ((w.alloc (.cells [.int .i64 d, .int .i64 sp].toArray 39)).alloc (.cells fr0.vals.toArray 46))
  rw [hW0] at kb0 bC0 bX0 ⊢
  clear hW0
  obtain ⟨W1, hmk, hown, hgr⟩ := run_makeSlice_full (P := Tryz.prog) (w := W0) W0.heap.size 60 5 i0 (.int .u8 0) 1 Tryz.underlying60 hi hz0 hz1 .i64 .i64 28 (by decide) (by rw [hz2]; decide) (by decide) (Nat.le_refl _)
  have hmk' : (Instr.makeSlice 60 (.int .i64 28) (.int .i64 28)).run Tryz.prog W0 = .ok (.slice (some ⟨W0.heap.size, 0, none⟩) 28 28) W1 := hmk
  obtain ⟨hcp, hcv⟩ := make_back W1 W0.heap.size W0.heap.size t ht hown
  have k1 : Below W0.heap.size W0 W1 := (Below.refl _ W0).grown hgr (Nat.le_refl _) (fun k e => by cases e)
  have k2 := below_setCells (Nat.le_refl W0.heap.size) (t.data.toList.map fun x => Value.int .u8 (x.toNat : Int)) 0 W1 k1
  obtain ⟨W2, hW2⟩ : ∃ W2, W1.setCells W0.heap.size 0 (t.data.toList.map fun x => Value.int .u8 (x.toNat : Int)) = W2 := ⟨_, rfl⟩
  rw [hW2] at hcp hcv k2
  have kF := step2 kb0 k2
  have bX2 := bX0.below k2
  have bC2 := bC0.below k2
  obtain ⟨c0, c1⟩ := bC2.cells2
  obtain ⟨r0, r1, r2, r3, r4, r5, r6, r7, r8⟩ := bX2.cells9
  obtain ⟨s0, s1, s2, s3, s4, s5, s6, s7, s8⟩ := bX2.froz9
  clear hmk hown hgr hi hz0 hz1 hz2 hW2 bC0 bX0 bC2 k1 k2
  go_wp2_with fail
  change bodyPost _ _ _ _ _ (put9 W2 (w.heap.size + 1) (mkFr re se ix d sp ar t))
  have hB := bX2.put9 (mkFr re se ix d sp ar t)
  have kP := below_put9 kF (Nat.le_succ w.heap.size) (mkFr re se ix d sp ar t)
  generalize put9 W2 (w.heap.size + 1) (mkFr re se ix d sp ar t) = W3 at *
  generalize mkFr re se ix d sp ar t = fr at *
  refine bodyPost_ret (results_cell_mid rfl _ _ (w.heap.size + 1) 0 rfl fr.vals _ (fun j v hv => by rw [Nat.zero_add]; exact (hB.cell j).trans hv) Tryz.underlying46 rfl infoFrame) rfl ⟨rfl, kP⟩
end Go.Proofs.YtpkapcijgldhhaaGreatDoor

namespace Go.Proofs.YtpkapcijgldhhaaGreatDoor
open Go.RowKit Go.Shelf

theorem dnum_call {s : ByteArray} {a x y : Int} {n : Int} (h : rdNum s.data.toList a = (n, x, y)) (hs : s.size ≤ 1000000) (W : World) (he : Env W) :
    Calls Tryz.prog 94 #[.string s, .int .i64 a] W fun e w' => e = .returned (.tuple #[.int .i64 n, .int .i64 x, .int .i64 y]) ∧ Hid (Below W.heap.size W w') :=
  (readNumber_any s a W (by omega) he).mono fun e w' ⟨n', x', y', h1, h2, h3⟩ => by
    have h4 := h2.out
    rw [h] at h4
    simp only [Prod.mk.injEq] at h4
    obtain ⟨h5, rfl, rfl⟩ := h4
    subst h5; exact ⟨h1, h3⟩
set_option maxRecDepth 100000 in
set_option maxHeartbeats 1000000 in
theorem dnum_walk (s : ByteArray) (R : Nat) (a x y : Int) (n : Int) (W : World) (hb : Box W R [.string s, .int .i64 a, .int .i64 0] 157) (h : rdNum s.data.toList a = (n, x, y)) (hy : y = 0) (hs : s.size ≤ 1000000) (he : Env W) :
    Calls Tryz.prog 93 #[.pointer (some ⟨R, 0, none⟩), .func (.func 94) #[] #[]] W fun e W' => e = .returned (.int .i64 n) ∧ Box W' R [.string s, .int .i64 x, .int .i64 0] 157 ∧ Keep R W W' := by
  subst hy
  have HC := Lib.hid (dnum_call h hs W.drew (he.below (below_drew0 (below_refl W))))
  have eg := enters_of Tryz.func94 (by kernel_rfl) rfl
  have c0 : W.cell? ⟨R, 0, none⟩ = some (.string s) := hb.cell 0
  have c1 : W.cell? ⟨R, 1, none⟩ = some (.int .i64 a) := hb.cell 1
  have c2 : W.cell? ⟨R, 2, none⟩ = some (.int .i64 0) := hb.cell 2
  have hbd : Box W.drew R [.string s, .int .i64 a, .int .i64 0] 157 := hb
  have hlt := hb.lt
  clear h he
  go_enter Tryz.func93, Tryz.ntmps93
  go_upto_region 4 with (fail)
  go_region_held3 (fun w => w.cell? ⟨R, 0, none⟩ = some (.string s) ∧ w.cell? ⟨R, 1, none⟩ = some (.int .i64 a))
    (first | exact ⟨c0, c1⟩ | exact SK)
    ((go_at_call 94; refine HC.out.mono ?_; rintro e w1 ⟨rfl, hb1⟩; have bR1 := hbd.below hb1.out; have SK := And.intro (bR1.cell 0) (bR1.cell 1)))
  have d1 : w1.cell? ⟨R, 1, none⟩ = some (.int .i64 a) := bR1.cell 1
  have f1 := bR1.frozen 1
  clear SK c0 c1 c2
  go_wp2_with fail
  go_ret
  have hk : Keep R W w1 := Keep.of_below ((below_drew0 (below_refl W)).trans hb1.out) (Nat.le_of_lt hlt)
  exact ⟨rfl, bR1.set (j := 1) (.int .i64 x), keep_set hk _⟩
set_option maxRecDepth 100000 in
set_option maxHeartbeats 1000000 in
theorem dnum_bad (s : ByteArray) (R : Nat) (a x y : Int) (n : Int) (W : World) (hb : Box W R [.string s, .int .i64 a, .int .i64 0] 157) (h : rdNum s.data.toList a = (n, x, y)) (hy : y ≠ 0) (hs : s.size ≤ 1000000) (he : Env W) :
    Calls Tryz.prog 93 #[.pointer (some ⟨R, 0, none⟩), .func (.func 94) #[] #[]] W fun e W' => e = .returned (.int .i64 0) ∧ Box W' R [.string s, .int .i64 a, .int .i64 y] 157 ∧ Keep R W W' := by
  have HC := Lib.hid (dnum_call h hs W.drew (he.below (below_drew0 (below_refl W))))
  have eg := enters_of Tryz.func94 (by kernel_rfl) rfl
  have c0 : W.cell? ⟨R, 0, none⟩ = some (.string s) := hb.cell 0
  have c1 : W.cell? ⟨R, 1, none⟩ = some (.int .i64 a) := hb.cell 1
  have c2 : W.cell? ⟨R, 2, none⟩ = some (.int .i64 0) := hb.cell 2
  have hbd : Box W.drew R [.string s, .int .i64 a, .int .i64 0] 157 := hb
  have hlt := hb.lt
  have q1 : (y != 0) = true := by rw [bne_iff_ne]; exact hy
  have Hy := Lib.hid hy
  clear h he hy
  go_enter Tryz.func93, Tryz.ntmps93
  go_upto_region 4 with (fail)
  go_region_held3 (fun w => w.cell? ⟨R, 0, none⟩ = some (.string s) ∧ w.cell? ⟨R, 1, none⟩ = some (.int .i64 a))
    (first | exact ⟨c0, c1⟩ | exact SK)
    ((go_at_call 94; refine HC.out.mono ?_; rintro e w1 ⟨rfl, hb1⟩; have bR1 := hbd.below hb1.out; have SK := And.intro (bR1.cell 0) (bR1.cell 1)))
  have d2 : w1.cell? ⟨R, 2, none⟩ = some (.int .i64 0) := bR1.cell 2
  have f2 := bR1.frozen 2
  clear SK c0 c1 c2
  go_wp2_with fail
  go_ret
  have hk : Keep R W w1 := Keep.of_below ((below_drew0 (below_refl W)).trans hb1.out) (Nat.le_of_lt hlt)
  exact ⟨rfl, bR1.set (j := 2) (.int .i64 y), keep_set hk _⟩
theorem dnum_stop (s : ByteArray) (R : Nat) (a x : Int) (W : World) (hb : Box W R [.string s, .int .i64 a, .int .i64 x] 157) (hx : x ≠ 0) :
    Calls Tryz.prog 93 #[.pointer (some ⟨R, 0, none⟩), .func (.func 94) #[] #[]] W fun e W' => e = .returned (.int .i64 0) ∧ W = W' := by
  have c2 : W.cell? ⟨R, 2, none⟩ = some (.int .i64 x) := hb.cell 2
  have q1 : (x != 0) = true := by rw [bne_iff_ne]; exact hx
  have Hx := Lib.hid hx; clear hx
  go_enter Tryz.func93, Tryz.ntmps93
  go_wp2_with fail
  go_ret
  exact ⟨rfl, rfl⟩
theorem dnum_any (s : ByteArray) (R : Nat) (st : Except Int Int) (W : World) (hr : RS 157 W R s st) (hs : s.size ≤ 1000000) (he : Env W) :
    Calls Tryz.prog 93 #[.pointer (some ⟨R, 0, none⟩), .func (.func 94) #[] #[]] W (NumS 157 (st >>= nmb s.data.toList) s R W) := by
  cases st with
  | error x =>
    obtain ⟨hx, a, hb⟩ := hr
    exact (dnum_stop s R a x W hb hx).mono fun e w' ⟨h1, h2⟩ => by subst h2; exact ⟨h1, ⟨hx, a, hb⟩, Keep.refl _ _⟩
  | ok a =>
    show Calls _ _ _ _ (NumS 157 (nmb s.data.toList a) s R W)
    rcases h : nmb s.data.toList a with x | ⟨n, b⟩
    · obtain ⟨h1, hx⟩ := nmb_err h
      exact (dnum_bad s R a 0 x 0 W hr h1 hx hs he).mono fun e w' ⟨e1, e2, e3⟩ => ⟨e1, ⟨hx, a, e2⟩, e3⟩
    · exact (dnum_walk s R a b 0 n W hr (nmb_rd h) rfl hs he).mono fun e w' ⟨e1, e2, e3⟩ => ⟨e1, e2, e3⟩

theorem dtxt_call {s : ByteArray} {a x y : Int} {n : List UInt8} (h : rdStr s.data.toList a = (n, x, y)) (hs : s.size ≤ 1000000) (W : World) (he : Env W) :
    Calls Tryz.prog 96 #[.string s, .int .i64 a] W fun e w' => e = .returned (.tuple #[.string (bA' n), .int .i64 x, .int .i64 y]) ∧ Hid (Below W.heap.size W w') :=
  (readString_any s a W (by omega) he).mono fun e w' ⟨n', x', y', h1, h2, h3⟩ => by
    have h4 := h2.out
    rw [h] at h4
    simp only [Prod.mk.injEq] at h4
    obtain ⟨h5, rfl, rfl⟩ := h4
    subst h5; exact ⟨by rw [h1, bA'_of], h3⟩
set_option maxRecDepth 100000 in
set_option maxHeartbeats 1000000 in
theorem dtxt_walk (s : ByteArray) (R : Nat) (a x y : Int) (n : List UInt8) (W : World) (hb : Box W R [.string s, .int .i64 a, .int .i64 0] 157) (h : rdStr s.data.toList a = (n, x, y)) (hy : y = 0) (hs : s.size ≤ 1000000) (he : Env W) :
    Calls Tryz.prog 95 #[.pointer (some ⟨R, 0, none⟩), .func (.func 96) #[] #[]] W fun e W' => e = .returned (.string (bA' n)) ∧ Box W' R [.string s, .int .i64 x, .int .i64 0] 157 ∧ Keep R W W' := by
  subst hy
  have HC := Lib.hid (dtxt_call h hs W.drew (he.below (below_drew0 (below_refl W))))
  have eg := enters_of Tryz.func96 (by kernel_rfl) rfl
  have c0 : W.cell? ⟨R, 0, none⟩ = some (.string s) := hb.cell 0
  have c1 : W.cell? ⟨R, 1, none⟩ = some (.int .i64 a) := hb.cell 1
  have c2 : W.cell? ⟨R, 2, none⟩ = some (.int .i64 0) := hb.cell 2
  have hbd : Box W.drew R [.string s, .int .i64 a, .int .i64 0] 157 := hb
  have hlt := hb.lt
  clear h he
  go_enter Tryz.func95, Tryz.ntmps95
  go_upto_region 4 with (fail)
  go_region_held3 (fun w => w.cell? ⟨R, 0, none⟩ = some (.string s) ∧ w.cell? ⟨R, 1, none⟩ = some (.int .i64 a))
    (first | exact ⟨c0, c1⟩ | exact SK)
    ((go_at_call 96; refine HC.out.mono ?_; rintro e w1 ⟨rfl, hb1⟩; have bR1 := hbd.below hb1.out; have SK := And.intro (bR1.cell 0) (bR1.cell 1)))
  have d1 : w1.cell? ⟨R, 1, none⟩ = some (.int .i64 a) := bR1.cell 1
  have f1 := bR1.frozen 1
  clear SK c0 c1 c2
  go_wp2_with fail
  go_ret
  have hk : Keep R W w1 := Keep.of_below ((below_drew0 (below_refl W)).trans hb1.out) (Nat.le_of_lt hlt)
  exact ⟨rfl, bR1.set (j := 1) (.int .i64 x), keep_set hk _⟩
set_option maxRecDepth 100000 in
set_option maxHeartbeats 1000000 in
theorem dtxt_bad (s : ByteArray) (R : Nat) (a x y : Int) (n : List UInt8) (W : World) (hb : Box W R [.string s, .int .i64 a, .int .i64 0] 157) (h : rdStr s.data.toList a = (n, x, y)) (hy : y ≠ 0) (hs : s.size ≤ 1000000) (he : Env W) :
    Calls Tryz.prog 95 #[.pointer (some ⟨R, 0, none⟩), .func (.func 96) #[] #[]] W fun e W' => e = .returned (.string ⟨#[]⟩) ∧ Box W' R [.string s, .int .i64 a, .int .i64 y] 157 ∧ Keep R W W' := by
  have HC := Lib.hid (dtxt_call h hs W.drew (he.below (below_drew0 (below_refl W))))
  have eg := enters_of Tryz.func96 (by kernel_rfl) rfl
  have c0 : W.cell? ⟨R, 0, none⟩ = some (.string s) := hb.cell 0
  have c1 : W.cell? ⟨R, 1, none⟩ = some (.int .i64 a) := hb.cell 1
  have c2 : W.cell? ⟨R, 2, none⟩ = some (.int .i64 0) := hb.cell 2
  have hbd : Box W.drew R [.string s, .int .i64 a, .int .i64 0] 157 := hb
  have hlt := hb.lt
  have q1 : (y != 0) = true := by rw [bne_iff_ne]; exact hy
  have Hy := Lib.hid hy
  clear h he hy
  go_enter Tryz.func95, Tryz.ntmps95
  go_upto_region 4 with (fail)
  go_region_held3 (fun w => w.cell? ⟨R, 0, none⟩ = some (.string s) ∧ w.cell? ⟨R, 1, none⟩ = some (.int .i64 a))
    (first | exact ⟨c0, c1⟩ | exact SK)
    ((go_at_call 96; refine HC.out.mono ?_; rintro e w1 ⟨rfl, hb1⟩; have bR1 := hbd.below hb1.out; have SK := And.intro (bR1.cell 0) (bR1.cell 1)))
  have d2 : w1.cell? ⟨R, 2, none⟩ = some (.int .i64 0) := bR1.cell 2
  have f2 := bR1.frozen 2
  clear SK c0 c1 c2
  go_wp2_with fail
  go_ret
  have hk : Keep R W w1 := Keep.of_below ((below_drew0 (below_refl W)).trans hb1.out) (Nat.le_of_lt hlt)
  exact ⟨rfl, bR1.set (j := 2) (.int .i64 y), keep_set hk _⟩
theorem dtxt_stop (s : ByteArray) (R : Nat) (a x : Int) (W : World) (hb : Box W R [.string s, .int .i64 a, .int .i64 x] 157) (hx : x ≠ 0) :
    Calls Tryz.prog 95 #[.pointer (some ⟨R, 0, none⟩), .func (.func 96) #[] #[]] W fun e W' => e = .returned (.string ⟨#[]⟩) ∧ W = W' := by
  have c2 : W.cell? ⟨R, 2, none⟩ = some (.int .i64 x) := hb.cell 2
  have q1 : (x != 0) = true := by rw [bne_iff_ne]; exact hx
  have Hx := Lib.hid hx; clear hx
  go_enter Tryz.func95, Tryz.ntmps95
  go_wp2_with fail
  go_ret
  exact ⟨rfl, rfl⟩
theorem dtxt_any (s : ByteArray) (R : Nat) (st : Except Int Int) (W : World) (hr : RS 157 W R s st) (hs : s.size ≤ 1000000) (he : Env W) :
    Calls Tryz.prog 95 #[.pointer (some ⟨R, 0, none⟩), .func (.func 96) #[] #[]] W (TxtS 157 (st >>= txt s.data.toList) s R W) := by
  cases st with
  | error x =>
    obtain ⟨hx, a, hb⟩ := hr
    exact (dtxt_stop s R a x W hb hx).mono fun e w' ⟨h1, h2⟩ => by subst h2; exact ⟨h1, ⟨hx, a, hb⟩, Keep.refl _ _⟩
  | ok a =>
    show Calls _ _ _ _ (TxtS 157 (txt s.data.toList a) s R W)
    rcases h : txt s.data.toList a with x | ⟨n, b⟩
    · obtain ⟨h1, hx⟩ := txt_err h
      exact (dtxt_bad s R a 0 x [] W hr h1 hx hs he).mono fun e w' ⟨e1, e2, e3⟩ => ⟨e1, ⟨hx, a, e2⟩, e3⟩
    · exact (dtxt_walk s R a b 0 n W hr (txt_rd h) rfl hs he).mono fun e w' ⟨e1, e2, e3⟩ => ⟨e1, e2, e3⟩
end Go.Proofs.YtpkapcijgldhhaaGreatDoor
