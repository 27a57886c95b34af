/-
  The reference's choice of shares.
-/
import Derived.Test.YtpkapcijgldhhaaGreatDoorCe36
import Derived.Test.YtpkapcijgldhhaaGreatDoorCe39
import Derived.Test.YtpkapcijgldhhaaGreatDoorCe37
namespace Go.Proofs.YtpkapcijgldhhaaGreatDoor
open Go.RowKit Go.Shelf
/-- the rows between two rounds -/
structure Fst (w : World) (base : Nat) (va : Value) (A : List UInt8) (vb : Value) (B : List ByteArray) (W : World) : Prop where
  bel : Below w.heap.size w W
  a : W.ownsRow base 5 1 va A.length (A.map b8)
  b : W.ownsRow base 9 1 vb B.length (B.map Value.string)
  le : base ≤ W.heap.size
  lw : w.heap.size ≤ base
section
variable {w : World} {base : Nat} {va va' : Value} {A : List UInt8} {vb vb' : Value} {B : List ByteArray} {W W' : World}
theorem Fst.alloc (h : Fst w base va A vb B W) (o : Obj) : Fst w base va A vb B (W.alloc o) :=
  ⟨h.bel.alloc h.bel.size o, World.ownsRow.alloc h.a o, World.ownsRow.alloc h.b o, by rw [World.size_alloc]; exact Nat.le_succ_of_le h.le, h.lw⟩
theorem Fst.drew (h : Fst w base va A vb B W) : Fst w base va A vb B W.drew := ⟨below_drew0 h.bel, h.a, h.b, h.le, h.lw⟩
theorem Fst.drewN (h : Fst w base va A vb B W) (n : Nat) : Fst w base va A vb B (W.drewN n) := ⟨below_drewN h.bel n, h.a, h.b, h.le, h.lw⟩
theorem Fst.stepA {x : UInt8} (h : Fst w base va A vb B W) (hb : Below base W W') (hg : Grew W W' 5) (ho : W'.ownsRow base 5 1 va' (A.length + 1) (A.map b8 ++ [b8 x])) : Fst w base va' (A ++ [x]) vb B W' :=
  ⟨h.bel.trans (hb.mono h.lw), by rw [List.length_append, List.map_append]; exact ho, own_grew h.b hg (by decide), Nat.le_trans h.le hb.size, h.lw⟩
theorem Fst.stepB {x : ByteArray} (h : Fst w base va A vb B W) (hb : Below base W W') (hg : Grew W W' 9) (ho : W'.ownsRow base 9 1 vb' (B.length + 1) (B.map Value.string ++ [.string x])) : Fst w base va A vb' (B ++ [x]) W' :=
  ⟨h.bel.trans (hb.mono h.lw), own_grew h.a hg (by decide), by rw [List.length_append, List.map_append]; exact ho, Nat.le_trans h.le hb.size, h.lw⟩
end
set_option maxRecDepth 100000 in
set_option maxHeartbeats 4000000 in
theorem first_any (b o cap : Nat) (S : List Sh) (w : World) (h : ShOk S) (h0 : 0 < S.length) (hl : S.length ≤ 15) (hS : ShAt w b o S) :
    Calls Tryz.prog 74 #[.slice (some ⟨b, o, none⟩) S.length cap, .int .i64 S.length] w (fun e w' => ∃ gx cx gb cb, e = .returned (.tuple #[.slice (some ⟨gx, 0, none⟩) S.length cx, .slice (some ⟨gb, 0, none⟩) S.length cb]) ∧ ByAt w' gx 0 (shX S S.length) ∧ StAt w' gb 0 (shB S S.length) ∧ Below w.heap.size w w') := by
  have HS := Lib.hid (fun W (hW : Below w.heap.size w W) => hS.below hW)
  have HNI := Lib.hid (fun k (hk : k < S.length) => h.notin hk)
  have HIX := Lib.hid h.ix
  clear hS h
  go_enter Tryz.func74, Tryz.ntmps74
  go_upto_region 2 with (fail)
  have C0 : Fst w w.heap.size (.slice (some ⟨w.heap.size, 0, none⟩) 0 0) (shX S 0) (.slice (some ⟨w.heap.size + 1, 0, none⟩) 0 0) (shB S 0) ((w.alloc (.cells #[] 5)).alloc (.cells #[] 9)) := by
    have o1 := World.ownsRow.alloc (World.ownsRow_made (base := w.heap.size) (e := 5) (size := 1) w #[] 0 (Nat.le_refl _) (by decide) rfl) (.cells #[] 9)
    have o2 := World.ownsRow_made (base := w.heap.size) (e := 9) (size := 1) (w.alloc (.cells #[] 5)) #[] 0 (by rw [World.size_alloc]; exact Nat.le_succ _) (by decide) rfl
    rw [World.size_alloc] at o2
    have b1 := (below_refl w).alloc (Nat.le_refl _) (.cells #[] 5)
    exact ⟨b1.alloc (by rw [World.size_alloc]; exact Nat.le_succ _) _, o1, o2, by rw [World.size_alloc, World.size_alloc]; omega, Nat.le_refl _⟩
  generalize (w.alloc (.cells #[] 5)).alloc (.cells #[] 9) = W0 at *
  have hva : ∃ va : Value, va = .slice (some ⟨w.heap.size, 0, none⟩) 0 0 := ⟨_, rfl⟩
  go_wp2_with fail
  go_loopw [6, 7, 8] (fun va vb v wr => ∃ (k : Nat), k ≤ S.length ∧ v = .int .i64 k ∧ Fst w w.heap.size va (shX S k) vb (shB S k) wr) (fun _ _ v _ => S.length - (intOf v).toNat)
  case atStart => exact ⟨0, by omega, rfl, C0⟩
  case round =>
    clear C0 hva
    obtain ⟨k, hk, rfl, C⟩ := hrel
    have hA := C.a
    have hB := C.b
    rw [shX_len] at hA
    rw [shB_len] at hB
    obtain ⟨oa, oc, rfl⟩ := own_form hA
    obtain ⟨ob, od, rfl⟩ := own_form hB
    clear hA hB
    by_cases hlt : k < S.length
    · have hki : (k : Int) < (S.length : Int) := by omega
      have hni := Lib.hid (HNI.out k hlt)
      have hix := HIX.out k hlt
      have hw8 := wrap8 hix
      have hw8b : (shAt S k).i % 256 = by8 (UInt8.ofNat (shAt S k).i.toNat) := by
        obtain ⟨m, hm⟩ := Int.eq_ofNat_of_zero_le hix.1
        rw [hm, by8, Int.toNat_natCast, UInt8.toNat_ofNat_of_lt' (show m < 256 by omega)]; omega
      have hXs := Lib.hid (shX_succ S k)
      have hBs := Lib.hid (shB_succ S k)
      go_wp2_with fail
      go_loopw [9, 10] (fun vk vj wq => ∃ (j : Nat), j ≤ k ∧ vj = .int .i64 j ∧ vk = .bool false ∧ Fst w w.heap.size (.slice oa k oc) (shX S k) (.slice ob k od) (shB S k) wq) (fun _ vj _ => k - (intOf vj).toNat)
      case atStart => exact ⟨0, by omega, rfl, rfl, C⟩
      case round =>
        clear C
        obtain ⟨j, hj, rfl, rfl, C⟩ := hrel
        by_cases hjt : j < k
        · obtain ⟨c0, c1⟩ := shCells (HS.out _ C.bel) hlt
          obtain ⟨g, rfl, hg, hx⟩ := ByAt.of_own C.a (by rw [shX_len]; omega)
          have cj := hx j (by rw [shX_len]; exact hjt)
          rw [Nat.zero_add] at cj
          have hne : (by8 ((shX S k).getD j 0) == (shAt S k).i) = false := by
            rw [beq_eq_false_iff_ne]
            intro e
            refine hni.out ?_
            have h1 : UInt8.ofNat (shAt S k).i.toNat = (shX S k).getD j 0 := by
              rw [← e, by8, Int.toNat_natCast, UInt8.ofNat_toNat]
            rw [h1, List.getD_eq_getElem?_getD, List.getElem?_eq_getElem (by rw [shX_len]; exact hjt)]
            exact List.getElem_mem _
          have hcv : IntKind.i64.wrap (by8 ((shX S k).getD j 0)) = by8 ((shX S k).getD j 0) := by
            have := by8_lt ((shX S k).getD j 0)
            rw [IntWalk.i64_in _ (by omega)]
          have hb9 := by8_lt ((shX S k).getD j 0)
          have hji : (0 : Int) ≤ (j : Int) ∧ (j : Int) < (k : Int) := by omega
          simp only [b8] at cj
          generalize by8 ((shX S k).getD j 0) = y at *
          generalize (shAt S k).i = i at *
          generalize (shAt S k).d = d at *
          clear hw8b hw8 hni hx
          have hb9i : 0 ≤ y ∧ y < 9223372036854775807 := by omega
          go_upto_region 9 with (fail)
          go_quiet (fail)
          all_goals
            go_wp2_with fail
            go_roundw
            case rel => exact ⟨j + 1, by omega, by go_num, by simp, C.drewN _⟩
            case measure => simp [intOf]; omega
        · obtain rfl : j = k := by omega
          have HCS := Lib.hid (show ∀ W, Below w.heap.size w W → W.cell? ⟨b, o + j * 2, none⟩ = some (.int .i64 (shAt S j).i) ∧ W.cell? ⟨b, o + j * 2 + 1, none⟩ = some (.string (shAt S j).d) from fun W hW => shCells (HS.out W hW) hlt)
          obtain ⟨c0, c1⟩ := HCS.out _ C.bel
          generalize (shAt S j).i = i at *
          generalize (shAt S j).d = d at *
          generalize UInt8.ofNat i.toNat = x at *
          clear hni
          go_upto_region 11 with (fail)
          obtain ⟨iA, hiA, hA0, hA1, hA2⟩ := info_parts infoU8c
          obtain ⟨iB, hiB, hB0, hB1, hB2⟩ := info_parts infoStc
          have oneA : ∀ u ∈ [b8 x], u.oneCell' = true := fun u hu => by simp only [List.mem_singleton] at hu; subst hu; rfl
          have oneB : ∀ u ∈ [Value.string d], u.oneCell' = true := fun u hu => by simp only [List.mem_singleton] at hu; subst hu; rfl
          have HC2 := Lib.hid (fun W (hW : Below w.heap.size w W) => HCS.out W hW)
          have C0 := C.drew
          have CA := C.alloc (.cells #[.int .u8 (by8 x)] 5)
          have CB := C.alloc (.cells #[.string d] 9)
          have CAB := CA.alloc (.cells #[.string d] 9)
          have CBA := CB.alloc (.cells #[.int .u8 (by8 x)] 5)
          have nA := news1 wr (b8 x) 5
          have bAB : Box ((wr.alloc (.cells #[.int .u8 (by8 x)] 5)).alloc (.cells #[.string d] 9)) wr.heap.size [b8 x] 5 := Box.alloc (Box.new wr [b8 x] 5) _
          have bBA : Box ((wr.alloc (.cells #[.string d] 9)).alloc (.cells #[.int .u8 (by8 x)] 5)) (wr.heap.size + 1) [b8 x] 5 := by
            have := Box.new (wr.alloc (.cells #[.string d] 9)) [b8 x] 5
            rw [World.size_alloc] at this; exact this
          have tAB : Box ((wr.alloc (.cells #[.int .u8 (by8 x)] 5)).alloc (.cells #[.string d] 9)).drew (wr.heap.size + 1) [.string d] 9 := by
            have := Box.new (wr.alloc (.cells #[.int .u8 (by8 x)] 5)) [.string d] 9
            rw [World.size_alloc] at this; exact this
          have tBA : Box ((wr.alloc (.cells #[.string d] 9)).alloc (.cells #[.int .u8 (by8 x)] 5)).drew wr.heap.size [.string d] 9 := Box.alloc (Box.new wr [.string d] 9) _
          have aA := CA.drew.a
          have aAB := CAB.drew.a
          have aBA := CBA.drew.a
          rw [shX_len] at aA aAB aBA
          refine region_T (S0 := (fun W => W.cell? ⟨b, o + j * 2, none⟩ = some (.int .i64 i) ∧ W.cell? ⟨b, o + j * 2 + 1, none⟩ = some (.string d))) (S1 := fun _ => True) (m := 99) (by kernel_rfl) ?_
          refine takeA (i := 0) (v := ?_) rfl (by decide) (by kernel_rfl) (by kernel_rfl) (by kernel_rfl) (fun _ _ _ h => h) (Or.inl ⟨by rfl, ?_⟩) (HC2.out _ C0.bel) (fun _ => trivial) ?_
          rotate_left
          · rintro W hSw
            (try dsimp only at hSw)
            obtain ⟨hSa, hSb⟩ := hSw
            go_simp
            first | done | with_reducible rfl
          try simp only [Act.put, List.setIfInBounds_toArray, List.set_cons_zero, List.set_cons_succ]
          refine takeA (i := 1) (v := ?_) rfl (by decide) (by kernel_rfl) (by kernel_rfl) (by kernel_rfl) (fun _ _ _ h => h) (Or.inl ⟨by rfl, ?_⟩) (HC2.out _ C0.bel) (fun _ => trivial) ?_
          rotate_left
          · rintro W hSw
            (try dsimp only at hSw)
            obtain ⟨hSa, hSb⟩ := hSw
            go_simp
            first | done | with_reducible rfl
          try simp only [Act.put, List.setIfInBounds_toArray, List.set_cons_zero, List.set_cons_succ]
          refine takeA (i := 2) (v := ?_) rfl (by decide) (by kernel_rfl) (by kernel_rfl) (by kernel_rfl) (fun _ _ _ h => h) (Or.inl ⟨by rfl, ?_⟩) (HC2.out _ C0.bel) (fun _ => trivial) ?_
          rotate_left
          · rintro W hSw
            (try dsimp only at hSw)
            obtain ⟨hSa, hSb⟩ := hSw
            go_simp
            first | done | with_reducible rfl
          try simp only [Act.put, List.setIfInBounds_toArray, List.set_cons_zero, List.set_cons_succ]
          refine takeA (i := 3) (v := ?_) rfl (by decide) (by kernel_rfl) (by kernel_rfl) (by kernel_rfl) (fun _ _ _ h => h) (Or.inl ⟨by rfl, ?_⟩) (HC2.out _ C0.bel) (fun _ => trivial) ?_
          rotate_left
          · rintro W hSw
            (try dsimp only at hSw)
            obtain ⟨hSa, hSb⟩ := hSw
            go_simp
            first | done | with_reducible rfl
          try simp only [Act.put, List.setIfInBounds_toArray, List.set_cons_zero, List.set_cons_succ]
          refine takeA (i := 4) (v := ?_) rfl (by decide) (by kernel_rfl) (by kernel_rfl) (by kernel_rfl) (fun _ _ _ h => h) (Or.inl ⟨by rfl, ?_⟩) (HC2.out _ C0.bel) (fun _ => trivial) ?_
          rotate_left
          · rintro W hSw
            (try dsimp only at hSw)
            obtain ⟨hSa, hSb⟩ := hSw
            go_simp
            first | done | with_reducible rfl
          try simp only [Act.put, List.setIfInBounds_toArray, List.set_cons_zero, List.set_cons_succ]
          refine takeA (i := 5) (v := ?_) rfl (by decide) (by kernel_rfl) (by kernel_rfl) (by kernel_rfl) (fun _ _ _ h => h) (Or.inl ⟨by rfl, ?_⟩) (HC2.out _ C0.bel) (fun _ => trivial) ?_
          rotate_left
          · rintro W hSw
            (try dsimp only at hSw)
            obtain ⟨hSa, hSb⟩ := hSw
            go_simp
            first | done | with_reducible rfl
          try simp only [Act.put, List.setIfInBounds_toArray, List.set_cons_zero, List.set_cons_succ]
          refine takeA (i := 6) (v := ?_) rfl (by decide) (by kernel_rfl) (by kernel_rfl) (by kernel_rfl) (fun _ _ _ h => h) (Or.inl ⟨by rfl, ?_⟩) (HC2.out _ C0.bel) (fun _ => trivial) ?_
          rotate_left
          · rintro W hSw
            (try dsimp only at hSw)
            obtain ⟨hSa, hSb⟩ := hSw
            go_simp
            first | done | with_reducible rfl
          try simp only [Act.put, List.setIfInBounds_toArray, List.set_cons_zero, List.set_cons_succ]
          refine takeA (i := 9) (v := ?_) rfl (by decide) (by kernel_rfl) (by kernel_rfl) (by kernel_rfl) (fun _ _ _ h => h) (Or.inl ⟨by rfl, ?_⟩) (HC2.out _ C0.bel) (fun _ => trivial) ?_
          rotate_left
          · rintro W hSw
            (try dsimp only at hSw)
            obtain ⟨hSa, hSb⟩ := hSw
            go_simp
            first | done | with_reducible rfl
          try simp only [Act.put, List.setIfInBounds_toArray, List.set_cons_zero, List.set_cons_succ]
          refine takeA (i := 10) (v := ?_) rfl (by decide) (by kernel_rfl) (by kernel_rfl) (by kernel_rfl) (fun _ _ _ h => h) (Or.inl ⟨by rfl, ?_⟩) (HC2.out _ C0.bel) (fun _ => trivial) ?_
          rotate_left
          · rintro W hSw
            (try dsimp only at hSw)
            obtain ⟨hSa, hSb⟩ := hSw
            go_simp
            first | done | with_reducible rfl
          try simp only [Act.put, List.setIfInBounds_toArray, List.set_cons_zero, List.set_cons_succ]
          refine takeA (i := 11) (v := ?_) rfl (by decide) (by kernel_rfl) (by kernel_rfl) (by kernel_rfl) (fun _ _ _ h => h) (Or.inl ⟨by rfl, ?_⟩) (HC2.out _ C0.bel) (fun _ => trivial) ?_
          rotate_left
          · rintro W hSw
            (try dsimp only at hSw)
            obtain ⟨hSa, hSb⟩ := hSw
            go_simp
            first | done | with_reducible rfl
          try simp only [Act.put, List.setIfInBounds_toArray, List.set_cons_zero, List.set_cons_succ]
          refine takeA (i := 12) (v := ?_) rfl (by decide) (by kernel_rfl) (by kernel_rfl) (by kernel_rfl) (fun _ _ _ h => h) (Or.inl ⟨by rfl, ?_⟩) (HC2.out _ C0.bel) (fun _ => trivial) ?_
          rotate_left
          · rintro W hSw
            (try dsimp only at hSw)
            obtain ⟨hSa, hSb⟩ := hSw
            go_simp
            first | done | with_reducible rfl
          try simp only [Act.put, List.setIfInBounds_toArray, List.set_cons_zero, List.set_cons_succ]
          refine takeA (i := 13) (v := ?_) rfl (by decide) (by kernel_rfl) (by kernel_rfl) (by kernel_rfl) (fun _ _ _ h => h) (Or.inl ⟨by rfl, ?_⟩) (HC2.out _ C0.bel) (fun _ => trivial) ?_
          rotate_left
          · rintro W hSw
            (try dsimp only at hSw)
            obtain ⟨hSa, hSb⟩ := hSw
            go_simp
            first | done | with_reducible rfl
          try simp only [Act.put, List.setIfInBounds_toArray, List.set_cons_zero, List.set_cons_succ]
          refine takeA (i := 14) (v := ?_) rfl (by decide) (by kernel_rfl) (by kernel_rfl) (by kernel_rfl) (fun _ _ _ h => h) (Or.inl ⟨by rfl, ?_⟩) (HC2.out _ C0.bel) (fun _ => trivial) ?_
          rotate_left
          · rintro W hSw
            (try dsimp only at hSw)
            obtain ⟨hSa, hSb⟩ := hSw
            go_simp
            first | done | with_reducible rfl
          try simp only [Act.put, List.setIfInBounds_toArray, List.set_cons_zero, List.set_cons_succ]
          refine readyT (rs := [7, 15]) (by kernel_rfl) (by simp) (fun q hq => ?_)
          simp only [List.mem_cons, List.not_mem_nil, or_false] at hq
          rcases hq with rfl | rfl
          · refine stepT rfl rfl (fun K hK => ?_)
            rw [if_pos (by rfl)]
            go_simp
            refine hK.out _ _ (HC2.out _ CA.drew.bel) (fun _ => trivial) ?_
            clear hK K
            try simp only [Act.put, List.setIfInBounds_toArray, List.set_cons_zero, List.set_cons_succ]
            refine readyT (rs := [8, 15]) (by kernel_rfl) (by simp) (fun q hq => ?_)
            simp only [List.mem_cons, List.not_mem_nil, or_false] at hq
            rcases hq with rfl | rfl
            · refine stepT rfl rfl (fun K hK => ?_)
              refine step_append_own2 rfl (.tmp 47) (.tmp 54) 60 rfl w.heap.size 5 iA (.int .u8 0) 1 1 Tryz.underlying60 hiA hA0 hA1 hA2 rfl (by decide) (.slice oa j oc) j ((shX S j).map b8) (by simp [Act.eval]) aA ⟨wr.heap.size, 0, none⟩ 1 1 [b8 x] (by simp [Act.eval]) rfl nA oneA (by unfold maxLen; omega) (by omega) CA.drew.le ?_
              intro oa7 oc7 w7 own7 hb7 hg7
              have C7 := Fst.stepA (x := x) CA.drew hb7.out hg7.out (by rw [shX_len]; exact own7)
              have C7b := C7.alloc (.cells #[.string d] 9)
              refine hK.out _ _ (HC2.out _ C7.bel) (fun _ => trivial) ?_
              clear hK K
              try simp only [Act.put, List.setIfInBounds_toArray, List.set_cons_zero, List.set_cons_succ]
              refine readyT (rs := [15]) (by kernel_rfl) (by simp) (fun q hq => ?_)
              simp only [List.mem_cons, List.not_mem_nil, or_false] at hq
              obtain rfl := hq
              refine stepT rfl rfl (fun K hK => ?_)
              rw [if_pos (by rfl)]
              go_simp
              refine hK.out _ _ (HC2.out _ C7b.bel) (fun _ => trivial) ?_
              clear hK K
              try simp only [Act.put, List.setIfInBounds_toArray, List.set_cons_zero, List.set_cons_succ]
              have b7b := C7b.b
              rw [shB_len] at b7b
              refine readyT (rs := [16]) (by kernel_rfl) (by simp) (fun q hq => ?_)
              simp only [List.mem_cons, List.not_mem_nil, or_false] at hq
              obtain rfl := hq
              refine stepT rfl rfl (fun K hK => ?_)
              refine step_append_own2 rfl (.tmp 56) (.tmp 62) 57 rfl w.heap.size 9 iB (.string ⟨#[]⟩) 1 16 Tryz.underlying57 hiB hB0 hB1 hB2 rfl (by decide) (.slice ob j od) j ((shB S j).map Value.string) (by simp [Act.eval]) b7b ⟨w7.heap.size, 0, none⟩ 1 1 [.string d] (by simp [Act.eval]) rfl (news1 w7 (.string d) 9) oneB (by unfold maxLen; omega) (by omega) C7b.le ?_
              intro ob8 od8 w8 own8 hb8 hg8
              have C8 := Fst.stepB (x := d) C7b hb8.out hg8.out (by rw [shB_len]; exact own8)
              refine hK.out _ _ (HC2.out _ C8.bel) (fun _ => trivial) ?_
              clear hK K
              try simp only [Act.put, List.setIfInBounds_toArray, List.set_cons_zero, List.set_cons_succ]
              refine takeA (i := 17) (v := ?_) rfl (by decide) (by kernel_rfl) (by kernel_rfl) (by kernel_rfl) (fun _ _ _ h => h) (Or.inl ⟨by rfl, ?_⟩) (HC2.out _ C8.bel) (fun _ => trivial) ?_
              rotate_left
              · rintro W hSw
                (try dsimp only at hSw)
                obtain ⟨hSa, hSb⟩ := hSw
                go_simp
                first | done | with_reducible rfl
              try simp only [Act.put, List.setIfInBounds_toArray, List.set_cons_zero, List.set_cons_succ]
              refine takeA (i := 18) (v := ?_) rfl (by decide) (by kernel_rfl) (by kernel_rfl) (by kernel_rfl) (fun _ _ _ h => h) (Or.inl ⟨by rfl, ?_⟩) (HC2.out _ C8.bel) (fun _ => trivial) ?_
              rotate_left
              · rintro W hSw
                (try dsimp only at hSw)
                obtain ⟨hSa, hSb⟩ := hSw
                go_simp
                first | done | with_reducible rfl
              try simp only [Act.put, List.setIfInBounds_toArray, List.set_cons_zero, List.set_cons_succ]
              refine doneT (by kernel_rfl) ?_ _
              go_wp2_with fail
              go_roundw
              case rel => exact ⟨j + 1, by omega, by go_num, by rw [hXs.out, hBs.out]; exact C8⟩
              case measure => simp [intOf]; omega
            · refine stepT rfl rfl (fun K hK => ?_)
              rw [if_pos (by rfl)]
              go_simp
              refine hK.out _ _ (HC2.out _ CAB.drew.bel) (fun _ => trivial) ?_
              clear hK K
              try simp only [Act.put, List.setIfInBounds_toArray, List.set_cons_zero, List.set_cons_succ]
              refine readyT (rs := [8]) (by kernel_rfl) (by simp) (fun q hq => ?_)
              simp only [List.mem_cons, List.not_mem_nil, or_false] at hq
              obtain rfl := hq
              refine stepT rfl rfl (fun K hK => ?_)
              refine step_append_own2 rfl (.tmp 47) (.tmp 54) 60 rfl w.heap.size 5 iA (.int .u8 0) 1 1 Tryz.underlying60 hiA hA0 hA1 hA2 rfl (by decide) (.slice oa j oc) j ((shX S j).map b8) (by simp [Act.eval]) aAB ⟨wr.heap.size, 0, none⟩ 1 1 [b8 x] (by simp [Act.eval]) rfl (news_box bAB) oneA (by unfold maxLen; omega) (by omega) CAB.drew.le ?_
              intro oa7 oc7 w7 own7 hb7 hg7
              have C7 := Fst.stepA (x := x) CAB.drew hb7.out hg7.out (by rw [shX_len]; exact own7)
              have t7 := tAB.grew hg7.out (by decide)
              refine hK.out _ _ (HC2.out _ C7.bel) (fun _ => trivial) ?_
              clear hK K
              try simp only [Act.put, List.setIfInBounds_toArray, List.set_cons_zero, List.set_cons_succ]
              have b7 := C7.b
              rw [shB_len] at b7
              refine readyT (rs := [16]) (by kernel_rfl) (by simp) (fun q hq => ?_)
              simp only [List.mem_cons, List.not_mem_nil, or_false] at hq
              obtain rfl := hq
              refine stepT rfl rfl (fun K hK => ?_)
              refine step_append_own2 rfl (.tmp 56) (.tmp 62) 57 rfl w.heap.size 9 iB (.string ⟨#[]⟩) 1 16 Tryz.underlying57 hiB hB0 hB1 hB2 rfl (by decide) (.slice ob j od) j ((shB S j).map Value.string) (by simp [Act.eval]) b7 ⟨wr.heap.size + 1, 0, none⟩ 1 1 [.string d] (by simp [Act.eval]) rfl (news_box t7) oneB (by unfold maxLen; omega) (by omega) C7.le ?_
              intro ob8 od8 w8 own8 hb8 hg8
              have C8 := Fst.stepB (x := d) C7 hb8.out hg8.out (by rw [shB_len]; exact own8)
              refine hK.out _ _ (HC2.out _ C8.bel) (fun _ => trivial) ?_
              clear hK K
              try simp only [Act.put, List.setIfInBounds_toArray, List.set_cons_zero, List.set_cons_succ]
              refine takeA (i := 17) (v := ?_) rfl (by decide) (by kernel_rfl) (by kernel_rfl) (by kernel_rfl) (fun _ _ _ h => h) (Or.inl ⟨by rfl, ?_⟩) (HC2.out _ C8.bel) (fun _ => trivial) ?_
              rotate_left
              · rintro W hSw
                (try dsimp only at hSw)
                obtain ⟨hSa, hSb⟩ := hSw
                go_simp
                first | done | with_reducible rfl
              try simp only [Act.put, List.setIfInBounds_toArray, List.set_cons_zero, List.set_cons_succ]
              refine takeA (i := 18) (v := ?_) rfl (by decide) (by kernel_rfl) (by kernel_rfl) (by kernel_rfl) (fun _ _ _ h => h) (Or.inl ⟨by rfl, ?_⟩) (HC2.out _ C8.bel) (fun _ => trivial) ?_
              rotate_left
              · rintro W hSw
                (try dsimp only at hSw)
                obtain ⟨hSa, hSb⟩ := hSw
                go_simp
                first | done | with_reducible rfl
              try simp only [Act.put, List.setIfInBounds_toArray, List.set_cons_zero, List.set_cons_succ]
              refine doneT (by kernel_rfl) ?_ _
              go_wp2_with fail
              go_roundw
              case rel => exact ⟨j + 1, by omega, by go_num, by rw [hXs.out, hBs.out]; exact C8⟩
              case measure => simp [intOf]; omega
          · refine stepT rfl rfl (fun K hK => ?_)
            rw [if_pos (by rfl)]
            go_simp
            refine hK.out _ _ (HC2.out _ CB.drew.bel) (fun _ => trivial) ?_
            clear hK K
            try simp only [Act.put, List.setIfInBounds_toArray, List.set_cons_zero, List.set_cons_succ]
            refine readyT (rs := [7]) (by kernel_rfl) (by simp) (fun q hq => ?_)
            simp only [List.mem_cons, List.not_mem_nil, or_false] at hq
            obtain rfl := hq
            refine stepT rfl rfl (fun K hK => ?_)
            rw [if_pos (by rfl)]
            go_simp
            refine hK.out _ _ (HC2.out _ CBA.drew.bel) (fun _ => trivial) ?_
            clear hK K
            try simp only [Act.put, List.setIfInBounds_toArray, List.set_cons_zero, List.set_cons_succ]
            refine readyT (rs := [8]) (by kernel_rfl) (by simp) (fun q hq => ?_)
            simp only [List.mem_cons, List.not_mem_nil, or_false] at hq
            obtain rfl := hq
            refine stepT rfl rfl (fun K hK => ?_)
            refine step_append_own2 rfl (.tmp 47) (.tmp 54) 60 rfl w.heap.size 5 iA (.int .u8 0) 1 1 Tryz.underlying60 hiA hA0 hA1 hA2 rfl (by decide) (.slice oa j oc) j ((shX S j).map b8) (by simp [Act.eval]) aBA ⟨wr.heap.size + 1, 0, none⟩ 1 1 [b8 x] (by simp [Act.eval]) rfl (news_box bBA) oneA (by unfold maxLen; omega) (by omega) CBA.drew.le ?_
            intro oa7 oc7 w7 own7 hb7 hg7
            have C7 := Fst.stepA (x := x) CBA.drew hb7.out hg7.out (by rw [shX_len]; exact own7)
            have t7 := tBA.grew hg7.out (by decide)
            refine hK.out _ _ (HC2.out _ C7.bel) (fun _ => trivial) ?_
            clear hK K
            try simp only [Act.put, List.setIfInBounds_toArray, List.set_cons_zero, List.set_cons_succ]
            have b7 := C7.b
            rw [shB_len] at b7
            refine readyT (rs := [16]) (by kernel_rfl) (by simp) (fun q hq => ?_)
            simp only [List.mem_cons, List.not_mem_nil, or_false] at hq
            obtain rfl := hq
            refine stepT rfl rfl (fun K hK => ?_)
            refine step_append_own2 rfl (.tmp 56) (.tmp 62) 57 rfl w.heap.size 9 iB (.string ⟨#[]⟩) 1 16 Tryz.underlying57 hiB hB0 hB1 hB2 rfl (by decide) (.slice ob j od) j ((shB S j).map Value.string) (by simp [Act.eval]) b7 ⟨wr.heap.size, 0, none⟩ 1 1 [.string d] (by simp [Act.eval]) rfl (news_box t7) oneB (by unfold maxLen; omega) (by omega) C7.le ?_
            intro ob8 od8 w8 own8 hb8 hg8
            have C8 := Fst.stepB (x := d) C7 hb8.out hg8.out (by rw [shB_len]; exact own8)
            refine hK.out _ _ (HC2.out _ C8.bel) (fun _ => trivial) ?_
            clear hK K
            try simp only [Act.put, List.setIfInBounds_toArray, List.set_cons_zero, List.set_cons_succ]
            refine takeA (i := 17) (v := ?_) rfl (by decide) (by kernel_rfl) (by kernel_rfl) (by kernel_rfl) (fun _ _ _ h => h) (Or.inl ⟨by rfl, ?_⟩) (HC2.out _ C8.bel) (fun _ => trivial) ?_
            rotate_left
            · rintro W hSw
              (try dsimp only at hSw)
              obtain ⟨hSa, hSb⟩ := hSw
              go_simp
              first | done | with_reducible rfl
            try simp only [Act.put, List.setIfInBounds_toArray, List.set_cons_zero, List.set_cons_succ]
            refine takeA (i := 18) (v := ?_) rfl (by decide) (by kernel_rfl) (by kernel_rfl) (by kernel_rfl) (fun _ _ _ h => h) (Or.inl ⟨by rfl, ?_⟩) (HC2.out _ C8.bel) (fun _ => trivial) ?_
            rotate_left
            · rintro W hSw
              (try dsimp only at hSw)
              obtain ⟨hSa, hSb⟩ := hSw
              go_simp
              first | done | with_reducible rfl
            try simp only [Act.put, List.setIfInBounds_toArray, List.set_cons_zero, List.set_cons_succ]
            refine doneT (by kernel_rfl) ?_ _
            go_wp2_with fail
            go_roundw
            case rel => exact ⟨j + 1, by omega, by go_num, by rw [hXs.out, hBs.out]; exact C8⟩
            case measure => simp [intOf]; omega
    · obtain rfl : k = S.length := by omega
      have hfin : ∃ ga gb, oa = some ⟨ga, 0, none⟩ ∧ ob = some ⟨gb, 0, none⟩ ∧ ByAt wr ga 0 (shX S S.length) ∧ StAt wr gb 0 (shB S S.length) := by
        obtain ⟨ga, rfl, hga, hx⟩ := ByAt.of_own C.a (by rw [shX_len]; exact h0)
        obtain ⟨gb, rfl, hgb, hb⟩ := StAt.of_own C.b (by rw [shB_len]; exact h0)
        exact ⟨ga, gb, rfl, rfl, hx, hb⟩
      obtain ⟨ga, gb, rfl, rfl, hx, hb⟩ := hfin
      have hbel := C.bel
      clear C HS HNI HIX
      go_wp2_with fail
      go_ret2
      exact ⟨_, _, _, _, rfl, hx, hb, hbel⟩
end Go.Proofs.YtpkapcijgldhhaaGreatDoor
