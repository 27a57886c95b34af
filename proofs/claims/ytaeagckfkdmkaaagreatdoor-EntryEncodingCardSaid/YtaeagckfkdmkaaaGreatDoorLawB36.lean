/-
  Chapter 36: what the walks of its laws share.
-/
import Derived.Test.YtaeagckfkdmkaaaGreatDoorAlive36
import Derived.Test.YtaeagckfkdmkaaaGreatDoorRChk
namespace Go.Proofs.YtaeagckfkdmkaaaGreatDoor
open Go.RowKit Go.Shelf
theorem box1 (w : World) (c1 : List Value) (T1 : TypeId) : Below w.heap.size w (w.alloc (.cells c1.toArray T1)) ∧ Box (w.alloc (.cells c1.toArray T1)) w.heap.size c1 T1 :=
  ⟨(below_refl w).alloc (Nat.le_refl _) _, Box.new w c1 T1⟩
theorem boxes2 (w : World) (c1 c2 : List Value) (T1 T2 : TypeId) :
    Below w.heap.size w ((w.alloc (.cells c1.toArray T1)).alloc (.cells c2.toArray T2)) ∧ Box ((w.alloc (.cells c1.toArray T1)).alloc (.cells c2.toArray T2)) w.heap.size c1 T1 ∧ Box ((w.alloc (.cells c1.toArray T1)).alloc (.cells c2.toArray T2)) (w.heap.size + 1) c2 T2 := by
  have h1 := Box.new w c1 T1
  have s1 := size_one w (.cells c1.toArray T1)
  have k1 : Below w.heap.size w (w.alloc (.cells c1.toArray T1)) := (below_refl w).alloc (Nat.le_refl _) _
  have h2 := Box.new (w.alloc (.cells c1.toArray T1)) c2 T2
  have k2 : Below (w.alloc (.cells c1.toArray T1)).heap.size (w.alloc (.cells c1.toArray T1)) ((w.alloc (.cells c1.toArray T1)).alloc (.cells c2.toArray T2)) := (below_refl _).alloc (Nat.le_refl _) _
  rw [s1] at h2
  exact ⟨step2 k1 k2, h1.below k2, h2⟩
/-- the contracts of an entry's functions in every later world -/
structure EnCs (x : En) (va vx : Value) (w : World) : Prop where
  at_ : ∀ W, Below w.heap.size w W → AtRow W va x.attrs
  ex_ : ∀ W, Below w.heap.size w W → ExRow W vx x.exts
  great : ∀ W, Below w.heap.size w W → Calls Tryz.prog 11 #[.agg #[.int .i64 x.kind, .string x.path, va, .string x.target, .int .i64 x.size, .string x.digest, vx]] W (GreatP (SmallE x) W)
  check : EnOk x → ∀ W, Below w.heap.size w W → Calls Tryz.prog 16 #[.agg #[.int .i64 x.kind, .string x.path, va, .string x.target, .int .i64 x.size, .string x.digest, vx]] W (IntP (chkE x) W)
  head : EnOk x → ∀ W, Below w.heap.size w W → Calls Tryz.prog 12 #[.agg #[.int .i64 x.kind, .string x.path, va, .string x.target, .int .i64 x.size, .string x.digest, vx]] W (HeadP (if chkE x = 0 then headL x else []) (chkE x) W)
  enc : EnOk x → ∀ W, Below w.heap.size w W → Calls Tryz.prog 14 #[.agg #[.int .i64 x.kind, .string x.path, va, .string x.target, .int .i64 x.size, .string x.digest, vx]] W (HeadP (if chkE x = 0 then bodyL x else []) (chkE x) W)
theorem enCs {x : En} {va vx : Value} {w : World} (he : Env w) (hm : HasMax w) (ha : AtRow w va x.attrs) (hx : ExRow w vx x.exts) (wf : EnWf x) : EnCs x va vx w :=
  ⟨fun _ hW => ha.below hW, fun _ hW => hx.below hW, fun W hW => great_any x va vx W wf (ha.below hW) (hx.below hW),
   fun ok W hW => check_any x va vx W (he.below hW) (hm.below hW) (ha.below hW) (hx.below hW) ok,
   fun ok W hW => head_any x va vx W (he.below hW) (hm.below hW) (ha.below hW) (hx.below hW) ok,
   fun ok W hW => encode_any x va vx W (he.below hW) (hm.below hW) (ha.below hW) (hx.below hW) ok⟩
end Go.Proofs.YtaeagckfkdmkaaaGreatDoor
