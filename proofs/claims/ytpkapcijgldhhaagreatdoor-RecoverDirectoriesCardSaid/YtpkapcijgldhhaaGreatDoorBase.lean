/-
  What the walks of this seat share: the library's variables that they read (Env), worlds that only grow (Below), strings as lists of bytes.
-/
import Derived.Test.YtpkapcijgldhhaaGreatDoorProg
import Derived.Test.YtpkapcijgldhhaaGreatDoorShelf
import Derived.WalkKit
import Derived.WalkSpells
import Derived.WalkLawsBesides
import Derived.WalkSmall
import Derived.Lib.Hide
import Derived.Lib.ConvBytes
import Derived.Sort.Grow
namespace Go.Proofs.YtpkapcijgldhhaaGreatDoor
open Go.RowKit

/-- What is read of the library's variables: a table and two errors; they lie below the first block of a call's own. -/
structure Env (w : World) : Prop where
  pow : Lib.TabIs Tryz.prog w "internal/strconv.uint64pow10" .u64 Lib.pow10Tab
  syn : ∃ tp p, w.var? Tryz.prog "strconv.ErrSyntax" = some #[.iface tp p]
  rng : ∃ tp p, w.var? Tryz.prog "strconv.ErrRange" = some #[.iface tp p]

theorem gPow : Tryz.prog.globalNamed "internal/strconv.uint64pow10" = some 3 := by kernel_rfl
theorem gSyn : Tryz.prog.globalNamed "strconv.ErrSyntax" = some 1 := by kernel_rfl
theorem gRng : Tryz.prog.globalNamed "strconv.ErrRange" = some 2 := by kernel_rfl

theorem var_lt {P : Program} {w : World} {n : String} {g : Nat} {cs : Array Value} (hg : P.globalNamed n = some g) (h : w.var? P n = some cs) : g < w.heap.size := by
  unfold World.var? at h
  rw [hg] at h
  simp only [Option.bind_some] at h
  rcases Nat.lt_or_ge g w.heap.size with h' | h'
  · exact h'
  · rw [Array.getElem?_eq_none h'] at h; cases h
theorem Env.below {w w' : World} (h : Env w) (hb : Below w.heap.size w w') : Env w' := by
  refine ⟨var?_below hb gPow (var_lt gPow h.pow) h.pow, ?_, ?_⟩
  · obtain ⟨tp, p, hp⟩ := h.syn; exact ⟨tp, p, var?_below hb gSyn (var_lt gSyn hp) hp⟩
  · obtain ⟨tp, p, hp⟩ := h.rng; exact ⟨tp, p, var?_below hb gRng (var_lt gRng hp) hp⟩

/-- one step behind another -/
theorem step2 {a b c : World} (h : Below a.heap.size a b) (k : Below b.heap.size b c) : Below a.heap.size a c := h.trans (k.mono h.size)
theorem below_refl (w : World) : Below w.heap.size w w := Below.refl _ _

theorem toList_size (s : ByteArray) : s.data.toList.length = s.size := rfl
theorem size_mk (l : List UInt8) : (⟨l.toArray⟩ : ByteArray).size = l.length := rfl
theorem toList_mk (l : List UInt8) : (⟨l.toArray⟩ : ByteArray).data.toList = l := rfl
theorem mk_toList (s : ByteArray) : (⟨s.data.toList.toArray⟩ : ByteArray) = s := rfl
theorem extract_list (s : ByteArray) (a b : Nat) : (s.extract a b).data.toList = (s.data.toList.drop a).take (b - a) := by
  rw [ByteArray.data_extract, Array.toList_extract]
theorem append_list (a b : ByteArray) : (a ++ b).data.toList = a.data.toList ++ b.data.toList := by simp
theorem list_inj {a b : ByteArray} (h : a.data.toList = b.data.toList) : a = b := by
  cases a with | mk a => cases b with | mk b => simp only at h; congr; exact Array.toList_inj.1 h
theorem isEmpty_list (s : ByteArray) : s.toList.isEmpty = s.data.toList.isEmpty := by rw [ByteArray.toList_eq]
theorem beq_list (s : ByteArray) (l : List UInt8) : (s.toList == l) = (s.data.toList == l) := by rw [ByteArray.toList_eq]
theorem beq_lists (s t : ByteArray) : (s.toList == t.toList) = (s.data.toList == t.data.toList) := by rw [ByteArray.toList_eq, ByteArray.toList_eq]
theorem get_list (s : ByteArray) (k : Nat) (h : k < s.size) : s.data.toList[k]? = some s[k] := by
  have : k < s.data.toList.length := h
  rw [List.getElem?_eq_getElem this]
  rfl
theorem getD_list (s : ByteArray) (k : Nat) (h : k < s.size) : s.data.toList.getD k 0 = s[k] := by
  rw [List.getD_eq_getElem?_getD, get_list s k h]; rfl
theorem ofList (l : List UInt8) : ∃ s : ByteArray, s.data.toList = l ∧ s.size = l.length := ⟨⟨l.toArray⟩, rfl, rfl⟩
theorem size_pos {s : ByteArray} (h : s.data.toList ≠ []) : 0 < s.size := by
  rcases Nat.eq_zero_or_pos s.size with h' | h'
  · exact absurd (List.eq_nil_of_length_eq_zero h') h
  · exact h'
theorem byte_is {c k : UInt8} (h : c = k) {n : Int} (hn : (k.toNat : Int) = n) : ((c.toNat : Int) == n) = true ∧ ((c.toNat : Int) != n) = false := by
  subst h; subst hn; simp
theorem byte_not {c k : UInt8} (h : ¬ c = k) {n : Int} (hn : (k.toNat : Int) = n) : ((c.toNat : Int) == n) = false ∧ ((c.toNat : Int) != n) = true := by
  subst hn
  have : ¬ (c.toNat : Int) = k.toNat := fun e => h (UInt8.toNat_inj.1 (by omega))
  simp [this]
theorem alloc_new_cell (w : World) (cs : Array Value) (T : TypeId) (i : Nat) : (w.alloc (.cells cs T)).cell? ⟨w.heap.size, i, none⟩ = cs[i]? := by
  have h : (w.alloc (.cells cs T)).heap[w.heap.size]? = some (.cells cs T (0, 0)) := heap_alloc_new w _
  unfold World.cell?
  rw [h]; simp
theorem alloc_old_cell {w : World} {a : Addr} {v : Value} (o : Obj) (h : w.cell? a = some v) : (w.alloc o).cell? a = some v := by
  rw [((Below.refl _ w).alloc (Nat.le_refl _) o).cell (World.block_lt_of_cell? w _ h)]; exact h
theorem alloc_new_frozen (w : World) (cs : Array Value) (T : TypeId) (i : Nat) : (w.alloc (.cells cs T)).frozen? ⟨w.heap.size, i, none⟩ = false := by
  have h : (w.alloc (.cells cs T)).heap[w.heap.size]? = some (.cells cs T (0, 0)) := heap_alloc_new w _
  unfold World.frozen?
  rw [h]; simp
theorem alloc_old_frozen {w : World} {a : Addr} (o : Obj) (h : a.block < w.heap.size) : (w.alloc o).frozen? a = w.frozen? a :=
  ((Below.refl _ w).alloc (Nat.le_refl _) o).frozen h
theorem ret_bool {a b : Bool} (h : a = b) : Ending.returned (.bool a) = .returned (.bool b) := by rw [h]
theorem ret_int {k : IntKind} {a b : Int} (h : a = b) : Ending.returned (.int k a) = .returned (.int k b) := by rw [h]
end Go.Proofs.YtpkapcijgldhhaaGreatDoor
