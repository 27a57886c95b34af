/-
  The walks of entry.Head and entry.Encode.
  The walk of entry.Encode.
-/
import Derived.Test.YtpkapcijgldhhaaGreatDoorCf01
import Derived.Test.YtpkapcijgldhhaaGreatDoorCf02
import Derived.Test.YtpkapcijgldhhaaGreatDoorCe27
import Derived.Test.YtpkapcijgldhhaaGreatDoorCe12
import Derived.Deep.RegionHeld3
import Derived.Deep.RegionWith
namespace Go.Proofs.YtpkapcijgldhhaaGreatDoor
open Go.RowKit Go.Shelf

def HeadP (l : List UInt8) (c : Int) (w : World) (e : Ending) (w' : World) : Prop := ∃ t : ByteArray, e = .returned (.tuple #[.string t, .int .i64 c]) ∧ Hid (t.data.toList = l) ∧ Below w.heap.size w w'
end Go.Proofs.YtpkapcijgldhhaaGreatDoor

namespace Go.Proofs.YtpkapcijgldhhaaGreatDoor
open Go.RowKit Go.Shelf

theorem take_flatX (X : List Ex) (k : Nat) (h : k < X.length) : (X.take (k + 1)).flatMap exL = (X.take k).flatMap exL ++ exL (exAt X k) := by
  rw [List.take_succ_eq_append_getElem h, List.flatMap_append, exAt_get h]; simp
end Go.Proofs.YtpkapcijgldhhaaGreatDoor
