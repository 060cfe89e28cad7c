/- Texts, one behind the other. -/
import Derived.Test.YtffdcnhpjgpcdaaGreatDoorCellsU
import Derived.Test.YtffdcnhpjgpcdaaGreatDoorJVar
import Derived.Test.YtffdcnhpjgpcdaaGreatDoorCellsB
namespace Go.Proofs.YtffdcnhpjgpcdaaGreatDoor
open Go.RowKit

theorem S_app (a b : List UInt8) : Value.string (({ data := a.toArray } : ByteArray) ++ ({ data := b.toArray } : ByteArray)) = S (a ++ b) := by
  congr 1
end Go.Proofs.YtffdcnhpjgpcdaaGreatDoor
