/- DiskBack: what was written is read. -/
import Derived.Test.YthjoaoakadaieaaLaw15B1
import Derived.Test.YthjoaoakadaieaaLaw15B2
import Derived.Test.YthjoaoakadaieaaLaw15B3
import Derived.Test.YthjoaoakadaieaaLaw15B4
namespace Go.Proofs.Ythjoaoakadaieaa
open Go.RowKit

theorem back_walk (v : Value) (off : Bool) (fuse : Int) (l : List DF) (nm : List UInt8) (k : Nat) (s ot : List UInt8) (w : World) (hr : FilesR w v l) (hk : k < 65536) :
    Calls Try.prog 5 #[DiskV v off fuse, S nm, .int .u16 k, S s, S ot] w fun e w' => e = .returned (.bool true) ∧ Below w.heap.size w w' := by
  by_cases hs : s = []
  · cases hw : (readD (los l, off, fuse) nm).2 with
    | true => exact back_walk1 v off fuse l nm k s ot w hr hk hs hw
    | false => exact back_walk2 v off fuse l nm k s ot w hr hk hs hw
  · cases hw : (readD (los l, off, fuse) nm).2 with
    | true => exact back_walk3 v off fuse l nm k s ot w hr hk hs hw
    | false => exact back_walk4 v off fuse l nm k s ot w hr hk hs hw
end Go.Proofs.Ythjoaoakadaieaa
