/- DiskDoes: the disk is the document's. -/
import Derived.Test.YthjoaoakadaieaaLaw15D3
namespace Go.Proofs.Ythjoaoakadaieaa
open Go.RowKit

theorem does_walk (v : Value) (off : Bool) (fuse : Int) (l : List DF) (v2 : Value) (off2 : Bool) (fuse2 : Int) (l2 : List DF) (n m : List UInt8) (k : Int) (s : List UInt8) (w : World) (hr : FilesR w v l) (hrg : FilesR w v2 l2) (hk1 : -9223372036854775808 ≤ k) (hk2 : k < 9223372036854775808) :
    Calls Try.prog 9 #[DiskV v off fuse, DiskV v2 off2 fuse2, S n, S m, .int .i64 k, S s] w fun e w' => e = .returned (.bool true) ∧ Below w.heap.size w w' := by
  by_cases h1 : 20000 < k
  · by_cases h2 : 262144 < k
    · exact does_walk2 v off fuse l v2 off2 fuse2 l2 n m k s w hr hrg hk1 hk2 h2
    · exact does_walk3 v off fuse l v2 off2 fuse2 l2 n m k s w hr hrg hk1 hk2 ⟨h1, by omega⟩
  · exact does_walk1 v off fuse l v2 off2 fuse2 l2 n m k s w hr hrg hk1 hk2 h1
end Go.Proofs.Ythjoaoakadaieaa
