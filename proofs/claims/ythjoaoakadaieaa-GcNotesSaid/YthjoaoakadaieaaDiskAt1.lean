/- How a file's name stands to a text (the closure of machine.at). -/
import Derived.Test.YthjoaoakadaieaaCmp
import Derived.Test.YthjoaoakadaieaaDiskB
namespace Go.Proofs.Ythjoaoakadaieaa
open Go.RowKit

set_option maxHeartbeats 400000 in
theorem mat1_walk (x : DF) (n : List UInt8) (w : World) : Calls Try.prog 74 #[DFV x, S n] w fun e w' => e = .returned (.int .i64 (cmpS x.name n)) ∧ Below w.heap.size w w' := by
  obtain ⟨p, q, r, s⟩ := x
  have C := fun w => compare_walk p n w
  simp only
  generalize cmpS p n = c at *
  go_enter Try.func74, Try.ntmps74
  go_wp2_with (go_at_call 75; refine (C _).mono ?_; rintro e w1 ⟨rfl, rfl⟩)
  go_ret
  exact ⟨rfl, (Below.refl _ _).alloc (Nat.le_refl _) _⟩
end Go.Proofs.Ythjoaoakadaieaa
