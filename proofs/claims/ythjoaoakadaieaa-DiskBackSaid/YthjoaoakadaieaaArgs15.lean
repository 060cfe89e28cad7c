/- A statement's arguments, opened: small numbers, truths. -/
import Derived.Test.YthjoaoakadaieaaBase
import Derived.SliceStrings
import Derived.OpenShut
import Derived.ProofKit
import Derived.ChangeOld
import Derived.ChangeMaps5
namespace Go.Proofs.Ythjoaoakadaieaa
open Go.ChangeShapes Go.WideShapes Go.ChangeAt Go.RowKit

set_option maxRecDepth 100000 in
theorem u8_of_val {W : World} {r : Reach} {b0 : Nat} {v : Value} (h : Value.okWide Try.prog W r b0 5 v) : ∃ n : Nat, v = .int .u8 n ∧ n < 256 := by
  obtain ⟨n, rfl⟩ := okWide_int Try.underlying5 h
  have h2 := h
  simp [Value.okWide, Try.underlying5, Cell.okWide, Cell.ok, IntKind.has, IntKind.min, IntKind.max, IntKind.bits, IntKind.signed] at h2
  refine ⟨n.toNat, ?_, ?_⟩
  · congr 1; omega
  · omega
set_option maxRecDepth 100000 in
theorem bool_of_val {W : World} {r : Reach} {b0 : Nat} {v : Value} (h : Value.okWide Try.prog W r b0 4 v) : ∃ c : Bool, v = .bool c := okWide_bool Try.underlying4 h
end Go.Proofs.Ythjoaoakadaieaa
