/- A statement's arguments, opened: numbers of sixteen and of sixty-four bits. -/
import Derived.Test.YthjoaoakadaieaaArgsD
namespace Go.Proofs.Ythjoaoakadaieaa
open Go.ChangeShapes Go.WideShapes Go.ChangeAt Go.RowKit

set_option maxRecDepth 100000 in
theorem u16_of_val {W : World} {r : Reach} {b0 : Nat} {v : Value} (h : Value.okWide Try.prog W r b0 41 v) : ∃ n : Nat, v = .int .u16 n ∧ n < 65536 := by
  obtain ⟨n, rfl⟩ := okWide_int Try.underlying41 h
  have h2 := h
  simp [Value.okWide, Try.underlying41, Cell.okWide, Cell.ok, IntKind.has, IntKind.min, IntKind.max, IntKind.bits, IntKind.signed] at h2
  refine ⟨n.toNat, ?_, ?_⟩
  · congr 1; omega
  · omega
set_option maxRecDepth 100000 in
theorem int_of_val {W : World} {r : Reach} {b0 : Nat} {v : Value} (h : Value.okWide Try.prog W r b0 3 v) : ∃ n : Int, v = .int .i64 n ∧ -9223372036854775808 ≤ n ∧ n < 9223372036854775808 := by
  obtain ⟨n, rfl⟩ := okWide_int Try.underlying3 h
  have h2 := h
  simp [Value.okWide, Try.underlying3, Cell.okWide, Cell.ok, IntKind.has, IntKind.min, IntKind.max, IntKind.bits, IntKind.signed] at h2
  exact ⟨n, rfl, by omega, by omega⟩
end Go.Proofs.Ythjoaoakadaieaa
