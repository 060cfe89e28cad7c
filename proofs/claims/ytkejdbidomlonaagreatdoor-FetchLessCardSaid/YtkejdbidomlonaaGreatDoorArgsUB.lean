/- A statement's arguments, opened: numbers of sixteen bits, truth. -/
import Derived.Test.YtkejdbidomlonaaGreatDoorJLaw13B
namespace Go.Proofs.YtkejdbidomlonaaGreatDoor
open Go.ChangeShapes Go.WideShapes Go.ChangeAt Go.RowKit

set_option maxRecDepth 100000 in
theorem u16_of_val {W : World} {r : Reach} {b0 : Nat} {v : Value} (h : Value.okWide Tryz.prog W r b0 25 v) : ∃ n : Nat, v = .int .u16 n ∧ n < 65536 := by
  obtain ⟨n, rfl⟩ := okWide_int Tryz.underlying25 h
  have h2 := h
  simp [Value.okWide, Tryz.underlying25, Cell.okWide, Cell.ok, IntKind.has, IntKind.min, IntKind.max, IntKind.bits, IntKind.signed] at h2
  refine ⟨n.toNat, ?_, ?_⟩
  · congr 1; omega
  · omega
set_option maxRecDepth 100000 in
theorem bool_of_val {W : World} {r : Reach} {b0 : Nat} {v : Value} (h : Value.okWide Tryz.prog W r b0 4 v) : ∃ c : Bool, v = .bool c := okWide_bool Tryz.underlying4 h
end Go.Proofs.YtkejdbidomlonaaGreatDoor
