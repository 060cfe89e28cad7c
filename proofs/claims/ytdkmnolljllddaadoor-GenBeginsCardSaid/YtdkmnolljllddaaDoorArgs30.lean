/- Statements' arguments, opened: numbers; the library's table of white space. -/
import Derived.Test.YtdkmnolljllddaaDoorRows
import Derived.Test.YtdkmnolljllddaaDoorArgsT
import Derived.Test.YtdkmnolljllddaaDoorPTree30
import Derived.Stop.LaidErr
namespace Go.Proofs.YtdkmnolljllddaaDoor
open Go.ChangeShapes Go.WideShapes Go.ChangeAt Go.RowKit

set_option maxRecDepth 100000 in
theorem u64_of_val {W : World} {r : Reach} {b0 : Nat} {v : Value} (h : Value.okWide Tryd.prog W r b0 36 v) : ∃ n : Int, v = .int .u64 n ∧ 0 ≤ n ∧ n < 18446744073709551616 := by
  obtain ⟨n, rfl⟩ := okWide_int Tryd.underlying36 h
  have h2 := h
  simp [Value.okWide, Tryd.underlying36, Cell.okWide, Cell.ok, IntKind.has, IntKind.min, IntKind.max, IntKind.bits, IntKind.signed] at h2
  exact ⟨n, rfl, by omega, by omega⟩
set_option maxRecDepth 100000 in
theorem u8_of_val {W : World} {r : Reach} {b0 : Nat} {v : Value} (h : Value.okWide Tryd.prog W r b0 5 v) : ∃ n : Nat, v = .int .u8 n ∧ n < 256 := by
  obtain ⟨n, rfl⟩ := okWide_int Tryd.underlying5 h
  have h2 := h
  simp [Value.okWide, Tryd.underlying5, Cell.okWide, Cell.ok, IntKind.has, IntKind.min, IntKind.max, IntKind.bits, IntKind.signed] at h2
  refine ⟨n.toNat, ?_, ?_⟩
  · congr 1; omega
  · omega
set_option maxRecDepth 100000 in
theorem int_of_val {W : World} {r : Reach} {b0 : Nat} {v : Value} (h : Value.okWide Tryd.prog W r b0 3 v) : ∃ n : Int, v = .int .i64 n ∧ -9223372036854775808 ≤ n ∧ n < 9223372036854775808 := by
  obtain ⟨n, rfl⟩ := okWide_int Tryd.underlying3 h
  have h2 := h
  simp [Value.okWide, Tryd.underlying3, Cell.okWide, Cell.ok, IntKind.has, IntKind.min, IntKind.max, IntKind.bits, IntKind.signed] at h2
  exact ⟨n, rfl, by omega, by omega⟩
theorem sp_data : (Rows.laid_strings_asciiSpace : DataW Unit) = Lib.tabData .u8 Lib.asciiSpaceTab := by kernel_rfl
theorem sp_of_laid {W : World} {x y : String × DataW Unit} {rest : List (String × DataW Unit)} (h : laidMet Tryd.prog (x :: y :: ("strings.asciiSpace", Rows.laid_strings_asciiSpace) :: rest) W) : SpTab W := by
  have h2 := laidMet.tail (laidMet.tail h)
  rw [sp_data] at h2
  exact SpTab.of (Lib.tabIs_of_head (g := 0) (t := (Tryd.prog.globals[0]?.map (·.type)).getD 0) (e := 5) (n := 256) (by kernel_rfl) (by kernel_rfl) (by kernel_rfl) Tryd.underlying5 (by kernel_rfl) (by kernel_rfl) h2)
end Go.Proofs.YtdkmnolljllddaaDoor
