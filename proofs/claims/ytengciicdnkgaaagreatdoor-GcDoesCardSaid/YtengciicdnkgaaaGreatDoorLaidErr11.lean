/- The library's variable errors.errorType, out of the row's condition. -/
import Derived.Test.YtengciicdnkgaaaGreatDoorRows
import Derived.Test.YtengciicdnkgaaaGreatDoorPRead11
import Derived.RowKitTokens
import Derived.LaidLaws
import Derived.LaidHandle
import Derived.Stop.Joined
namespace Go.Proofs.YtengciicdnkgaaaGreatDoor
open Go.RowKit

theorem et11 : Tryz.prog.globalNamed "errors.errorType" = some 0 := by kernel_rfl
theorem rt11 : (Tryz.prog.cutTypes.find? (·.1 == "internal/reflectlite.rtype")).map (·.2) = some 152 := by kernel_rfl
theorem oneRow11 : ((List.range Tryz.prog.types.size).filter fun t => Tryz.prog.rowNamed t [101, 114, 114, 111, 114]) = [89] := by kernel_rfl
theorem errT_of_laid {W : World} (h : laidMetH Tryz.prog [("errors.errorType", Rows.laid_errors_errorType)] W) : ErrT W := by
  have h' : laidMet Tryz.prog [] W ∧ handlesMet Tryz.prog [("errors.errorType", Rows.laid_errors_errorType)] W := h
  obtain ⟨name, u, ty, e1, e2, e3, e4, e5⟩ := h'.2 _ (List.mem_singleton.2 rfl)
  have en : name = [101, 114, 114, 111, 114] := (Option.some.inj e1).symm
  subst en
  obtain rfl := Option.some.inj (rt11.symm.trans e2)
  have hm : ty ∈ (List.range Tryz.prog.types.size).filter fun t => Tryz.prog.rowNamed t [101, 114, 114, 111, 114] := List.mem_filter.2 ⟨List.mem_range.2 e3, e4⟩
  rw [oneRow11] at hm
  obtain rfl := List.mem_singleton.1 hm
  have hh : typeHandle Tryz.prog 89 = .pointer (some ⟨2, 89, none⟩) := by kernel_rfl
  rw [hh] at e5
  have h6 := World.var?_cell et11 e5 0
  unfold ErrT
  simpa using h6

/-- A world that meets the condition. -/
noncomputable def laidW11 (os : Os) : World :=
  let w0 := World.holding Tryz.prog os ⟨#[], #[], []⟩
  { w0 with heap := w0.heap.modify 0 fun
      | .cells _ t frozen => .cells #[.iface 152 (.agg #[.pointer (some ⟨2, 89, none⟩)])] t frozen
      | o => o }
end Go.Proofs.YtengciicdnkgaaaGreatDoor
