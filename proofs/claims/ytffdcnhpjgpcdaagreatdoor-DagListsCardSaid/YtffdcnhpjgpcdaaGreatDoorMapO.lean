/- A map from texts to texts that the call makes, with no entry and with one. -/
import Derived.Test.YtffdcnhpjgpcdaaGreatDoorBase
import Derived.Maps.OwnOps
import Derived.Maps.RangeRun
import Derived.Maps.Views
import Derived.StringKeys
namespace Go.Proofs.YtffdcnhpjgpcdaaGreatDoor
open Go.RowKit
open Go.Maps (Keyed)
open Go.WideMaps (keyOf_string_mk)
open Go.ChangeMaps (setBlock)

theorem keyStrO : Keyed Tryz.prog 9 := Maps.string_keyed Tryz.underlying9
theorem zeroStr (w : World) : (zeroValue 9).run Tryz.prog w = .ok (.string ⟨#[]⟩) w := by kernel_rfl
theorem checkStr (b : Bool) (k : List UInt8) (w : World) : (Instr.checkKey b 10000 9 (S k)).run Tryz.prog w = .ok () w :=
  MapKept.run_checkKey Tryz.underlying9 (by trivial) b 9999
theorem findNone (k : List UInt8) (w : World) : (Instr.findKey 9 (S k) []).run Tryz.prog w = .ok none w := by
  simp [Instr.findKey, run_underlying Tryz.underlying9, Instr.findNow]
theorem run_look_empty {w : World} {mb : Nat} (h : w.heap[mb]? = some (.map #[] 0)) (k : List UInt8) :
    (Instr.lookup 44 (.map (some mb)) (S k) true).run Tryz.prog w = .ok (.tuple #[.string ⟨#[]⟩, .bool false]) w := by
  simp [Instr.lookup, run_underlying Tryz.underlying44, MapKept.run_getObj_map h, checkStr, findNone]
theorem run_upd_empty {w : World} {mb : Nat} (h : w.heap[mb]? = some (.map #[] 0)) (k : List UInt8) (v : Value) :
    (Instr.mapUpdate 44 (.map (some mb)) (S k) v).run Tryz.prog w = .ok () (setBlock w mb (.map #[⟨S k, v, 0⟩] 1)) := by
  simp [Instr.mapUpdate, run_underlying Tryz.underlying44, MapKept.run_getObj_map h, checkStr, findNone]
  simp [setObj, Sem.run, h, setBlock]
/-- The first entry, at the operation. -/
theorem wpList_upd_empty {P : Program} (hP : P = Tryz.prog) (w : World) {ops : Array Oper} {rest : List Oper} {o : Oper} {a : Act} {Q : Exit → Act → World → Prop}
    (hg : o.guard = none) (m x v : Operand) (hop : o.op = Op.mapUpdate 44 m x v ∨ o.op = Op.insert 44 m x v)
    {mb : Nat} (h : w.heap[mb]? = some (.map #[] 0)) (k : List UInt8) (y : Value) (hm : a.eval m = .map (some mb)) (hx : a.eval x = S k) (hv : a.eval v = y)
    (hK : wpList P ops Q rest (a.put o.dst undef) (setBlock w mb (.map #[⟨S k, y, 0⟩] 1))) : wpList P ops Q (o :: rest) a w := by
  subst hP
  refine wpList_plain hg fun K' hK' => ?_
  have hrun := run_upd_empty h k y
  unfold Oper.wp
  rcases hop with hop | hop
  · simp [execOp, hop, hm, hx, hv, hrun, Result.andThen]
    exact hK' _ _ hK
  · simp [execOp, hop, hm, hx, hv, hrun, Result.andThen]
    exact hK' _ _ hK
end Go.Proofs.YtffdcnhpjgpcdaaGreatDoor
