/-
  NARROWER THAN 'FOR EVERY INPUT', by the rows' own cells (each row's printed sentence says how): GcParts: laid · GcReaches: laid · GcDoes: laid.
  DERIVED. THE GIVEN ROWS OF THIS SEAT. 3 by the template 'for every input the law returns true; each argument reads behind the call as it read before'; 0 by the template 'total and deterministic' (their statements: YtengciicdnkgaaaGreatDoorTotals.lean).
  GIVEN WITH THE SEED: the statements are not yours to turn. If you find one false, say at which input.
  Laid BY PROGRAM, IN A SANDBOX (cutbox-rows.mjs): the forced cells as the released guide's own fill.sh prints them over the translation 87a27b001c991498… (all of the seat's roots in one cut). By AI agents, Wed Nov 11 2026. No macro, syntax, notation, axiom, sorry.
-/
import Derived.Test.YtengciicdnkgaaaGreatDoorChecked
import GoSem.Claim
import GoSem.ClaimJoined
import GoSem.ClaimMapViews
import Derived.JoinedTies
import Derived.KernelRfl
namespace Go.Proofs.YtengciicdnkgaaaGreatDoor
/- THE CELL 'sum', in the pinned program and in every row, IS THE sha256 OF THE DUMP (.gsa) THAT YtengciicdnkgaaaGreatDoorProg.lean LOADS. Nothing in Lean hashes anything: it is a label: what it is worth is what the hold of that sum in a sandbox is worth. -/
noncomputable def Tryz.pinned : Pinned := { name := "ytengciicdnkgaaagreatdoor", sum := "87a27b001c991498c1fb7c4d4ced9899bc11621cb5dca8729bc5a258c69ce138", checked := Tryz.checked }
namespace Rows
def none {H : Type} : Left H := { results := [], args := [] }

/- WHAT THE LISTED PACKAGE-LEVEL VARIABLES READ AS WHEN THE CALL BEGINS. Each datum BY PROGRAM (the guide's laid-datum.mjs) off the statement by which the dump's own 'gosem.cut.vars' lays the variable. In a bare row this is a premise. The card (YtengciicdnkgaaaGreatDoorCards.lean) ties it to the program's text. -/
def laid_errors_errorType {H : Type} : DataW H := .iface "internal/reflectlite.rtype" (.agg [.ptr (.lit (.string [101, 114, 114, 111, 114]))])

/-- 'silolaw20.GcParts': WHATEVER THE INPUT: true; the input reads as it did. -/
def gcPartsSpec : ChangeSpec := { name := "gcParts", fn := fun _ => fun
  | [d1, d2, d3, d4] => { results := [.lit (.bool true)], args := [d1, d2, d3, d4] }
  | _ => none }
def gcPartsRow : OpenClaim := { program := "ytengciicdnkgaaagreatdoor", sum := "87a27b001c991498c1fb7c4d4ced9899bc11621cb5dca8729bc5a258c69ce138", func := "silo/silolaw20.GcParts", spec := "gcParts", inPlace := ["internal/bytealg.IndexByteString", "internal/bytealg.IndexString", "internal/reflectlite.ValueOf", "(internal/reflectlite.Value).Type", "(internal/reflectlite.Value).IsNil", "internal/reflectlite.TypeOf", "(internal/reflectlite.Value).Elem", "(internal/reflectlite.Value).Set", "slices.overlaps[string]"], unfollowed := true, recurses := true, named := ["errors.errorType", "internal/bytealg.MaxLen"], apart := false, laid := [("errors.errorType", laid_errors_errorType)] }
def GcPartsSaid : Prop := gcPartsRow.holds Tryz.pinned (OpenSpec.ofChange gcPartsSpec)

/-- ITS FALSE NEIGHBOUR: 'it returns false'. Refute it at one input. -/
def gcPartsWrong : ChangeSpec := { name := "gcParts", fn := fun _ => fun
  | [d1, d2, d3, d4] => { results := [.lit (.bool false)], args := [d1, d2, d3, d4] }
  | _ => none }
def GcPartsWrongFalsely : Prop := gcPartsRow.holds Tryz.pinned (OpenSpec.ofChange gcPartsWrong)

/-- 'silolaw20.GcReaches': WHATEVER THE INPUT: true; the input reads as it did. -/
def gcReachesSpec : ChangeSpec := { name := "gcReaches", fn := fun _ => fun
  | [d1, d2, d3, d4] => { results := [.lit (.bool true)], args := [d1, d2, d3, d4] }
  | _ => none }
def gcReachesRow : OpenClaim := { program := "ytengciicdnkgaaagreatdoor", sum := "87a27b001c991498c1fb7c4d4ced9899bc11621cb5dca8729bc5a258c69ce138", func := "silo/silolaw20.GcReaches", spec := "gcReaches", inPlace := ["internal/bytealg.IndexByteString", "internal/bytealg.IndexString", "internal/reflectlite.ValueOf", "(internal/reflectlite.Value).Type", "(internal/reflectlite.Value).IsNil", "internal/reflectlite.TypeOf", "(internal/reflectlite.Value).Elem", "(internal/reflectlite.Value).Set", "slices.overlaps[string]"], unfollowed := true, recurses := true, named := ["errors.errorType", "internal/bytealg.MaxLen"], apart := false, laid := [("errors.errorType", laid_errors_errorType)] }
def GcReachesSaid : Prop := gcReachesRow.holds Tryz.pinned (OpenSpec.ofChange gcReachesSpec)

/-- ITS FALSE NEIGHBOUR: 'it returns false'. Refute it at one input. -/
def gcReachesWrong : ChangeSpec := { name := "gcReaches", fn := fun _ => fun
  | [d1, d2, d3, d4] => { results := [.lit (.bool false)], args := [d1, d2, d3, d4] }
  | _ => none }
def GcReachesWrongFalsely : Prop := gcReachesRow.holds Tryz.pinned (OpenSpec.ofChange gcReachesWrong)

/-- 'silolaw20.GcDoes': WHATEVER THE INPUT: true; the input reads as it did. -/
def gcDoesSpec : ChangeSpec := { name := "gcDoes", fn := fun _ => fun
  | [d1, d2, d3, d4, d5, d6] => { results := [.lit (.bool true)], args := [d1, d2, d3, d4, d5, d6] }
  | _ => none }
def gcDoesRow : OpenClaim := { program := "ytengciicdnkgaaagreatdoor", sum := "87a27b001c991498c1fb7c4d4ced9899bc11621cb5dca8729bc5a258c69ce138", func := "silo/silolaw20.GcDoes", spec := "gcDoes", inPlace := ["slices.overlaps[string]", "internal/bytealg.IndexByteString", "internal/bytealg.IndexString", "internal/reflectlite.ValueOf", "(internal/reflectlite.Value).Type", "(internal/reflectlite.Value).IsNil", "internal/reflectlite.TypeOf", "(internal/reflectlite.Value).Elem", "(internal/reflectlite.Value).Set"], unfollowed := true, recurses := true, named := ["errors.errorType", "internal/bytealg.MaxLen"], apart := false, laid := [("errors.errorType", laid_errors_errorType)] }
def GcDoesSaid : Prop := gcDoesRow.holds Tryz.pinned (OpenSpec.ofChange gcDoesSpec)

/-- ITS FALSE NEIGHBOUR: 'it returns false'. Refute it at one input. -/
def gcDoesWrong : ChangeSpec := { name := "gcDoes", fn := fun _ => fun
  | [d1, d2, d3, d4, d5, d6] => { results := [.lit (.bool false)], args := [d1, d2, d3, d4, d5, d6] }
  | _ => none }
def GcDoesWrongFalsely : Prop := gcDoesRow.holds Tryz.pinned (OpenSpec.ofChange gcDoesWrong)

/- THE SECOND FORM. 'bulk': how many values and letters a reading holds, each counted each time it is reached (what is shared counts as often as it is met; a slice's spare places count too). A statement '..UptoSaid' is the law's where the arguments, and the package variables that the reading takes, are together of bulk at most 1048576: NARROWER than '..Said'. Prove '..Said' where nothing that the law and all that it calls make is longer than what came in: it says more and counts as full. Else prove '..UptoSaid'. A law counts once. -/
mutual
def uptoBulk {H : Type} : DataW H → Nat
  | .lit (.string bytes) => bytes.length + 1
  | .lit _ => 1
  | .nil => 1
  | .ptr d => uptoBulk d + 1
  | .slice elems spare => uptoBulkAll elems + uptoBulkAll spare + 1
  | .agg parts => uptoBulkAll parts + 1
  | .iface _ d => uptoBulk d + 1
  | .map entries => uptoBulkEntries entries + 1
  | .held _ => 1
def uptoBulkAll {H : Type} : List (DataW H) → Nat
  | [] => 0
  | d :: r => uptoBulk d + uptoBulkAll r
def uptoBulkEntries {H : Type} : List (Lit × DataW H) → Nat
  | [] => 0
  | x :: r => uptoBulkEntry x + uptoBulkEntries r
def uptoBulkEntry {H : Type} : Lit × DataW H → Nat
  | (.string bytes, d) => bytes.length + uptoBulk d + 1
  | (_, d) => uptoBulk d + 1
 end
def uptoSmall : (H : Type) → List (DataW H) → Bool := fun _ ds => decide (uptoBulkAll ds ≤ 1048576)
def OpenSpec.upto (s : _root_.Go.ChangeSpec) : _root_.Go.OpenSpec := { _root_.Go.OpenSpec.ofChange s with cond := some uptoSmall }

/-- 'silolaw20.GcParts', WHERE WHAT IT READS IS OF BULK AT MOST 1048576: true; the input reads as it did. -/
def gcPartsUptoRow : OpenClaim := { program := "ytengciicdnkgaaagreatdoor", sum := "87a27b001c991498c1fb7c4d4ced9899bc11621cb5dca8729bc5a258c69ce138", func := "silo/silolaw20.GcParts", spec := "gcParts", inPlace := ["internal/bytealg.IndexByteString", "internal/bytealg.IndexString", "internal/reflectlite.ValueOf", "(internal/reflectlite.Value).Type", "(internal/reflectlite.Value).IsNil", "internal/reflectlite.TypeOf", "(internal/reflectlite.Value).Elem", "(internal/reflectlite.Value).Set", "slices.overlaps[string]"], unfollowed := true, recurses := true, named := ["errors.errorType", "internal/bytealg.MaxLen"], apart := false, laid := [("errors.errorType", laid_errors_errorType)], narrowed := true }
def GcPartsUptoSaid : Prop := gcPartsUptoRow.holds Tryz.pinned (OpenSpec.upto gcPartsSpec)

/-- 'silolaw20.GcReaches', WHERE WHAT IT READS IS OF BULK AT MOST 1048576: true; the input reads as it did. -/
def gcReachesUptoRow : OpenClaim := { program := "ytengciicdnkgaaagreatdoor", sum := "87a27b001c991498c1fb7c4d4ced9899bc11621cb5dca8729bc5a258c69ce138", func := "silo/silolaw20.GcReaches", spec := "gcReaches", inPlace := ["internal/bytealg.IndexByteString", "internal/bytealg.IndexString", "internal/reflectlite.ValueOf", "(internal/reflectlite.Value).Type", "(internal/reflectlite.Value).IsNil", "internal/reflectlite.TypeOf", "(internal/reflectlite.Value).Elem", "(internal/reflectlite.Value).Set", "slices.overlaps[string]"], unfollowed := true, recurses := true, named := ["errors.errorType", "internal/bytealg.MaxLen"], apart := false, laid := [("errors.errorType", laid_errors_errorType)], narrowed := true }
def GcReachesUptoSaid : Prop := gcReachesUptoRow.holds Tryz.pinned (OpenSpec.upto gcReachesSpec)

/-- 'silolaw20.GcDoes', WHERE WHAT IT READS IS OF BULK AT MOST 1048576: true; the input reads as it did. -/
def gcDoesUptoRow : OpenClaim := { program := "ytengciicdnkgaaagreatdoor", sum := "87a27b001c991498c1fb7c4d4ced9899bc11621cb5dca8729bc5a258c69ce138", func := "silo/silolaw20.GcDoes", spec := "gcDoes", inPlace := ["slices.overlaps[string]", "internal/bytealg.IndexByteString", "internal/bytealg.IndexString", "internal/reflectlite.ValueOf", "(internal/reflectlite.Value).Type", "(internal/reflectlite.Value).IsNil", "internal/reflectlite.TypeOf", "(internal/reflectlite.Value).Elem", "(internal/reflectlite.Value).Set"], unfollowed := true, recurses := true, named := ["errors.errorType", "internal/bytealg.MaxLen"], apart := false, laid := [("errors.errorType", laid_errors_errorType)], narrowed := true }
def GcDoesUptoSaid : Prop := gcDoesUptoRow.holds Tryz.pinned (OpenSpec.upto gcDoesSpec)

end Rows
end Go.Proofs.YtengciicdnkgaaaGreatDoor
