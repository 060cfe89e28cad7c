/-
  NARROWER THAN 'FOR EVERY INPUT', by the rows' own cells (each row's printed sentence says how): CountSums: laid · CountMoves: laid · CountAnew: laid · CountGone: laid · CountDoes: laid.
  DERIVED. THE GIVEN ROWS OF THIS SEAT. 5 by the template 'for every input the law returns true; each argument reads behind the call as it read before'; 0 by the template 'total and deterministic' (their statements: YtaompdnnkfmjhaaGreatDoorTotals.lean).
  GIVEN WITH THE SEED: the statements are not yours to turn. If you find one false, say at which input.
  Laid BY PROGRAM, IN A SANDBOX (cutbox-rows.mjs): the forced cells as the released guide's own fill.sh prints them over the translation a6e0b43dd55a56b1… (all of the seat's roots in one cut). By AI agents, Wed Nov 11 2026. No macro, syntax, notation, axiom, sorry.
-/
import Derived.Test.YtaompdnnkfmjhaaGreatDoorChecked
import GoSem.Claim
import GoSem.ClaimJoined
import GoSem.ClaimMapViews
import Derived.JoinedTies
import Derived.KernelRfl
namespace Go.Proofs.YtaompdnnkfmjhaaGreatDoor
/- THE CELL 'sum', in the pinned program and in every row, IS THE sha256 OF THE DUMP (.gsa) THAT YtaompdnnkfmjhaaGreatDoorProg.lean LOADS. Nothing in Lean hashes anything: it is a label: what it is worth is what the hold of that sum in a sandbox is worth. -/
noncomputable def Tryz.pinned : Pinned := { name := "ytaompdnnkfmjhaagreatdoor", sum := "a6e0b43dd55a56b175e3b2180c2ae72d7d2a1016ad57cdcf477b8e8eef353632", checked := Tryz.checked }
namespace Rows
def none {H : Type} : Left H := { results := [], args := [] }

/- WHAT THE LISTED PACKAGE-LEVEL VARIABLES READ AS WHEN THE CALL BEGINS. Each datum BY PROGRAM (the guide's laid-datum.mjs) off the statement by which the dump's own 'gosem.cut.vars' lays the variable. In a bare row this is a premise. The card (YtaompdnnkfmjhaaGreatDoorCards.lean) ties it to the program's text. -/
def laid_errors_errorType {H : Type} : DataW H := .iface "internal/reflectlite.rtype" (.agg [.ptr (.lit (.string [101, 114, 114, 111, 114]))])

/-- 'silolaw14.CountSums': WHATEVER THE INPUT: true; the input reads as it did. -/
def countSumsSpec : ChangeSpec := { name := "countSums", fn := fun _ => fun
  | [d1, d2] => { results := [.lit (.bool true)], args := [d1, d2] }
  | _ => none }
def countSumsRow : OpenClaim := { program := "ytaompdnnkfmjhaagreatdoor", sum := "a6e0b43dd55a56b175e3b2180c2ae72d7d2a1016ad57cdcf477b8e8eef353632", func := "silo/silolaw14.CountSums", spec := "countSums", inPlace := ["internal/bytealg.IndexByteString", "internal/bytealg.IndexString", "internal/reflectlite.ValueOf", "(internal/reflectlite.Value).Type", "(internal/reflectlite.Value).IsNil", "internal/reflectlite.TypeOf", "(internal/reflectlite.Value).Elem", "(internal/reflectlite.Value).Set"], unfollowed := true, recurses := true, named := ["errors.errorType", "internal/bytealg.MaxLen"], apart := false, laid := [("errors.errorType", laid_errors_errorType)] }
def CountSumsSaid : Prop := countSumsRow.holds Tryz.pinned (OpenSpec.ofChange countSumsSpec)

/-- ITS FALSE NEIGHBOUR: 'it returns false'. Refute it at one input. -/
def countSumsWrong : ChangeSpec := { name := "countSums", fn := fun _ => fun
  | [d1, d2] => { results := [.lit (.bool false)], args := [d1, d2] }
  | _ => none }
def CountSumsWrongFalsely : Prop := countSumsRow.holds Tryz.pinned (OpenSpec.ofChange countSumsWrong)

/-- 'silolaw14.CountMoves': WHATEVER THE INPUT: true; the input reads as it did. -/
def countMovesSpec : ChangeSpec := { name := "countMoves", fn := fun _ => fun
  | [d1, d2, d3] => { results := [.lit (.bool true)], args := [d1, d2, d3] }
  | _ => none }
def countMovesRow : OpenClaim := { program := "ytaompdnnkfmjhaagreatdoor", sum := "a6e0b43dd55a56b175e3b2180c2ae72d7d2a1016ad57cdcf477b8e8eef353632", func := "silo/silolaw14.CountMoves", spec := "countMoves", inPlace := ["internal/bytealg.IndexByteString", "internal/bytealg.IndexString", "internal/reflectlite.ValueOf", "(internal/reflectlite.Value).Type", "(internal/reflectlite.Value).IsNil", "internal/reflectlite.TypeOf", "(internal/reflectlite.Value).Elem", "(internal/reflectlite.Value).Set"], unfollowed := true, recurses := true, named := ["errors.errorType", "internal/bytealg.MaxLen"], apart := false, laid := [("errors.errorType", laid_errors_errorType)] }
def CountMovesSaid : Prop := countMovesRow.holds Tryz.pinned (OpenSpec.ofChange countMovesSpec)

/-- ITS FALSE NEIGHBOUR: 'it returns false'. Refute it at one input. -/
def countMovesWrong : ChangeSpec := { name := "countMoves", fn := fun _ => fun
  | [d1, d2, d3] => { results := [.lit (.bool false)], args := [d1, d2, d3] }
  | _ => none }
def CountMovesWrongFalsely : Prop := countMovesRow.holds Tryz.pinned (OpenSpec.ofChange countMovesWrong)

/-- 'silolaw14.CountAnew': WHATEVER THE INPUT: true; the input reads as it did. -/
def countAnewSpec : ChangeSpec := { name := "countAnew", fn := fun _ => fun
  | [d1, d2, d3, d4] => { results := [.lit (.bool true)], args := [d1, d2, d3, d4] }
  | _ => none }
def countAnewRow : OpenClaim := { program := "ytaompdnnkfmjhaagreatdoor", sum := "a6e0b43dd55a56b175e3b2180c2ae72d7d2a1016ad57cdcf477b8e8eef353632", func := "silo/silolaw14.CountAnew", spec := "countAnew", inPlace := ["internal/bytealg.IndexByteString", "internal/bytealg.IndexString", "internal/reflectlite.ValueOf", "(internal/reflectlite.Value).Type", "(internal/reflectlite.Value).IsNil", "internal/reflectlite.TypeOf", "(internal/reflectlite.Value).Elem", "(internal/reflectlite.Value).Set"], unfollowed := true, recurses := true, named := ["errors.errorType", "internal/bytealg.MaxLen"], apart := false, laid := [("errors.errorType", laid_errors_errorType)] }
def CountAnewSaid : Prop := countAnewRow.holds Tryz.pinned (OpenSpec.ofChange countAnewSpec)

/-- ITS FALSE NEIGHBOUR: 'it returns false'. Refute it at one input. -/
def countAnewWrong : ChangeSpec := { name := "countAnew", fn := fun _ => fun
  | [d1, d2, d3, d4] => { results := [.lit (.bool false)], args := [d1, d2, d3, d4] }
  | _ => none }
def CountAnewWrongFalsely : Prop := countAnewRow.holds Tryz.pinned (OpenSpec.ofChange countAnewWrong)

/-- 'silolaw14.CountGone': WHATEVER THE INPUT: true; the input reads as it did. -/
def countGoneSpec : ChangeSpec := { name := "countGone", fn := fun _ => fun
  | [d1, d2, d3] => { results := [.lit (.bool true)], args := [d1, d2, d3] }
  | _ => none }
def countGoneRow : OpenClaim := { program := "ytaompdnnkfmjhaagreatdoor", sum := "a6e0b43dd55a56b175e3b2180c2ae72d7d2a1016ad57cdcf477b8e8eef353632", func := "silo/silolaw14.CountGone", spec := "countGone", inPlace := ["internal/bytealg.IndexByteString", "internal/bytealg.IndexString", "internal/reflectlite.ValueOf", "(internal/reflectlite.Value).Type", "(internal/reflectlite.Value).IsNil", "internal/reflectlite.TypeOf", "(internal/reflectlite.Value).Elem", "(internal/reflectlite.Value).Set"], unfollowed := true, recurses := true, named := ["errors.errorType", "internal/bytealg.MaxLen"], apart := false, laid := [("errors.errorType", laid_errors_errorType)] }
def CountGoneSaid : Prop := countGoneRow.holds Tryz.pinned (OpenSpec.ofChange countGoneSpec)

/-- ITS FALSE NEIGHBOUR: 'it returns false'. Refute it at one input. -/
def countGoneWrong : ChangeSpec := { name := "countGone", fn := fun _ => fun
  | [d1, d2, d3] => { results := [.lit (.bool false)], args := [d1, d2, d3] }
  | _ => none }
def CountGoneWrongFalsely : Prop := countGoneRow.holds Tryz.pinned (OpenSpec.ofChange countGoneWrong)

/-- 'silolaw14.CountDoes': WHATEVER THE INPUT: true; the input reads as it did. -/
def countDoesSpec : ChangeSpec := { name := "countDoes", fn := fun _ => fun
  | [d1, d2, d3] => { results := [.lit (.bool true)], args := [d1, d2, d3] }
  | _ => none }
def countDoesRow : OpenClaim := { program := "ytaompdnnkfmjhaagreatdoor", sum := "a6e0b43dd55a56b175e3b2180c2ae72d7d2a1016ad57cdcf477b8e8eef353632", func := "silo/silolaw14.CountDoes", spec := "countDoes", inPlace := ["internal/bytealg.IndexByteString", "internal/bytealg.IndexString", "internal/reflectlite.ValueOf", "(internal/reflectlite.Value).Type", "(internal/reflectlite.Value).IsNil", "internal/reflectlite.TypeOf", "(internal/reflectlite.Value).Elem", "(internal/reflectlite.Value).Set"], unfollowed := true, recurses := true, named := ["errors.errorType", "internal/bytealg.MaxLen"], apart := false, laid := [("errors.errorType", laid_errors_errorType)] }
def CountDoesSaid : Prop := countDoesRow.holds Tryz.pinned (OpenSpec.ofChange countDoesSpec)

/-- ITS FALSE NEIGHBOUR: 'it returns false'. Refute it at one input. -/
def countDoesWrong : ChangeSpec := { name := "countDoes", fn := fun _ => fun
  | [d1, d2, d3] => { results := [.lit (.bool false)], args := [d1, d2, d3] }
  | _ => none }
def CountDoesWrongFalsely : Prop := countDoesRow.holds Tryz.pinned (OpenSpec.ofChange countDoesWrong)

/- THE SECOND FORM. 'bulk': how many values and letters a reading holds, each counted each time it is reached (what is shared counts as often as it is met; a slice's spare places count too). A statement '..UptoSaid' is the law's where the arguments, and the package variables that the reading takes, are together of bulk at most 1048576: NARROWER than '..Said'. Prove '..Said' where nothing that the law and all that it calls make is longer than what came in: it says more and counts as full. Else prove '..UptoSaid'. A law counts once. -/
mutual
def uptoBulk {H : Type} : DataW H → Nat
  | .lit (.string bytes) => bytes.length + 1
  | .lit _ => 1
  | .nil => 1
  | .ptr d => uptoBulk d + 1
  | .slice elems spare => uptoBulkAll elems + uptoBulkAll spare + 1
  | .agg parts => uptoBulkAll parts + 1
  | .iface _ d => uptoBulk d + 1
  | .map entries => uptoBulkEntries entries + 1
  | .held _ => 1
def uptoBulkAll {H : Type} : List (DataW H) → Nat
  | [] => 0
  | d :: r => uptoBulk d + uptoBulkAll r
def uptoBulkEntries {H : Type} : List (Lit × DataW H) → Nat
  | [] => 0
  | x :: r => uptoBulkEntry x + uptoBulkEntries r
def uptoBulkEntry {H : Type} : Lit × DataW H → Nat
  | (.string bytes, d) => bytes.length + uptoBulk d + 1
  | (_, d) => uptoBulk d + 1
 end
def uptoSmall : (H : Type) → List (DataW H) → Bool := fun _ ds => decide (uptoBulkAll ds ≤ 1048576)
def OpenSpec.upto (s : _root_.Go.ChangeSpec) : _root_.Go.OpenSpec := { _root_.Go.OpenSpec.ofChange s with cond := some uptoSmall }

/-- 'silolaw14.CountSums', WHERE WHAT IT READS IS OF BULK AT MOST 1048576: true; the input reads as it did. -/
def countSumsUptoRow : OpenClaim := { program := "ytaompdnnkfmjhaagreatdoor", sum := "a6e0b43dd55a56b175e3b2180c2ae72d7d2a1016ad57cdcf477b8e8eef353632", func := "silo/silolaw14.CountSums", spec := "countSums", inPlace := ["internal/bytealg.IndexByteString", "internal/bytealg.IndexString", "internal/reflectlite.ValueOf", "(internal/reflectlite.Value).Type", "(internal/reflectlite.Value).IsNil", "internal/reflectlite.TypeOf", "(internal/reflectlite.Value).Elem", "(internal/reflectlite.Value).Set"], unfollowed := true, recurses := true, named := ["errors.errorType", "internal/bytealg.MaxLen"], apart := false, laid := [("errors.errorType", laid_errors_errorType)], narrowed := true }
def CountSumsUptoSaid : Prop := countSumsUptoRow.holds Tryz.pinned (OpenSpec.upto countSumsSpec)

/-- 'silolaw14.CountMoves', WHERE WHAT IT READS IS OF BULK AT MOST 1048576: true; the input reads as it did. -/
def countMovesUptoRow : OpenClaim := { program := "ytaompdnnkfmjhaagreatdoor", sum := "a6e0b43dd55a56b175e3b2180c2ae72d7d2a1016ad57cdcf477b8e8eef353632", func := "silo/silolaw14.CountMoves", spec := "countMoves", inPlace := ["internal/bytealg.IndexByteString", "internal/bytealg.IndexString", "internal/reflectlite.ValueOf", "(internal/reflectlite.Value).Type", "(internal/reflectlite.Value).IsNil", "internal/reflectlite.TypeOf", "(internal/reflectlite.Value).Elem", "(internal/reflectlite.Value).Set"], unfollowed := true, recurses := true, named := ["errors.errorType", "internal/bytealg.MaxLen"], apart := false, laid := [("errors.errorType", laid_errors_errorType)], narrowed := true }
def CountMovesUptoSaid : Prop := countMovesUptoRow.holds Tryz.pinned (OpenSpec.upto countMovesSpec)

/-- 'silolaw14.CountAnew', WHERE WHAT IT READS IS OF BULK AT MOST 1048576: true; the input reads as it did. -/
def countAnewUptoRow : OpenClaim := { program := "ytaompdnnkfmjhaagreatdoor", sum := "a6e0b43dd55a56b175e3b2180c2ae72d7d2a1016ad57cdcf477b8e8eef353632", func := "silo/silolaw14.CountAnew", spec := "countAnew", inPlace := ["internal/bytealg.IndexByteString", "internal/bytealg.IndexString", "internal/reflectlite.ValueOf", "(internal/reflectlite.Value).Type", "(internal/reflectlite.Value).IsNil", "internal/reflectlite.TypeOf", "(internal/reflectlite.Value).Elem", "(internal/reflectlite.Value).Set"], unfollowed := true, recurses := true, named := ["errors.errorType", "internal/bytealg.MaxLen"], apart := false, laid := [("errors.errorType", laid_errors_errorType)], narrowed := true }
def CountAnewUptoSaid : Prop := countAnewUptoRow.holds Tryz.pinned (OpenSpec.upto countAnewSpec)

/-- 'silolaw14.CountGone', WHERE WHAT IT READS IS OF BULK AT MOST 1048576: true; the input reads as it did. -/
def countGoneUptoRow : OpenClaim := { program := "ytaompdnnkfmjhaagreatdoor", sum := "a6e0b43dd55a56b175e3b2180c2ae72d7d2a1016ad57cdcf477b8e8eef353632", func := "silo/silolaw14.CountGone", spec := "countGone", inPlace := ["internal/bytealg.IndexByteString", "internal/bytealg.IndexString", "internal/reflectlite.ValueOf", "(internal/reflectlite.Value).Type", "(internal/reflectlite.Value).IsNil", "internal/reflectlite.TypeOf", "(internal/reflectlite.Value).Elem", "(internal/reflectlite.Value).Set"], unfollowed := true, recurses := true, named := ["errors.errorType", "internal/bytealg.MaxLen"], apart := false, laid := [("errors.errorType", laid_errors_errorType)], narrowed := true }
def CountGoneUptoSaid : Prop := countGoneUptoRow.holds Tryz.pinned (OpenSpec.upto countGoneSpec)

/-- 'silolaw14.CountDoes', WHERE WHAT IT READS IS OF BULK AT MOST 1048576: true; the input reads as it did. -/
def countDoesUptoRow : OpenClaim := { program := "ytaompdnnkfmjhaagreatdoor", sum := "a6e0b43dd55a56b175e3b2180c2ae72d7d2a1016ad57cdcf477b8e8eef353632", func := "silo/silolaw14.CountDoes", spec := "countDoes", inPlace := ["internal/bytealg.IndexByteString", "internal/bytealg.IndexString", "internal/reflectlite.ValueOf", "(internal/reflectlite.Value).Type", "(internal/reflectlite.Value).IsNil", "internal/reflectlite.TypeOf", "(internal/reflectlite.Value).Elem", "(internal/reflectlite.Value).Set"], unfollowed := true, recurses := true, named := ["errors.errorType", "internal/bytealg.MaxLen"], apart := false, laid := [("errors.errorType", laid_errors_errorType)], narrowed := true }
def CountDoesUptoSaid : Prop := countDoesUptoRow.holds Tryz.pinned (OpenSpec.upto countDoesSpec)

end Rows
end Go.Proofs.YtaompdnnkfmjhaaGreatDoor
