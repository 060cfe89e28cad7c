/-
  DERIVED. GIVEN WITH THE SEED: THE CARDS: each row of YtnnjgokaabaaoaaGreatDoorRows.lean that lists a variable, with what it lists TIED to the program's text (the seventh form; the later family's looks); each row that meets fmt, with fmt's text TOLD by the authors' own Lean function (tested against real Go, not proved from fmt's source: count such statements apart). THE CARD IS WHAT COUNTS. Prove the row's statement (the work); the ties are given (YtnnjgokaabaaoaaGreatDoorTie.lean); close each card by the builder's one call (the guide's Derived/Test/ToyasCard.lean, 'card_holds'). Laid BY PROGRAM, IN A SANDBOX (cutbox-door.mjs). By AI agents, Wed Nov 11 2026. No macro, syntax, notation, axiom, sorry.
-/
import Derived.Test.YtnnjgokaabaaoaaGreatDoorRows
import GoSem.ClaimSeven
namespace Go.Proofs.YtnnjgokaabaaoaaGreatDoor
namespace Rows

/-- THE TIED CARD OF 'silolaw11.NodeBack'. -/
def nodeBackCard : Claim7 := { stood := { row := nodeBackRow, standIns := [], harness := (true, "81cf7a3dcac2cef7e64a239a15e46fee6d47b8e6b2719b5df22f2f98d125aa64"), looks := true }, kinds := [], alts := [], laidByText := true, laidKinds := [.handle], laidTests := true, laidLooks := .later }
def NodeBackCardSaid : Prop := Claim7.holds Tryz.pinned (.plain (OpenSpec.ofChange nodeBackSpec)) nodeBackCard

/-- THE TIED CARD OF 'silolaw11.NodeUnlike'. -/
def nodeUnlikeCard : Claim7 := { stood := { row := nodeUnlikeRow, standIns := [], harness := (true, "81cf7a3dcac2cef7e64a239a15e46fee6d47b8e6b2719b5df22f2f98d125aa64"), looks := true }, kinds := [], alts := [], laidByText := true, laidKinds := [.handle], laidTests := true, laidLooks := .later }
def NodeUnlikeCardSaid : Prop := Claim7.holds Tryz.pinned (.plain (OpenSpec.ofChange nodeUnlikeSpec)) nodeUnlikeCard

/-- THE TIED CARD OF 'silolaw11.NodeKids'. -/
def nodeKidsCard : Claim7 := { stood := { row := nodeKidsRow, standIns := [], harness := (true, "81cf7a3dcac2cef7e64a239a15e46fee6d47b8e6b2719b5df22f2f98d125aa64"), looks := true }, kinds := [], alts := [], laidByText := true, laidKinds := [.handle], laidTests := true, laidLooks := .later }
def NodeKidsCardSaid : Prop := Claim7.holds Tryz.pinned (.plain (OpenSpec.ofChange nodeKidsSpec)) nodeKidsCard

/-- THE TIED CARD OF 'silolaw11.NodeWrites'. -/
def nodeWritesCard : Claim7 := { stood := { row := nodeWritesRow, standIns := [], harness := (true, "81cf7a3dcac2cef7e64a239a15e46fee6d47b8e6b2719b5df22f2f98d125aa64"), looks := true }, kinds := [], alts := [], laidByText := true, laidKinds := [.handle], laidTests := true, laidLooks := .later }
def NodeWritesCardSaid : Prop := Claim7.holds Tryz.pinned (.plain (OpenSpec.ofChange nodeWritesSpec)) nodeWritesCard

/-- THE SECOND FORM's CARD OF 'silolaw11.NodeBack'. -/
def nodeBackUptoCard : Claim7 := { stood := { row := nodeBackUptoRow, standIns := [], harness := (true, "81cf7a3dcac2cef7e64a239a15e46fee6d47b8e6b2719b5df22f2f98d125aa64"), looks := true }, kinds := [], alts := [], laidByText := true, laidKinds := [.handle], laidTests := true, laidLooks := .later }
def NodeBackUptoCardSaid : Prop := Claim7.holds Tryz.pinned (.plain (OpenSpec.upto nodeBackSpec)) nodeBackUptoCard

/-- THE SECOND FORM's CARD OF 'silolaw11.NodeUnlike'. -/
def nodeUnlikeUptoCard : Claim7 := { stood := { row := nodeUnlikeUptoRow, standIns := [], harness := (true, "81cf7a3dcac2cef7e64a239a15e46fee6d47b8e6b2719b5df22f2f98d125aa64"), looks := true }, kinds := [], alts := [], laidByText := true, laidKinds := [.handle], laidTests := true, laidLooks := .later }
def NodeUnlikeUptoCardSaid : Prop := Claim7.holds Tryz.pinned (.plain (OpenSpec.upto nodeUnlikeSpec)) nodeUnlikeUptoCard

/-- THE SECOND FORM's CARD OF 'silolaw11.NodeKids'. -/
def nodeKidsUptoCard : Claim7 := { stood := { row := nodeKidsUptoRow, standIns := [], harness := (true, "81cf7a3dcac2cef7e64a239a15e46fee6d47b8e6b2719b5df22f2f98d125aa64"), looks := true }, kinds := [], alts := [], laidByText := true, laidKinds := [.handle], laidTests := true, laidLooks := .later }
def NodeKidsUptoCardSaid : Prop := Claim7.holds Tryz.pinned (.plain (OpenSpec.upto nodeKidsSpec)) nodeKidsUptoCard

/-- THE SECOND FORM's CARD OF 'silolaw11.NodeWrites'. -/
def nodeWritesUptoCard : Claim7 := { stood := { row := nodeWritesUptoRow, standIns := [], harness := (true, "81cf7a3dcac2cef7e64a239a15e46fee6d47b8e6b2719b5df22f2f98d125aa64"), looks := true }, kinds := [], alts := [], laidByText := true, laidKinds := [.handle], laidTests := true, laidLooks := .later }
def NodeWritesUptoCardSaid : Prop := Claim7.holds Tryz.pinned (.plain (OpenSpec.upto nodeWritesSpec)) nodeWritesUptoCard
end Rows
end Go.Proofs.YtnnjgokaabaaoaaGreatDoor
