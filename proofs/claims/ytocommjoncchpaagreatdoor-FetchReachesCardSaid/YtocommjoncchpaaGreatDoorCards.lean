/-
  DERIVED. GIVEN WITH THE SEED: THE CARDS: each row of YtocommjoncchpaaGreatDoorRows.lean that lists a variable, with what it lists TIED to the program's text (the seventh form; the later family's looks); each row that meets fmt, with fmt's text TOLD by the authors' own Lean function (tested against real Go, not proved from fmt's source: count such statements apart). THE CARD IS WHAT COUNTS. Prove the row's statement (the work); the ties are given (YtocommjoncchpaaGreatDoorTie.lean); close each card by the builder's one call (the guide's Derived/Test/ToyasCard.lean, 'card_holds'). Laid BY PROGRAM, IN A SANDBOX (cutbox-door.mjs). By AI agents, Wed Nov 11 2026. No macro, syntax, notation, axiom, sorry.
-/
import Derived.Test.YtocommjoncchpaaGreatDoorRows
import GoSem.ClaimSeven
namespace Go.Proofs.YtocommjoncchpaaGreatDoor
namespace Rows

/-- THE TIED CARD OF 'silolaw13.FetchFit'. -/
def fetchFitCard : Claim7 := { stood := { row := fetchFitRow, standIns := [], harness := (true, "f3e722d1ecda3b1143ee5ace9c714bb0ef53f050df30d73f0c650f26ab8cd427"), looks := true }, kinds := [], alts := [], laidByText := true, laidKinds := [.handle], laidTests := true, laidLooks := .later }
def FetchFitCardSaid : Prop := Claim7.holds Tryz.pinned (.plain (OpenSpec.ofChange fetchFitSpec)) fetchFitCard

/-- THE TIED CARD OF 'silolaw13.FetchReaches'. -/
def fetchReachesCard : Claim7 := { stood := { row := fetchReachesRow, standIns := [], harness := (true, "f3e722d1ecda3b1143ee5ace9c714bb0ef53f050df30d73f0c650f26ab8cd427"), looks := true }, kinds := [], alts := [], laidByText := true, laidKinds := [.handle], laidTests := true, laidLooks := .later }
def FetchReachesCardSaid : Prop := Claim7.holds Tryz.pinned (.plain (OpenSpec.ofChange fetchReachesSpec)) fetchReachesCard

/-- THE SECOND FORM's CARD OF 'silolaw13.FetchFit'. -/
def fetchFitUptoCard : Claim7 := { stood := { row := fetchFitUptoRow, standIns := [], harness := (true, "f3e722d1ecda3b1143ee5ace9c714bb0ef53f050df30d73f0c650f26ab8cd427"), looks := true }, kinds := [], alts := [], laidByText := true, laidKinds := [.handle], laidTests := true, laidLooks := .later }
def FetchFitUptoCardSaid : Prop := Claim7.holds Tryz.pinned (.plain (OpenSpec.upto fetchFitSpec)) fetchFitUptoCard

/-- THE SECOND FORM's CARD OF 'silolaw13.FetchReaches'. -/
def fetchReachesUptoCard : Claim7 := { stood := { row := fetchReachesUptoRow, standIns := [], harness := (true, "f3e722d1ecda3b1143ee5ace9c714bb0ef53f050df30d73f0c650f26ab8cd427"), looks := true }, kinds := [], alts := [], laidByText := true, laidKinds := [.handle], laidTests := true, laidLooks := .later }
def FetchReachesUptoCardSaid : Prop := Claim7.holds Tryz.pinned (.plain (OpenSpec.upto fetchReachesSpec)) fetchReachesUptoCard
end Rows
end Go.Proofs.YtocommjoncchpaaGreatDoor
