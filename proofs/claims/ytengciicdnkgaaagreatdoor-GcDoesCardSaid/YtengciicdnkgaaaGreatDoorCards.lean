/-
  DERIVED. GIVEN WITH THE SEED: THE CARDS: each row of YtengciicdnkgaaaGreatDoorRows.lean that lists a variable, with what it lists TIED to the program's text (the seventh form; the later family's looks); each row that meets fmt, with fmt's text TOLD by the authors' own Lean function (tested against real Go, not proved from fmt's source: count such statements apart). THE CARD IS WHAT COUNTS. Prove the row's statement (the work); the ties are given (YtengciicdnkgaaaGreatDoorTie.lean); close each card by the builder's one call (the guide's Derived/Test/ToyasCard.lean, 'card_holds'). Laid BY PROGRAM, IN A SANDBOX (cutbox-door.mjs). By AI agents, Wed Nov 11 2026. No macro, syntax, notation, axiom, sorry.
-/
import Derived.Test.YtengciicdnkgaaaGreatDoorRows
import GoSem.ClaimSeven
namespace Go.Proofs.YtengciicdnkgaaaGreatDoor
namespace Rows

/-- THE TIED CARD OF 'silolaw20.GcParts'. -/
def gcPartsCard : Claim7 := { stood := { row := gcPartsRow, standIns := [], harness := (true, "d2144136a35d8b25d6bc067de6c96de0ce22459b206a1a5c372fbfb6c6ec0264"), looks := true }, kinds := [], alts := [], laidByText := true, laidKinds := [.handle], laidTests := true, laidLooks := .later }
def GcPartsCardSaid : Prop := Claim7.holds Tryz.pinned (.plain (OpenSpec.ofChange gcPartsSpec)) gcPartsCard

/-- THE TIED CARD OF 'silolaw20.GcReaches'. -/
def gcReachesCard : Claim7 := { stood := { row := gcReachesRow, standIns := [], harness := (true, "d2144136a35d8b25d6bc067de6c96de0ce22459b206a1a5c372fbfb6c6ec0264"), looks := true }, kinds := [], alts := [], laidByText := true, laidKinds := [.handle], laidTests := true, laidLooks := .later }
def GcReachesCardSaid : Prop := Claim7.holds Tryz.pinned (.plain (OpenSpec.ofChange gcReachesSpec)) gcReachesCard

/-- THE TIED CARD OF 'silolaw20.GcDoes'. -/
def gcDoesCard : Claim7 := { stood := { row := gcDoesRow, standIns := [], harness := (true, "d2144136a35d8b25d6bc067de6c96de0ce22459b206a1a5c372fbfb6c6ec0264"), looks := true }, kinds := [], alts := [], laidByText := true, laidKinds := [.handle], laidTests := true, laidLooks := .later }
def GcDoesCardSaid : Prop := Claim7.holds Tryz.pinned (.plain (OpenSpec.ofChange gcDoesSpec)) gcDoesCard

/-- THE SECOND FORM's CARD OF 'silolaw20.GcParts'. -/
def gcPartsUptoCard : Claim7 := { stood := { row := gcPartsUptoRow, standIns := [], harness := (true, "d2144136a35d8b25d6bc067de6c96de0ce22459b206a1a5c372fbfb6c6ec0264"), looks := true }, kinds := [], alts := [], laidByText := true, laidKinds := [.handle], laidTests := true, laidLooks := .later }
def GcPartsUptoCardSaid : Prop := Claim7.holds Tryz.pinned (.plain (OpenSpec.upto gcPartsSpec)) gcPartsUptoCard

/-- THE SECOND FORM's CARD OF 'silolaw20.GcReaches'. -/
def gcReachesUptoCard : Claim7 := { stood := { row := gcReachesUptoRow, standIns := [], harness := (true, "d2144136a35d8b25d6bc067de6c96de0ce22459b206a1a5c372fbfb6c6ec0264"), looks := true }, kinds := [], alts := [], laidByText := true, laidKinds := [.handle], laidTests := true, laidLooks := .later }
def GcReachesUptoCardSaid : Prop := Claim7.holds Tryz.pinned (.plain (OpenSpec.upto gcReachesSpec)) gcReachesUptoCard

/-- THE SECOND FORM's CARD OF 'silolaw20.GcDoes'. -/
def gcDoesUptoCard : Claim7 := { stood := { row := gcDoesUptoRow, standIns := [], harness := (true, "d2144136a35d8b25d6bc067de6c96de0ce22459b206a1a5c372fbfb6c6ec0264"), looks := true }, kinds := [], alts := [], laidByText := true, laidKinds := [.handle], laidTests := true, laidLooks := .later }
def GcDoesUptoCardSaid : Prop := Claim7.holds Tryz.pinned (.plain (OpenSpec.upto gcDoesSpec)) gcDoesUptoCard
end Rows
end Go.Proofs.YtengciicdnkgaaaGreatDoor
