/-
  DERIVED. GIVEN WITH THE SEED: THE CARDS: each row of YtdkmnolljllddaaDoorRows.lean that lists a variable, with what it lists TIED to the program's text (the seventh form; the later family's looks); each row that meets fmt, with fmt's text TOLD by the authors' own Lean function (tested against real Go, not proved from fmt's source: count such statements apart). THE CARD IS WHAT COUNTS. Prove the row's statement (the work); the ties are given (YtdkmnolljllddaaDoorTie.lean); close each card by the builder's one call (the guide's Derived/Test/ToyasCard.lean, 'card_holds'). Laid BY PROGRAM, IN A SANDBOX (cutbox-door.mjs). By AI agents, Wed Nov 11 2026. No macro, syntax, notation, axiom, sorry.
-/
import Derived.Test.YtdkmnolljllddaaDoorRows
import GoSem.ClaimSeven
namespace Go.Proofs.YtdkmnolljllddaaDoor
namespace Rows

/-- THE TIED CARD OF 'silolaw40.GlobFilters'. -/
def globFiltersCard : Claim7 := { stood := { row := globFiltersRow, standIns := [], harness := (true, "1eb7f189f14184c8471e9be9d09107e3c8f5ad0cfbdf3ffa0c5106a02ce4081f"), looks := false }, kinds := [], alts := [], laidByText := true, laidKinds := [.data, .pinned], laidTests := true, laidLooks := .later }
def GlobFiltersCardSaid : Prop := Claim7.holds Tryd.pinned (.plain (OpenSpec.ofChange globFiltersSpec)) globFiltersCard

/-- THE TIED CARD OF 'silolaw30.GenFit'. -/
def genFitCard : Claim7 := { stood := { row := genFitRow, standIns := [], harness := (true, "1eb7f189f14184c8471e9be9d09107e3c8f5ad0cfbdf3ffa0c5106a02ce4081f"), looks := false }, kinds := [], alts := [], laidByText := true, laidKinds := [.data, .listed, .data, .pinned], laidTests := true, laidLooks := .later }
def GenFitCardSaid : Prop := Claim7.holds Tryd.pinned (.plain (OpenSpec.ofChange genFitSpec)) genFitCard

/-- THE TIED CARD OF 'silolaw30.GenTells'. -/
def genTellsCard : Claim7 := { stood := { row := genTellsRow, standIns := [], harness := (true, "1eb7f189f14184c8471e9be9d09107e3c8f5ad0cfbdf3ffa0c5106a02ce4081f"), looks := false }, kinds := [], alts := [], laidByText := true, laidKinds := [.data, .listed, .data, .pinned], laidTests := true, laidLooks := .later }
def GenTellsCardSaid : Prop := Claim7.holds Tryd.pinned (.plain (OpenSpec.ofChange genTellsSpec)) genTellsCard

/-- THE TIED CARD OF 'silolaw30.GenBegins'. -/
def genBeginsCard : Claim7 := { stood := { row := genBeginsRow, standIns := [], harness := (true, "1eb7f189f14184c8471e9be9d09107e3c8f5ad0cfbdf3ffa0c5106a02ce4081f"), looks := false }, kinds := [], alts := [], laidByText := true, laidKinds := [.data, .listed, .data, .pinned], laidTests := true, laidLooks := .later }
def GenBeginsCardSaid : Prop := Claim7.holds Tryd.pinned (.plain (OpenSpec.ofChange genBeginsSpec)) genBeginsCard

/-- THE TIED CARD OF 'silolaw30.GenEdits'. -/
def genEditsCard : Claim7 := { stood := { row := genEditsRow, standIns := [], harness := (true, "1eb7f189f14184c8471e9be9d09107e3c8f5ad0cfbdf3ffa0c5106a02ce4081f"), looks := false }, kinds := [], alts := [], laidByText := true, laidKinds := [.data, .listed, .data, .pinned], laidTests := true, laidLooks := .later }
def GenEditsCardSaid : Prop := Claim7.holds Tryd.pinned (.plain (OpenSpec.ofChange genEditsSpec)) genEditsCard

/-- THE TIED CARD OF 'silolaw30.GenChanges'. -/
def genChangesCard : Claim7 := { stood := { row := genChangesRow, standIns := [], harness := (true, "1eb7f189f14184c8471e9be9d09107e3c8f5ad0cfbdf3ffa0c5106a02ce4081f"), looks := false }, kinds := [], alts := [], laidByText := true, laidKinds := [.data, .listed, .data, .pinned], laidTests := true, laidLooks := .later }
def GenChangesCardSaid : Prop := Claim7.holds Tryd.pinned (.plain (OpenSpec.ofChange genChangesSpec)) genChangesCard

/-- THE SECOND FORM's CARD OF 'silolaw40.GlobFilters'. -/
def globFiltersUptoCard : Claim7 := { stood := { row := globFiltersUptoRow, standIns := [], harness := (true, "1eb7f189f14184c8471e9be9d09107e3c8f5ad0cfbdf3ffa0c5106a02ce4081f"), looks := false }, kinds := [], alts := [], laidByText := true, laidKinds := [.data, .pinned], laidTests := true, laidLooks := .later }
def GlobFiltersUptoCardSaid : Prop := Claim7.holds Tryd.pinned (.plain (OpenSpec.upto globFiltersSpec)) globFiltersUptoCard

/-- THE SECOND FORM's CARD OF 'silolaw30.GenFit'. -/
def genFitUptoCard : Claim7 := { stood := { row := genFitUptoRow, standIns := [], harness := (true, "1eb7f189f14184c8471e9be9d09107e3c8f5ad0cfbdf3ffa0c5106a02ce4081f"), looks := false }, kinds := [], alts := [], laidByText := true, laidKinds := [.data, .listed, .data, .pinned], laidTests := true, laidLooks := .later }
def GenFitUptoCardSaid : Prop := Claim7.holds Tryd.pinned (.plain (OpenSpec.upto genFitSpec)) genFitUptoCard

/-- THE SECOND FORM's CARD OF 'silolaw30.GenTells'. -/
def genTellsUptoCard : Claim7 := { stood := { row := genTellsUptoRow, standIns := [], harness := (true, "1eb7f189f14184c8471e9be9d09107e3c8f5ad0cfbdf3ffa0c5106a02ce4081f"), looks := false }, kinds := [], alts := [], laidByText := true, laidKinds := [.data, .listed, .data, .pinned], laidTests := true, laidLooks := .later }
def GenTellsUptoCardSaid : Prop := Claim7.holds Tryd.pinned (.plain (OpenSpec.upto genTellsSpec)) genTellsUptoCard

/-- THE SECOND FORM's CARD OF 'silolaw30.GenBegins'. -/
def genBeginsUptoCard : Claim7 := { stood := { row := genBeginsUptoRow, standIns := [], harness := (true, "1eb7f189f14184c8471e9be9d09107e3c8f5ad0cfbdf3ffa0c5106a02ce4081f"), looks := false }, kinds := [], alts := [], laidByText := true, laidKinds := [.data, .listed, .data, .pinned], laidTests := true, laidLooks := .later }
def GenBeginsUptoCardSaid : Prop := Claim7.holds Tryd.pinned (.plain (OpenSpec.upto genBeginsSpec)) genBeginsUptoCard

/-- THE SECOND FORM's CARD OF 'silolaw30.GenEdits'. -/
def genEditsUptoCard : Claim7 := { stood := { row := genEditsUptoRow, standIns := [], harness := (true, "1eb7f189f14184c8471e9be9d09107e3c8f5ad0cfbdf3ffa0c5106a02ce4081f"), looks := false }, kinds := [], alts := [], laidByText := true, laidKinds := [.data, .listed, .data, .pinned], laidTests := true, laidLooks := .later }
def GenEditsUptoCardSaid : Prop := Claim7.holds Tryd.pinned (.plain (OpenSpec.upto genEditsSpec)) genEditsUptoCard

/-- THE SECOND FORM's CARD OF 'silolaw30.GenChanges'. -/
def genChangesUptoCard : Claim7 := { stood := { row := genChangesUptoRow, standIns := [], harness := (true, "1eb7f189f14184c8471e9be9d09107e3c8f5ad0cfbdf3ffa0c5106a02ce4081f"), looks := false }, kinds := [], alts := [], laidByText := true, laidKinds := [.data, .listed, .data, .pinned], laidTests := true, laidLooks := .later }
def GenChangesUptoCardSaid : Prop := Claim7.holds Tryd.pinned (.plain (OpenSpec.upto genChangesSpec)) genChangesUptoCard
end Rows
end Go.Proofs.YtdkmnolljllddaaDoor
