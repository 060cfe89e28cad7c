/-
  DERIVED. GIVEN WITH THE SEED: THE CARDS: each row of YtbmdoekfbkpaeaaGreatDoorRows.lean that lists a variable, with what it lists TIED to the program's text (the seventh form; the later family's looks); each row that meets fmt, with fmt's text TOLD by the authors' own Lean function (tested against real Go, not proved from fmt's source: count such statements apart). THE CARD IS WHAT COUNTS. Prove the row's statement (the work); the ties are given (YtbmdoekfbkpaeaaGreatDoorTie.lean); close each card by the builder's one call (the guide's Derived/Test/ToyasCard.lean, 'card_holds'). Laid BY PROGRAM, IN A SANDBOX (cutbox-door.mjs). By AI agents, Wed Nov 11 2026. No macro, syntax, notation, axiom, sorry.
-/
import Derived.Test.YtbmdoekfbkpaeaaGreatDoorRows
import GoSem.ClaimSeven
namespace Go.Proofs.YtbmdoekfbkpaeaaGreatDoor
namespace Rows

/-- THE TIED CARD OF 'silolaw12.DagBuilds'. -/
def dagBuildsCard : Claim7 := { stood := { row := dagBuildsRow, standIns := [], harness := (true, "3a841350681bf9ed828a9a6e0650dbf803d7b71a96bebc6135e6cced2f2a5950"), looks := false }, kinds := [], alts := [], laidByText := true, laidKinds := [.data, .data], laidTests := true, laidLooks := .later }
def DagBuildsCardSaid : Prop := Claim7.holds Tryz.pinned (.plain (OpenSpec.ofChange dagBuildsSpec)) dagBuildsCard

/-- THE TIED CARD OF 'silolaw12.DagSums'. -/
def dagSumsCard : Claim7 := { stood := { row := dagSumsRow, standIns := [], harness := (true, "3a841350681bf9ed828a9a6e0650dbf803d7b71a96bebc6135e6cced2f2a5950"), looks := false }, kinds := [], alts := [], laidByText := true, laidKinds := [.data, .data], laidTests := true, laidLooks := .later }
def DagSumsCardSaid : Prop := Claim7.holds Tryz.pinned (.plain (OpenSpec.ofChange dagSumsSpec)) dagSumsCard

/-- THE TIED CARD OF 'silolaw12.DagUnlike'. -/
def dagUnlikeCard : Claim7 := { stood := { row := dagUnlikeRow, standIns := [], harness := (true, "3a841350681bf9ed828a9a6e0650dbf803d7b71a96bebc6135e6cced2f2a5950"), looks := false }, kinds := [], alts := [], laidByText := true, laidKinds := [.data, .data], laidTests := true, laidLooks := .later }
def DagUnlikeCardSaid : Prop := Claim7.holds Tryz.pinned (.plain (OpenSpec.ofChange dagUnlikeSpec)) dagUnlikeCard

/-- THE TIED CARD OF 'silolaw12.DagParts'. -/
def dagPartsCard : Claim7 := { stood := { row := dagPartsRow, standIns := [], harness := (true, "3a841350681bf9ed828a9a6e0650dbf803d7b71a96bebc6135e6cced2f2a5950"), looks := false }, kinds := [], alts := [], laidByText := true, laidKinds := [.data, .data], laidTests := true, laidLooks := .later }
def DagPartsCardSaid : Prop := Claim7.holds Tryz.pinned (.plain (OpenSpec.ofChange dagPartsSpec)) dagPartsCard

/-- THE SECOND FORM's CARD OF 'silolaw12.DagBuilds'. -/
def dagBuildsUptoCard : Claim7 := { stood := { row := dagBuildsUptoRow, standIns := [], harness := (true, "3a841350681bf9ed828a9a6e0650dbf803d7b71a96bebc6135e6cced2f2a5950"), looks := false }, kinds := [], alts := [], laidByText := true, laidKinds := [.data, .data], laidTests := true, laidLooks := .later }
def DagBuildsUptoCardSaid : Prop := Claim7.holds Tryz.pinned (.plain (OpenSpec.upto dagBuildsSpec)) dagBuildsUptoCard

/-- THE SECOND FORM's CARD OF 'silolaw12.DagSums'. -/
def dagSumsUptoCard : Claim7 := { stood := { row := dagSumsUptoRow, standIns := [], harness := (true, "3a841350681bf9ed828a9a6e0650dbf803d7b71a96bebc6135e6cced2f2a5950"), looks := false }, kinds := [], alts := [], laidByText := true, laidKinds := [.data, .data], laidTests := true, laidLooks := .later }
def DagSumsUptoCardSaid : Prop := Claim7.holds Tryz.pinned (.plain (OpenSpec.upto dagSumsSpec)) dagSumsUptoCard

/-- THE SECOND FORM's CARD OF 'silolaw12.DagUnlike'. -/
def dagUnlikeUptoCard : Claim7 := { stood := { row := dagUnlikeUptoRow, standIns := [], harness := (true, "3a841350681bf9ed828a9a6e0650dbf803d7b71a96bebc6135e6cced2f2a5950"), looks := false }, kinds := [], alts := [], laidByText := true, laidKinds := [.data, .data], laidTests := true, laidLooks := .later }
def DagUnlikeUptoCardSaid : Prop := Claim7.holds Tryz.pinned (.plain (OpenSpec.upto dagUnlikeSpec)) dagUnlikeUptoCard

/-- THE SECOND FORM's CARD OF 'silolaw12.DagParts'. -/
def dagPartsUptoCard : Claim7 := { stood := { row := dagPartsUptoRow, standIns := [], harness := (true, "3a841350681bf9ed828a9a6e0650dbf803d7b71a96bebc6135e6cced2f2a5950"), looks := false }, kinds := [], alts := [], laidByText := true, laidKinds := [.data, .data], laidTests := true, laidLooks := .later }
def DagPartsUptoCardSaid : Prop := Claim7.holds Tryz.pinned (.plain (OpenSpec.upto dagPartsSpec)) dagPartsUptoCard
end Rows
end Go.Proofs.YtbmdoekfbkpaeaaGreatDoor
