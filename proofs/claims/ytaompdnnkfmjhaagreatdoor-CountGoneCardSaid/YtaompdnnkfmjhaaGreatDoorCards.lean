/-
  DERIVED. GIVEN WITH THE SEED: THE CARDS: each row of YtaompdnnkfmjhaaGreatDoorRows.lean that lists a variable, with what it lists TIED to the program's text (the seventh form; the later family's looks); each row that meets fmt, with fmt's text TOLD by the authors' own Lean function (tested against real Go, not proved from fmt's source: count such statements apart). THE CARD IS WHAT COUNTS. Prove the row's statement (the work); the ties are given (YtaompdnnkfmjhaaGreatDoorTie.lean); close each card by the builder's one call (the guide's Derived/Test/ToyasCard.lean, 'card_holds'). Laid BY PROGRAM, IN A SANDBOX (cutbox-door.mjs). By AI agents, Wed Nov 11 2026. No macro, syntax, notation, axiom, sorry.
-/
import Derived.Test.YtaompdnnkfmjhaaGreatDoorRows
import GoSem.ClaimSeven
namespace Go.Proofs.YtaompdnnkfmjhaaGreatDoor
namespace Rows

/-- THE TIED CARD OF 'silolaw14.CountSums'. -/
def countSumsCard : Claim7 := { stood := { row := countSumsRow, standIns := [], harness := (true, "24a373f5083e638f57c3f8d7070a96cf841113932b54a415e49f32205be25876"), looks := true }, kinds := [], alts := [], laidByText := true, laidKinds := [.handle], laidTests := true, laidLooks := .later }
def CountSumsCardSaid : Prop := Claim7.holds Tryz.pinned (.plain (OpenSpec.ofChange countSumsSpec)) countSumsCard

/-- THE TIED CARD OF 'silolaw14.CountMoves'. -/
def countMovesCard : Claim7 := { stood := { row := countMovesRow, standIns := [], harness := (true, "24a373f5083e638f57c3f8d7070a96cf841113932b54a415e49f32205be25876"), looks := true }, kinds := [], alts := [], laidByText := true, laidKinds := [.handle], laidTests := true, laidLooks := .later }
def CountMovesCardSaid : Prop := Claim7.holds Tryz.pinned (.plain (OpenSpec.ofChange countMovesSpec)) countMovesCard

/-- THE TIED CARD OF 'silolaw14.CountAnew'. -/
def countAnewCard : Claim7 := { stood := { row := countAnewRow, standIns := [], harness := (true, "24a373f5083e638f57c3f8d7070a96cf841113932b54a415e49f32205be25876"), looks := true }, kinds := [], alts := [], laidByText := true, laidKinds := [.handle], laidTests := true, laidLooks := .later }
def CountAnewCardSaid : Prop := Claim7.holds Tryz.pinned (.plain (OpenSpec.ofChange countAnewSpec)) countAnewCard

/-- THE TIED CARD OF 'silolaw14.CountGone'. -/
def countGoneCard : Claim7 := { stood := { row := countGoneRow, standIns := [], harness := (true, "24a373f5083e638f57c3f8d7070a96cf841113932b54a415e49f32205be25876"), looks := true }, kinds := [], alts := [], laidByText := true, laidKinds := [.handle], laidTests := true, laidLooks := .later }
def CountGoneCardSaid : Prop := Claim7.holds Tryz.pinned (.plain (OpenSpec.ofChange countGoneSpec)) countGoneCard

/-- THE TIED CARD OF 'silolaw14.CountDoes'. -/
def countDoesCard : Claim7 := { stood := { row := countDoesRow, standIns := [], harness := (true, "24a373f5083e638f57c3f8d7070a96cf841113932b54a415e49f32205be25876"), looks := true }, kinds := [], alts := [], laidByText := true, laidKinds := [.handle], laidTests := true, laidLooks := .later }
def CountDoesCardSaid : Prop := Claim7.holds Tryz.pinned (.plain (OpenSpec.ofChange countDoesSpec)) countDoesCard

/-- THE SECOND FORM's CARD OF 'silolaw14.CountSums'. -/
def countSumsUptoCard : Claim7 := { stood := { row := countSumsUptoRow, standIns := [], harness := (true, "24a373f5083e638f57c3f8d7070a96cf841113932b54a415e49f32205be25876"), looks := true }, kinds := [], alts := [], laidByText := true, laidKinds := [.handle], laidTests := true, laidLooks := .later }
def CountSumsUptoCardSaid : Prop := Claim7.holds Tryz.pinned (.plain (OpenSpec.upto countSumsSpec)) countSumsUptoCard

/-- THE SECOND FORM's CARD OF 'silolaw14.CountMoves'. -/
def countMovesUptoCard : Claim7 := { stood := { row := countMovesUptoRow, standIns := [], harness := (true, "24a373f5083e638f57c3f8d7070a96cf841113932b54a415e49f32205be25876"), looks := true }, kinds := [], alts := [], laidByText := true, laidKinds := [.handle], laidTests := true, laidLooks := .later }
def CountMovesUptoCardSaid : Prop := Claim7.holds Tryz.pinned (.plain (OpenSpec.upto countMovesSpec)) countMovesUptoCard

/-- THE SECOND FORM's CARD OF 'silolaw14.CountAnew'. -/
def countAnewUptoCard : Claim7 := { stood := { row := countAnewUptoRow, standIns := [], harness := (true, "24a373f5083e638f57c3f8d7070a96cf841113932b54a415e49f32205be25876"), looks := true }, kinds := [], alts := [], laidByText := true, laidKinds := [.handle], laidTests := true, laidLooks := .later }
def CountAnewUptoCardSaid : Prop := Claim7.holds Tryz.pinned (.plain (OpenSpec.upto countAnewSpec)) countAnewUptoCard

/-- THE SECOND FORM's CARD OF 'silolaw14.CountGone'. -/
def countGoneUptoCard : Claim7 := { stood := { row := countGoneUptoRow, standIns := [], harness := (true, "24a373f5083e638f57c3f8d7070a96cf841113932b54a415e49f32205be25876"), looks := true }, kinds := [], alts := [], laidByText := true, laidKinds := [.handle], laidTests := true, laidLooks := .later }
def CountGoneUptoCardSaid : Prop := Claim7.holds Tryz.pinned (.plain (OpenSpec.upto countGoneSpec)) countGoneUptoCard

/-- THE SECOND FORM's CARD OF 'silolaw14.CountDoes'. -/
def countDoesUptoCard : Claim7 := { stood := { row := countDoesUptoRow, standIns := [], harness := (true, "24a373f5083e638f57c3f8d7070a96cf841113932b54a415e49f32205be25876"), looks := true }, kinds := [], alts := [], laidByText := true, laidKinds := [.handle], laidTests := true, laidLooks := .later }
def CountDoesUptoCardSaid : Prop := Claim7.holds Tryz.pinned (.plain (OpenSpec.upto countDoesSpec)) countDoesUptoCard
end Rows
end Go.Proofs.YtaompdnnkfmjhaaGreatDoor
