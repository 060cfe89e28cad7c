/-
  DERIVED. GIVEN WITH THE SEED: THE CARDS: each row of YtffdcnhpjgpcdaaGreatDoorRows.lean that lists a variable, with what it lists TIED to the program's text (the seventh form; the later family's looks); each row that meets fmt, with fmt's text TOLD by the authors' own Lean function (tested against real Go, not proved from fmt's source: count such statements apart). THE CARD IS WHAT COUNTS. Prove the row's statement (the work); the ties are given (YtffdcnhpjgpcdaaGreatDoorTie.lean); close each card by the builder's one call (the guide's Derived/Test/ToyasCard.lean, 'card_holds'). Laid BY PROGRAM, IN A SANDBOX (cutbox-door.mjs). By AI agents, Wed Nov 11 2026. No macro, syntax, notation, axiom, sorry.
-/
import Derived.Test.YtffdcnhpjgpcdaaGreatDoorRows
import GoSem.ClaimSeven
namespace Go.Proofs.YtffdcnhpjgpcdaaGreatDoor
namespace Rows

/-- THE TIED CARD OF 'silolaw12.DagAdds'. -/
def dagAddsCard : Claim7 := { stood := { row := dagAddsRow, standIns := [], harness := (true, "18e08a2d4b10650a0572a30bdfd0fbfab8dd07d79bc9928095a57ca28a89f32b"), looks := false }, kinds := [], alts := [], laidByText := true, laidKinds := [.data, .data], laidTests := true, laidLooks := .later }
def DagAddsCardSaid : Prop := Claim7.holds Tryz.pinned (.plain (OpenSpec.ofChange dagAddsSpec)) dagAddsCard

/-- THE TIED CARD OF 'silolaw12.DagLists'. -/
def dagListsCard : Claim7 := { stood := { row := dagListsRow, standIns := [], harness := (true, "18e08a2d4b10650a0572a30bdfd0fbfab8dd07d79bc9928095a57ca28a89f32b"), looks := false }, kinds := [], alts := [], laidByText := true, laidKinds := [.data, .data], laidTests := true, laidLooks := .later }
def DagListsCardSaid : Prop := Claim7.holds Tryz.pinned (.plain (OpenSpec.ofChange dagListsSpec)) dagListsCard

/-- THE SECOND FORM's CARD OF 'silolaw12.DagAdds'. -/
def dagAddsUptoCard : Claim7 := { stood := { row := dagAddsUptoRow, standIns := [], harness := (true, "18e08a2d4b10650a0572a30bdfd0fbfab8dd07d79bc9928095a57ca28a89f32b"), looks := false }, kinds := [], alts := [], laidByText := true, laidKinds := [.data, .data], laidTests := true, laidLooks := .later }
def DagAddsUptoCardSaid : Prop := Claim7.holds Tryz.pinned (.plain (OpenSpec.upto dagAddsSpec)) dagAddsUptoCard

/-- THE SECOND FORM's CARD OF 'silolaw12.DagLists'. -/
def dagListsUptoCard : Claim7 := { stood := { row := dagListsUptoRow, standIns := [], harness := (true, "18e08a2d4b10650a0572a30bdfd0fbfab8dd07d79bc9928095a57ca28a89f32b"), looks := false }, kinds := [], alts := [], laidByText := true, laidKinds := [.data, .data], laidTests := true, laidLooks := .later }
def DagListsUptoCardSaid : Prop := Claim7.holds Tryz.pinned (.plain (OpenSpec.upto dagListsSpec)) dagListsUptoCard
end Rows
end Go.Proofs.YtffdcnhpjgpcdaaGreatDoor
