/-
  DERIVED. GIVEN WITH THE SEED: THE CARDS: each row of YtkejdbidomlonaaGreatDoorRows.lean that lists a variable, with what it lists TIED to the program's text (the seventh form; the later family's looks); each row that meets fmt, with fmt's text TOLD by the authors' own Lean function (tested against real Go, not proved from fmt's source: count such statements apart). THE CARD IS WHAT COUNTS. Prove the row's statement (the work); the ties are given (YtkejdbidomlonaaGreatDoorTie.lean); close each card by the builder's one call (the guide's Derived/Test/ToyasCard.lean, 'card_holds'). Laid BY PROGRAM, IN A SANDBOX (cutbox-door.mjs). By AI agents, Wed Nov 11 2026. No macro, syntax, notation, axiom, sorry.
-/
import Derived.Test.YtkejdbidomlonaaGreatDoorRows
import GoSem.ClaimSeven
namespace Go.Proofs.YtkejdbidomlonaaGreatDoor
namespace Rows

/-- THE TIED CARD OF 'silolaw13.FetchLess'. -/
def fetchLessCard : Claim7 := { stood := { row := fetchLessRow, standIns := [], harness := (true, "3f596c2b24c09d7d9f59b18ce17d93d98221de39d897c3ce7daaeebab2965d7f"), looks := true }, kinds := [], alts := [], laidByText := true, laidKinds := [.handle], laidTests := true, laidLooks := .later }
def FetchLessCardSaid : Prop := Claim7.holds Tryz.pinned (.plain (OpenSpec.ofChange fetchLessSpec)) fetchLessCard

/-- THE TIED CARD OF 'silolaw13.FetchFit'. -/
def fetchFitCard : Claim7 := { stood := { row := fetchFitRow, standIns := [], harness := (true, "3f596c2b24c09d7d9f59b18ce17d93d98221de39d897c3ce7daaeebab2965d7f"), looks := true }, kinds := [], alts := [], laidByText := true, laidKinds := [.handle], laidTests := true, laidLooks := .later }
def FetchFitCardSaid : Prop := Claim7.holds Tryz.pinned (.plain (OpenSpec.ofChange fetchFitSpec)) fetchFitCard

/-- THE TIED CARD OF 'silolaw13.FetchBack'. -/
def fetchBackCard : Claim7 := { stood := { row := fetchBackRow, standIns := [], harness := (true, "3f596c2b24c09d7d9f59b18ce17d93d98221de39d897c3ce7daaeebab2965d7f"), looks := true }, kinds := [], alts := [], laidByText := true, laidKinds := [.handle], laidTests := true, laidLooks := .later }
def FetchBackCardSaid : Prop := Claim7.holds Tryz.pinned (.plain (OpenSpec.ofChange fetchBackSpec)) fetchBackCard

/-- THE SECOND FORM's CARD OF 'silolaw13.FetchLess'. -/
def fetchLessUptoCard : Claim7 := { stood := { row := fetchLessUptoRow, standIns := [], harness := (true, "3f596c2b24c09d7d9f59b18ce17d93d98221de39d897c3ce7daaeebab2965d7f"), looks := true }, kinds := [], alts := [], laidByText := true, laidKinds := [.handle], laidTests := true, laidLooks := .later }
def FetchLessUptoCardSaid : Prop := Claim7.holds Tryz.pinned (.plain (OpenSpec.upto fetchLessSpec)) fetchLessUptoCard

/-- THE SECOND FORM's CARD OF 'silolaw13.FetchFit'. -/
def fetchFitUptoCard : Claim7 := { stood := { row := fetchFitUptoRow, standIns := [], harness := (true, "3f596c2b24c09d7d9f59b18ce17d93d98221de39d897c3ce7daaeebab2965d7f"), looks := true }, kinds := [], alts := [], laidByText := true, laidKinds := [.handle], laidTests := true, laidLooks := .later }
def FetchFitUptoCardSaid : Prop := Claim7.holds Tryz.pinned (.plain (OpenSpec.upto fetchFitSpec)) fetchFitUptoCard

/-- THE SECOND FORM's CARD OF 'silolaw13.FetchBack'. -/
def fetchBackUptoCard : Claim7 := { stood := { row := fetchBackUptoRow, standIns := [], harness := (true, "3f596c2b24c09d7d9f59b18ce17d93d98221de39d897c3ce7daaeebab2965d7f"), looks := true }, kinds := [], alts := [], laidByText := true, laidKinds := [.handle], laidTests := true, laidLooks := .later }
def FetchBackUptoCardSaid : Prop := Claim7.holds Tryz.pinned (.plain (OpenSpec.upto fetchBackSpec)) fetchBackUptoCard
end Rows
end Go.Proofs.YtkejdbidomlonaaGreatDoor
