/-
  DERIVED. GIVEN WITH THE SEED: THE CARDS: each row of YtjbdkdgeceggbaaGreatDoorRows.lean that lists a variable, with what it lists TIED to the program's text (the seventh form; the later family's looks); each row that meets fmt, with fmt's text TOLD by the authors' own Lean function (tested against real Go, not proved from fmt's source: count such statements apart). THE CARD IS WHAT COUNTS. Prove the row's statement (the work); the ties are given (YtjbdkdgeceggbaaGreatDoorTie.lean); close each card by the builder's one call (the guide's Derived/Test/ToyasCard.lean, 'card_holds'). Laid BY PROGRAM, IN A SANDBOX (cutbox-door.mjs). By AI agents, Wed Nov 11 2026. No macro, syntax, notation, axiom, sorry.
-/
import Derived.Test.YtjbdkdgeceggbaaGreatDoorRows
import GoSem.ClaimSeven
namespace Go.Proofs.YtjbdkdgeceggbaaGreatDoor
namespace Rows

/-- THE TIED CARD OF 'confluencelaw10.CheckNumbers'. -/
def checkNumbersCard : Claim7 := { stood := { row := checkNumbersRow, standIns := [], harness := (true, "6707f27732950624bd86d571c51b97fbb81d61b4621e02f6287db3ea8b0f5fa5"), looks := true }, kinds := [], alts := [], laidByText := true, laidKinds := [.data, .data, .data, .sentinel, .sentinel], laidTests := true, laidLooks := .later }
def CheckNumbersCardSaid : Prop := Claim7.holds Tryz.pinned (.plain (OpenSpec.ofChange checkNumbersSpec)) checkNumbersCard

/-- THE TIED CARD OF 'confluencelaw11.EvalNumbers'. -/
def evalNumbersCard : Claim7 := { stood := { row := evalNumbersRow, standIns := [], harness := (true, "6707f27732950624bd86d571c51b97fbb81d61b4621e02f6287db3ea8b0f5fa5"), looks := true }, kinds := [], alts := [], laidByText := true, laidKinds := [.data, .data, .data, .sentinel, .sentinel], laidTests := true, laidLooks := .later }
def EvalNumbersCardSaid : Prop := Claim7.holds Tryz.pinned (.plain (OpenSpec.ofChange evalNumbersSpec)) evalNumbersCard

/-- THE TIED CARD OF 'confluencelaw15.CatalogNumbers'. -/
def catalogNumbersCard : Claim7 := { stood := { row := catalogNumbersRow, standIns := [], harness := (true, "6707f27732950624bd86d571c51b97fbb81d61b4621e02f6287db3ea8b0f5fa5"), looks := true }, kinds := [], alts := [], laidByText := true, laidKinds := [.data, .data, .data, .sentinel, .sentinel], laidTests := true, laidLooks := .later }
def CatalogNumbersCardSaid : Prop := Claim7.holds Tryz.pinned (.plain (OpenSpec.ofChange catalogNumbersSpec)) catalogNumbersCard

/-- THE SECOND FORM's CARD OF 'confluencelaw10.CheckNumbers'. -/
def checkNumbersUptoCard : Claim7 := { stood := { row := checkNumbersUptoRow, standIns := [], harness := (true, "6707f27732950624bd86d571c51b97fbb81d61b4621e02f6287db3ea8b0f5fa5"), looks := true }, kinds := [], alts := [], laidByText := true, laidKinds := [.data, .data, .data, .sentinel, .sentinel], laidTests := true, laidLooks := .later }
def CheckNumbersUptoCardSaid : Prop := Claim7.holds Tryz.pinned (.plain (OpenSpec.upto checkNumbersSpec)) checkNumbersUptoCard

/-- THE SECOND FORM's CARD OF 'confluencelaw11.EvalNumbers'. -/
def evalNumbersUptoCard : Claim7 := { stood := { row := evalNumbersUptoRow, standIns := [], harness := (true, "6707f27732950624bd86d571c51b97fbb81d61b4621e02f6287db3ea8b0f5fa5"), looks := true }, kinds := [], alts := [], laidByText := true, laidKinds := [.data, .data, .data, .sentinel, .sentinel], laidTests := true, laidLooks := .later }
def EvalNumbersUptoCardSaid : Prop := Claim7.holds Tryz.pinned (.plain (OpenSpec.upto evalNumbersSpec)) evalNumbersUptoCard

/-- THE SECOND FORM's CARD OF 'confluencelaw15.CatalogNumbers'. -/
def catalogNumbersUptoCard : Claim7 := { stood := { row := catalogNumbersUptoRow, standIns := [], harness := (true, "6707f27732950624bd86d571c51b97fbb81d61b4621e02f6287db3ea8b0f5fa5"), looks := true }, kinds := [], alts := [], laidByText := true, laidKinds := [.data, .data, .data, .sentinel, .sentinel], laidTests := true, laidLooks := .later }
def CatalogNumbersUptoCardSaid : Prop := Claim7.holds Tryz.pinned (.plain (OpenSpec.upto catalogNumbersSpec)) catalogNumbersUptoCard
end Rows
end Go.Proofs.YtjbdkdgeceggbaaGreatDoor
