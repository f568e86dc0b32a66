/-
  DERIVED. GIVEN WITH THE SEED: THE CARDS: each row of YtldleckgkgeclaaDoorRows.lean that lists a variable, with what it lists TIED to the program's text (the seventh form; the later family's looks); each row that meets fmt, with fmt's text TOLD by the authors' own Lean function (tested against real Go, not proved from fmt's source: count such statements apart). THE CARD IS WHAT COUNTS. Prove the row's statement (the work); the ties are given (YtldleckgkgeclaaDoorTie.lean); close each card by the builder's one call (the guide's Derived/Test/ToyasCard.lean, 'card_holds'). Laid BY PROGRAM, IN A SANDBOX (cutbox-door.mjs). By AI agents, Wed Nov 11 2026. No macro, syntax, notation, axiom, sorry.
-/
import Derived.Test.YtldleckgkgeclaaDoorRows
import GoSem.ClaimSeven
namespace Go.Proofs.YtldleckgkgeclaaDoor
namespace Rows

/-- THE TIED CARD OF 'confluencelaw7.SexpPlaces'. -/
def sexpPlacesCard : Claim7 := { stood := { row := sexpPlacesRow, standIns := [], harness := (true, "dece3507e6cba0421b3601c33e04f9ff1d32d354607168f4c753407755c89d79"), looks := true }, kinds := [], alts := [], laidByText := true, laidKinds := [.data, .data, .data, .sentinel, .sentinel], laidTests := true, laidLooks := .later }
def SexpPlacesCardSaid : Prop := Claim7.holds Tryd.pinned (.plain (OpenSpec.ofChange sexpPlacesSpec)) sexpPlacesCard

/-- THE TIED CARD OF 'confluencelaw7.SexpDeep'. -/
def sexpDeepCard : Claim7 := { stood := { row := sexpDeepRow, standIns := [], harness := (true, "dece3507e6cba0421b3601c33e04f9ff1d32d354607168f4c753407755c89d79"), looks := true }, kinds := [], alts := [], laidByText := true, laidKinds := [.data, .data, .data, .sentinel, .sentinel], laidTests := true, laidLooks := .later }
def SexpDeepCardSaid : Prop := Claim7.holds Tryd.pinned (.plain (OpenSpec.ofChange sexpDeepSpec)) sexpDeepCard

/-- THE TIED CARD OF 'confluencelaw8.ExprBack'. -/
def exprBackCard : Claim7 := { stood := { row := exprBackRow, standIns := [], harness := (true, "dece3507e6cba0421b3601c33e04f9ff1d32d354607168f4c753407755c89d79"), looks := true }, kinds := [], alts := [], laidByText := true, laidKinds := [.data, .data, .data], laidTests := true, laidLooks := .later }
def ExprBackCardSaid : Prop := Claim7.holds Tryd.pinned (.plain (OpenSpec.ofChange exprBackSpec)) exprBackCard

/-- THE TIED CARD OF 'confluencelaw7.SexpNumbers'. -/
def sexpNumbersCard : Claim7 := { stood := { row := sexpNumbersRow, standIns := [], harness := (true, "dece3507e6cba0421b3601c33e04f9ff1d32d354607168f4c753407755c89d79"), looks := true }, kinds := [], alts := [], laidByText := true, laidKinds := [.data, .data, .data, .sentinel, .sentinel], laidTests := true, laidLooks := .later }
def SexpNumbersCardSaid : Prop := Claim7.holds Tryd.pinned (.plain (OpenSpec.ofChange sexpNumbersSpec)) sexpNumbersCard

/-- THE SECOND FORM's CARD OF 'confluencelaw7.SexpPlaces'. -/
def sexpPlacesUptoCard : Claim7 := { stood := { row := sexpPlacesUptoRow, standIns := [], harness := (true, "dece3507e6cba0421b3601c33e04f9ff1d32d354607168f4c753407755c89d79"), looks := true }, kinds := [], alts := [], laidByText := true, laidKinds := [.data, .data, .data, .sentinel, .sentinel], laidTests := true, laidLooks := .later }
def SexpPlacesUptoCardSaid : Prop := Claim7.holds Tryd.pinned (.plain (OpenSpec.upto sexpPlacesSpec)) sexpPlacesUptoCard

/-- THE SECOND FORM's CARD OF 'confluencelaw7.SexpDeep'. -/
def sexpDeepUptoCard : Claim7 := { stood := { row := sexpDeepUptoRow, standIns := [], harness := (true, "dece3507e6cba0421b3601c33e04f9ff1d32d354607168f4c753407755c89d79"), looks := true }, kinds := [], alts := [], laidByText := true, laidKinds := [.data, .data, .data, .sentinel, .sentinel], laidTests := true, laidLooks := .later }
def SexpDeepUptoCardSaid : Prop := Claim7.holds Tryd.pinned (.plain (OpenSpec.upto sexpDeepSpec)) sexpDeepUptoCard

/-- THE SECOND FORM's CARD OF 'confluencelaw8.ExprBack'. -/
def exprBackUptoCard : Claim7 := { stood := { row := exprBackUptoRow, standIns := [], harness := (true, "dece3507e6cba0421b3601c33e04f9ff1d32d354607168f4c753407755c89d79"), looks := true }, kinds := [], alts := [], laidByText := true, laidKinds := [.data, .data, .data], laidTests := true, laidLooks := .later }
def ExprBackUptoCardSaid : Prop := Claim7.holds Tryd.pinned (.plain (OpenSpec.upto exprBackSpec)) exprBackUptoCard

/-- THE SECOND FORM's CARD OF 'confluencelaw7.SexpNumbers'. -/
def sexpNumbersUptoCard : Claim7 := { stood := { row := sexpNumbersUptoRow, standIns := [], harness := (true, "dece3507e6cba0421b3601c33e04f9ff1d32d354607168f4c753407755c89d79"), looks := true }, kinds := [], alts := [], laidByText := true, laidKinds := [.data, .data, .data, .sentinel, .sentinel], laidTests := true, laidLooks := .later }
def SexpNumbersUptoCardSaid : Prop := Claim7.holds Tryd.pinned (.plain (OpenSpec.upto sexpNumbersSpec)) sexpNumbersUptoCard
end Rows
end Go.Proofs.YtldleckgkgeclaaDoor
