/-
  DERIVED. GIVEN WITH THE SEED: THE CARDS: each row of YtjhkihkiebnpaaaGreatDoorRows.lean that lists a variable, with what it lists TIED to the program's text (the seventh form; the later family's looks); each row that meets fmt, with fmt's text TOLD by the authors' own Lean function (tested against real Go, not proved from fmt's source: count such statements apart). THE CARD IS WHAT COUNTS. Prove the row's statement (the work); the ties are given (YtjhkihkiebnpaaaGreatDoorTie.lean); close each card by the builder's one call (the guide's Derived/Test/ToyasCard.lean, 'card_holds'). Laid BY PROGRAM, IN A SANDBOX (cutbox-door.mjs). By AI agents, Wed Nov 11 2026. No macro, syntax, notation, axiom, sorry.
-/
import Derived.Test.YtjhkihkiebnpaaaGreatDoorRows
import GoSem.ClaimSeven
namespace Go.Proofs.YtjhkihkiebnpaaaGreatDoor
namespace Rows

/-- THE TIED CARD OF 'confluencelaw10.CheckRight'. -/
def checkRightCard : Claim7 := { stood := { row := checkRightRow, standIns := [], harness := (true, "553f72785bcc6158e1ba5d9b693d98ac0311b5f07a5b31c220a2d4d9142c03c2"), looks := true }, kinds := [], alts := [], laidByText := true, laidKinds := [.data, .data, .data, .sentinel, .sentinel], laidTests := true, laidLooks := .later }
def CheckRightCardSaid : Prop := Claim7.holds Tryz.pinned (.plain (OpenSpec.ofChange checkRightSpec)) checkRightCard

/-- THE TIED CARD OF 'confluencelaw10.CheckJoins'. -/
def checkJoinsCard : Claim7 := { stood := { row := checkJoinsRow, standIns := [], harness := (true, "553f72785bcc6158e1ba5d9b693d98ac0311b5f07a5b31c220a2d4d9142c03c2"), looks := true }, kinds := [], alts := [], laidByText := true, laidKinds := [.data, .data, .data, .sentinel, .sentinel], laidTests := true, laidLooks := .later }
def CheckJoinsCardSaid : Prop := Claim7.holds Tryz.pinned (.plain (OpenSpec.ofChange checkJoinsSpec)) checkJoinsCard

/-- THE TIED CARD OF 'confluencelaw9.PlanBack'. -/
def planBackCard : Claim7 := { stood := { row := planBackRow, standIns := [], harness := (true, "553f72785bcc6158e1ba5d9b693d98ac0311b5f07a5b31c220a2d4d9142c03c2"), looks := true }, kinds := [], alts := [], laidByText := true, laidKinds := [.data, .data, .data, .sentinel, .sentinel], laidTests := true, laidLooks := .later }
def PlanBackCardSaid : Prop := Claim7.holds Tryz.pinned (.plain (OpenSpec.ofChange planBackSpec)) planBackCard

/-- THE TIED CARD OF 'confluencelaw9.PlanWraps'. -/
def planWrapsCard : Claim7 := { stood := { row := planWrapsRow, standIns := [], harness := (true, "553f72785bcc6158e1ba5d9b693d98ac0311b5f07a5b31c220a2d4d9142c03c2"), looks := true }, kinds := [], alts := [], laidByText := true, laidKinds := [.data, .data, .data, .sentinel, .sentinel], laidTests := true, laidLooks := .later }
def PlanWrapsCardSaid : Prop := Claim7.holds Tryz.pinned (.plain (OpenSpec.ofChange planWrapsSpec)) planWrapsCard

/-- THE SECOND FORM's CARD OF 'confluencelaw10.CheckRight'. -/
def checkRightUptoCard : Claim7 := { stood := { row := checkRightUptoRow, standIns := [], harness := (true, "553f72785bcc6158e1ba5d9b693d98ac0311b5f07a5b31c220a2d4d9142c03c2"), looks := true }, kinds := [], alts := [], laidByText := true, laidKinds := [.data, .data, .data, .sentinel, .sentinel], laidTests := true, laidLooks := .later }
def CheckRightUptoCardSaid : Prop := Claim7.holds Tryz.pinned (.plain (OpenSpec.upto checkRightSpec)) checkRightUptoCard

/-- THE SECOND FORM's CARD OF 'confluencelaw10.CheckJoins'. -/
def checkJoinsUptoCard : Claim7 := { stood := { row := checkJoinsUptoRow, standIns := [], harness := (true, "553f72785bcc6158e1ba5d9b693d98ac0311b5f07a5b31c220a2d4d9142c03c2"), looks := true }, kinds := [], alts := [], laidByText := true, laidKinds := [.data, .data, .data, .sentinel, .sentinel], laidTests := true, laidLooks := .later }
def CheckJoinsUptoCardSaid : Prop := Claim7.holds Tryz.pinned (.plain (OpenSpec.upto checkJoinsSpec)) checkJoinsUptoCard

/-- THE SECOND FORM's CARD OF 'confluencelaw9.PlanBack'. -/
def planBackUptoCard : Claim7 := { stood := { row := planBackUptoRow, standIns := [], harness := (true, "553f72785bcc6158e1ba5d9b693d98ac0311b5f07a5b31c220a2d4d9142c03c2"), looks := true }, kinds := [], alts := [], laidByText := true, laidKinds := [.data, .data, .data, .sentinel, .sentinel], laidTests := true, laidLooks := .later }
def PlanBackUptoCardSaid : Prop := Claim7.holds Tryz.pinned (.plain (OpenSpec.upto planBackSpec)) planBackUptoCard

/-- THE SECOND FORM's CARD OF 'confluencelaw9.PlanWraps'. -/
def planWrapsUptoCard : Claim7 := { stood := { row := planWrapsUptoRow, standIns := [], harness := (true, "553f72785bcc6158e1ba5d9b693d98ac0311b5f07a5b31c220a2d4d9142c03c2"), looks := true }, kinds := [], alts := [], laidByText := true, laidKinds := [.data, .data, .data, .sentinel, .sentinel], laidTests := true, laidLooks := .later }
def PlanWrapsUptoCardSaid : Prop := Claim7.holds Tryz.pinned (.plain (OpenSpec.upto planWrapsSpec)) planWrapsUptoCard
end Rows
end Go.Proofs.YtjhkihkiebnpaaaGreatDoor
