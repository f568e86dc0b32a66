/-
  No cell of these rows narrows 'for every input' (looked for: loops, veiled, ifaces, maps, wideKeys, modest, calm, conditions, laid).
  DERIVED. THE GIVEN ROWS OF THIS SEAT. 7 by the template 'for every input the law returns true; each argument reads behind the call as it read before'; 0 by the template 'total and deterministic' (their statements: YtldleckgkgeclaaTotals.lean).
  GIVEN WITH THE SEED: the statements are not yours to turn. If you find one false, say at which input.
  Laid BY PROGRAM, IN A SANDBOX (cutbox-rows.mjs): the forced cells as the released guide's own fill.sh prints them over the translation e1f210036556beeb… (all of the seat's roots in one cut). By AI agents, Wed Nov 11 2026. No macro, syntax, notation, axiom, sorry.
-/
import Derived.Test.YtldleckgkgeclaaChecked
import GoSem.Claim
import GoSem.ClaimJoined
import GoSem.ClaimMapViews
import Derived.JoinedTies
import Derived.KernelRfl
namespace Go.Proofs.Ytldleckgkgeclaa
/- THE CELL 'sum', in the pinned program and in every row, IS THE sha256 OF THE DUMP (.gsa) THAT YtldleckgkgeclaaProg.lean LOADS. Nothing in Lean hashes anything: it is a label: what it is worth is what the hold of that sum in a sandbox is worth. -/
noncomputable def Try.pinned : Pinned := { name := "ytldleckgkgeclaa", sum := "e1f210036556beebe42ed72dee1082159a752459c26f145c93acb2cb5f23aa48", checked := Try.checked }
namespace Rows
def none {H : Type} : Left H := { results := [], args := [] }

/-- 'confluencelaw8.ExprSums': WHATEVER THE INPUT: true; the input reads as it did. -/
def exprSumsSpec : ChangeSpec := { name := "exprSums", fn := fun _ => fun
  | [d1, d2] => { results := [.lit (.bool true)], args := [d1, d2] }
  | _ => none }
def exprSumsRow : OpenClaim := { program := "ytldleckgkgeclaa", sum := "e1f210036556beebe42ed72dee1082159a752459c26f145c93acb2cb5f23aa48", func := "confluence/confluencelaw8.ExprSums", spec := "exprSums", unfollowed := true, recurses := true, apart := false }
def ExprSumsSaid : Prop := exprSumsRow.holds Try.pinned (OpenSpec.ofChange exprSumsSpec)

/-- ITS FALSE NEIGHBOUR: 'it returns false'. Refute it at one input. -/
def exprSumsWrong : ChangeSpec := { name := "exprSums", fn := fun _ => fun
  | [d1, d2] => { results := [.lit (.bool false)], args := [d1, d2] }
  | _ => none }
def ExprSumsWrongFalsely : Prop := exprSumsRow.holds Try.pinned (OpenSpec.ofChange exprSumsWrong)

/-- 'confluencelaw8.ExprBranches': WHATEVER THE INPUT: true; the input reads as it did. -/
def exprBranchesSpec : ChangeSpec := { name := "exprBranches", fn := fun _ => fun
  | [d1, d2] => { results := [.lit (.bool true)], args := [d1, d2] }
  | _ => none }
def exprBranchesRow : OpenClaim := { program := "ytldleckgkgeclaa", sum := "e1f210036556beebe42ed72dee1082159a752459c26f145c93acb2cb5f23aa48", func := "confluence/confluencelaw8.ExprBranches", spec := "exprBranches", unfollowed := true, recurses := true, apart := false }
def ExprBranchesSaid : Prop := exprBranchesRow.holds Try.pinned (OpenSpec.ofChange exprBranchesSpec)

/-- ITS FALSE NEIGHBOUR: 'it returns false'. Refute it at one input. -/
def exprBranchesWrong : ChangeSpec := { name := "exprBranches", fn := fun _ => fun
  | [d1, d2] => { results := [.lit (.bool false)], args := [d1, d2] }
  | _ => none }
def ExprBranchesWrongFalsely : Prop := exprBranchesRow.holds Try.pinned (OpenSpec.ofChange exprBranchesWrong)

/-- 'confluencelaw8.ExprTexts': WHATEVER THE INPUT: true; the input reads as it did. -/
def exprTextsSpec : ChangeSpec := { name := "exprTexts", fn := fun _ => fun
  | [d1, d2] => { results := [.lit (.bool true)], args := [d1, d2] }
  | _ => none }
def exprTextsRow : OpenClaim := { program := "ytldleckgkgeclaa", sum := "e1f210036556beebe42ed72dee1082159a752459c26f145c93acb2cb5f23aa48", func := "confluence/confluencelaw8.ExprTexts", spec := "exprTexts", unfollowed := true, recurses := true, apart := false }
def ExprTextsSaid : Prop := exprTextsRow.holds Try.pinned (OpenSpec.ofChange exprTextsSpec)

/-- ITS FALSE NEIGHBOUR: 'it returns false'. Refute it at one input. -/
def exprTextsWrong : ChangeSpec := { name := "exprTexts", fn := fun _ => fun
  | [d1, d2] => { results := [.lit (.bool false)], args := [d1, d2] }
  | _ => none }
def ExprTextsWrongFalsely : Prop := exprTextsRow.holds Try.pinned (OpenSpec.ofChange exprTextsWrong)

/-- 'confluencelaw8.ExprText': WHATEVER THE INPUT: true; the input reads as it did. -/
def exprTextSpec : ChangeSpec := { name := "exprText", fn := fun _ => fun
  | [d1, d2, d3, d4] => { results := [.lit (.bool true)], args := [d1, d2, d3, d4] }
  | _ => none }
def exprTextRow : OpenClaim := { program := "ytldleckgkgeclaa", sum := "e1f210036556beebe42ed72dee1082159a752459c26f145c93acb2cb5f23aa48", func := "confluence/confluencelaw8.ExprText", spec := "exprText", unfollowed := true, recurses := true, apart := false }
def ExprTextSaid : Prop := exprTextRow.holds Try.pinned (OpenSpec.ofChange exprTextSpec)

/-- ITS FALSE NEIGHBOUR: 'it returns false'. Refute it at one input. -/
def exprTextWrong : ChangeSpec := { name := "exprText", fn := fun _ => fun
  | [d1, d2, d3, d4] => { results := [.lit (.bool false)], args := [d1, d2, d3, d4] }
  | _ => none }
def ExprTextWrongFalsely : Prop := exprTextRow.holds Try.pinned (OpenSpec.ofChange exprTextWrong)

/-- 'confluencelaw6.ZsetNumbers': WHATEVER THE INPUT: true; the input reads as it did. -/
def zsetNumbersSpec : ChangeSpec := { name := "zsetNumbers", fn := fun _ => fun
  | [] => { results := [.lit (.bool true)], args := [] }
  | _ => none }
def zsetNumbersRow : OpenClaim := { program := "ytldleckgkgeclaa", sum := "e1f210036556beebe42ed72dee1082159a752459c26f145c93acb2cb5f23aa48", func := "confluence/confluencelaw6.ZsetNumbers", spec := "zsetNumbers", inPlace := ["math.archTrunc", "math.Float64bits", "math.Float64frombits"], unfollowed := true, recurses := true, apart := false }
def ZsetNumbersSaid : Prop := zsetNumbersRow.holds Try.pinned (OpenSpec.ofChange zsetNumbersSpec)

/-- ITS FALSE NEIGHBOUR: 'it returns false'. Refute it at one input. -/
def zsetNumbersWrong : ChangeSpec := { name := "zsetNumbers", fn := fun _ => fun
  | [] => { results := [.lit (.bool false)], args := [] }
  | _ => none }
def ZsetNumbersWrongFalsely : Prop := zsetNumbersRow.holds Try.pinned (OpenSpec.ofChange zsetNumbersWrong)

/-- 'confluencelaw8.ExprNumbers': WHATEVER THE INPUT: true; the input reads as it did. -/
def exprNumbersSpec : ChangeSpec := { name := "exprNumbers", fn := fun _ => fun
  | [] => { results := [.lit (.bool true)], args := [] }
  | _ => none }
def exprNumbersRow : OpenClaim := { program := "ytldleckgkgeclaa", sum := "e1f210036556beebe42ed72dee1082159a752459c26f145c93acb2cb5f23aa48", func := "confluence/confluencelaw8.ExprNumbers", spec := "exprNumbers", unfollowed := true, recurses := true, apart := false }
def ExprNumbersSaid : Prop := exprNumbersRow.holds Try.pinned (OpenSpec.ofChange exprNumbersSpec)

/-- ITS FALSE NEIGHBOUR: 'it returns false'. Refute it at one input. -/
def exprNumbersWrong : ChangeSpec := { name := "exprNumbers", fn := fun _ => fun
  | [] => { results := [.lit (.bool false)], args := [] }
  | _ => none }
def ExprNumbersWrongFalsely : Prop := exprNumbersRow.holds Try.pinned (OpenSpec.ofChange exprNumbersWrong)

/-- 'confluencelaw8.ExprSound': WHATEVER THE INPUT: true; the input reads as it did. -/
def exprSoundSpec : ChangeSpec := { name := "exprSound", fn := fun _ => fun
  | [d1, d2, d3, d4, d5] => { results := [.lit (.bool true)], args := [d1, d2, d3, d4, d5] }
  | _ => none }
def exprSoundRow : OpenClaim := { program := "ytldleckgkgeclaa", sum := "e1f210036556beebe42ed72dee1082159a752459c26f145c93acb2cb5f23aa48", func := "confluence/confluencelaw8.ExprSound", spec := "exprSound", unfollowed := true, recurses := true, apart := false }
def ExprSoundSaid : Prop := exprSoundRow.holds Try.pinned (OpenSpec.ofChange exprSoundSpec)

/-- ITS FALSE NEIGHBOUR: 'it returns false'. Refute it at one input. -/
def exprSoundWrong : ChangeSpec := { name := "exprSound", fn := fun _ => fun
  | [d1, d2, d3, d4, d5] => { results := [.lit (.bool false)], args := [d1, d2, d3, d4, d5] }
  | _ => none }
def ExprSoundWrongFalsely : Prop := exprSoundRow.holds Try.pinned (OpenSpec.ofChange exprSoundWrong)

/- THE SECOND FORM. 'bulk': how many values and letters a reading holds, each counted each time it is reached (what is shared counts as often as it is met; a slice's spare places count too). A statement '..UptoSaid' is the law's where the arguments, and the package variables that the reading takes, are together of bulk at most 1048576: NARROWER than '..Said'. Prove '..Said' where nothing that the law and all that it calls make is longer than what came in: it says more and counts as full. Else prove '..UptoSaid'. A law counts once. -/
mutual
def uptoBulk {H : Type} : DataW H → Nat
  | .lit (.string bytes) => bytes.length + 1
  | .lit _ => 1
  | .nil => 1
  | .ptr d => uptoBulk d + 1
  | .slice elems spare => uptoBulkAll elems + uptoBulkAll spare + 1
  | .agg parts => uptoBulkAll parts + 1
  | .iface _ d => uptoBulk d + 1
  | .map entries => uptoBulkEntries entries + 1
  | .held _ => 1
def uptoBulkAll {H : Type} : List (DataW H) → Nat
  | [] => 0
  | d :: r => uptoBulk d + uptoBulkAll r
def uptoBulkEntries {H : Type} : List (Lit × DataW H) → Nat
  | [] => 0
  | x :: r => uptoBulkEntry x + uptoBulkEntries r
def uptoBulkEntry {H : Type} : Lit × DataW H → Nat
  | (.string bytes, d) => bytes.length + uptoBulk d + 1
  | (_, d) => uptoBulk d + 1
 end
def uptoSmall : (H : Type) → List (DataW H) → Bool := fun _ ds => decide (uptoBulkAll ds ≤ 1048576)
def OpenSpec.upto (s : _root_.Go.ChangeSpec) : _root_.Go.OpenSpec := { _root_.Go.OpenSpec.ofChange s with cond := some uptoSmall }

/-- 'confluencelaw8.ExprSums', WHERE WHAT IT READS IS OF BULK AT MOST 1048576: true; the input reads as it did. -/
def exprSumsUptoRow : OpenClaim := { program := "ytldleckgkgeclaa", sum := "e1f210036556beebe42ed72dee1082159a752459c26f145c93acb2cb5f23aa48", func := "confluence/confluencelaw8.ExprSums", spec := "exprSums", unfollowed := true, recurses := true, apart := false, narrowed := true }
def ExprSumsUptoSaid : Prop := exprSumsUptoRow.holds Try.pinned (OpenSpec.upto exprSumsSpec)

/-- 'confluencelaw8.ExprBranches', WHERE WHAT IT READS IS OF BULK AT MOST 1048576: true; the input reads as it did. -/
def exprBranchesUptoRow : OpenClaim := { program := "ytldleckgkgeclaa", sum := "e1f210036556beebe42ed72dee1082159a752459c26f145c93acb2cb5f23aa48", func := "confluence/confluencelaw8.ExprBranches", spec := "exprBranches", unfollowed := true, recurses := true, apart := false, narrowed := true }
def ExprBranchesUptoSaid : Prop := exprBranchesUptoRow.holds Try.pinned (OpenSpec.upto exprBranchesSpec)

/-- 'confluencelaw8.ExprTexts', WHERE WHAT IT READS IS OF BULK AT MOST 1048576: true; the input reads as it did. -/
def exprTextsUptoRow : OpenClaim := { program := "ytldleckgkgeclaa", sum := "e1f210036556beebe42ed72dee1082159a752459c26f145c93acb2cb5f23aa48", func := "confluence/confluencelaw8.ExprTexts", spec := "exprTexts", unfollowed := true, recurses := true, apart := false, narrowed := true }
def ExprTextsUptoSaid : Prop := exprTextsUptoRow.holds Try.pinned (OpenSpec.upto exprTextsSpec)

/-- 'confluencelaw8.ExprText', WHERE WHAT IT READS IS OF BULK AT MOST 1048576: true; the input reads as it did. -/
def exprTextUptoRow : OpenClaim := { program := "ytldleckgkgeclaa", sum := "e1f210036556beebe42ed72dee1082159a752459c26f145c93acb2cb5f23aa48", func := "confluence/confluencelaw8.ExprText", spec := "exprText", unfollowed := true, recurses := true, apart := false, narrowed := true }
def ExprTextUptoSaid : Prop := exprTextUptoRow.holds Try.pinned (OpenSpec.upto exprTextSpec)

/-- 'confluencelaw6.ZsetNumbers', WHERE WHAT IT READS IS OF BULK AT MOST 1048576: true; the input reads as it did. -/
def zsetNumbersUptoRow : OpenClaim := { program := "ytldleckgkgeclaa", sum := "e1f210036556beebe42ed72dee1082159a752459c26f145c93acb2cb5f23aa48", func := "confluence/confluencelaw6.ZsetNumbers", spec := "zsetNumbers", inPlace := ["math.archTrunc", "math.Float64bits", "math.Float64frombits"], unfollowed := true, recurses := true, apart := false, narrowed := true }
def ZsetNumbersUptoSaid : Prop := zsetNumbersUptoRow.holds Try.pinned (OpenSpec.upto zsetNumbersSpec)

/-- 'confluencelaw8.ExprNumbers', WHERE WHAT IT READS IS OF BULK AT MOST 1048576: true; the input reads as it did. -/
def exprNumbersUptoRow : OpenClaim := { program := "ytldleckgkgeclaa", sum := "e1f210036556beebe42ed72dee1082159a752459c26f145c93acb2cb5f23aa48", func := "confluence/confluencelaw8.ExprNumbers", spec := "exprNumbers", unfollowed := true, recurses := true, apart := false, narrowed := true }
def ExprNumbersUptoSaid : Prop := exprNumbersUptoRow.holds Try.pinned (OpenSpec.upto exprNumbersSpec)

/-- 'confluencelaw8.ExprSound', WHERE WHAT IT READS IS OF BULK AT MOST 1048576: true; the input reads as it did. -/
def exprSoundUptoRow : OpenClaim := { program := "ytldleckgkgeclaa", sum := "e1f210036556beebe42ed72dee1082159a752459c26f145c93acb2cb5f23aa48", func := "confluence/confluencelaw8.ExprSound", spec := "exprSound", unfollowed := true, recurses := true, apart := false, narrowed := true }
def ExprSoundUptoSaid : Prop := exprSoundUptoRow.holds Try.pinned (OpenSpec.upto exprSoundSpec)

end Rows
end Go.Proofs.Ytldleckgkgeclaa
