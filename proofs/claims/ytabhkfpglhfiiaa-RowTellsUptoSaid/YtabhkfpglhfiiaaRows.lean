/-
  No cell of these rows narrows 'for every input' (looked for: loops, veiled, ifaces, maps, wideKeys, modest, calm, conditions, laid).
  DERIVED. THE GIVEN ROWS OF THIS SEAT. 7 by the template 'for every input the law returns true; each argument reads behind the call as it read before'; 0 by the template 'total and deterministic' (their statements: YtabhkfpglhfiiaaTotals.lean).
  GIVEN WITH THE SEED: the statements are not yours to turn. If you find one false, say at which input.
  Laid BY PROGRAM, IN A SANDBOX (cutbox-rows.mjs): the forced cells as the released guide's own fill.sh prints them over the translation ebf1e5c4eab62bf1… (all of the seat's roots in one cut). By AI agents, Wed Nov 11 2026. No macro, syntax, notation, axiom, sorry.
-/
import Derived.Test.YtabhkfpglhfiiaaChecked
import GoSem.Claim
import GoSem.ClaimJoined
import GoSem.ClaimMapViews
import Derived.JoinedTies
import Derived.KernelRfl
namespace Go.Proofs.Ytabhkfpglhfiiaa
/- THE CELL 'sum', in the pinned program and in every row, IS THE sha256 OF THE DUMP (.gsa) THAT YtabhkfpglhfiiaaProg.lean LOADS. Nothing in Lean hashes anything: it is a label: what it is worth is what the hold of that sum in a sandbox is worth. -/
noncomputable def Try.pinned : Pinned := { name := "ytabhkfpglhfiiaa", sum := "ebf1e5c4eab62bf14505f320966b718d0d77c32cbea562d8f96733c42d71e7b1", checked := Try.checked }
namespace Rows
def none {H : Type} : Left H := { results := [], args := [] }

/-- 'confluencelaw3.TallyNumbers': WHATEVER THE INPUT: true; the input reads as it did. -/
def tallyNumbersSpec : ChangeSpec := { name := "tallyNumbers", fn := fun _ => fun
  | [] => { results := [.lit (.bool true)], args := [] }
  | _ => none }
def tallyNumbersRow : OpenClaim := { program := "ytabhkfpglhfiiaa", sum := "ebf1e5c4eab62bf14505f320966b718d0d77c32cbea562d8f96733c42d71e7b1", func := "confluence/confluencelaw3.TallyNumbers", spec := "tallyNumbers", inPlace := ["math.archTrunc", "math.Float64bits", "math.Float64frombits"], apart := false }
def TallyNumbersSaid : Prop := tallyNumbersRow.holds Try.pinned (OpenSpec.ofChange tallyNumbersSpec)

/-- ITS FALSE NEIGHBOUR: 'it returns false'. Refute it at one input. -/
def tallyNumbersWrong : ChangeSpec := { name := "tallyNumbers", fn := fun _ => fun
  | [] => { results := [.lit (.bool false)], args := [] }
  | _ => none }
def TallyNumbersWrongFalsely : Prop := tallyNumbersRow.holds Try.pinned (OpenSpec.ofChange tallyNumbersWrong)

/-- 'confluencelaw3.TallyRules': WHATEVER THE INPUT: true; the input reads as it did. -/
def tallyRulesSpec : ChangeSpec := { name := "tallyRules", fn := fun _ => fun
  | [d1, d2, d3, d4, d5, d6] => { results := [.lit (.bool true)], args := [d1, d2, d3, d4, d5, d6] }
  | _ => none }
def tallyRulesRow : OpenClaim := { program := "ytabhkfpglhfiiaa", sum := "ebf1e5c4eab62bf14505f320966b718d0d77c32cbea562d8f96733c42d71e7b1", func := "confluence/confluencelaw3.TallyRules", spec := "tallyRules", inPlace := ["math.archTrunc", "math.Float64bits", "math.Float64frombits"], apart := false }
def TallyRulesSaid : Prop := tallyRulesRow.holds Try.pinned (OpenSpec.ofChange tallyRulesSpec)

/-- ITS FALSE NEIGHBOUR: 'it returns false'. Refute it at one input. -/
def tallyRulesWrong : ChangeSpec := { name := "tallyRules", fn := fun _ => fun
  | [d1, d2, d3, d4, d5, d6] => { results := [.lit (.bool false)], args := [d1, d2, d3, d4, d5, d6] }
  | _ => none }
def TallyRulesWrongFalsely : Prop := tallyRulesRow.holds Try.pinned (OpenSpec.ofChange tallyRulesWrong)

/-- 'confluencelaw3.TallyParts': WHATEVER THE INPUT: true; the input reads as it did. -/
def tallyPartsSpec : ChangeSpec := { name := "tallyParts", fn := fun _ => fun
  | [d1, d2] => { results := [.lit (.bool true)], args := [d1, d2] }
  | _ => none }
def tallyPartsRow : OpenClaim := { program := "ytabhkfpglhfiiaa", sum := "ebf1e5c4eab62bf14505f320966b718d0d77c32cbea562d8f96733c42d71e7b1", func := "confluence/confluencelaw3.TallyParts", spec := "tallyParts", inPlace := ["math.archTrunc", "math.Float64bits", "math.Float64frombits"], apart := false }
def TallyPartsSaid : Prop := tallyPartsRow.holds Try.pinned (OpenSpec.ofChange tallyPartsSpec)

/-- ITS FALSE NEIGHBOUR: 'it returns false'. Refute it at one input. -/
def tallyPartsWrong : ChangeSpec := { name := "tallyParts", fn := fun _ => fun
  | [d1, d2] => { results := [.lit (.bool false)], args := [d1, d2] }
  | _ => none }
def TallyPartsWrongFalsely : Prop := tallyPartsRow.holds Try.pinned (OpenSpec.ofChange tallyPartsWrong)

/-- 'confluencelaw5.RowFinds': WHATEVER THE INPUT: true; the input reads as it did. -/
def rowFindsSpec : ChangeSpec := { name := "rowFinds", fn := fun _ => fun
  | [d1, d2, d3, d4] => { results := [.lit (.bool true)], args := [d1, d2, d3, d4] }
  | _ => none }
def rowFindsRow : OpenClaim := { program := "ytabhkfpglhfiiaa", sum := "ebf1e5c4eab62bf14505f320966b718d0d77c32cbea562d8f96733c42d71e7b1", func := "confluence/confluencelaw5.RowFinds", spec := "rowFinds", unfollowed := true, recurses := true, apart := false }
def RowFindsSaid : Prop := rowFindsRow.holds Try.pinned (OpenSpec.ofChange rowFindsSpec)

/-- ITS FALSE NEIGHBOUR: 'it returns false'. Refute it at one input. -/
def rowFindsWrong : ChangeSpec := { name := "rowFinds", fn := fun _ => fun
  | [d1, d2, d3, d4] => { results := [.lit (.bool false)], args := [d1, d2, d3, d4] }
  | _ => none }
def RowFindsWrongFalsely : Prop := rowFindsRow.holds Try.pinned (OpenSpec.ofChange rowFindsWrong)

/-- 'confluencelaw5.RowNumbers': WHATEVER THE INPUT: true; the input reads as it did. -/
def rowNumbersSpec : ChangeSpec := { name := "rowNumbers", fn := fun _ => fun
  | [] => { results := [.lit (.bool true)], args := [] }
  | _ => none }
def rowNumbersRow : OpenClaim := { program := "ytabhkfpglhfiiaa", sum := "ebf1e5c4eab62bf14505f320966b718d0d77c32cbea562d8f96733c42d71e7b1", func := "confluence/confluencelaw5.RowNumbers", spec := "rowNumbers", unfollowed := true, recurses := true, apart := false }
def RowNumbersSaid : Prop := rowNumbersRow.holds Try.pinned (OpenSpec.ofChange rowNumbersSpec)

/-- ITS FALSE NEIGHBOUR: 'it returns false'. Refute it at one input. -/
def rowNumbersWrong : ChangeSpec := { name := "rowNumbers", fn := fun _ => fun
  | [] => { results := [.lit (.bool false)], args := [] }
  | _ => none }
def RowNumbersWrongFalsely : Prop := rowNumbersRow.holds Try.pinned (OpenSpec.ofChange rowNumbersWrong)

/-- 'confluencelaw5.RowOrder': WHATEVER THE INPUT: true; the input reads as it did. -/
def rowOrderSpec : ChangeSpec := { name := "rowOrder", fn := fun _ => fun
  | [d1, d2, d3] => { results := [.lit (.bool true)], args := [d1, d2, d3] }
  | _ => none }
def rowOrderRow : OpenClaim := { program := "ytabhkfpglhfiiaa", sum := "ebf1e5c4eab62bf14505f320966b718d0d77c32cbea562d8f96733c42d71e7b1", func := "confluence/confluencelaw5.RowOrder", spec := "rowOrder", unfollowed := true, recurses := true, apart := false }
def RowOrderSaid : Prop := rowOrderRow.holds Try.pinned (OpenSpec.ofChange rowOrderSpec)

/-- ITS FALSE NEIGHBOUR: 'it returns false'. Refute it at one input. -/
def rowOrderWrong : ChangeSpec := { name := "rowOrder", fn := fun _ => fun
  | [d1, d2, d3] => { results := [.lit (.bool false)], args := [d1, d2, d3] }
  | _ => none }
def RowOrderWrongFalsely : Prop := rowOrderRow.holds Try.pinned (OpenSpec.ofChange rowOrderWrong)

/-- 'confluencelaw5.RowTells': WHATEVER THE INPUT: true; the input reads as it did. -/
def rowTellsSpec : ChangeSpec := { name := "rowTells", fn := fun _ => fun
  | [d1, d2, d3, d4, d5] => { results := [.lit (.bool true)], args := [d1, d2, d3, d4, d5] }
  | _ => none }
def rowTellsRow : OpenClaim := { program := "ytabhkfpglhfiiaa", sum := "ebf1e5c4eab62bf14505f320966b718d0d77c32cbea562d8f96733c42d71e7b1", func := "confluence/confluencelaw5.RowTells", spec := "rowTells", unfollowed := true, recurses := true, apart := false }
def RowTellsSaid : Prop := rowTellsRow.holds Try.pinned (OpenSpec.ofChange rowTellsSpec)

/-- ITS FALSE NEIGHBOUR: 'it returns false'. Refute it at one input. -/
def rowTellsWrong : ChangeSpec := { name := "rowTells", fn := fun _ => fun
  | [d1, d2, d3, d4, d5] => { results := [.lit (.bool false)], args := [d1, d2, d3, d4, d5] }
  | _ => none }
def RowTellsWrongFalsely : Prop := rowTellsRow.holds Try.pinned (OpenSpec.ofChange rowTellsWrong)

/- THE SECOND FORM. 'bulk': how many values and letters a reading holds, each counted each time it is reached (what is shared counts as often as it is met; a slice's spare places count too). A statement '..UptoSaid' is the law's where the arguments, and the package variables that the reading takes, are together of bulk at most 1048576: NARROWER than '..Said'. Prove '..Said' where nothing that the law and all that it calls make is longer than what came in: it says more and counts as full. Else prove '..UptoSaid'. A law counts once. -/
mutual
def uptoBulk {H : Type} : DataW H → Nat
  | .lit (.string bytes) => bytes.length + 1
  | .lit _ => 1
  | .nil => 1
  | .ptr d => uptoBulk d + 1
  | .slice elems spare => uptoBulkAll elems + uptoBulkAll spare + 1
  | .agg parts => uptoBulkAll parts + 1
  | .iface _ d => uptoBulk d + 1
  | .map entries => uptoBulkEntries entries + 1
  | .held _ => 1
def uptoBulkAll {H : Type} : List (DataW H) → Nat
  | [] => 0
  | d :: r => uptoBulk d + uptoBulkAll r
def uptoBulkEntries {H : Type} : List (Lit × DataW H) → Nat
  | [] => 0
  | x :: r => uptoBulkEntry x + uptoBulkEntries r
def uptoBulkEntry {H : Type} : Lit × DataW H → Nat
  | (.string bytes, d) => bytes.length + uptoBulk d + 1
  | (_, d) => uptoBulk d + 1
 end
def uptoSmall : (H : Type) → List (DataW H) → Bool := fun _ ds => decide (uptoBulkAll ds ≤ 1048576)
def OpenSpec.upto (s : _root_.Go.ChangeSpec) : _root_.Go.OpenSpec := { _root_.Go.OpenSpec.ofChange s with cond := some uptoSmall }

/-- 'confluencelaw3.TallyNumbers', WHERE WHAT IT READS IS OF BULK AT MOST 1048576: true; the input reads as it did. -/
def tallyNumbersUptoRow : OpenClaim := { program := "ytabhkfpglhfiiaa", sum := "ebf1e5c4eab62bf14505f320966b718d0d77c32cbea562d8f96733c42d71e7b1", func := "confluence/confluencelaw3.TallyNumbers", spec := "tallyNumbers", inPlace := ["math.archTrunc", "math.Float64bits", "math.Float64frombits"], apart := false, narrowed := true }
def TallyNumbersUptoSaid : Prop := tallyNumbersUptoRow.holds Try.pinned (OpenSpec.upto tallyNumbersSpec)

/-- 'confluencelaw3.TallyRules', WHERE WHAT IT READS IS OF BULK AT MOST 1048576: true; the input reads as it did. -/
def tallyRulesUptoRow : OpenClaim := { program := "ytabhkfpglhfiiaa", sum := "ebf1e5c4eab62bf14505f320966b718d0d77c32cbea562d8f96733c42d71e7b1", func := "confluence/confluencelaw3.TallyRules", spec := "tallyRules", inPlace := ["math.archTrunc", "math.Float64bits", "math.Float64frombits"], apart := false, narrowed := true }
def TallyRulesUptoSaid : Prop := tallyRulesUptoRow.holds Try.pinned (OpenSpec.upto tallyRulesSpec)

/-- 'confluencelaw3.TallyParts', WHERE WHAT IT READS IS OF BULK AT MOST 1048576: true; the input reads as it did. -/
def tallyPartsUptoRow : OpenClaim := { program := "ytabhkfpglhfiiaa", sum := "ebf1e5c4eab62bf14505f320966b718d0d77c32cbea562d8f96733c42d71e7b1", func := "confluence/confluencelaw3.TallyParts", spec := "tallyParts", inPlace := ["math.archTrunc", "math.Float64bits", "math.Float64frombits"], apart := false, narrowed := true }
def TallyPartsUptoSaid : Prop := tallyPartsUptoRow.holds Try.pinned (OpenSpec.upto tallyPartsSpec)

/-- 'confluencelaw5.RowFinds', WHERE WHAT IT READS IS OF BULK AT MOST 1048576: true; the input reads as it did. -/
def rowFindsUptoRow : OpenClaim := { program := "ytabhkfpglhfiiaa", sum := "ebf1e5c4eab62bf14505f320966b718d0d77c32cbea562d8f96733c42d71e7b1", func := "confluence/confluencelaw5.RowFinds", spec := "rowFinds", unfollowed := true, recurses := true, apart := false, narrowed := true }
def RowFindsUptoSaid : Prop := rowFindsUptoRow.holds Try.pinned (OpenSpec.upto rowFindsSpec)

/-- 'confluencelaw5.RowNumbers', WHERE WHAT IT READS IS OF BULK AT MOST 1048576: true; the input reads as it did. -/
def rowNumbersUptoRow : OpenClaim := { program := "ytabhkfpglhfiiaa", sum := "ebf1e5c4eab62bf14505f320966b718d0d77c32cbea562d8f96733c42d71e7b1", func := "confluence/confluencelaw5.RowNumbers", spec := "rowNumbers", unfollowed := true, recurses := true, apart := false, narrowed := true }
def RowNumbersUptoSaid : Prop := rowNumbersUptoRow.holds Try.pinned (OpenSpec.upto rowNumbersSpec)

/-- 'confluencelaw5.RowOrder', WHERE WHAT IT READS IS OF BULK AT MOST 1048576: true; the input reads as it did. -/
def rowOrderUptoRow : OpenClaim := { program := "ytabhkfpglhfiiaa", sum := "ebf1e5c4eab62bf14505f320966b718d0d77c32cbea562d8f96733c42d71e7b1", func := "confluence/confluencelaw5.RowOrder", spec := "rowOrder", unfollowed := true, recurses := true, apart := false, narrowed := true }
def RowOrderUptoSaid : Prop := rowOrderUptoRow.holds Try.pinned (OpenSpec.upto rowOrderSpec)

/-- 'confluencelaw5.RowTells', WHERE WHAT IT READS IS OF BULK AT MOST 1048576: true; the input reads as it did. -/
def rowTellsUptoRow : OpenClaim := { program := "ytabhkfpglhfiiaa", sum := "ebf1e5c4eab62bf14505f320966b718d0d77c32cbea562d8f96733c42d71e7b1", func := "confluence/confluencelaw5.RowTells", spec := "rowTells", unfollowed := true, recurses := true, apart := false, narrowed := true }
def RowTellsUptoSaid : Prop := rowTellsUptoRow.holds Try.pinned (OpenSpec.upto rowTellsSpec)

end Rows
end Go.Proofs.Ytabhkfpglhfiiaa
