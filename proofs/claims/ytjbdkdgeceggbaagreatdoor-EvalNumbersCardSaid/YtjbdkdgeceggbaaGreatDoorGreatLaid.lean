/-
  A world for the witness: the listed tables are laid in it.
-/
import Derived.Test.YtjbdkdgeceggbaaGreatDoorCards
import Derived.Test.YtjbdkdgeceggbaaGreatDoorTie
import Derived.WalkKit
import Derived.ProofKit
import Derived.OpenShut
import Derived.Deep.DeepHandedRow
import Derived.Lib.LaidTab
import Derived.Lib.AppendIntMem
namespace Go.Proofs.YtjbdkdgeceggbaaGreatDoor
open Go.ChangeShapes Go.WideShapes Go.ChangeAt Go.RowKit
def cellsOfData {H : Type} : DataW H → List Value
  | .agg parts => parts.map fun d => match d with | .lit (.int k n) => Value.int k n | _ => undef
  | _ => []
def setBlock (w : World) (g : Nat) (cs : Array Value) : World := { w with heap := w.heap.modify g fun
  | .cells _ t frozen => .cells cs t frozen
  | o => o }
def textOf {H : Type} : DataW H → ByteArray
  | .iface _ (.ptr (.agg [.lit (.string l)])) => ⟨l.toArray⟩
  | _ => ⟨#[]⟩
/-- a new block that holds the error's text; the variable holds its address -/
def setErr (w : World) (g : Nat) (s : ByteArray) : World :=
  let w1 : World := { w with heap := w.heap.push (.cells #[.string s] 457 (0, 0)) }
  setBlock w1 g #[.iface 455 (.pointer (some ⟨w.heap.size, 0, none⟩))]
noncomputable def laidWorld (os : Os) : World :=
  setErr (setErr (setBlock (setBlock (setBlock (World.holding Tryz.prog os ⟨#[], #[], []⟩) 3 (cellsOfData (H := Unit) Rows.laid_math_bits_deBruijn32tab).toArray) 4 (cellsOfData (H := Unit) Rows.laid_math_bits_deBruijn64tab).toArray) 0 (cellsOfData (H := Unit) Rows.laid_internal_strconv_uint64pow10).toArray)
    6 (textOf (H := Unit) Rows.laid_strconv_ErrRange)) 5 (textOf (H := Unit) Rows.laid_strconv_ErrSyntax)
end Go.Proofs.YtjbdkdgeceggbaaGreatDoor
