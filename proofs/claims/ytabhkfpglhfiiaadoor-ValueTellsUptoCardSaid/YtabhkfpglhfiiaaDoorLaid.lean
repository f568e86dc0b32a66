/-
  What the listed tables give: the powers of ten, whatever new blocks come; a world for the witness.
-/
import Derived.Test.YtabhkfpglhfiiaaDoorCards
import Derived.Test.YtabhkfpglhfiiaaDoorTie
import Derived.WalkKit
import Derived.ProofKit
import Derived.OpenShut
import Derived.Deep.DeepHandedRow
import Derived.Lib.LaidTab
import Derived.Lib.AppendIntMem
namespace Go.Proofs.YtabhkfpglhfiiaaDoor
open Go.ChangeShapes Go.WideShapes Go.ChangeAt Go.RowKit
theorem gPow : Tryd.prog.globalNamed "internal/strconv.uint64pow10" = some 0 := by kernel_rfl
theorem gPowType : (Tryd.prog.globals[0]?).map (·.type) = some 83 := by kernel_rfl
theorem cellsPow : Tryd.prog.cellsOf 83 = 20 := by kernel_rfl
theorem cellsU64 : Tryd.prog.cellsOf 70 = 1 := by kernel_rfl
theorem powData : (Rows.laid_internal_strconv_uint64pow10 : DataW Unit) = Lib.tabData .u64 Lib.pow10Tab := by kernel_rfl
theorem table {W : World} (h : laidMetH Tryd.prog Rows.valueShowsRow.laid W) : Lib.TabIs Tryd.prog W "internal/strconv.uint64pow10" .u64 Lib.pow10Tab := by
  have h : laidMet Tryd.prog [("math/bits.deBruijn32tab", Rows.laid_math_bits_deBruijn32tab), ("math/bits.deBruijn64tab", Rows.laid_math_bits_deBruijn64tab), ("internal/strconv.uint64pow10", Rows.laid_internal_strconv_uint64pow10)] W := h
  obtain ⟨ps, ⟨_, _, _, _, _, q1, _, _, _, _, h1, _⟩, _⟩ := h
  obtain ⟨_, _, _, _, _, q2, _, _, _, _, h2, _⟩ := h1
  obtain ⟨g', t', cs, fuel, p, q, hg', ht', hvar, hd, _, _⟩ := h2
  obtain rfl := Option.some.inj (gPow.symm.trans hg')
  obtain rfl := Option.some.inj (gPowType.symm.trans ht')
  rw [powData] at hd
  unfold Lib.TabIs
  rw [hvar, ← Lib.cells_of_tab Tryd.underlying83 Tryd.underlying70 cellsU64 cellsPow hd]
theorem tableB {W : World} (h : laidMetH Tryd.prog Rows.valueShowsRow.laid W) : Lib.TabBelow Tryd.prog W.heap.size W "internal/strconv.uint64pow10" .u64 Lib.pow10Tab := Lib.tabBelow_of_tabIs (table h)

def cellsOfData {H : Type} : DataW H → List Value
  | .agg parts => parts.map fun d => match d with | .lit (.int k n) => Value.int k n | _ => undef
  | _ => []
def setBlock (w : World) (g : Nat) (cs : Array Value) : World := { w with heap := w.heap.modify g fun
  | .cells _ t frozen => .cells cs t frozen
  | o => o }
noncomputable def laidWorld (os : Os) : World :=
  setBlock (setBlock (setBlock (World.holding Tryd.prog os ⟨#[], #[], []⟩) 1 (cellsOfData (H := Unit) Rows.laid_math_bits_deBruijn32tab).toArray) 2 (cellsOfData (H := Unit) Rows.laid_math_bits_deBruijn64tab).toArray) 0 (cellsOfData (H := Unit) Rows.laid_internal_strconv_uint64pow10).toArray
end Go.Proofs.YtabhkfpglhfiiaaDoor
