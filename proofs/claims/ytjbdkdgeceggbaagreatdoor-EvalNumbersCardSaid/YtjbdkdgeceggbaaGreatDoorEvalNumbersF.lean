/-
  EvalNumbers: run by the kernel in pieces, from state to state: pieces 21 to 24.
-/
import Derived.Test.YtjbdkdgeceggbaaGreatDoorEvalNumbersS2
namespace Go.Proofs.YtjbdkdgeceggbaaGreatDoor
open Go.RowKit
set_option maxRecDepth 1000000
theorem enC21 : chunkM Tryz.prog 100000 enD21 enP20 enS20 enS21 = true := by kernel_rfl
theorem enC22 : chunkM Tryz.prog 100000 enD22 enP21 enS21 enS22 = true := by kernel_rfl
theorem enC23 : chunkM Tryz.prog 100000 enD23 enP22 enS22 enS23 = true := by kernel_rfl
theorem enC24 : chunkM Tryz.prog 100000 enD24 enP23 enS23 enS24 = true := by kernel_rfl
end Go.Proofs.YtjbdkdgeceggbaaGreatDoor
