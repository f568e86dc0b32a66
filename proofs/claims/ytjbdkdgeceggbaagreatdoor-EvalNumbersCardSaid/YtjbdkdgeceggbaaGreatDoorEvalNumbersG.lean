/-
  EvalNumbers: run by the kernel in pieces, from state to state: pieces 25 to 28.
-/
import Derived.Test.YtjbdkdgeceggbaaGreatDoorEvalNumbersS2
namespace Go.Proofs.YtjbdkdgeceggbaaGreatDoor
open Go.RowKit
set_option maxRecDepth 1000000
theorem enC25 : chunkM Tryz.prog 100000 enD25 enP24 enS24 enS25 = true := by kernel_rfl
theorem enC26 : chunkM Tryz.prog 100000 enD26 enP25 enS25 enS26 = true := by kernel_rfl
theorem enC27 : chunkM Tryz.prog 100000 enD27 enP26 enS26 enS27 = true := by kernel_rfl
theorem enC28 : chunkM Tryz.prog 100000 enD28 enP27 enS27 enS28 = true := by kernel_rfl
end Go.Proofs.YtjbdkdgeceggbaaGreatDoor
