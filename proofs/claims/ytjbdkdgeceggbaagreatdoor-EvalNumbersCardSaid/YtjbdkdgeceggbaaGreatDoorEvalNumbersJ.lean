/-
  EvalNumbers: run by the kernel in pieces, from state to state: pieces 37 to 38.
-/
import Derived.Test.YtjbdkdgeceggbaaGreatDoorEvalNumbersS2
namespace Go.Proofs.YtjbdkdgeceggbaaGreatDoor
open Go.RowKit
set_option maxRecDepth 1000000
theorem enC37 : chunkM Tryz.prog 100000 enD37 enP36 enS36 enS37 = true := by kernel_rfl
theorem enC38 : chunkM Tryz.prog 100000 enD38 enP37 enS37 enS38 = true := by kernel_rfl
end Go.Proofs.YtjbdkdgeceggbaaGreatDoor
