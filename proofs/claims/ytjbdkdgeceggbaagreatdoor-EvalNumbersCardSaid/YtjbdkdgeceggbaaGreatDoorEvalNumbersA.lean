/-
  EvalNumbers: run by the kernel in pieces, from state to state: pieces 1 to 4.
-/
import Derived.Test.YtjbdkdgeceggbaaGreatDoorEvalNumbersS2
namespace Go.Proofs.YtjbdkdgeceggbaaGreatDoor
open Go.RowKit
set_option maxRecDepth 1000000
theorem enC1 : chunkM Tryz.prog 100000 enD1 enP0 enS0 enS1 = true := by kernel_rfl
theorem enC2 : chunkM Tryz.prog 100000 enD2 enP1 enS1 enS2 = true := by kernel_rfl
theorem enC3 : chunkM Tryz.prog 100000 enD3 enP2 enS2 enS3 = true := by kernel_rfl
theorem enC4 : chunkM Tryz.prog 100000 enD4 enP3 enS3 enS4 = true := by kernel_rfl
end Go.Proofs.YtjbdkdgeceggbaaGreatDoor
