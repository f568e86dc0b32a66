/-
  EvalNumbers: run by the kernel in pieces, from state to state: pieces 5 to 8.
-/
import Derived.Test.YtjbdkdgeceggbaaGreatDoorEvalNumbersS2
namespace Go.Proofs.YtjbdkdgeceggbaaGreatDoor
open Go.RowKit
set_option maxRecDepth 1000000
theorem enC5 : chunkM Tryz.prog 100000 enD5 enP4 enS4 enS5 = true := by kernel_rfl
theorem enC6 : chunkM Tryz.prog 100000 enD6 enP5 enS5 enS6 = true := by kernel_rfl
theorem enC7 : chunkM Tryz.prog 100000 enD7 enP6 enS6 enS7 = true := by kernel_rfl
theorem enC8 : chunkM Tryz.prog 100000 enD8 enP7 enS7 enS8 = true := by kernel_rfl
end Go.Proofs.YtjbdkdgeceggbaaGreatDoor
