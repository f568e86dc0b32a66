/-
  EvalNumbers: run by the kernel in pieces, from state to state: pieces 9 to 12.
-/
import Derived.Test.YtjbdkdgeceggbaaGreatDoorEvalNumbersS2
namespace Go.Proofs.YtjbdkdgeceggbaaGreatDoor
open Go.RowKit
set_option maxRecDepth 1000000
theorem enC9 : chunkM Tryz.prog 100000 enD9 enP8 enS8 enS9 = true := by kernel_rfl
theorem enC10 : chunkM Tryz.prog 100000 enD10 enP9 enS9 enS10 = true := by kernel_rfl
theorem enC11 : chunkM Tryz.prog 100000 enD11 enP10 enS10 enS11 = true := by kernel_rfl
theorem enC12 : chunkM Tryz.prog 100000 enD12 enP11 enS11 enS12 = true := by kernel_rfl
end Go.Proofs.YtjbdkdgeceggbaaGreatDoor
