/-
  EvalNumbers: run by the kernel in pieces, from state to state: pieces 29 to 32.
-/
import Derived.Test.YtjbdkdgeceggbaaGreatDoorEvalNumbersS2
namespace Go.Proofs.YtjbdkdgeceggbaaGreatDoor
open Go.RowKit
set_option maxRecDepth 1000000
theorem enC29 : chunkM Tryz.prog 100000 enD29 enP28 enS28 enS29 = true := by kernel_rfl
theorem enC30 : chunkM Tryz.prog 100000 enD30 enP29 enS29 enS30 = true := by kernel_rfl
theorem enC31 : chunkM Tryz.prog 100000 enD31 enP30 enS30 enS31 = true := by kernel_rfl
theorem enC32 : chunkM Tryz.prog 100000 enD32 enP31 enS31 enS32 = true := by kernel_rfl
end Go.Proofs.YtjbdkdgeceggbaaGreatDoor
