/-
  EvalNumbers: run by the kernel in pieces, from state to state: pieces 13 to 16.
-/
import Derived.Test.YtjbdkdgeceggbaaGreatDoorEvalNumbersS2
namespace Go.Proofs.YtjbdkdgeceggbaaGreatDoor
open Go.RowKit
set_option maxRecDepth 1000000
theorem enC13 : chunkM Tryz.prog 100000 enD13 enP12 enS12 enS13 = true := by kernel_rfl
theorem enC14 : chunkM Tryz.prog 100000 enD14 enP13 enS13 enS14 = true := by kernel_rfl
theorem enC15 : chunkM Tryz.prog 100000 enD15 enP14 enS14 enS15 = true := by kernel_rfl
theorem enC16 : chunkM Tryz.prog 100000 enD16 enP15 enS15 enS16 = true := by kernel_rfl
end Go.Proofs.YtjbdkdgeceggbaaGreatDoor
