/-
  EvalNumbers: run by the kernel in pieces, from state to state: pieces 17 to 20.
-/
import Derived.Test.YtjbdkdgeceggbaaGreatDoorEvalNumbersS2
namespace Go.Proofs.YtjbdkdgeceggbaaGreatDoor
open Go.RowKit
set_option maxRecDepth 1000000
theorem enC17 : chunkM Tryz.prog 100000 enD17 enP16 enS16 enS17 = true := by kernel_rfl
theorem enC18 : chunkM Tryz.prog 100000 enD18 enP17 enS17 enS18 = true := by kernel_rfl
theorem enC19 : chunkM Tryz.prog 100000 enD19 enP18 enS18 enS19 = true := by kernel_rfl
theorem enC20 : chunkM Tryz.prog 100000 enD20 enP19 enS19 enS20 = true := by kernel_rfl
end Go.Proofs.YtjbdkdgeceggbaaGreatDoor
