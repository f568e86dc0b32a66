/-
  EvalNumbers: run by the kernel in pieces, from state to state: pieces 33 to 36.
-/
import Derived.Test.YtjbdkdgeceggbaaGreatDoorEvalNumbersS2
namespace Go.Proofs.YtjbdkdgeceggbaaGreatDoor
open Go.RowKit
set_option maxRecDepth 1000000
theorem enC33 : chunkM Tryz.prog 100000 enD33 enP32 enS32 enS33 = true := by kernel_rfl
theorem enC34 : chunkM Tryz.prog 100000 enD34 enP33 enS33 enS34 = true := by kernel_rfl
theorem enC35 : chunkM Tryz.prog 100000 enD35 enP34 enS34 enS35 = true := by kernel_rfl
theorem enC36 : chunkM Tryz.prog 100000 enD36 enP35 enS35 enS36 = true := by kernel_rfl
end Go.Proofs.YtjbdkdgeceggbaaGreatDoor
