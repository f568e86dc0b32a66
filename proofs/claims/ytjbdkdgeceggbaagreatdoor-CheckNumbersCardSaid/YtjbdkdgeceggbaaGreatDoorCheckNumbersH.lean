/-
  CheckNumbers: run by the kernel in pieces, from state to state: pieces 50 to 50.
-/
import Derived.Test.YtjbdkdgeceggbaaGreatDoorCheckNumbersS2
namespace Go.Proofs.YtjbdkdgeceggbaaGreatDoor
open Go.RowKit
set_option maxRecDepth 1000000
theorem cnC50 : chunk Tryz.prog 100000 cnD50 cnP49 cnS49 cnS50 = true := by kernel_rfl
end Go.Proofs.YtjbdkdgeceggbaaGreatDoor
