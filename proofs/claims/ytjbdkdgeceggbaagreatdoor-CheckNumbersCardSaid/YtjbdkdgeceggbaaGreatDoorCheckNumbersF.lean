/-
  CheckNumbers: run by the kernel in pieces, from state to state: pieces 36 to 42.
-/
import Derived.Test.YtjbdkdgeceggbaaGreatDoorCheckNumbersS2
namespace Go.Proofs.YtjbdkdgeceggbaaGreatDoor
open Go.RowKit
set_option maxRecDepth 1000000
theorem cnC36 : chunk Tryz.prog 100000 cnD36 cnP35 cnS35 cnS36 = true := by kernel_rfl
theorem cnC37 : chunk Tryz.prog 100000 cnD37 cnP36 cnS36 cnS37 = true := by kernel_rfl
theorem cnC38 : chunk Tryz.prog 100000 cnD38 cnP37 cnS37 cnS38 = true := by kernel_rfl
theorem cnC39 : chunk Tryz.prog 100000 cnD39 cnP38 cnS38 cnS39 = true := by kernel_rfl
theorem cnC40 : chunk Tryz.prog 100000 cnD40 cnP39 cnS39 cnS40 = true := by kernel_rfl
theorem cnC41 : chunk Tryz.prog 100000 cnD41 cnP40 cnS40 cnS41 = true := by kernel_rfl
theorem cnC42 : chunk Tryz.prog 100000 cnD42 cnP41 cnS41 cnS42 = true := by kernel_rfl
end Go.Proofs.YtjbdkdgeceggbaaGreatDoor
