/-
  CheckNumbers: run by the kernel in pieces, from state to state: pieces 43 to 49.
-/
import Derived.Test.YtjbdkdgeceggbaaGreatDoorCheckNumbersS2
namespace Go.Proofs.YtjbdkdgeceggbaaGreatDoor
open Go.RowKit
set_option maxRecDepth 1000000
theorem cnC43 : chunk Tryz.prog 100000 cnD43 cnP42 cnS42 cnS43 = true := by kernel_rfl
theorem cnC44 : chunk Tryz.prog 100000 cnD44 cnP43 cnS43 cnS44 = true := by kernel_rfl
theorem cnC45 : chunk Tryz.prog 100000 cnD45 cnP44 cnS44 cnS45 = true := by kernel_rfl
theorem cnC46 : chunk Tryz.prog 100000 cnD46 cnP45 cnS45 cnS46 = true := by kernel_rfl
theorem cnC47 : chunk Tryz.prog 100000 cnD47 cnP46 cnS46 cnS47 = true := by kernel_rfl
theorem cnC48 : chunk Tryz.prog 100000 cnD48 cnP47 cnS47 cnS48 = true := by kernel_rfl
theorem cnC49 : chunk Tryz.prog 100000 cnD49 cnP48 cnS48 cnS49 = true := by kernel_rfl
end Go.Proofs.YtjbdkdgeceggbaaGreatDoor
