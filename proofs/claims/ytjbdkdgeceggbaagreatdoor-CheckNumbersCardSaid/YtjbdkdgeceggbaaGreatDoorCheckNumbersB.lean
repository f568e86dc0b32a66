/-
  CheckNumbers: run by the kernel in pieces, from state to state: pieces 8 to 14.
-/
import Derived.Test.YtjbdkdgeceggbaaGreatDoorCheckNumbersS2
namespace Go.Proofs.YtjbdkdgeceggbaaGreatDoor
open Go.RowKit
set_option maxRecDepth 1000000
theorem cnC8 : chunk Tryz.prog 100000 cnD8 cnP7 cnS7 cnS8 = true := by kernel_rfl
theorem cnC9 : chunk Tryz.prog 100000 cnD9 cnP8 cnS8 cnS9 = true := by kernel_rfl
theorem cnC10 : chunk Tryz.prog 100000 cnD10 cnP9 cnS9 cnS10 = true := by kernel_rfl
theorem cnC11 : chunk Tryz.prog 100000 cnD11 cnP10 cnS10 cnS11 = true := by kernel_rfl
theorem cnC12 : chunk Tryz.prog 100000 cnD12 cnP11 cnS11 cnS12 = true := by kernel_rfl
theorem cnC13 : chunk Tryz.prog 100000 cnD13 cnP12 cnS12 cnS13 = true := by kernel_rfl
theorem cnC14 : chunk Tryz.prog 100000 cnD14 cnP13 cnS13 cnS14 = true := by kernel_rfl
end Go.Proofs.YtjbdkdgeceggbaaGreatDoor
