/-
  CheckNumbers: run by the kernel in pieces, from state to state: pieces 1 to 7.
-/
import Derived.Test.YtjbdkdgeceggbaaGreatDoorCheckNumbersS2
namespace Go.Proofs.YtjbdkdgeceggbaaGreatDoor
open Go.RowKit
set_option maxRecDepth 1000000
theorem cnC1 : chunk Tryz.prog 100000 cnD1 cnP0 cnS0 cnS1 = true := by kernel_rfl
theorem cnC2 : chunk Tryz.prog 100000 cnD2 cnP1 cnS1 cnS2 = true := by kernel_rfl
theorem cnC3 : chunk Tryz.prog 100000 cnD3 cnP2 cnS2 cnS3 = true := by kernel_rfl
theorem cnC4 : chunk Tryz.prog 100000 cnD4 cnP3 cnS3 cnS4 = true := by kernel_rfl
theorem cnC5 : chunk Tryz.prog 100000 cnD5 cnP4 cnS4 cnS5 = true := by kernel_rfl
theorem cnC6 : chunk Tryz.prog 100000 cnD6 cnP5 cnS5 cnS6 = true := by kernel_rfl
theorem cnC7 : chunk Tryz.prog 100000 cnD7 cnP6 cnS6 cnS7 = true := by kernel_rfl
end Go.Proofs.YtjbdkdgeceggbaaGreatDoor
