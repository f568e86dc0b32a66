/-
  CheckNumbers: run by the kernel in pieces, from state to state: pieces 22 to 28.
-/
import Derived.Test.YtjbdkdgeceggbaaGreatDoorCheckNumbersS2
namespace Go.Proofs.YtjbdkdgeceggbaaGreatDoor
open Go.RowKit
set_option maxRecDepth 1000000
theorem cnC22 : chunk Tryz.prog 100000 cnD22 cnP21 cnS21 cnS22 = true := by kernel_rfl
theorem cnC23 : chunk Tryz.prog 100000 cnD23 cnP22 cnS22 cnS23 = true := by kernel_rfl
theorem cnC24 : chunk Tryz.prog 100000 cnD24 cnP23 cnS23 cnS24 = true := by kernel_rfl
theorem cnC25 : chunk Tryz.prog 100000 cnD25 cnP24 cnS24 cnS25 = true := by kernel_rfl
theorem cnC26 : chunk Tryz.prog 100000 cnD26 cnP25 cnS25 cnS26 = true := by kernel_rfl
theorem cnC27 : chunk Tryz.prog 100000 cnD27 cnP26 cnS26 cnS27 = true := by kernel_rfl
theorem cnC28 : chunk Tryz.prog 100000 cnD28 cnP27 cnS27 cnS28 = true := by kernel_rfl
end Go.Proofs.YtjbdkdgeceggbaaGreatDoor
