/-
  CheckNumbers: run by the kernel in pieces, from state to state: pieces 15 to 21.
-/
import Derived.Test.YtjbdkdgeceggbaaGreatDoorCheckNumbersS2
namespace Go.Proofs.YtjbdkdgeceggbaaGreatDoor
open Go.RowKit
set_option maxRecDepth 1000000
theorem cnC15 : chunk Tryz.prog 100000 cnD15 cnP14 cnS14 cnS15 = true := by kernel_rfl
theorem cnC16 : chunk Tryz.prog 100000 cnD16 cnP15 cnS15 cnS16 = true := by kernel_rfl
theorem cnC17 : chunk Tryz.prog 100000 cnD17 cnP16 cnS16 cnS17 = true := by kernel_rfl
theorem cnC18 : chunk Tryz.prog 100000 cnD18 cnP17 cnS17 cnS18 = true := by kernel_rfl
theorem cnC19 : chunk Tryz.prog 100000 cnD19 cnP18 cnS18 cnS19 = true := by kernel_rfl
theorem cnC20 : chunk Tryz.prog 100000 cnD20 cnP19 cnS19 cnS20 = true := by kernel_rfl
theorem cnC21 : chunk Tryz.prog 100000 cnD21 cnP20 cnS20 cnS21 = true := by kernel_rfl
end Go.Proofs.YtjbdkdgeceggbaaGreatDoor
