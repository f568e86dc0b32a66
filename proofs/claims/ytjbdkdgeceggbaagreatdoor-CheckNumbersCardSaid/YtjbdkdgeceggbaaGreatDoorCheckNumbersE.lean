/-
  CheckNumbers: run by the kernel in pieces, from state to state: pieces 29 to 35.
-/
import Derived.Test.YtjbdkdgeceggbaaGreatDoorCheckNumbersS2
namespace Go.Proofs.YtjbdkdgeceggbaaGreatDoor
open Go.RowKit
set_option maxRecDepth 1000000
theorem cnC29 : chunk Tryz.prog 100000 cnD29 cnP28 cnS28 cnS29 = true := by kernel_rfl
theorem cnC30 : chunk Tryz.prog 100000 cnD30 cnP29 cnS29 cnS30 = true := by kernel_rfl
theorem cnC31 : chunk Tryz.prog 100000 cnD31 cnP30 cnS30 cnS31 = true := by kernel_rfl
theorem cnC32 : chunk Tryz.prog 100000 cnD32 cnP31 cnS31 cnS32 = true := by kernel_rfl
theorem cnC33 : chunk Tryz.prog 100000 cnD33 cnP32 cnS32 cnS33 = true := by kernel_rfl
theorem cnC34 : chunk Tryz.prog 100000 cnD34 cnP33 cnS33 cnS34 = true := by kernel_rfl
theorem cnC35 : chunk Tryz.prog 100000 cnD35 cnP34 cnS34 cnS35 = true := by kernel_rfl
end Go.Proofs.YtjbdkdgeceggbaaGreatDoor
