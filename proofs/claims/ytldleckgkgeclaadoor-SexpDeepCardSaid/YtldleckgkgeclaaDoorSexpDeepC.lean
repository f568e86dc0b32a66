/-
  SexpDeep: closed runs, by the kernel: numbers of openings 2, 6, 10, 14, 18, each with all numbers of closings.
-/
import Derived.Test.YtldleckgkgeclaaDoorSexpDeepS
namespace Go.Proofs.YtldleckgkgeclaaDoor
open Go.RowKit
set_option maxRecDepth 1000000
theorem sdC2_0 : sdAll (sdCase 2) [0, 1, 2, 3, 4, 5, 6, 7, 8, 9] = true := by kernel_rfl
theorem sdC2_1 : sdAll (sdCase 2) [10, 11, 12, 13, 14, 15, 16, 17, 18, 19] = true := by kernel_rfl
theorem sdC6_0 : sdAll (sdCase 6) [0, 1, 2, 3, 4, 5, 6, 7, 8, 9] = true := by kernel_rfl
theorem sdC6_1 : sdAll (sdCase 6) [10, 11, 12, 13, 14, 15, 16, 17, 18, 19] = true := by kernel_rfl
theorem sdC10_0 : sdAll (sdCase 10) [0, 1, 2, 3, 4, 5, 6, 7, 8, 9] = true := by kernel_rfl
theorem sdC10_1 : sdAll (sdCase 10) [10, 11, 12, 13, 14, 15, 16, 17, 18, 19] = true := by kernel_rfl
theorem sdC14_0 : sdAll (sdCase 14) [0, 1, 2, 3, 4, 5, 6, 7, 8, 9] = true := by kernel_rfl
theorem sdC14_1 : sdAll (sdCase 14) [10, 11, 12, 13, 14, 15, 16, 17, 18, 19] = true := by kernel_rfl
theorem sdC18_0 : sdAll (sdCase 18) [0, 1, 2, 3, 4, 5, 6, 7, 8, 9] = true := by kernel_rfl
theorem sdC18_1 : sdAll (sdCase 18) [10, 11, 12, 13, 14, 15, 16, 17, 18, 19] = true := by kernel_rfl
end Go.Proofs.YtldleckgkgeclaaDoor
