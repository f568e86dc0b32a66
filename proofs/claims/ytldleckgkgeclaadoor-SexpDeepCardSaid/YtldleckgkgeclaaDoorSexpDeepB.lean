/-
  SexpDeep: closed runs, by the kernel: numbers of openings 1, 5, 9, 13, 17, each with all numbers of closings.
-/
import Derived.Test.YtldleckgkgeclaaDoorSexpDeepS
namespace Go.Proofs.YtldleckgkgeclaaDoor
open Go.RowKit
set_option maxRecDepth 1000000
theorem sdC1_0 : sdAll (sdCase 1) [0, 1, 2, 3, 4, 5, 6, 7, 8, 9] = true := by kernel_rfl
theorem sdC1_1 : sdAll (sdCase 1) [10, 11, 12, 13, 14, 15, 16, 17, 18, 19] = true := by kernel_rfl
theorem sdC5_0 : sdAll (sdCase 5) [0, 1, 2, 3, 4, 5, 6, 7, 8, 9] = true := by kernel_rfl
theorem sdC5_1 : sdAll (sdCase 5) [10, 11, 12, 13, 14, 15, 16, 17, 18, 19] = true := by kernel_rfl
theorem sdC9_0 : sdAll (sdCase 9) [0, 1, 2, 3, 4, 5, 6, 7, 8, 9] = true := by kernel_rfl
theorem sdC9_1 : sdAll (sdCase 9) [10, 11, 12, 13, 14, 15, 16, 17, 18, 19] = true := by kernel_rfl
theorem sdC13_0 : sdAll (sdCase 13) [0, 1, 2, 3, 4, 5, 6, 7, 8, 9] = true := by kernel_rfl
theorem sdC13_1 : sdAll (sdCase 13) [10, 11, 12, 13, 14, 15, 16, 17, 18, 19] = true := by kernel_rfl
theorem sdC17_0 : sdAll (sdCase 17) [0, 1, 2, 3, 4, 5, 6, 7, 8, 9] = true := by kernel_rfl
theorem sdC17_1 : sdAll (sdCase 17) [10, 11, 12, 13, 14, 15, 16, 17, 18, 19] = true := by kernel_rfl
end Go.Proofs.YtldleckgkgeclaaDoor
