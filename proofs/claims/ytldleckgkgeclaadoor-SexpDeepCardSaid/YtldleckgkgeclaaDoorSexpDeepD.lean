/-
  SexpDeep: closed runs, by the kernel: numbers of openings 3, 7, 11, 15, 19, each with all numbers of closings.
-/
import Derived.Test.YtldleckgkgeclaaDoorSexpDeepS
namespace Go.Proofs.YtldleckgkgeclaaDoor
open Go.RowKit
set_option maxRecDepth 1000000
theorem sdC3_0 : sdAll (sdCase 3) [0, 1, 2, 3, 4, 5, 6, 7, 8, 9] = true := by kernel_rfl
theorem sdC3_1 : sdAll (sdCase 3) [10, 11, 12, 13, 14, 15, 16, 17, 18, 19] = true := by kernel_rfl
theorem sdC7_0 : sdAll (sdCase 7) [0, 1, 2, 3, 4, 5, 6, 7, 8, 9] = true := by kernel_rfl
theorem sdC7_1 : sdAll (sdCase 7) [10, 11, 12, 13, 14, 15, 16, 17, 18, 19] = true := by kernel_rfl
theorem sdC11_0 : sdAll (sdCase 11) [0, 1, 2, 3, 4, 5, 6, 7, 8, 9] = true := by kernel_rfl
theorem sdC11_1 : sdAll (sdCase 11) [10, 11, 12, 13, 14, 15, 16, 17, 18, 19] = true := by kernel_rfl
theorem sdC15_0 : sdAll (sdCase 15) [0, 1, 2, 3, 4, 5, 6, 7, 8, 9] = true := by kernel_rfl
theorem sdC15_1 : sdAll (sdCase 15) [10, 11, 12, 13, 14, 15, 16, 17, 18, 19] = true := by kernel_rfl
theorem sdC19_0 : sdAll (sdCase 19) [0, 1, 2, 3, 4, 5, 6, 7, 8, 9] = true := by kernel_rfl
theorem sdC19_1 : sdAll (sdCase 19) [10, 11, 12, 13, 14, 15, 16, 17, 18, 19] = true := by kernel_rfl
end Go.Proofs.YtldleckgkgeclaaDoor
