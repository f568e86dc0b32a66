/-
  SexpDeep: closed runs, by the kernel: numbers of openings 0, 4, 8, 12, 16, each with all numbers of closings.
-/
import Derived.Test.YtldleckgkgeclaaDoorSexpDeepS
namespace Go.Proofs.YtldleckgkgeclaaDoor
open Go.RowKit
set_option maxRecDepth 1000000
theorem sdC0_0 : sdAll (sdCase 0) [0, 1, 2, 3, 4, 5, 6, 7, 8, 9] = true := by kernel_rfl
theorem sdC0_1 : sdAll (sdCase 0) [10, 11, 12, 13, 14, 15, 16, 17, 18, 19] = true := by kernel_rfl
theorem sdC4_0 : sdAll (sdCase 4) [0, 1, 2, 3, 4, 5, 6, 7, 8, 9] = true := by kernel_rfl
theorem sdC4_1 : sdAll (sdCase 4) [10, 11, 12, 13, 14, 15, 16, 17, 18, 19] = true := by kernel_rfl
theorem sdC8_0 : sdAll (sdCase 8) [0, 1, 2, 3, 4, 5, 6, 7, 8, 9] = true := by kernel_rfl
theorem sdC8_1 : sdAll (sdCase 8) [10, 11, 12, 13, 14, 15, 16, 17, 18, 19] = true := by kernel_rfl
theorem sdC12_0 : sdAll (sdCase 12) [0, 1, 2, 3, 4, 5, 6, 7, 8, 9] = true := by kernel_rfl
theorem sdC12_1 : sdAll (sdCase 12) [10, 11, 12, 13, 14, 15, 16, 17, 18, 19] = true := by kernel_rfl
theorem sdC16_0 : sdAll (sdCase 16) [0, 1, 2, 3, 4, 5, 6, 7, 8, 9] = true := by kernel_rfl
theorem sdC16_1 : sdAll (sdCase 16) [10, 11, 12, 13, 14, 15, 16, 17, 18, 19] = true := by kernel_rfl
end Go.Proofs.YtldleckgkgeclaaDoor
