/-
  SexpNumbers: run by the kernel in pieces, from state to state: pieces 1 to 3.
-/
import Derived.Test.YtldleckgkgeclaaDoorSexpNumbersS
namespace Go.Proofs.YtldleckgkgeclaaDoor
open Go.RowKit
set_option maxRecDepth 1000000
theorem snC1 : chunk Tryd.prog 100000 snD1 snP0 snS0 snS1 = true := by kernel_rfl
theorem snC2 : chunk Tryd.prog 100000 snD2 snP1 snS1 snS2 = true := by kernel_rfl
theorem snC3 : chunk Tryd.prog 100000 snD3 snP2 snS2 snS3 = true := by kernel_rfl
end Go.Proofs.YtldleckgkgeclaaDoor
