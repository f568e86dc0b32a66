/-
  SexpNumbers: run by the kernel in pieces, from state to state: pieces 4 to 6.
-/
import Derived.Test.YtldleckgkgeclaaDoorSexpNumbersS
namespace Go.Proofs.YtldleckgkgeclaaDoor
open Go.RowKit
set_option maxRecDepth 1000000
theorem snC4 : chunk Tryd.prog 100000 snD4 snP3 snS3 snS4 = true := by kernel_rfl
theorem snC5 : chunk Tryd.prog 100000 snD5 snP4 snS4 snS5 = true := by kernel_rfl
theorem snC6 : chunk Tryd.prog 100000 snD6 snP5 snS5 snS6 = true := by kernel_rfl
end Go.Proofs.YtldleckgkgeclaaDoor
