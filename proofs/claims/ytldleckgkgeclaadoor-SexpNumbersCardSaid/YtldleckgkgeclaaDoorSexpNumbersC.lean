/-
  SexpNumbers: run by the kernel in pieces, from state to state: pieces 7 to 9.
-/
import Derived.Test.YtldleckgkgeclaaDoorSexpNumbersS
namespace Go.Proofs.YtldleckgkgeclaaDoor
open Go.RowKit
set_option maxRecDepth 1000000
theorem snC7 : chunk Tryd.prog 100000 snD7 snP6 snS6 snS7 = true := by kernel_rfl
theorem snC8 : chunk Tryd.prog 100000 snD8 snP7 snS7 snS8 = true := by kernel_rfl
theorem snC9 : chunk Tryd.prog 100000 snD9 snP8 snS8 snS9 = true := by kernel_rfl
end Go.Proofs.YtldleckgkgeclaaDoor
