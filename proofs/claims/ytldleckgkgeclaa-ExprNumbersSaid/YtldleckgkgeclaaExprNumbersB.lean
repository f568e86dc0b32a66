/-
  ExprNumbers: run by the kernel in pieces, from state to state: pieces 5 to 8.
-/
import Derived.Test.YtldleckgkgeclaaExprNumbersS
namespace Go.Proofs.Ytldleckgkgeclaa
open Go.RowKit
set_option maxRecDepth 1000000
theorem xnC5 : chunk Try.prog 100000 xnD5 xnP4 xnS4 xnS5 = true := by kernel_rfl
theorem xnC6 : chunk Try.prog 100000 xnD6 xnP5 xnS5 xnS6 = true := by kernel_rfl
theorem xnC7 : chunk Try.prog 100000 xnD7 xnP6 xnS6 xnS7 = true := by kernel_rfl
theorem xnC8 : chunk Try.prog 100000 xnD8 xnP7 xnS7 xnS8 = true := by kernel_rfl
end Go.Proofs.Ytldleckgkgeclaa
