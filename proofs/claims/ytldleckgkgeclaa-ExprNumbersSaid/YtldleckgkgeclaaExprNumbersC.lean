/-
  ExprNumbers: run by the kernel in pieces, from state to state: pieces 9 to 12.
-/
import Derived.Test.YtldleckgkgeclaaExprNumbersS
namespace Go.Proofs.Ytldleckgkgeclaa
open Go.RowKit
set_option maxRecDepth 1000000
theorem xnC9 : chunk Try.prog 100000 xnD9 xnP8 xnS8 xnS9 = true := by kernel_rfl
theorem xnC10 : chunk Try.prog 100000 xnD10 xnP9 xnS9 xnS10 = true := by kernel_rfl
theorem xnC11 : chunk Try.prog 100000 xnD11 xnP10 xnS10 xnS11 = true := by kernel_rfl
theorem xnC12 : chunk Try.prog 100000 xnD12 xnP11 xnS11 xnS12 = true := by kernel_rfl
end Go.Proofs.Ytldleckgkgeclaa
