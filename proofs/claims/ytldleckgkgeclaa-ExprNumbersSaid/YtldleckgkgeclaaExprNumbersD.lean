/-
  ExprNumbers: run by the kernel in pieces, from state to state: pieces 13 to 14.
-/
import Derived.Test.YtldleckgkgeclaaExprNumbersS
namespace Go.Proofs.Ytldleckgkgeclaa
open Go.RowKit
set_option maxRecDepth 1000000
theorem xnC13 : chunk Try.prog 100000 xnD13 xnP12 xnS12 xnS13 = true := by kernel_rfl
theorem xnC14 : chunk Try.prog 100000 xnD14 xnP13 xnS13 xnS14 = true := by kernel_rfl
end Go.Proofs.Ytldleckgkgeclaa
