/-
  ExprNumbers: run by the kernel in pieces, from state to state: pieces 1 to 4.
-/
import Derived.Test.YtldleckgkgeclaaExprNumbersS
namespace Go.Proofs.Ytldleckgkgeclaa
open Go.RowKit
set_option maxRecDepth 1000000
theorem xnC1 : chunk Try.prog 100000 xnD1 xnP0 xnS0 xnS1 = true := by kernel_rfl
theorem xnC2 : chunk Try.prog 100000 xnD2 xnP1 xnS1 xnS2 = true := by kernel_rfl
theorem xnC3 : chunk Try.prog 100000 xnD3 xnP2 xnS2 xnS3 = true := by kernel_rfl
theorem xnC4 : chunk Try.prog 100000 xnD4 xnP3 xnS3 xnS4 = true := by kernel_rfl
end Go.Proofs.Ytldleckgkgeclaa
