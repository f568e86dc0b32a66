/-
  Two closed runs of the reader. No program in sight.
-/
import Derived.Test.YtldleckgkgeclaaDoorSxP
import Derived.KernelRfl
set_option linter.unusedVariables false
set_option linter.unusedSimpArgs false
namespace Go.Proofs.YtldleckgkgeclaaDoor
open Go.RowKit
def kn1 : ByteArray := ⟨#[40, 97, 32, 45, 51, 32, 34, 120, 92, 50, 50, 34, 41]⟩
def kn2 : ByteArray := ⟨#[40]⟩
def knT : T := .mk 1 ⟨#[]⟩ 0 [.mk 2 ⟨#[97]⟩ 0 [] 1, .mk 3 ⟨#[]⟩ (-3) [] 3, .mk 4 ⟨#[120, 34]⟩ 0 [] 6] 0
theorem kn1_read : readE kn1 [] [] 0 = (knT, 0, 0) := by kernel_rfl
theorem kn2_read : readE kn2 [] [] 0 = (zeroT, 10, 1) := by kernel_rfl
end Go.Proofs.YtldleckgkgeclaaDoor
