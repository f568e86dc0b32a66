/-
  An int64's bounds. No program in sight.
-/
import Derived.WalkKit
import Derived.ProofKit
namespace Go.Proofs.YtldleckgkgeclaaDoor
open Go.RowKit
theorem bd64_ {n : Int} (h : (Lit.int .i64 n).wf = true) : -9223372036854775808 ≤ n ∧ n ≤ 9223372036854775807 := by
  simpa [Lit.wf, IntKind.min, IntKind.max, IntKind.signed, IntKind.bits] using h
end Go.Proofs.YtldleckgkgeclaaDoor
