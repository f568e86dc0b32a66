/-
  The program calls none of the library's functions that the evaluator takes by contract.
-/
import Derived.Test.YtjbdkdgeceggbaaGreatEvV
import Derived.Test.YtjbdkdgeceggbaaGreatChecked
namespace Go.Proofs.YtjbdkdgeceggbaaGreat
open Go.RowKit
noncomputable instance batchExt : ExtOk Tryz.prog := extOk_none (by kernel_rfl)
end Go.Proofs.YtjbdkdgeceggbaaGreat
