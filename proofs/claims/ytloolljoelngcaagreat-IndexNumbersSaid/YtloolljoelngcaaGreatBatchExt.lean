/-
  The program calls none of the library's functions that the evaluator takes by contract.
-/
import Derived.Test.YtloolljoelngcaaGreatEvV
import Derived.Test.YtloolljoelngcaaGreatChecked
namespace Go.Proofs.YtloolljoelngcaaGreat
open Go.RowKit
noncomputable instance batchExt : ExtOk Tryz.prog := extOk_none (by kernel_rfl)
end Go.Proofs.YtloolljoelngcaaGreat
