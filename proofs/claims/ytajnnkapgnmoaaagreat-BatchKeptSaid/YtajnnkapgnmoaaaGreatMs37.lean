/-
  The program calls none of the library's functions that the evaluator takes by contract.
-/
import Derived.Test.YtajnnkapgnmoaaaGreatMs24
import Derived.Test.YtajnnkapgnmoaaaGreatChecked
import Derived.Test.YtajnnkapgnmoaaaGreatMs36
set_option linter.unusedVariables false
set_option linter.unusedSimpArgs false
namespace Go.Proofs.YtajnnkapgnmoaaaGreat
open Go.RowKit
noncomputable instance batchExt : ExtOk Tryz.prog := extOk_none (by kernel_rfl)
end Go.Proofs.YtajnnkapgnmoaaaGreat
/-
  law 16's known runs, run by the kernel.
-/
namespace Go.Proofs.YtajnnkapgnmoaaaGreat
open Go.RowKit
set_option maxRecDepth 1000000 in
theorem known16_run : runPlain Tryz.prog 100000 12 [] [] = some (.bool true) := by kernel_rfl
theorem known16 (W : World) : Calls Tryz.prog 12 #[] W fun e w' => e = .returned (.bool true) ∧ Below W.heap.size W w' :=
  plain_run (by kernel_rfl) known16_run W (tabsAt_none W)
end Go.Proofs.YtajnnkapgnmoaaaGreat
