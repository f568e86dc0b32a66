/-
  BatchNumbers: run by the kernel in pieces, from state to state: pieces 13 to 13.
-/
import Derived.Test.YtjbdkdgeceggbaaGreatBatchNumbersS
namespace Go.Proofs.YtjbdkdgeceggbaaGreat
open Go.RowKit
set_option maxRecDepth 1000000
theorem bnC13 : chunk Tryz.prog 100000 bnD13 bnP12 bnS12 bnS13 = true := by kernel_rfl
end Go.Proofs.YtjbdkdgeceggbaaGreat
