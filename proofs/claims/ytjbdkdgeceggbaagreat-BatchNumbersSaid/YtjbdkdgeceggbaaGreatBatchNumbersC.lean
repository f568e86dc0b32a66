/-
  BatchNumbers: run by the kernel in pieces, from state to state: pieces 9 to 12.
-/
import Derived.Test.YtjbdkdgeceggbaaGreatBatchNumbersS
namespace Go.Proofs.YtjbdkdgeceggbaaGreat
open Go.RowKit
set_option maxRecDepth 1000000
theorem bnC9 : chunk Tryz.prog 100000 bnD9 bnP8 bnS8 bnS9 = true := by kernel_rfl
theorem bnC10 : chunk Tryz.prog 100000 bnD10 bnP9 bnS9 bnS10 = true := by kernel_rfl
theorem bnC11 : chunk Tryz.prog 100000 bnD11 bnP10 bnS10 bnS11 = true := by kernel_rfl
theorem bnC12 : chunk Tryz.prog 100000 bnD12 bnP11 bnS11 bnS12 = true := by kernel_rfl
end Go.Proofs.YtjbdkdgeceggbaaGreat
