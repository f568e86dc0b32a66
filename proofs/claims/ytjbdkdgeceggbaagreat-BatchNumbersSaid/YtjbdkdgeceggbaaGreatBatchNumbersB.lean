/-
  BatchNumbers: run by the kernel in pieces, from state to state: pieces 5 to 8.
-/
import Derived.Test.YtjbdkdgeceggbaaGreatBatchNumbersS
namespace Go.Proofs.YtjbdkdgeceggbaaGreat
open Go.RowKit
set_option maxRecDepth 1000000
theorem bnC5 : chunk Tryz.prog 100000 bnD5 bnP4 bnS4 bnS5 = true := by kernel_rfl
theorem bnC6 : chunk Tryz.prog 100000 bnD6 bnP5 bnS5 bnS6 = true := by kernel_rfl
theorem bnC7 : chunk Tryz.prog 100000 bnD7 bnP6 bnS6 bnS7 = true := by kernel_rfl
theorem bnC8 : chunk Tryz.prog 100000 bnD8 bnP7 bnS7 bnS8 = true := by kernel_rfl
end Go.Proofs.YtjbdkdgeceggbaaGreat
