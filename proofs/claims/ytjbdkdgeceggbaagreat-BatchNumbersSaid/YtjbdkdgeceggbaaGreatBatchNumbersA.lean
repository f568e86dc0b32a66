/-
  BatchNumbers: run by the kernel in pieces, from state to state: pieces 1 to 4.
-/
import Derived.Test.YtjbdkdgeceggbaaGreatBatchNumbersS
namespace Go.Proofs.YtjbdkdgeceggbaaGreat
open Go.RowKit
set_option maxRecDepth 1000000
theorem bnC1 : chunk Tryz.prog 100000 bnD1 bnP0 bnS0 bnS1 = true := by kernel_rfl
theorem bnC2 : chunk Tryz.prog 100000 bnD2 bnP1 bnS1 bnS2 = true := by kernel_rfl
theorem bnC3 : chunk Tryz.prog 100000 bnD3 bnP2 bnS2 bnS3 = true := by kernel_rfl
theorem bnC4 : chunk Tryz.prog 100000 bnD4 bnP3 bnS3 bnS4 = true := by kernel_rfl
end Go.Proofs.YtjbdkdgeceggbaaGreat
