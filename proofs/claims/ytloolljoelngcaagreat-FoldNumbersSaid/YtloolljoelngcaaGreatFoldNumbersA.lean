/-
  FoldNumbers: run by the kernel in pieces, from state to state: pieces 1 to 3.
-/
import Derived.Test.YtloolljoelngcaaGreatFoldNumbersS
namespace Go.Proofs.YtloolljoelngcaaGreat
open Go.RowKit
set_option maxRecDepth 1000000
theorem fnC1 : chunkO Tryz.prog (some 21) 100000 fnD1 fnP0 fnS0 fnS1 = true := by kernel_rfl
theorem fnC2 : chunkO Tryz.prog (some 21) 100000 fnD2 fnP1 fnS1 fnS2 = true := by kernel_rfl
theorem fnC3 : chunkO Tryz.prog (some 21) 100000 fnD3 fnP2 fnS2 fnS3 = true := by kernel_rfl
end Go.Proofs.YtloolljoelngcaaGreat
