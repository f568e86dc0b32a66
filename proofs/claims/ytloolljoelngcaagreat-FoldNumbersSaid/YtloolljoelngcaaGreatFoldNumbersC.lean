/-
  FoldNumbers: run by the kernel in pieces, from state to state: pieces 7 to 8.
-/
import Derived.Test.YtloolljoelngcaaGreatFoldNumbersS
namespace Go.Proofs.YtloolljoelngcaaGreat
open Go.RowKit
set_option maxRecDepth 1000000
theorem fnC7 : chunkO Tryz.prog (some 21) 100000 fnD7 fnP6 fnS6 fnS7 = true := by kernel_rfl
theorem fnC8 : chunkO Tryz.prog (some 21) 100000 fnD8 fnP7 fnS7 fnS8 = true := by kernel_rfl
end Go.Proofs.YtloolljoelngcaaGreat
