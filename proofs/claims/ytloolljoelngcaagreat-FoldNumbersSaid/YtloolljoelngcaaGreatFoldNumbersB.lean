/-
  FoldNumbers: run by the kernel in pieces, from state to state: pieces 4 to 6.
-/
import Derived.Test.YtloolljoelngcaaGreatFoldNumbersS
namespace Go.Proofs.YtloolljoelngcaaGreat
open Go.RowKit
set_option maxRecDepth 1000000
theorem fnC4 : chunkO Tryz.prog (some 21) 100000 fnD4 fnP3 fnS3 fnS4 = true := by kernel_rfl
theorem fnC5 : chunkO Tryz.prog (some 21) 100000 fnD5 fnP4 fnS4 fnS5 = true := by kernel_rfl
theorem fnC6 : chunkO Tryz.prog (some 21) 100000 fnD6 fnP5 fnS5 fnS6 = true := by kernel_rfl
end Go.Proofs.YtloolljoelngcaaGreat
