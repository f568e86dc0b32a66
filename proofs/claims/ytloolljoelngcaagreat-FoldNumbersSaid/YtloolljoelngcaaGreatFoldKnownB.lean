/-
  FoldKnown: run by the kernel in pieces, from state to state: pieces 2 to 2.
-/
import Derived.Test.YtloolljoelngcaaGreatFoldKnownS
namespace Go.Proofs.YtloolljoelngcaaGreat
open Go.RowKit
set_option maxRecDepth 1000000
theorem fkC2 : chunkO Tryz.prog (none) 100000 fkD2 fkP1 fkS1 fkS2 = true := by kernel_rfl
end Go.Proofs.YtloolljoelngcaaGreat
