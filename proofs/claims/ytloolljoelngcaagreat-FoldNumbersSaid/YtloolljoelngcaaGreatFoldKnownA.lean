/-
  FoldKnown: run by the kernel in pieces, from state to state: pieces 1 to 1.
-/
import Derived.Test.YtloolljoelngcaaGreatFoldKnownS
namespace Go.Proofs.YtloolljoelngcaaGreat
open Go.RowKit
set_option maxRecDepth 1000000
theorem fkC1 : chunkO Tryz.prog (none) 100000 fkD1 fkP0 fkS0 fkS1 = true := by kernel_rfl
end Go.Proofs.YtloolljoelngcaaGreat
