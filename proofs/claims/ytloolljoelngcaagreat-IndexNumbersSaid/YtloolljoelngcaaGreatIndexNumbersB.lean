/-
  IndexNumbers: run by the kernel in pieces.
-/
import Derived.Test.YtloolljoelngcaaGreatIndexNumbersS
namespace Go.Proofs.YtloolljoelngcaaGreat
open Go.RowKit
set_option maxRecDepth 1000000
theorem ixnC1 : chunkO Tryz.prog 0 ⟨some 14, []⟩ 100000 ixnD1 ixnP0 ixnS0 ixnS1 = true := by kernel_rfl
theorem ixnC2 : chunkO Tryz.prog 0 ⟨some 14, []⟩ 100000 ixnD2 ixnP1 ixnS1 ixnS2 = true := by kernel_rfl
theorem ixnC5 : chunkO Tryz.prog 0 ⟨some 14, []⟩ 100000 ixnD5 ixnP4 ixnS4 ixnS5 = true := by kernel_rfl
theorem ixn_1111Last : lastM Tryz.prog 100000 ixnFn.results.toList ixn_1111P1 ixn_1111S1.n (.bool true) = true := by kernel_rfl
theorem ixn_1121Last : lastM Tryz.prog 100000 ixnFn.results.toList ixn_1121P1 ixn_1121S1.n (.bool true) = true := by kernel_rfl
theorem ixn_11X : forkO 0 ixn_11P1 ixn_11S1 ixn_111S0 ixn_112S0 = true := by kernel_rfl
theorem ixn_1221Last : lastM Tryz.prog 100000 ixnFn.results.toList ixn_1221P1 ixn_1221S1.n (.bool true) = true := by kernel_rfl
theorem ixn_1X : forkO 0 ixn_1P2 ixn_1S2 ixn_11S0 ixn_12S0 = true := by kernel_rfl
theorem ixn_1212C1 : chunkO Tryz.prog 0 ⟨some 14, []⟩ 100000 ixn_1212D1 ixn_121PN ixn_1212S0 ixn_1212S1 = true := by kernel_rfl
end Go.Proofs.YtloolljoelngcaaGreat
