/-
  IndexNumbers: run by the kernel in pieces.
-/
import Derived.Test.YtloolljoelngcaaGreatIndexNumbersS
namespace Go.Proofs.YtloolljoelngcaaGreat
open Go.RowKit
set_option maxRecDepth 1000000
theorem ixn_1C1 : chunkO Tryz.prog 0 ⟨some 14, []⟩ 100000 ixn_1D1 ixnPN ixn_1S0 ixn_1S1 = true := by kernel_rfl
theorem ixnC3 : chunkO Tryz.prog 0 ⟨some 14, []⟩ 100000 ixnD3 ixnP2 ixnS2 ixnS3 = true := by kernel_rfl
theorem ixn_121C1 : chunkO Tryz.prog 0 ⟨some 14, []⟩ 100000 ixn_121D1 ixn_12PN ixn_121S0 ixn_121S1 = true := by kernel_rfl
theorem ixn_1112Last : lastM Tryz.prog 100000 ixnFn.results.toList ixn_1112P1 ixn_1112S1.n (.bool true) = true := by kernel_rfl
theorem ixn_1122Last : lastM Tryz.prog 100000 ixnFn.results.toList ixn_1122P1 ixn_1122S1.n (.bool true) = true := by kernel_rfl
theorem ixn_1211Last : lastM Tryz.prog 100000 ixnFn.results.toList ixn_1211P1 ixn_1211S1.n (.bool true) = true := by kernel_rfl
theorem ixn_1222Last : lastM Tryz.prog 100000 ixnFn.results.toList ixn_1222P1 ixn_1222S1.n (.bool true) = true := by kernel_rfl
theorem ixnX : seq0O Tryz.prog ixnP5 ixnS5 ixn_1S0 = true := by kernel_rfl
theorem ixn_1111C1 : chunkO Tryz.prog 0 ⟨some 14, []⟩ 100000 ixn_1111D1 ixn_111PN ixn_1111S0 ixn_1111S1 = true := by kernel_rfl
theorem ixn_1122C1 : chunkO Tryz.prog 0 ⟨some 14, []⟩ 100000 ixn_1122D1 ixn_112PN ixn_1122S0 ixn_1122S1 = true := by kernel_rfl
end Go.Proofs.YtloolljoelngcaaGreat
