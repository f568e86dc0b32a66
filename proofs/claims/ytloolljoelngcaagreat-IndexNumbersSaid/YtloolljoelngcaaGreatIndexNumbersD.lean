/-
  IndexNumbers: run by the kernel in pieces.
-/
import Derived.Test.YtloolljoelngcaaGreatIndexNumbersS
namespace Go.Proofs.YtloolljoelngcaaGreat
open Go.RowKit
set_option maxRecDepth 1000000
theorem ixn_112C1 : chunkO Tryz.prog 0 ⟨some 14, []⟩ 100000 ixn_112D1 ixn_11PN ixn_112S0 ixn_112S1 = true := by kernel_rfl
theorem ixn_12C1 : chunkO Tryz.prog 0 ⟨some 14, []⟩ 100000 ixn_12D1 ixn_1PN ixn_12S0 ixn_12S1 = true := by kernel_rfl
theorem ixn_122C1 : chunkO Tryz.prog 0 ⟨some 14, []⟩ 100000 ixn_122D1 ixn_12PN ixn_122S0 ixn_122S1 = true := by kernel_rfl
theorem ixn_111X : seq2O Tryz.prog ixn_111P1 ixn_111S1 ixn_1111S0 ixn_1112S0 = true := by kernel_rfl
theorem ixn_112X : seq2O Tryz.prog ixn_112P1 ixn_112S1 ixn_1121S0 ixn_1122S0 = true := by kernel_rfl
theorem ixn_1212Last : lastM Tryz.prog 100000 ixnFn.results.toList ixn_1212P1 ixn_1212S1.n (.bool true) = true := by kernel_rfl
theorem ixn_122X : seq2O Tryz.prog ixn_122P1 ixn_122S1 ixn_1221S0 ixn_1222S0 = true := by kernel_rfl
theorem ixn_1222C1 : chunkO Tryz.prog 0 ⟨some 14, []⟩ 100000 ixn_1222D1 ixn_122PN ixn_1222S0 ixn_1222S1 = true := by kernel_rfl
theorem ixn_1121C1 : chunkO Tryz.prog 0 ⟨some 14, []⟩ 100000 ixn_1121D1 ixn_112PN ixn_1121S0 ixn_1121S1 = true := by kernel_rfl
theorem ixn_1112C1 : chunkO Tryz.prog 0 ⟨some 14, []⟩ 100000 ixn_1112D1 ixn_111PN ixn_1112S0 ixn_1112S1 = true := by kernel_rfl
end Go.Proofs.YtloolljoelngcaaGreat
