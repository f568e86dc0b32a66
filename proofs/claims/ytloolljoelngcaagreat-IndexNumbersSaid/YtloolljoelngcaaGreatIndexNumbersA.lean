/-
  IndexNumbers: run by the kernel in pieces.
-/
import Derived.Test.YtloolljoelngcaaGreatIndexNumbersS
namespace Go.Proofs.YtloolljoelngcaaGreat
open Go.RowKit
set_option maxRecDepth 1000000
theorem ixnC4 : chunkO Tryz.prog 0 ⟨some 14, []⟩ 100000 ixnD4 ixnP3 ixnS3 ixnS4 = true := by kernel_rfl
theorem ixn_11C1 : chunkO Tryz.prog 0 ⟨some 14, []⟩ 100000 ixn_11D1 ixn_1PN ixn_11S0 ixn_11S1 = true := by kernel_rfl
theorem ixn_111C1 : chunkO Tryz.prog 0 ⟨some 14, []⟩ 100000 ixn_111D1 ixn_11PN ixn_111S0 ixn_111S1 = true := by kernel_rfl
theorem ixn_1C2 : chunkO Tryz.prog 0 ⟨some 14, []⟩ 100000 ixn_1D2 ixn_1P1 ixn_1S1 ixn_1S2 = true := by kernel_rfl
theorem ixn_121X : seq2O Tryz.prog ixn_121P1 ixn_121S1 ixn_1211S0 ixn_1212S0 = true := by kernel_rfl
theorem ixn_12X : forkO 0 ixn_12P1 ixn_12S1 ixn_121S0 ixn_122S0 = true := by kernel_rfl
theorem ixn_1221C1 : chunkO Tryz.prog 0 ⟨some 14, []⟩ 100000 ixn_1221D1 ixn_122PN ixn_1221S0 ixn_1221S1 = true := by kernel_rfl
theorem ixn_1211C1 : chunkO Tryz.prog 0 ⟨some 14, []⟩ 100000 ixn_1211D1 ixn_121PN ixn_1211S0 ixn_1211S1 = true := by kernel_rfl
end Go.Proofs.YtloolljoelngcaaGreat
