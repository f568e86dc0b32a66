/-
  IndexKnown: run by the kernel in pieces.
-/
import Derived.Test.YtloolljoelngcaaGreatIndexKnownS
namespace Go.Proofs.YtloolljoelngcaaGreat
open Go.RowKit
set_option maxRecDepth 1000000
theorem ikC1 : chunkO Tryz.prog 0 ⟨none, []⟩ 100000 ikD1 ikP0 ikS0 ikS1 = true := by kernel_rfl
theorem ik_11C1 : chunkO Tryz.prog 0 ⟨none, []⟩ 100000 ik_11D1 ik_1PN ik_11S0 ik_11S1 = true := by kernel_rfl
theorem ik_12C1 : chunkO Tryz.prog 0 ⟨none, []⟩ 100000 ik_12D1 ik_1PN ik_12S0 ik_12S1 = true := by kernel_rfl
theorem ikC2 : chunkO Tryz.prog 0 ⟨none, []⟩ 100000 ikD2 ikP1 ikS1 ikS2 = true := by kernel_rfl
theorem ik_111Last : lastM Tryz.prog 100000 ikFn.results.toList ik_111P1 ik_111S1.n (.bool true) = true := by kernel_rfl
theorem ik_112Last : lastM Tryz.prog 100000 ikFn.results.toList ik_112P1 ik_112S1.n (.bool true) = true := by kernel_rfl
theorem ik_121Last : lastM Tryz.prog 100000 ikFn.results.toList ik_121P1 ik_121S1.n (.bool true) = true := by kernel_rfl
theorem ik_12X : seq2O Tryz.prog ik_12P1 ik_12S1 ik_121S0 ik_122S0 = true := by kernel_rfl
theorem ik_211Last : lastM Tryz.prog 100000 ikFn.results.toList ik_211P1 ik_211S1.n (.bool true) = true := by kernel_rfl
theorem ik_21X : seq2O Tryz.prog ik_21P1 ik_21S1 ik_211S0 ik_212S0 = true := by kernel_rfl
theorem ik_222Last : lastM Tryz.prog 100000 ikFn.results.toList ik_222P1 ik_222S1.n (.bool true) = true := by kernel_rfl
theorem ik_2X : forkO 0 ik_2P1 ik_2S1 ik_21S0 ik_22S0 = true := by kernel_rfl
theorem ik_221C1 : chunkO Tryz.prog 0 ⟨none, []⟩ 100000 ik_221D1 ik_22PN ik_221S0 ik_221S1 = true := by kernel_rfl
theorem ik_122C1 : chunkO Tryz.prog 0 ⟨none, []⟩ 100000 ik_122D1 ik_12PN ik_122S0 ik_122S1 = true := by kernel_rfl
theorem ik_222C1 : chunkO Tryz.prog 0 ⟨none, []⟩ 100000 ik_222D1 ik_22PN ik_222S0 ik_222S1 = true := by kernel_rfl
theorem ik_111C1 : chunkO Tryz.prog 0 ⟨none, []⟩ 100000 ik_111D1 ik_11PN ik_111S0 ik_111S1 = true := by kernel_rfl
end Go.Proofs.YtloolljoelngcaaGreat
