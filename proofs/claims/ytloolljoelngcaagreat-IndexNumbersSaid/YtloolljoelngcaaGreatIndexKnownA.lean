/-
  IndexKnown: run by the kernel in pieces.
-/
import Derived.Test.YtloolljoelngcaaGreatIndexKnownS
namespace Go.Proofs.YtloolljoelngcaaGreat
open Go.RowKit
set_option maxRecDepth 1000000
theorem ik_2C1 : chunkO Tryz.prog 0 ⟨none, []⟩ 100000 ik_2D1 ikPN ik_2S0 ik_2S1 = true := by kernel_rfl
theorem ik_22C1 : chunkO Tryz.prog 0 ⟨none, []⟩ 100000 ik_22D1 ik_2PN ik_22S0 ik_22S1 = true := by kernel_rfl
theorem ik_21C1 : chunkO Tryz.prog 0 ⟨none, []⟩ 100000 ik_21D1 ik_2PN ik_21S0 ik_21S1 = true := by kernel_rfl
theorem ik_1C1 : chunkO Tryz.prog 0 ⟨none, []⟩ 100000 ik_1D1 ikPN ik_1S0 ik_1S1 = true := by kernel_rfl
theorem ik_11X : seq2O Tryz.prog ik_11P1 ik_11S1 ik_111S0 ik_112S0 = true := by kernel_rfl
theorem ik_122Last : lastM Tryz.prog 100000 ikFn.results.toList ik_122P1 ik_122S1.n (.bool true) = true := by kernel_rfl
theorem ik_1X : forkO 0 ik_1P1 ik_1S1 ik_11S0 ik_12S0 = true := by kernel_rfl
theorem ik_212Last : lastM Tryz.prog 100000 ikFn.results.toList ik_212P1 ik_212S1.n (.bool true) = true := by kernel_rfl
theorem ik_221Last : lastM Tryz.prog 100000 ikFn.results.toList ik_221P1 ik_221S1.n (.bool true) = true := by kernel_rfl
theorem ik_22X : seq2O Tryz.prog ik_22P1 ik_22S1 ik_221S0 ik_222S0 = true := by kernel_rfl
theorem ikX : forkO 0 ikP2 ikS2 ik_1S0 ik_2S0 = true := by kernel_rfl
theorem ik_121C1 : chunkO Tryz.prog 0 ⟨none, []⟩ 100000 ik_121D1 ik_12PN ik_121S0 ik_121S1 = true := by kernel_rfl
theorem ik_112C1 : chunkO Tryz.prog 0 ⟨none, []⟩ 100000 ik_112D1 ik_11PN ik_112S0 ik_112S1 = true := by kernel_rfl
theorem ik_212C1 : chunkO Tryz.prog 0 ⟨none, []⟩ 100000 ik_212D1 ik_21PN ik_212S0 ik_212S1 = true := by kernel_rfl
theorem ik_211C1 : chunkO Tryz.prog 0 ⟨none, []⟩ 100000 ik_211D1 ik_21PN ik_211S0 ik_211S1 = true := by kernel_rfl
end Go.Proofs.YtloolljoelngcaaGreat
