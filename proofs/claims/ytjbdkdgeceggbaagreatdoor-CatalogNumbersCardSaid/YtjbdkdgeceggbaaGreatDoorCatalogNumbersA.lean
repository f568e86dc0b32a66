/-
  CatalogNumbers: run by the kernel in pieces, from state to state: pieces 1 to 3.
-/
import Derived.Test.YtjbdkdgeceggbaaGreatDoorCatalogNumbersS
namespace Go.Proofs.YtjbdkdgeceggbaaGreatDoor
open Go.RowKit
set_option maxRecDepth 1000000
theorem cgC1 : chunkM Tryz.prog 100000 cgD1 cgP0 cgS0 cgS1 = true := by kernel_rfl
theorem cgC2 : chunkM Tryz.prog 100000 cgD2 cgP1 cgS1 cgS2 = true := by kernel_rfl
theorem cgC3 : chunkM Tryz.prog 100000 cgD3 cgP2 cgS2 cgS3 = true := by kernel_rfl
end Go.Proofs.YtjbdkdgeceggbaaGreatDoor
