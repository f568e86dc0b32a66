/-
  CatalogNumbers: run by the kernel in pieces, from state to state: pieces 4 to 6.
-/
import Derived.Test.YtjbdkdgeceggbaaGreatDoorCatalogNumbersS
namespace Go.Proofs.YtjbdkdgeceggbaaGreatDoor
open Go.RowKit
set_option maxRecDepth 1000000
theorem cgC4 : chunkM Tryz.prog 100000 cgD4 cgP3 cgS3 cgS4 = true := by kernel_rfl
theorem cgC5 : chunkM Tryz.prog 100000 cgD5 cgP4 cgS4 cgS5 = true := by kernel_rfl
theorem cgC6 : chunkM Tryz.prog 100000 cgD6 cgP5 cgS5 cgS6 = true := by kernel_rfl
end Go.Proofs.YtjbdkdgeceggbaaGreatDoor
