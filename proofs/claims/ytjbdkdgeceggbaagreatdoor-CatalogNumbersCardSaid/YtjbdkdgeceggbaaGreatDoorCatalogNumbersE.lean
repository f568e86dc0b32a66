/-
  CatalogNumbers: run by the kernel in pieces, from state to state: pieces 13 to 15.
-/
import Derived.Test.YtjbdkdgeceggbaaGreatDoorCatalogNumbersS
namespace Go.Proofs.YtjbdkdgeceggbaaGreatDoor
open Go.RowKit
set_option maxRecDepth 1000000
theorem cgC13 : chunkM Tryz.prog 100000 cgD13 cgP12 cgS12 cgS13 = true := by kernel_rfl
theorem cgC14 : chunkM Tryz.prog 100000 cgD14 cgP13 cgS13 cgS14 = true := by kernel_rfl
theorem cgC15 : chunkM Tryz.prog 100000 cgD15 cgP14 cgS14 cgS15 = true := by kernel_rfl
end Go.Proofs.YtjbdkdgeceggbaaGreatDoor
