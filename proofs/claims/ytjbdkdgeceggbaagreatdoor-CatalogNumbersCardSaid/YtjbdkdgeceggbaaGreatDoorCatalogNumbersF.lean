/-
  CatalogNumbers: run by the kernel in pieces, from state to state: pieces 16 to 18.
-/
import Derived.Test.YtjbdkdgeceggbaaGreatDoorCatalogNumbersS
namespace Go.Proofs.YtjbdkdgeceggbaaGreatDoor
open Go.RowKit
set_option maxRecDepth 1000000
theorem cgC16 : chunkM Tryz.prog 100000 cgD16 cgP15 cgS15 cgS16 = true := by kernel_rfl
theorem cgC17 : chunkM Tryz.prog 100000 cgD17 cgP16 cgS16 cgS17 = true := by kernel_rfl
theorem cgC18 : chunkM Tryz.prog 100000 cgD18 cgP17 cgS17 cgS18 = true := by kernel_rfl
end Go.Proofs.YtjbdkdgeceggbaaGreatDoor
