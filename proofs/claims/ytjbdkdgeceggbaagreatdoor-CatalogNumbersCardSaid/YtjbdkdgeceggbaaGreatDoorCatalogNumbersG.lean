/-
  CatalogNumbers: run by the kernel in pieces, from state to state: pieces 19 to 21.
-/
import Derived.Test.YtjbdkdgeceggbaaGreatDoorCatalogNumbersS
namespace Go.Proofs.YtjbdkdgeceggbaaGreatDoor
open Go.RowKit
set_option maxRecDepth 1000000
theorem cgC19 : chunkM Tryz.prog 100000 cgD19 cgP18 cgS18 cgS19 = true := by kernel_rfl
theorem cgC20 : chunkM Tryz.prog 100000 cgD20 cgP19 cgS19 cgS20 = true := by kernel_rfl
theorem cgC21 : chunkM Tryz.prog 100000 cgD21 cgP20 cgS20 cgS21 = true := by kernel_rfl
end Go.Proofs.YtjbdkdgeceggbaaGreatDoor
