/-
  CatalogNumbers: run by the kernel in pieces, from state to state: pieces 7 to 9.
-/
import Derived.Test.YtjbdkdgeceggbaaGreatDoorCatalogNumbersS
namespace Go.Proofs.YtjbdkdgeceggbaaGreatDoor
open Go.RowKit
set_option maxRecDepth 1000000
theorem cgC7 : chunkM Tryz.prog 100000 cgD7 cgP6 cgS6 cgS7 = true := by kernel_rfl
theorem cgC8 : chunkM Tryz.prog 100000 cgD8 cgP7 cgS7 cgS8 = true := by kernel_rfl
theorem cgC9 : chunkM Tryz.prog 100000 cgD9 cgP8 cgS8 cgS9 = true := by kernel_rfl
end Go.Proofs.YtjbdkdgeceggbaaGreatDoor
