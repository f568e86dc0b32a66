/-
  CatalogNumbers: run by the kernel in pieces, from state to state: pieces 10 to 12.
-/
import Derived.Test.YtjbdkdgeceggbaaGreatDoorCatalogNumbersS
namespace Go.Proofs.YtjbdkdgeceggbaaGreatDoor
open Go.RowKit
set_option maxRecDepth 1000000
theorem cgC10 : chunkM Tryz.prog 100000 cgD10 cgP9 cgS9 cgS10 = true := by kernel_rfl
theorem cgC11 : chunkM Tryz.prog 100000 cgD11 cgP10 cgS10 cgS11 = true := by kernel_rfl
theorem cgC12 : chunkM Tryz.prog 100000 cgD12 cgP11 cgS11 cgS12 = true := by kernel_rfl
end Go.Proofs.YtjbdkdgeceggbaaGreatDoor
