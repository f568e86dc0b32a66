/-
  CatalogNumbers: the pieces together.
-/
import Derived.Test.YtjbdkdgeceggbaaGreatDoorCatalogNumbersA
import Derived.Test.YtjbdkdgeceggbaaGreatDoorCatalogNumbersB
import Derived.Test.YtjbdkdgeceggbaaGreatDoorCatalogNumbersC
import Derived.Test.YtjbdkdgeceggbaaGreatDoorCatalogNumbersD
import Derived.Test.YtjbdkdgeceggbaaGreatDoorCatalogNumbersE
import Derived.Test.YtjbdkdgeceggbaaGreatDoorCatalogNumbersF
import Derived.Test.YtjbdkdgeceggbaaGreatDoorCatalogNumbersG
namespace Go.Proofs.YtjbdkdgeceggbaaGreatDoor
open Go.RowKit
set_option maxRecDepth 1000000
theorem cgLast : lastM Tryz.prog 100000 cgFn.results.toList cgP21 cgS21 (.bool true) = true := by kernel_rfl
theorem cgStart : startsM (start cgFn) = true := by kernel_rfl
theorem catalogNumbers_main [ExtOk Tryz.prog] (W : World) : Calls Tryz.prog 5 #[] W fun e w' => e = .returned (.bool true) ∧ Below W.heap.size W w' := by
  have hm : (Tryz.prog).follows .mixedOrders = true := by kernel_rfl
  refine closed_ok (fn := cgFn) (c := cgBody) (by kernel_rfl) (by kernel_rfl) W ?_
  refine startM_ok (f := 5) cgStart ?_
  refine chunkM_ok hm cgC1 ?_
  refine chunkM_ok hm cgC2 ?_
  refine chunkM_ok hm cgC3 ?_
  refine chunkM_ok hm cgC4 ?_
  refine chunkM_ok hm cgC5 ?_
  refine chunkM_ok hm cgC6 ?_
  refine chunkM_ok hm cgC7 ?_
  refine chunkM_ok hm cgC8 ?_
  refine chunkM_ok hm cgC9 ?_
  refine chunkM_ok hm cgC10 ?_
  refine chunkM_ok hm cgC11 ?_
  refine chunkM_ok hm cgC12 ?_
  refine chunkM_ok hm cgC13 ?_
  refine chunkM_ok hm cgC14 ?_
  refine chunkM_ok hm cgC15 ?_
  refine chunkM_ok hm cgC16 ?_
  refine chunkM_ok hm cgC17 ?_
  refine chunkM_ok hm cgC18 ?_
  refine chunkM_ok hm cgC19 ?_
  refine chunkM_ok hm cgC20 ?_
  refine chunkM_ok hm cgC21 ?_
  exact lastM_ok hm cgLast
end Go.Proofs.YtjbdkdgeceggbaaGreatDoor
