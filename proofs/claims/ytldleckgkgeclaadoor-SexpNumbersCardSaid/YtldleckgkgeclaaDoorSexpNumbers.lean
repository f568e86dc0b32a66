/-
  SexpNumbers: the pieces together.
-/
import Derived.Test.YtldleckgkgeclaaDoorSexpNumbersA
import Derived.Test.YtldleckgkgeclaaDoorSexpNumbersB
import Derived.Test.YtldleckgkgeclaaDoorSexpNumbersC
namespace Go.Proofs.YtldleckgkgeclaaDoor
open Go.RowKit
set_option maxRecDepth 1000000
theorem snLast : lastC Tryd.prog 100000 snFn.results.toList snP9 snS9 (.bool true) = true := by kernel_rfl
theorem sexpNumbers_main [ExtOk Tryd.prog] (W : World) (hw : TabsAt W snTabs) : Calls Tryd.prog 6 #[] W fun e w' => e = .returned (.bool true) ∧ Below W.heap.size W w' := by
  have hm : (Tryd.prog).follows .mixedOrders = true := by kernel_rfl
  refine tabs_ok (fn := snFn) (c := snBody) (by kernel_rfl) (by kernel_rfl) W (tabs := snTabs) (by kernel_rfl) hw ?_
  refine chunk_ok hm snC1 ?_
  refine chunk_ok hm snC2 ?_
  refine chunk_ok hm snC3 ?_
  refine chunk_ok hm snC4 ?_
  refine chunk_ok hm snC5 ?_
  refine chunk_ok hm snC6 ?_
  refine chunk_ok hm snC7 ?_
  refine chunk_ok hm snC8 ?_
  refine chunk_ok hm snC9 ?_
  exact last_ok hm snLast
end Go.Proofs.YtldleckgkgeclaaDoor
