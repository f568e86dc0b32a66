/-
  EvalNumbers: the pieces together.
-/
import Derived.Test.YtjbdkdgeceggbaaGreatDoorEvalNumbersA
import Derived.Test.YtjbdkdgeceggbaaGreatDoorEvalNumbersB
import Derived.Test.YtjbdkdgeceggbaaGreatDoorEvalNumbersC
import Derived.Test.YtjbdkdgeceggbaaGreatDoorEvalNumbersD
import Derived.Test.YtjbdkdgeceggbaaGreatDoorEvalNumbersE
import Derived.Test.YtjbdkdgeceggbaaGreatDoorEvalNumbersF
import Derived.Test.YtjbdkdgeceggbaaGreatDoorEvalNumbersG
import Derived.Test.YtjbdkdgeceggbaaGreatDoorEvalNumbersH
import Derived.Test.YtjbdkdgeceggbaaGreatDoorEvalNumbersI
import Derived.Test.YtjbdkdgeceggbaaGreatDoorEvalNumbersJ
namespace Go.Proofs.YtjbdkdgeceggbaaGreatDoor
open Go.RowKit
set_option maxRecDepth 1000000
theorem enLast : lastM Tryz.prog 100000 enFn.results.toList enP38 enS38 (.bool true) = true := by kernel_rfl
theorem enStart : startsM enSnap0 = true := by kernel_rfl
theorem evalNumbers_main [ExtOk Tryz.prog] (W : World) (hw : TabsAt W enTabs) : Calls Tryz.prog 4 #[] W fun e w' => e = .returned (.bool true) ∧ Below W.heap.size W w' := by
  have hm : (Tryz.prog).follows .mixedOrders = true := by kernel_rfl
  refine tabs_ok (fn := enFn) (c := enBody) (by kernel_rfl) (by kernel_rfl) W (tabs := enTabs) (by kernel_rfl) hw ?_
  refine startM_ok (f := 4) enStart ?_
  refine chunkM_ok hm enC1 ?_
  refine chunkM_ok hm enC2 ?_
  refine chunkM_ok hm enC3 ?_
  refine chunkM_ok hm enC4 ?_
  refine chunkM_ok hm enC5 ?_
  refine chunkM_ok hm enC6 ?_
  refine chunkM_ok hm enC7 ?_
  refine chunkM_ok hm enC8 ?_
  refine chunkM_ok hm enC9 ?_
  refine chunkM_ok hm enC10 ?_
  refine chunkM_ok hm enC11 ?_
  refine chunkM_ok hm enC12 ?_
  refine chunkM_ok hm enC13 ?_
  refine chunkM_ok hm enC14 ?_
  refine chunkM_ok hm enC15 ?_
  refine chunkM_ok hm enC16 ?_
  refine chunkM_ok hm enC17 ?_
  refine chunkM_ok hm enC18 ?_
  refine chunkM_ok hm enC19 ?_
  refine chunkM_ok hm enC20 ?_
  refine chunkM_ok hm enC21 ?_
  refine chunkM_ok hm enC22 ?_
  refine chunkM_ok hm enC23 ?_
  refine chunkM_ok hm enC24 ?_
  refine chunkM_ok hm enC25 ?_
  refine chunkM_ok hm enC26 ?_
  refine chunkM_ok hm enC27 ?_
  refine chunkM_ok hm enC28 ?_
  refine chunkM_ok hm enC29 ?_
  refine chunkM_ok hm enC30 ?_
  refine chunkM_ok hm enC31 ?_
  refine chunkM_ok hm enC32 ?_
  refine chunkM_ok hm enC33 ?_
  refine chunkM_ok hm enC34 ?_
  refine chunkM_ok hm enC35 ?_
  refine chunkM_ok hm enC36 ?_
  refine chunkM_ok hm enC37 ?_
  refine chunkM_ok hm enC38 ?_
  exact lastM_ok hm enLast
end Go.Proofs.YtjbdkdgeceggbaaGreatDoor
