/-
  BatchNumbers: the pieces together.
-/
import Derived.Test.YtjbdkdgeceggbaaGreatBatchNumbersA
import Derived.Test.YtjbdkdgeceggbaaGreatBatchNumbersB
import Derived.Test.YtjbdkdgeceggbaaGreatBatchNumbersC
import Derived.Test.YtjbdkdgeceggbaaGreatBatchNumbersD
namespace Go.Proofs.YtjbdkdgeceggbaaGreat
open Go.RowKit
set_option maxRecDepth 1000000
theorem bnLast : lastC Tryz.prog 100000 bnFn.results.toList bnP13 bnS13 (.bool true) = true := by kernel_rfl
theorem batchNumbers_main [ExtOk Tryz.prog] (W : World) : Calls Tryz.prog 3 #[] W fun e w' => e = .returned (.bool true) ∧ Below W.heap.size W w' := by
  have hm : (Tryz.prog).follows .mixedOrders = true := by kernel_rfl
  refine closed_ok (fn := bnFn) (c := bnBody) (by kernel_rfl) (by kernel_rfl) W ?_
  refine chunk_ok hm bnC1 ?_
  refine chunk_ok hm bnC2 ?_
  refine chunk_ok hm bnC3 ?_
  refine chunk_ok hm bnC4 ?_
  refine chunk_ok hm bnC5 ?_
  refine chunk_ok hm bnC6 ?_
  refine chunk_ok hm bnC7 ?_
  refine chunk_ok hm bnC8 ?_
  refine chunk_ok hm bnC9 ?_
  refine chunk_ok hm bnC10 ?_
  refine chunk_ok hm bnC11 ?_
  refine chunk_ok hm bnC12 ?_
  refine chunk_ok hm bnC13 ?_
  exact last_ok hm bnLast
end Go.Proofs.YtjbdkdgeceggbaaGreat
