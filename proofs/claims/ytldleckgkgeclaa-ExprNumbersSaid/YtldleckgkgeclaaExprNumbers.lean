/-
  ExprNumbers: the pieces together.
-/
import Derived.Test.YtldleckgkgeclaaExprNumbersA
import Derived.Test.YtldleckgkgeclaaExprNumbersB
import Derived.Test.YtldleckgkgeclaaExprNumbersC
import Derived.Test.YtldleckgkgeclaaExprNumbersD
namespace Go.Proofs.Ytldleckgkgeclaa
open Go.RowKit
set_option maxRecDepth 1000000
theorem xnLast : lastC Try.prog 100000 xnFn.results.toList xnP14 xnS14 (.bool true) = true := by kernel_rfl
theorem exprNumbers_main (W : World) : Calls Try.prog 8 #[] W fun e w' => e = .returned (.bool true) ∧ Below W.heap.size W w' := by
  have hm : (Try.prog).follows .mixedOrders = true := by kernel_rfl
  refine closed_ok (fn := xnFn) (c := xnBody) (by kernel_rfl) (by kernel_rfl) W ?_
  refine chunk_ok hm xnC1 ?_
  refine chunk_ok hm xnC2 ?_
  refine chunk_ok hm xnC3 ?_
  refine chunk_ok hm xnC4 ?_
  refine chunk_ok hm xnC5 ?_
  refine chunk_ok hm xnC6 ?_
  refine chunk_ok hm xnC7 ?_
  refine chunk_ok hm xnC8 ?_
  refine chunk_ok hm xnC9 ?_
  refine chunk_ok hm xnC10 ?_
  refine chunk_ok hm xnC11 ?_
  refine chunk_ok hm xnC12 ?_
  refine chunk_ok hm xnC13 ?_
  refine chunk_ok hm xnC14 ?_
  exact last_ok hm xnLast
end Go.Proofs.Ytldleckgkgeclaa
