/-
  CheckNumbers: the pieces together.
-/
import Derived.Test.YtjbdkdgeceggbaaGreatDoorCheckNumbersA
import Derived.Test.YtjbdkdgeceggbaaGreatDoorCheckNumbersB
import Derived.Test.YtjbdkdgeceggbaaGreatDoorCheckNumbersC
import Derived.Test.YtjbdkdgeceggbaaGreatDoorCheckNumbersD
import Derived.Test.YtjbdkdgeceggbaaGreatDoorCheckNumbersE
import Derived.Test.YtjbdkdgeceggbaaGreatDoorCheckNumbersF
import Derived.Test.YtjbdkdgeceggbaaGreatDoorCheckNumbersG
import Derived.Test.YtjbdkdgeceggbaaGreatDoorCheckNumbersH
namespace Go.Proofs.YtjbdkdgeceggbaaGreatDoor
open Go.RowKit
set_option maxRecDepth 1000000
theorem cnLast : lastC Tryz.prog 100000 cnFn.results.toList cnP50 cnS50 (.bool true) = true := by kernel_rfl
theorem checkNumbers_main [ExtOk Tryz.prog] (W : World) : Calls Tryz.prog 3 #[] W fun e w' => e = .returned (.bool true) ∧ Below W.heap.size W w' := by
  have hm : (Tryz.prog).follows .mixedOrders = true := by kernel_rfl
  refine closed_ok (fn := cnFn) (c := cnBody) (by kernel_rfl) (by kernel_rfl) W ?_
  refine chunk_ok hm cnC1 ?_
  refine chunk_ok hm cnC2 ?_
  refine chunk_ok hm cnC3 ?_
  refine chunk_ok hm cnC4 ?_
  refine chunk_ok hm cnC5 ?_
  refine chunk_ok hm cnC6 ?_
  refine chunk_ok hm cnC7 ?_
  refine chunk_ok hm cnC8 ?_
  refine chunk_ok hm cnC9 ?_
  refine chunk_ok hm cnC10 ?_
  refine chunk_ok hm cnC11 ?_
  refine chunk_ok hm cnC12 ?_
  refine chunk_ok hm cnC13 ?_
  refine chunk_ok hm cnC14 ?_
  refine chunk_ok hm cnC15 ?_
  refine chunk_ok hm cnC16 ?_
  refine chunk_ok hm cnC17 ?_
  refine chunk_ok hm cnC18 ?_
  refine chunk_ok hm cnC19 ?_
  refine chunk_ok hm cnC20 ?_
  refine chunk_ok hm cnC21 ?_
  refine chunk_ok hm cnC22 ?_
  refine chunk_ok hm cnC23 ?_
  refine chunk_ok hm cnC24 ?_
  refine chunk_ok hm cnC25 ?_
  refine chunk_ok hm cnC26 ?_
  refine chunk_ok hm cnC27 ?_
  refine chunk_ok hm cnC28 ?_
  refine chunk_ok hm cnC29 ?_
  refine chunk_ok hm cnC30 ?_
  refine chunk_ok hm cnC31 ?_
  refine chunk_ok hm cnC32 ?_
  refine chunk_ok hm cnC33 ?_
  refine chunk_ok hm cnC34 ?_
  refine chunk_ok hm cnC35 ?_
  refine chunk_ok hm cnC36 ?_
  refine chunk_ok hm cnC37 ?_
  refine chunk_ok hm cnC38 ?_
  refine chunk_ok hm cnC39 ?_
  refine chunk_ok hm cnC40 ?_
  refine chunk_ok hm cnC41 ?_
  refine chunk_ok hm cnC42 ?_
  refine chunk_ok hm cnC43 ?_
  refine chunk_ok hm cnC44 ?_
  refine chunk_ok hm cnC45 ?_
  refine chunk_ok hm cnC46 ?_
  refine chunk_ok hm cnC47 ?_
  refine chunk_ok hm cnC48 ?_
  refine chunk_ok hm cnC49 ?_
  refine chunk_ok hm cnC50 ?_
  exact last_ok hm cnLast
end Go.Proofs.YtjbdkdgeceggbaaGreatDoor
