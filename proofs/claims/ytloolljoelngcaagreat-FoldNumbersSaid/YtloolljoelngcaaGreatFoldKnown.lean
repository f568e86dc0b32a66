/-
  FoldKnown: the pieces together.
-/
import Derived.Test.YtloolljoelngcaaGreatFoldKnownA
import Derived.Test.YtloolljoelngcaaGreatFoldKnownB
namespace Go.Proofs.YtloolljoelngcaaGreat
open Go.RowKit
set_option maxRecDepth 1000000
theorem fkLast : lastM Tryz.prog 100000 fkFn.results.toList fkP2 fkS2.n (.bool true) = true := by kernel_rfl
theorem fkStart : startsM (start fkFn) = true := by kernel_rfl
theorem foldKnown_main [ExtOk Tryz.prog] (W : World) : Calls Tryz.prog 21 #[] W fun e w' => e = .returned (.bool true) ∧ Below W.heap.size W w' := by
  have hm : (Tryz.prog).follows .mixedOrders = true := by kernel_rfl
  have hK : KnownIs Tryz.prog (none) := fun g h => nomatch h
  refine closed_ok (fn := fkFn) (c := fkBody) (by kernel_rfl) (by kernel_rfl) W ?_
  refine startM_ok (f := 21) fkStart ?_
  refine SafeN.ofO ?_
  refine chunkO_ok hK hm fkC1 ?_
  refine chunkO_ok hK hm fkC2 ?_
  exact SafeNO.ofN (lastM_ok hm fkLast)
end Go.Proofs.YtloolljoelngcaaGreat
