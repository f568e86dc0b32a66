/-
  FoldNumbers: the pieces together.
-/
import Derived.Test.YtloolljoelngcaaGreatFoldKnown
import Derived.Test.YtloolljoelngcaaGreatFoldNumbersA
import Derived.Test.YtloolljoelngcaaGreatFoldNumbersB
import Derived.Test.YtloolljoelngcaaGreatFoldNumbersC
namespace Go.Proofs.YtloolljoelngcaaGreat
open Go.RowKit
set_option maxRecDepth 1000000
theorem fnLast : lastM Tryz.prog 100000 fnFn.results.toList fnP8 fnS8.n (.bool true) = true := by kernel_rfl
theorem fnStart : startsM (start fnFn) = true := by kernel_rfl
theorem foldNumbers_main [ExtOk Tryz.prog] (W : World) : Calls Tryz.prog 4 #[] W fun e w' => e = .returned (.bool true) ∧ Below W.heap.size W w' := by
  have hm : (Tryz.prog).follows .mixedOrders = true := by kernel_rfl
  have hK : KnownIs Tryz.prog (some 21) := fun g h W => by (obtain rfl := Option.some.inj h; exact foldKnown_main W)
  refine closed_ok (fn := fnFn) (c := fnBody) (by kernel_rfl) (by kernel_rfl) W ?_
  refine startM_ok (f := 4) fnStart ?_
  refine SafeN.ofO ?_
  refine chunkO_ok hK hm fnC1 ?_
  refine chunkO_ok hK hm fnC2 ?_
  refine chunkO_ok hK hm fnC3 ?_
  refine chunkO_ok hK hm fnC4 ?_
  refine chunkO_ok hK hm fnC5 ?_
  refine chunkO_ok hK hm fnC6 ?_
  refine chunkO_ok hK hm fnC7 ?_
  refine chunkO_ok hK hm fnC8 ?_
  exact SafeNO.ofN (lastM_ok hm fnLast)
end Go.Proofs.YtloolljoelngcaaGreat
