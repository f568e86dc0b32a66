/-
  ZsetNumbers, run by the kernel.
-/
import Derived.Test.YtldleckgkgeclaaEvM
import Derived.Test.YtldleckgkgeclaaChecked
namespace Go.Proofs.Ytldleckgkgeclaa
open Go.RowKit
set_option maxRecDepth 1000000 in
theorem zsetNumbers_run : runPlain Try.prog 100000 7 [] [] = some (.bool true) := by kernel_rfl
theorem zsetNumbers_main (W : World) : Calls Try.prog 7 #[] W fun e w' => e = .returned (.bool true) ∧ Below W.heap.size W w' :=
  plain_run (by kernel_rfl) zsetNumbers_run W (tabsAt_none W)
end Go.Proofs.Ytldleckgkgeclaa
