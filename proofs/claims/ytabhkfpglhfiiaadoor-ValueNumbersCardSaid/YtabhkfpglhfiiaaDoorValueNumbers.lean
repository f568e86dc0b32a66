/-
  ValueNumbers, run by the kernel.
-/
import Derived.Test.YtabhkfpglhfiiaaDoorEvP
import Derived.Test.YtabhkfpglhfiiaaDoorLaid
namespace Go.Proofs.YtabhkfpglhfiiaaDoor
open Go.RowKit
theorem powAt {W : World} (hL : laidMetH Tryd.prog Rows.valueShowsRow.laid W) : TabsAt W [(0, Lib.pow10Tab.map fun z => Value.int .u64 z)] := by
  have h := table hL
  unfold Lib.TabIs World.var? at h
  rw [gPow] at h
  simp only [Option.bind_some] at h
  intro g cs hm
  obtain ⟨rfl, rfl⟩ := Prod.mk.inj (List.mem_singleton.1 hm)
  split at h
  · rename_i c t fr hc
    obtain rfl := Option.some.inj h
    refine ⟨(Array.getElem?_eq_some_iff.1 hc).1, fun i v hv => ?_⟩
    unfold World.cell?
    rw [hc]
    simpa using hv
  · cases h
set_option maxRecDepth 1000000 in
theorem valueNumbers_run : runPlain Tryd.prog 100000 4 [] [(0, Lib.pow10Tab.map fun z => Value.int .u64 z)] = some (.bool true) := by kernel_rfl
theorem valueNumbers_main (W : World) (hL : laidMetH Tryd.prog Rows.valueShowsRow.laid W) : Calls Tryd.prog 4 #[] W fun e w' => e = .returned (.bool true) ∧ Below W.heap.size W w' :=
  plain_run (by kernel_rfl) valueNumbers_run W (powAt hL)
end Go.Proofs.YtabhkfpglhfiiaaDoor
