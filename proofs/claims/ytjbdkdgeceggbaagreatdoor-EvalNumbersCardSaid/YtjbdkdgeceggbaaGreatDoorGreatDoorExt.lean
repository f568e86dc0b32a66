/-
  The library's two functions by contract, at this program.
-/
import Derived.Test.YtjbdkdgeceggbaaGreatDoorEvV
import Derived.Test.YtjbdkdgeceggbaaGreatDoorShelf
import Derived.Test.YtjbdkdgeceggbaaGreatDoorChecked
namespace Go.Proofs.YtjbdkdgeceggbaaGreatDoor
open Go.RowKit
theorem primsHere : primsAt [145] [412] (Tryz.prog).funcs.toList 0 = true := by kernel_rfl
theorem joinHere {f : FuncId} {fn : Func} (h : (Tryz.prog).funcs[f]? = some fn) (hk : primKind fn.name = 1) : f = 145 := by
  have := (primsAt_spec primsHere f fn (by simpa using h)).1 hk
  simpa using this
theorem cloneHere {f : FuncId} {fn : Func} (h : (Tryz.prog).funcs[f]? = some fn) (hk : primKind fn.name = 2) : f = 412 := by
  have := (primsAt_spec primsHere f fn (by simpa using h)).2 hk
  simpa using this
noncomputable instance greatExt : ExtOk Tryz.prog where
  none_ f fn h hk a c sep w := by
    rw [joinHere h hk]
    refine (Tryz.strings_Join_none a c sep w).mono ?_
    rintro e w' ⟨he, hw⟩
    exact ⟨he, hw ▸ Below.refl _ _⟩
  join f fn h hk bk o c xs sep w h1 h2 h3 h4 h5 := by
    rw [joinHere h hk]
    exact Tryz.strings_Join bk o c xs sep w h1 h2 h3 h4 h5
  clone f fn h hk s w hs := by
    rw [cloneHere h hk]
    exact Tryz.stringslite_Clone s w hs
end Go.Proofs.YtjbdkdgeceggbaaGreatDoor
