/-
  The library's two functions by contract, at this program.
-/
import Derived.Test.YtldleckgkgeclaaDoorSexpDeepS
import Derived.Test.YtldleckgkgeclaaDoorShelf
namespace Go.Proofs.YtldleckgkgeclaaDoor
open Go.RowKit
theorem primsHere : primsAt [34] [109] (Tryd.prog).funcs.toList 0 = true := by kernel_rfl
theorem joinHere {f : FuncId} {fn : Func} (h : (Tryd.prog).funcs[f]? = some fn) (hk : primKind fn.name = 1) : f = 34 := by
  have := (primsAt_spec primsHere f fn (by simpa using h)).1 hk
  simpa using this
theorem cloneHere {f : FuncId} {fn : Func} (h : (Tryd.prog).funcs[f]? = some fn) (hk : primKind fn.name = 2) : f = 109 := by
  have := (primsAt_spec primsHere f fn (by simpa using h)).2 hk
  simpa using this
instance extOk : ExtOk Tryd.prog where
  none_ f fn h hk a c sep w := by
    rw [joinHere h hk]
    refine (Tryd.strings_Join_none a c sep w).mono ?_
    rintro e w' ⟨he, hw⟩
    exact ⟨he, hw ▸ Below.refl _ _⟩
  join f fn h hk bk o c xs sep w h1 h2 h3 h4 h5 := by
    rw [joinHere h hk]
    exact Tryd.strings_Join bk o c xs sep w h1 h2 h3 h4 h5
  clone f fn h hk s w hs := by
    rw [cloneHere h hk]
    exact Tryd.stringslite_Clone s w hs
end Go.Proofs.YtldleckgkgeclaaDoor
