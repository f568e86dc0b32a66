/-
  The library's two functions that package sexp's reader calls.
-/
import Derived.Test.YtldleckgkgeclaaDoorSxB
import Derived.Test.YtldleckgkgeclaaDoorShelf
set_option linter.unusedVariables false
set_option linter.unusedSimpArgs false
namespace Go.Proofs.YtldleckgkgeclaaDoor
open Go.RowKit
theorem parseHere : ParseHere := fun x w hx hE => by
  obtain ⟨⟨_, e1, c1, d1⟩, ⟨_, e2, c2, d2⟩⟩ := hE
  cases h : Lib.parseIntB 64 x.data.toList with
  | ok v =>
    refine (Tryd.strconv_ParseInt_10_at64_ok x (by omega) v h w).mono ?_
    rintro e w' ⟨rfl, hw⟩
    refine ⟨.inl ⟨v, rfl, rfl⟩, ?_⟩
    rcases hw with rfl | ⟨t, rfl⟩
    · exact Below.refl _ _
    · exact Lib.bytesWorld_below _ _ _
  | «syntax» =>
    refine (Tryd.strconv_ParseInt_10_at64_syntax x (by omega) h e1 w c1 d1).mono ?_
    rintro e w' ⟨N, rfl, _, _, hb⟩
    exact ⟨.inr ⟨(fun v h => by cases h), _, _, _, rfl⟩, hb⟩
  | range =>
    refine (Tryd.strconv_ParseInt_10_at64_range x (by omega) h e2 w c2 d2).mono ?_
    rintro e w' ⟨N, rfl, _, _, hb⟩
    exact ⟨.inr ⟨(fun v h => by cases h), _, _, _, rfl⟩, hb⟩
theorem hexHere : HexHere := fun c w => Tryd.strings_IndexByte hexDigits c w
end Go.Proofs.YtldleckgkgeclaaDoor
