/-
  One more law by a short name.
-/
import Derived.Deep.RegionHeld
namespace Go
theorem Shut.o {p:Prop} (h:Shut p):p:=h.out
end Go
