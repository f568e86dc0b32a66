/-
  One operation of a region that draws: a row literal of one tree. (The walk's own simp is slow for the kernel in a large context.)
-/
import Derived.Test.YtldleckgkgeclaaDoorSxM
import Derived.Test.YtldleckgkgeclaaDoorValue
set_option linter.unusedVariables false
set_option linter.unusedSimpArgs false
namespace Go.Proofs.YtldleckgkgeclaaDoor
open Go.RowKit
set_option maxRecDepth 100000 in
set_option maxHeartbeats 4000000 in
theorem step_build5 {ops : Array Oper} {a : Act} {w : World} {K : Act → World → Prop} {Q : Exit → Act → World → Prop} {E : Prop} (o : Oper) (hg : o.guard = none) (x : Tmp) (ho : o.op = .buildSlice 22 1 #[(0, .tmp x)])
   (k n l : Int) (s : ByteArray) (A : Option Addr) (m c : Nat) (hv : a.eval (.tmp x) = .agg #[.int .i64 k, .string s, .int .i64 n, .slice A m c, .int .i64 l])
   (h : K (a.put o.dst (.slice (some ⟨w.heap.size, 0, none⟩) 1 1)) (w.alloc (.cells #[.int .i64 k, .string s, .int .i64 n, .slice A m c, .int .i64 l] 24))) :
   if Region.wanted o (yielded ops a.tmps) = true then Oper.wp Tryd.prog o a w K Q else E := by
  have hw : Region.wanted o (yielded ops a.tmps) = true := by simp [Region.wanted, hg]
  rw [if_pos hw]
  have hv' : a.tmps[x]?.getD undef = .agg #[.int .i64 k, .string s, .int .i64 n, .slice A m c, .int .i64 l] := by simpa [Act.eval] using hv
  clear hv hw
  obtain ⟨d, op, ty, p, af, gd⟩ := o
  simp only at ho hg h
  subst ho hg
  go_simp
  exact h
set_option maxRecDepth 100000 in
set_option maxHeartbeats 4000000 in
theorem step_buildZ {ops : Array Oper} {a : Act} {w : World} {K : Act → World → Prop} {Q : Exit → Act → World → Prop} {E : Prop} (o : Oper) (hg : o.guard = none) (ho : o.op = .buildSlice 22 1 #[(0, .const (.agg #[.int .i64 0, .string ⟨#[]⟩, .int .i64 0, .slice none 0 0, .int .i64 0]))])
   (h : K (a.put o.dst (.slice (some ⟨w.heap.size, 0, none⟩) 1 1)) (w.alloc (.cells #[.int .i64 0, .string ⟨#[]⟩, .int .i64 0, .slice none 0 0, .int .i64 0] 24))) :
   if Region.wanted o (yielded ops a.tmps) = true then Oper.wp Tryd.prog o a w K Q else E := by
  have hw : Region.wanted o (yielded ops a.tmps) = true := by simp [Region.wanted, hg]
  rw [if_pos hw]
  clear hw
  obtain ⟨d, op, ty, p, af, gd⟩ := o
  simp only at ho hg h
  subst ho hg
  go_simp
  exact h
end Go.Proofs.YtldleckgkgeclaaDoor
