/-
  What law 8's texts of branches give as expressions, run by the kernel; and what these give.
-/
import Derived.Test.YtldleckgkgeclaaExprOf
import Derived.Test.YtldleckgkgeclaaExprSums0
namespace Go.Proofs.Ytldleckgkgeclaa
open Go.RowKit
set_option maxRecDepth 1000000
def overE : E := opE opAdd [numE 9223372036854775807, numE 1]
theorem of_if1 : runExpr Try.prog 100000 14 [.string ⟨#[40, 105, 102, 32, 97, 32, 99, 32, 40, 97, 100, 100, 32, 57, 50, 50, 51, 51, 55, 50, 48, 51, 54, 56, 53, 52, 55, 55, 53, 56, 48, 55, 32, 49, 41, 41]⟩] = some (opE opIf [colE chA, colE chC, overE]) := by kernel_rfl
theorem of_if2 : runExpr Try.prog 100000 14 [.string ⟨#[40, 105, 102, 32, 97, 32, 40, 97, 100, 100, 32, 57, 50, 50, 51, 51, 55, 50, 48, 51, 54, 56, 53, 52, 55, 55, 53, 56, 48, 55, 32, 49, 41, 32, 99, 41]⟩] = some (opE opIf [colE chA, overE, colE chC]) := by kernel_rfl
theorem of_and : runExpr Try.prog 100000 14 [.string ⟨#[40, 97, 110, 100, 32, 97, 32, 99, 41]⟩] = some (opE opAnd [colE chA, colE chC]) := by kernel_rfl
theorem of_or : runExpr Try.prog 100000 14 [.string ⟨#[40, 111, 114, 32, 97, 32, 99, 41]⟩] = some (opE opOr [colE chA, colE chC]) := by kernel_rfl
theorem of_not : runExpr Try.prog 100000 14 [.string ⟨#[40, 110, 111, 116, 32, 97, 41]⟩] = some (opE opNot [colE chA]) := by kernel_rfl
theorem of_eq : runExpr Try.prog 100000 14 [.string ⟨#[40, 101, 113, 32, 97, 32, 99, 41]⟩] = some (opE opEq [colE chA, colE chC]) := by kernel_rfl
theorem of_lt : runExpr Try.prog 100000 14 [.string ⟨#[40, 108, 116, 32, 97, 32, 99, 41]⟩] = some (opE opLt [colE chA, colE chC]) := by kernel_rfl
section
variable (a c : Int)
theorem ev_if1 : evalTop uCols [numV a, numV c] (opE opIf [colE chA, colE chC, overE]) = if a = 0 then (zeroV, 26) else (numV c, 0) := by kernel_rfl
theorem ev_if2 : evalTop uCols [numV a, numV c] (opE opIf [colE chA, overE, colE chC]) = if a = 0 then (numV c, 0) else (zeroV, 26) := by kernel_rfl
theorem ev_and : evalTop uCols [numV a, numV c] (opE opAnd [colE chA, colE chC]) = (numV (boolI (a != 0 && c != 0)), 0) := by kernel_rfl
theorem ev_or : evalTop uCols [numV a, numV c] (opE opOr [colE chA, colE chC]) = (numV (boolI (a != 0 || c != 0)), 0) := by kernel_rfl
theorem ev_not : evalTop uCols [numV a, numV c] (opE opNot [colE chA]) = (numV (boolI (a == 0)), 0) := by kernel_rfl
theorem ev_eq : evalTop uCols [numV a, numV c] (opE opEq [colE chA, colE chC]) = (numV (boolI (V.eqv (numV a) (numV c))), 0) := by kernel_rfl
theorem ev_lt : evalTop uCols [numV a, numV c] (opE opLt [colE chA, colE chC]) = (numV (boolI (V.lt (numV a) (numV c))), 0) := by kernel_rfl
theorem eqv_num : V.eqv (numV a) (numV c) = (a == c) := by
  unfold V.eqv numV
  simp
theorem lt_num : V.lt (numV a) (numV c) = decide (a < c) := by
  have h : ∀ z, V.okB (numV z) = true := fun z => by kernel_rfl
  unfold V.lt
  rw [h, h]
  rfl
end
end Go.Proofs.Ytldleckgkgeclaa
