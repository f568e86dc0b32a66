/-
  What law 8's texts give as expressions; known; the columns of u; all run by the kernel.
-/
import Derived.Test.YtldleckgkgeclaaEvX
import Derived.Test.YtldleckgkgeclaaChecked
namespace Go.Proofs.Ytldleckgkgeclaa
open Go.RowKit
instance extNone : ExtOk Try.prog := extOk_none (by kernel_rfl)
def bs (l : List UInt8) : ByteArray := ⟨⟨l⟩⟩
def colE (l : List UInt8) : E := .mk 1 (bs l) 0 []
def numE (n : Int) : E := .mk 2 ⟨#[]⟩ n []
def opE (op : List UInt8) (l : List E) : E := .mk 4 (bs op) 0 l
def chA : List UInt8 := [97]
def chC : List UInt8 := [99]
def chX : List UInt8 := [120]
def chY : List UInt8 := [121]
theorem follows_ : (Try.prog).follows .mixedOrders = true := by kernel_rfl
theorem of_any {s : ByteArray} {x : E} (h : runExpr Try.prog 100000 14 [.string s] = some x) (w : World) :
    Calls Try.prog 14 #[.string s] w fun e w' => (∃ A c, e = .returned (x.val A c) ∧ EKids w' w'.heap.size A x.kids) ∧ Below w.heap.size w w' := expr_run follows_ h w
set_option maxRecDepth 1000000
theorem of_add : runExpr Try.prog 100000 14 [.string ⟨#[40, 97, 100, 100, 32, 97, 32, 99, 41]⟩] = some (opE opAdd [colE chA, colE chC]) := by kernel_rfl
theorem of_sub : runExpr Try.prog 100000 14 [.string ⟨#[40, 115, 117, 98, 32, 97, 32, 99, 41]⟩] = some (opE opSub [colE chA, colE chC]) := by kernel_rfl
theorem of_mul : runExpr Try.prog 100000 14 [.string ⟨#[40, 109, 117, 108, 32, 97, 32, 99, 41]⟩] = some (opE opMul [colE chA, colE chC]) := by kernel_rfl
theorem known8_run : runPlain Try.prog 100000 16 [] [] = some (.bool true) := by kernel_rfl
theorem known8_any (w : World) : Calls Try.prog 16 #[] w fun e w' => e = .returned (.bool true) ∧ Below w.heap.size w w' := plain_run follows_ known8_run w (tabsAt_none w)
end Go.Proofs.Ytldleckgkgeclaa
