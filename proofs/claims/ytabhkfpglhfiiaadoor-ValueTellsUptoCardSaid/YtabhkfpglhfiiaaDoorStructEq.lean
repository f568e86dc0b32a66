/-
  Values held against one another by == and !=.
-/
import Derived.Test.YtabhkfpglhfiiaaDoorRows
import Derived.Test.YtabhkfpglhfiiaaDoorMem
import Derived.BigQuiet
import Derived.Laws.StructEq
namespace Go.Proofs.YtabhkfpglhfiiaaDoor
open Go.RowKit
@[go_sem] theorem guard_value (op : BinOp) (x y : Operand) (xs ys : Array Value) (w : World) : (eqGuard op 24 x y (.agg xs) (.agg ys)).run Tryd.prog w = .ok () w := run_eqGuard_agg w op _ x y xs ys (by kernel_rfl)
@[go_sem] theorem neq_value (xk xn yk yn : Int) (xs ys : ByteArray) (w : World) :
    (binOp .neq 24 (.agg #[.int .i64 xk, .int .i64 xn, .string xs]) (.agg #[.int .i64 yk, .int .i64 yn, .string ys])).run Tryd.prog w = .ok (.bool (!(xk == yk && (xn == yn && xs.toList == ys.toList)))) w := by
  have hS : Tryd.prog.underlying 24 = some (.struct (Tryd.prog.fieldsOf 24)) := by kernel_rfl
  have hp : Tryd.prog.stoodInHeld 24 = false := by kernel_rfl
  have u1 := Tryd.underlying3
  have u2 := Tryd.underlying2
  have u3 := Tryd.underlying9
  rw [run_neq_struct, show (10000 : Nat) = 9999 + 1 from rfl, run_equalIn_agg w 9999 _ _ _ hS hp]
  simp only [Program.fieldsOf, Tryd.underlying24]
  go_simp
  by_cases h1 : xk = yk <;> by_cases h2 : xn = yn <;> by_cases h3 : xs.toList = ys.toList <;> simp [h1, h2, h3]
def V.eqB (a b : V) : Bool := a.k == b.k && (a.n == b.n && a.s.toList == b.s.toList)
@[go_sem] theorem eql_value (xk xn yk yn : Int) (xs ys : ByteArray) (w : World) :
    (binOp .eql 24 (.agg #[.int .i64 xk, .int .i64 xn, .string xs]) (.agg #[.int .i64 yk, .int .i64 yn, .string ys])).run Tryd.prog w = .ok (.bool (xk == yk && (xn == yn && xs.toList == ys.toList))) w := by
  have hS : Tryd.prog.underlying 24 = some (.struct (Tryd.prog.fieldsOf 24)) := by kernel_rfl
  have hp : Tryd.prog.stoodInHeld 24 = false := by kernel_rfl
  have u1 := Tryd.underlying3
  have u2 := Tryd.underlying2
  have u3 := Tryd.underlying9
  rw [run_eql_struct, show (10000 : Nat) = 9999 + 1 from rfl, run_equalIn_agg w 9999 _ _ _ hS hp]
  simp only [Program.fieldsOf, Tryd.underlying24]
  go_simp
  by_cases h1 : xk = yk <;> by_cases h2 : xn = yn <;> by_cases h3 : xs.toList = ys.toList <;> simp [h1, h2, h3]
end Go.Proofs.YtabhkfpglhfiiaaDoor
