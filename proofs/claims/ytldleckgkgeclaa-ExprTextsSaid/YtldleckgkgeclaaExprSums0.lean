/-
  The columns of u; law 8's size; rows of two numbers.
-/
import Derived.Test.YtldleckgkgeclaaExprOf
import Derived.Test.YtldleckgkgeclaaExprA
namespace Go.Proofs.Ytldleckgkgeclaa
open Go.RowKit
def uCols : List C := [⟨bs chA, 1⟩, ⟨bs chC, 1⟩]
theorem keepU (w : World) : Calls Try.prog 12 #[] w fun e w' => (∃ A c, e = .returned (.slice A 2 c) ∧ CRow w' w'.heap.size A uCols) ∧ Below w.heap.size w w' := by
  go_enter Try.func12, Try.ntmps12
  go_wp2_with fail
  go_ret
  refine ⟨⟨some ⟨w.heap.size, 0, none⟩, 2, rfl, .inr ⟨w.heap.size, 0, rfl, by simp, ?_⟩⟩, (Below.refl _ _).alloc (Nat.le_refl _) _⟩
  intro i x hx
  match i, hx with
  | 0, hx => simp [uCols] at hx; subst hx; simp; rfl
  | 1, hx => simp [uCols] at hx; subst hx; simp; rfl
theorem ops_uCols (op : List UInt8) (a c : Int) (h : op = opAdd ∨ op = opSub ∨ op = opMul) : evalTop uCols [numV a, numV c] (opE op [colE chA, colE chC]) = operateL op (numV a) (numV c) := by
  rcases h with rfl | rfl | rfl <;> kernel_rfl
theorem opE_fine (op : List UInt8) (l : List E) (h : ∀ e ∈ l, e.Fine) (hs : op.length ≤ 1048576) : (opE op l).Fine := .mk _ _ _ _ (by decide) (by decide) hs h
theorem colE_fine (nm : List UInt8) (hs : nm.length ≤ 1048576) : (colE nm).Fine := .mk _ _ _ _ (by decide) (by decide) hs (fun e he => by cases he)
theorem numE_fine (n : Int) (h1 : -9223372036854775808 ≤ n) (h2 : n ≤ 9223372036854775807) : (numE n).Fine := .mk _ _ _ _ h1 h2 (by decide) (fun e he => by cases he)
theorem rowN_two {a c : Int} (a1 : -9223372036854775808 ≤ a) (a2 : a ≤ 9223372036854775807) (c1 : -9223372036854775808 ≤ c) (c2 : c ≤ 9223372036854775807) : rowN [numV a, numV c] := by
  intro v hv
  simp only [List.mem_cons, List.not_mem_nil, or_false] at hv
  rcases hv with rfl | rfl
  · exact ⟨a1, a2⟩
  · exact ⟨c1, c2⟩
theorem fits_u (a c : Int) : fitsB uCols [numV a, numV c] = true := by kernel_rfl
theorem lawSize_any (n : Int) (h1 : -9223372036854775808 ≤ n) (h2 : n ≤ 9223372036854775807) (w : World) :
    Calls Try.prog 15 #[.int .i64 n] w fun e w' => e = .returned (.int .u64 (n.natAbs : Nat)) ∧ w = w' := by
  by_cases h : n < 0
  · go_enter Try.func15, Try.ntmps15
    go_wp2
    go_ret
    refine ⟨congrArg (fun z => Ending.returned (.int .u64 z)) ?_, rfl⟩
    first | omega | (simp only [IntKind.wrap_u64]; omega)
  · go_enter Try.func15, Try.ntmps15
    go_wp2
    go_ret
    refine ⟨congrArg (fun z => Ending.returned (.int .u64 z)) ?_, rfl⟩
    first | omega | (simp only [IntKind.wrap_u64]; omega)
theorem bd64_ {n : Int} (h : (Lit.int .i64 n).wf = true) : -9223372036854775808 ≤ n ∧ n ≤ 9223372036854775807 := by
  simpa [Lit.wf, IntKind.min, IntKind.max, IntKind.signed, IntKind.bits] using h
end Go.Proofs.Ytldleckgkgeclaa
