/-
  What law 8's texts of texts give as expressions, run by the kernel; and what these give.
-/
import Derived.Test.YtldleckgkgeclaaExprOf
import Derived.Test.YtldleckgkgeclaaExprSums0
namespace Go.Proofs.Ytldleckgkgeclaa
open Go.RowKit
set_option maxRecDepth 1000000
theorem of_cat : runExpr Try.prog 100000 14 [.string ⟨#[40, 99, 97, 116, 32, 120, 32, 121, 41]⟩] = some (opE opCat [colE chX, colE chY]) := by kernel_rfl
theorem of_len : runExpr Try.prog 100000 14 [.string ⟨#[40, 108, 101, 110, 32, 120, 41]⟩] = some (opE opLen [colE chX]) := by kernel_rfl
theorem of_eq2 : runExpr Try.prog 100000 14 [.string ⟨#[40, 101, 113, 32, 120, 32, 121, 41]⟩] = some (opE opEq [colE chX, colE chY]) := by kernel_rfl
theorem of_lt2 : runExpr Try.prog 100000 14 [.string ⟨#[40, 108, 116, 32, 120, 32, 121, 41]⟩] = some (opE opLt [colE chX, colE chY]) := by kernel_rfl
def xCols : List C := [⟨bs chX, 2⟩, ⟨bs chY, 2⟩]
theorem okB_str {s : ByteArray} (h : s.size ≤ 40) : V.okB (strV s) = true := by
  unfold V.okB strV
  simp
  omega
theorem ev_top {cols : List C} {r : List V} {e : E} (hf : fitsB cols r = true) (hm : madeE e = true) (ht : (typeE cols e).2 = 0) : evalTop cols r e = evalE cols r e := by
  unfold evalTop
  rw [hf, hm, ht]
  rfl
section
variable (s t : ByteArray) (hs : s.size ≤ 40) (ht : t.size ≤ 40)
include hs ht
theorem fits_x : fitsB xCols [strV s, strV t] = true := by
  have e : fitsB xCols [strV s, strV t] = ((V.okB (strV s) && true) && ((V.okB (strV t) && true) && true)) := rfl
  rw [e, okB_str hs, okB_str ht]
  rfl
theorem ev_cat : evalTop xCols [strV s, strV t] (opE opCat [colE chX, colE chY]) = if 40 < s.size + t.size then (zeroV, 3) else (strV (s ++ t), 0) :=
  (ev_top (fits_x s t hs ht) (by kernel_rfl) (by kernel_rfl)).trans (by kernel_rfl)
theorem ev_len : evalTop xCols [strV s, strV t] (opE opLen [colE chX]) = (numV s.size, 0) :=
  (ev_top (fits_x s t hs ht) (by kernel_rfl) (by kernel_rfl)).trans (by kernel_rfl)
theorem ev_eq2 : evalTop xCols [strV s, strV t] (opE opEq [colE chX, colE chY]) = (numV (boolI (V.eqv (strV s) (strV t))), 0) :=
  (ev_top (fits_x s t hs ht) (by kernel_rfl) (by kernel_rfl)).trans (by kernel_rfl)
theorem ev_lt2 : evalTop xCols [strV s, strV t] (opE opLt [colE chX, colE chY]) = (numV (boolI (V.lt (strV s) (strV t))), 0) :=
  (ev_top (fits_x s t hs ht) (by kernel_rfl) (by kernel_rfl)).trans (by kernel_rfl)
omit hs ht in
theorem eqv_str : V.eqv (strV s) (strV t) = (s.toList == t.toList) := by
  unfold V.eqv strV
  simp
theorem lt_str : V.lt (strV s) (strV t) = Op.bytesLess s.toList t.toList := by
  unfold V.lt
  rw [okB_str hs, okB_str ht]
  rfl
end
end Go.Proofs.Ytldleckgkgeclaa
