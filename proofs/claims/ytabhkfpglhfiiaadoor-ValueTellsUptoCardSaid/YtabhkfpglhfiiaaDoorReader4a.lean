/-
  Package wire's reader: texts, a byte in a range, the beginning.
-/
import Derived.Test.YtabhkfpglhfiiaaDoorReader3
import Derived.Laws.IdiomStrings
import Derived.Lib.BufferRead
namespace Go.Proofs.YtabhkfpglhfiiaaDoor
open Go.RowKit
theorem take_l (R : RS) (n : Nat) : (R.take n).l = R.l := by
  unfold RS.take RS.refuse
  by_cases h0 : (R.why == 0) = true
  · rw [if_pos h0]
    split <;> rfl
  · rw [if_neg h0]
theorem refuse_l (R : RS) (a b : Int) : (R.refuse a b).l = R.l := by
  unfold RS.refuse
  split <;> rfl
theorem take_full (R : RS) (n : Nat) (hn : 0 < n) (h : (R.take n).why = 0) : R.l ≠ [] := by
  intro e
  unfold RS.take RS.refuse at h
  rw [e] at h
  by_cases h0 : (R.why == 0) = true
  · rw [if_pos h0, if_pos (by simp; omega), if_pos h0] at h
    simp at h
  · rw [if_neg h0] at h
    simp at h0
    exact h0 h

end Go.Proofs.YtabhkfpglhfiiaaDoor
