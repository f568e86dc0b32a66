/-
  EvalNumbers: the closed facts of its row, each by itself.
-/
import Derived.Test.YtjbdkdgeceggbaaGreatDoorGreatLaid
import Derived.ProofKit
import Derived.JoinedCond
namespace Go.Proofs.YtjbdkdgeceggbaaGreatDoor.evalNumbers
open Go.ChangeShapes Go.WideShapes Go.ChangeAt Go.RowKit
set_option linter.unusedVariables false

theorem and_i {a b : Bool} (ha : a = true) (hb : b = true) : (a && b) = true := by rw [ha, hb]; rfl

set_option maxHeartbeats 4000000 in
theorem joined : joinedFacts Tryz.pinned.checked.prog 4 Tryz.f4 (OpenSpec.ofChange Rows.evalNumbersSpec).bare Rows.evalNumbersRow = true := by
  unfold joinedFacts
  repeat' with_reducible apply and_i
  all_goals (as_aux_lemma => kernel_rfl)
theorem named : Tryz.pinned.checked.prog.funcNamed "confluence/confluencelaw11.EvalNumbers" = some 4 := by kernel_rfl
theorem inst : Tryz.f4.isInstance Tryz.pinned.checked.prog Rows.evalNumbersRow.origin Rows.evalNumbersRow.targs := of_decide_eq_true (by kernel_rfl)
theorem wrap : Tryz.f4.isWrapper Tryz.pinned.checked.prog Rows.evalNumbersRow.wrapper Rows.evalNumbersRow.mainSum := by unfold Func.isWrapper; first | (rw [if_pos (by decide +kernel)]; kernel_rfl) | (rw [if_neg (by decide +kernel)]; exact ⟨rfl, rfl⟩)
end Go.Proofs.YtjbdkdgeceggbaaGreatDoor.evalNumbers
