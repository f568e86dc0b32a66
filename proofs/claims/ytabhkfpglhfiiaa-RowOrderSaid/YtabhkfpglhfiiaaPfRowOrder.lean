/-
  RowOrder answers true at every input, and its arguments read afterwards as they read before.
  No condition beyond the given row's.
-/
import Derived.Test.YtabhkfpglhfiiaaRowOrder2
import Derived.Test.YtabhkfpglhfiiaaRowFinds
import Derived.Test.YtabhkfpglhfiiaaTallyParts
import Derived.Test.YtabhkfpglhfiiaaArgs
import Derived.ProofKit
namespace Go.Proofs.Ytabhkfpglhfiiaa.rowOrder
open Go.ChangeShapes Go.WideShapes Go.ChangeAt Go.RowKit
open Go.ChangeMaps (open_string shut_string)
set_option linter.unusedVariables false

theorem own : ownKnob Try.prog.godebug = none := by kernel_rfl
theorem laidOut : laidOutB Try.prog = true := by kernel_rfl

set_option maxRecDepth 100000 in
theorem lifted (os : Os) (started : os.Started) (H : Type) (enc : TypeId × Value → H) :
    ReturnsInHanded {} Try.checked os 8 .any (Rows.rowOrderSpec.pre6 enc Try.prog Try.f8 Rows.rowOrderRow.domain false) (Rows.rowOrderSpec.post enc Try.prog Try.f8 false true false false) := by
  refine returnsInHanded_of_change (C := Try.checked) own started (by kernel_rfl) Try.func8
    (ChangeSpec.witness6 (enc := enc) (C := Try.checked) false ⟨#[], #[.slice none 0 0, .slice none 0 0, .slice none 0 0], []⟩ 8 (by kernel_rfl) (by kernel_rfl) (by kernel_rfl) (by kernel_rfl)) ?_
  intro W base args ds gs before hval0 hW hcnd _
  have hval : ∀ (j : Nat) t v, Try.f8.params[j]? = some t → args[j]? = some v → Value.okWide Try.prog W .any base t v := hval0
  have hW' := hW
  obtain ⟨p, q, hA0, hV, rfl, hfz, hnd⟩ := hW
  have hA : DataW.TrodAll enc Try.prog W 0 (fun _ => true) true Try.f8.params.toList args.toList ds p := hA0
  rw [Try.params8] at hA hval
  obtain ⟨v0, vs0, d0, ds0, p0, q0, hargs, rfl, rfl, h0, r0⟩ := trodAll_cons hA
  obtain ⟨v1, vs1, d1, ds1, p1, q1, rfl, rfl, rfl, h1, r1⟩ := trodAll_cons r0
  obtain ⟨v2, vs2, d2, ds2, p2, q2, rfl, rfl, rfl, h2, r2⟩ := trodAll_cons r1
  obtain ⟨rfl, rfl, rfl⟩ := trodAll_nil r2
  obtain rfl : args = #[v0, v1, v2] := by cases args; simp_all
  obtain ⟨rfl, rfl⟩ := trodVars_none hV
  obtain ⟨A0, len0, c0, rfl⟩ := okWide_slice Try.underlying39 (hval 0 39 v0 rfl rfl)
  obtain ⟨l0, rfl, hc0, hm0, hr0, hw0⟩ := open_row Try.underlying39 Try.underlying49 (by kernel_rfl) (by kernel_rfl) Try.underlying3 Try.underlying2 Try.underlying9 h0
  obtain ⟨A1, len1, c1, rfl⟩ := okWide_slice Try.underlying39 (hval 1 39 v1 rfl rfl)
  obtain ⟨l1, rfl, hc1, hm1, hr1, hw1⟩ := open_row Try.underlying39 Try.underlying49 (by kernel_rfl) (by kernel_rfl) Try.underlying3 Try.underlying2 Try.underlying9 h1
  obtain ⟨A2, len2, c2, rfl⟩ := okWide_slice Try.underlying39 (hval 2 39 v2 rfl rfl)
  obtain ⟨l2, rfl, hc2, hm2, hr2, hw2⟩ := open_row Try.underlying39 Try.underlying49 (by kernel_rfl) (by kernel_rfl) Try.underlying3 Try.underlying2 Try.underlying9 h2
  clear hA0 hval0
  simp only [List.append_nil] at hW'
  refine (rowOrder_any A0 A1 A2 c0 c1 c2 l0 l1 l2 (i64_le (Nat.le_trans hc0 hm0)) (i64_le (Nat.le_trans hc1 hm1)) (i64_le (Nat.le_trans hc2 hm2)) hc0 (fun v hv => bd64 (hw0 v hv).2.1) W hr0 hr1 hr2).mono fun e W' ⟨he, hg⟩ => ?_
  subst he
  exact ⟨_, rfl, law_post laidOut (by kernel_rfl) Try.underlying4 (by kernel_rfl) rfl hW' rfl rfl rfl hg⟩

theorem over : Rows.rowOrderRow.holds Try.pinned (OpenSpec.ofChange Rows.rowOrderSpec) :=
  OpenClaim.holds_of_wide 8 Try.f8 rfl rfl rfl rfl rfl rfl rfl ⟨rfl, rfl, rfl, rfl, rfl⟩ rfl rfl rfl rfl rfl (by kernel_rfl) Try.func8 (by kernel_rfl)
    (of_decide_eq_true (by kernel_rfl)) (by unfold Func.isWrapper; first | (rw [if_pos (by decide +kernel)]; kernel_rfl) | (rw [if_neg (by decide +kernel)]; exact ⟨rfl, rfl⟩))
    (fun os started H enc _ => lifted os started H enc)

theorem proved : Rows.RowOrderSaid :=
  over
#print axioms proved
end Go.Proofs.Ytabhkfpglhfiiaa.rowOrder
