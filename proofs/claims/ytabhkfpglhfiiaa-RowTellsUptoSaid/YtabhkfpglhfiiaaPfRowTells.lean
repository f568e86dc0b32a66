/-
  RowTells answers true wherever what it reads is of bulk at most 1048576 (its UptoSaid), and its arguments read afterwards as they read before.
  No condition beyond the given row's.
-/
import Derived.Test.YtabhkfpglhfiiaaRowTells
import Derived.Test.YtabhkfpglhfiiaaArgs
import Derived.Test.YtabhkfpglhfiiaaBulk
import Derived.ProofKit
import Derived.JoinedCond
namespace Go.Proofs.Ytabhkfpglhfiiaa.rowTells
open Go.ChangeShapes Go.WideShapes Go.ChangeAt Go.RowKit
open Go.ChangeMaps (open_string shut_string)
set_option linter.unusedVariables false

theorem own : ownKnob Try.prog.godebug = none := by kernel_rfl
theorem laidOut : laidOutB Try.prog = true := by kernel_rfl

set_option maxRecDepth 100000 in
theorem contract (H : Type) (enc : TypeId × Value → H) (W : World) (base : Nat) (args : Array Value) (ds gs : List (DataW H)) (before : List MemPlace)
    (hval0 : ∀ (j : Nat) t v, Try.f9.params[j]? = some t → args[j]? = some v → Value.okWide Try.prog W .any base t v)
    (hW : DataW.Whole enc Try.prog Try.f9.params.toList Rows.rowTellsSpec.vars false W args.toList ds gs before) (hk : Rows.uptoSmall H (ds ++ gs) = true) :
    Calls Try.prog 9 args W fun e W' => ∃ v, e = .returned v ∧ Rows.rowTellsSpec.post enc Try.prog Try.f9 false true false false W args v W' := by
  have hval : ∀ (j : Nat) t v, Try.f9.params[j]? = some t → args[j]? = some v → Value.okWide Try.prog W .any base t v := hval0
  have hW' := hW
  obtain ⟨p, q, hA0, hV, rfl, hfz, hnd⟩ := hW
  have hA : DataW.TrodAll enc Try.prog W 0 (fun _ => true) true Try.f9.params.toList args.toList ds p := hA0
  rw [Try.params9] at hA hval
  obtain ⟨v0, vs0, d0, ds0, p0, q0, hargs, rfl, rfl, h0, r0⟩ := trodAll_cons hA
  obtain ⟨v1, vs1, d1, ds1, p1, q1, rfl, rfl, rfl, h1, r1⟩ := trodAll_cons r0
  obtain ⟨v2, vs2, d2, ds2, p2, q2, rfl, rfl, rfl, h2, r2⟩ := trodAll_cons r1
  obtain ⟨v3, vs3, d3, ds3, p3, q3, rfl, rfl, rfl, h3, r3⟩ := trodAll_cons r2
  obtain ⟨v4, vs4, d4, ds4, p4, q4, rfl, rfl, rfl, h4, r4⟩ := trodAll_cons r3
  obtain ⟨rfl, rfl, rfl⟩ := trodAll_nil r4
  obtain rfl : args = #[v0, v1, v2, v3, v4] := by cases args; simp_all
  obtain ⟨rfl, rfl⟩ := trodVars_none hV
  obtain ⟨A0, len0, c0, rfl⟩ := okWide_slice Try.underlying39 (hval 0 39 v0 rfl rfl)
  obtain ⟨l0, rfl, hc0, hm0, hM0, hr0, hw0, ht0⟩ := open_rowB Try.underlying39 Try.underlying49 (by kernel_rfl) (by kernel_rfl) Try.underlying3 Try.underlying2 Try.underlying9 h0 (Bulk.each hk (by simp))
  obtain ⟨A1, len1, c1, rfl⟩ := okWide_slice Try.underlying39 (hval 1 39 v1 rfl rfl)
  obtain ⟨l1, rfl, hc1, hm1, hM1, hr1, hw1, ht1⟩ := open_rowB Try.underlying39 Try.underlying49 (by kernel_rfl) (by kernel_rfl) Try.underlying3 Try.underlying2 Try.underlying9 h1 (Bulk.each hk (by simp))
  obtain ⟨A2, len2, c2, rfl⟩ := okWide_slice Try.underlying37 (hval 2 37 v2 rfl rfl)
  obtain ⟨l2, rfl, hc2, hm2, hM2, hr2, hw2, ht2⟩ := open_colsB Try.underlying37 Try.underlying43 (by kernel_rfl) (by kernel_rfl) Try.underlying9 Try.underlying3 h2 (Bulk.each hk (by simp))
  obtain ⟨s3, rfl, rfl, rfl, _⟩ := open_string Try.underlying9 (hval 3 9 v3 rfl rfl) h3
  have hs3 := Bulk.string_le (Bulk.each hk (d := .lit (.string s3.data.toList)) (by simp))
  obtain ⟨A4, len4, c4, rfl⟩ := okWide_slice Try.underlying57 (hval 4 57 v4 rfl rfl)
  obtain ⟨l4, rfl, hc4, hm4, hM4, hr4⟩ := open_bytesB Try.underlying57 Try.underlying5 (by kernel_rfl) h4 (Bulk.each hk (by simp))
  clear hA0 hval0
  simp only [List.append_nil] at hW'
  refine (rowTells_main A0 A1 A2 A4 c0 c1 c2 c4 l0 l1 l2 s3 l4 hc0 hc1 hc2 (Nat.le_trans hc4 hM4) hM0 hM1 hM2 hs3 ht0 ht2 W hr0 hr1 hr2 hr4).mono fun e W' ⟨he, hg⟩ => ?_
  subst he
  exact ⟨_, rfl, law_post laidOut (by kernel_rfl) Try.underlying4 (by kernel_rfl) rfl hW' rfl rfl rfl hg⟩

set_option maxRecDepth 100000 in
theorem lifted (os : Os) (started : os.Started) (H : Type) (enc : TypeId × Value → H) (F : Stop.Interp) :
    ReturnsInHanded {} Try.checked os 9 .any ((Rows.OpenSpec.upto Rows.rowTellsSpec).pre6 enc Try.prog Try.f9 Rows.rowTellsUptoRow.domain false) (((Rows.OpenSpec.upto Rows.rowTellsSpec).at F).post enc Try.prog Try.f9 false true false false) := by
  refine returnsInHanded_of_cond (C := Try.checked) (s := Rows.OpenSpec.upto Rows.rowTellsSpec) (k := Rows.uptoSmall) rfl own started (by kernel_rfl) Try.func9
    (OpenSpec.witness (enc := enc) (C := Try.checked) (s := Rows.OpenSpec.upto Rows.rowTellsSpec) (k := Rows.uptoSmall) rfl false ⟨#[], #[.slice none 0 0, .slice none 0 0, .slice none 0 0, .string .empty, .slice none 0 0], []⟩ 8 (by kernel_rfl) (by kernel_rfl) (by kernel_rfl)
      (x := ([.nil, .nil, .nil, .lit (.string []), .nil], [], [])) (by kernel_rfl) rfl (by kernel_rfl)) ?_
  intro W base args ds gs before hval hW _ hk _
  exact contract H enc W base args ds gs before hval hW hk

theorem over : Rows.rowTellsUptoRow.holds Try.pinned (Rows.OpenSpec.upto Rows.rowTellsSpec) :=
  OpenClaim.holds_of_cond 9 Try.f9 rfl rfl rfl rfl rfl rfl rfl ⟨rfl, rfl, rfl, rfl, rfl⟩ rfl rfl rfl rfl rfl (by kernel_rfl) Try.func9 (by kernel_rfl)
    (of_decide_eq_true (by kernel_rfl)) (by unfold Func.isWrapper; first | (rw [if_pos (by decide +kernel)]; kernel_rfl) | (rw [if_neg (by decide +kernel)]; exact ⟨rfl, rfl⟩))
    (fun os started H enc _ F => lifted os started H enc F)

theorem proved : Rows.RowTellsUptoSaid :=
  over
#print axioms proved
end Go.Proofs.Ytabhkfpglhfiiaa.rowTells
