/-
  Package expr's contracts: result.
-/
import Derived.Test.YtldleckgkgeclaaExpr3
namespace Go.Proofs.Ytldleckgkgeclaa
open Go.RowKit

set_option maxHeartbeats 1000000 in
theorem result_any (A : Option Addr) (c : Nat) (l : List Int) (s : ByteArray) (hl : l.length = cntL s.toList) (hlc : l.length ≤ c) (h0 : 0 < l.length) (w : World) (hA : IRow w w.heap.size A l) :
    Calls Try.prog 91 #[.string s, .slice A l.length c] w fun e w' => e = .returned (.int .i64 (resultL s.toList l)) ∧ Below w.heap.size w w' := by
  have hl3 : l.length ≤ 3 := by rw [hl]; unfold cntL; repeat (first | split | omega)
  have hal := Lib.hid (fun k => all_any A c l (by omega) k w hA)
  rcases hA with hnil | ⟨b, o, rfl, hb, hc⟩
  · rw [hnil] at h0; simp at h0
  by_cases he : s.toList = opEq ∨ s.toList = opLt
  · have h2 : l.length = 2 := by rw [hl]; rcases he with he | he <;> rw [he] <;> rfl
    obtain ⟨a, b1, rfl⟩ : ∃ a b1, l = [a, b1] := by
      match l, h2 with
      | [a, b1], _ => exact ⟨a, b1, rfl⟩
    have c0 := hc 0 a rfl
    have c1 := hc 1 b1 rfl
    rw [Nat.add_zero] at c0
    have hr : resultL s.toList [a, b1] = if (a == b1) = true then 1 else 0 := by
      unfold resultL
      rw [if_pos he]
      simp
    rw [hr]
    clear hr hc hl hal
    simp only [List.length_cons, List.length_nil, Nat.zero_add, Nat.reduceAdd] at hlc ⊢
    have hx1 : (1 : Int) < 2 := by omega
    rcases he with he | he
    all_goals
      simp only [opEq, opLt] at he
      cases hq : (a == b1)
      all_goals
        go_enter Try.func91, Try.ntmps91
        go_wp2_with fail
        go_quiet (fail)
        go_wp2_with fail
        go_ret
        exact ⟨rfl, below_drewN (Below.refl _ _) _⟩
  have he1 : s.toList ≠ opEq := fun h => he (.inl h)
  have he2 : s.toList ≠ opLt := fun h => he (.inr h)
  have e1 : (s.toList == [101, 113]) = false := by simpa [opEq] using he1
  have e2 : (s.toList == [108, 116]) = false := by simpa [opLt] using he2
  by_cases h3 : s.toList = opCat
  · have hr : resultL s.toList l = if l.all (· == 2) = true then 2 else 0 := by
      unfold resultL
      rw [if_neg he, if_pos h3]
    rw [hr]
    have ha := Lib.hid (hal.out 2)
    clear hr he he1 he2 hal hc e1 e2 hl
    generalize l.all (· == 2) = q at *
    generalize l.length = n at *
    simp only [opCat] at h3
    cases q
    all_goals
      go_enter Try.func91, Try.ntmps91
      go_wp2_with fail
      refine (ha.out).mono ?_
      rintro e w' ⟨rfl, hb2⟩
      have HB := Lib.hid hb2
      clear hb2
      go_wp2_with fail
      go_ret
      exact ⟨rfl, HB.out⟩
  have e3 : (s.toList == [99, 97, 116]) = false := by simpa [opCat] using h3
  by_cases h4 : s.toList = opLen
  · have hr : resultL s.toList l = if l.all (· == 2) = true then 1 else 0 := by
      unfold resultL
      rw [if_neg he, if_neg h3, if_pos h4]
    rw [hr]
    have ha := Lib.hid (hal.out 2)
    clear hr he he1 he2 hal hc e1 e2 h3 e3 hl
    generalize l.all (· == 2) = q at *
    generalize l.length = n at *
    simp only [opLen] at h4
    cases q
    all_goals
      go_enter Try.func91, Try.ntmps91
      go_wp2_with fail
      refine (ha.out).mono ?_
      rintro e w' ⟨rfl, hb2⟩
      have HB := Lib.hid hb2
      clear hb2
      go_wp2_with fail
      go_ret
      exact ⟨rfl, HB.out⟩
  have e4 : (s.toList == [108, 101, 110]) = false := by simpa [opLen] using h4
  by_cases h5 : s.toList = opIf
  · have h2 : l.length = 3 := by rw [hl, h5]; rfl
    obtain ⟨a, b1, d, rfl⟩ : ∃ a b1 d, l = [a, b1, d] := by
      match l, h2 with
      | [a, b1, d], _ => exact ⟨a, b1, d, rfl⟩
    have c0 := hc 0 a rfl
    have c1 := hc 1 b1 rfl
    have c2 := hc 2 d rfl
    rw [Nat.add_zero] at c0
    have hr : resultL s.toList [a, b1, d] = if (a == 1) = true then (if (b1 == d) = true then b1 else 0) else 0 := by
      unfold resultL
      rw [if_neg he, if_neg h3, if_neg h4, if_pos h5]
      simp only [List.getD_cons_zero, List.getD_cons_succ, beq_iff_eq]
      by_cases ha : a = 1 <;> by_cases hb : b1 = d <;> simp [ha, hb]
    rw [hr]
    clear hr hc hl hal he he1 he2 e1 e2 h3 e3 h4 e4
    simp only [List.length_cons, List.length_nil, Nat.zero_add, Nat.reduceAdd] at hlc ⊢
    have hx1 : (1 : Int) < 3 := by omega
    have hx2 : (2 : Int) < 3 := by omega
    simp only [opIf] at h5
    cases hq : (a == 1)
    · go_enter Try.func91, Try.ntmps91
      go_wp2_with fail
      go_quiet (fail)
      go_wp2_with fail
      go_ret
      exact ⟨rfl, below_drewN (Below.refl _ _) _⟩
    · cases hq2 : (b1 == d)
      all_goals
        go_enter Try.func91, Try.ntmps91
        go_wp2_with fail
        go_quiet (fail)
        go_wp2_with fail
        go_ret
        exact ⟨rfl, below_drewN (Below.refl _ _) _⟩
  have e5 : (s.toList == [105, 102]) = false := by simpa [opIf] using h5
  have hr : resultL s.toList l = if l.all (· == 1) = true then 1 else 0 := by
    unfold resultL
    rw [if_neg he, if_neg h3, if_neg h4, if_neg h5]
  rw [hr]
  have ha := Lib.hid (hal.out 1)
  clear hr he he1 he2 hal hc h3 h4 h5 hl
  generalize l.all (· == 1) = q at *
  generalize l.length = n at *
  cases q
  all_goals
    go_enter Try.func91, Try.ntmps91
    go_wp2_with fail
    refine (ha.out).mono ?_
    rintro e w' ⟨rfl, hb2⟩
    have HB := Lib.hid hb2
    clear hb2
    go_wp2_with fail
    go_ret
    exact ⟨rfl, HB.out⟩
end Go.Proofs.Ytldleckgkgeclaa
