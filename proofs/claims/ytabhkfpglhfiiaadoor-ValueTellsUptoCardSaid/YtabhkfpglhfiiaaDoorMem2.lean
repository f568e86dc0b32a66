/-
  Rows that the call itself has made: appended, stored into. No program in sight.
-/
import Derived.Test.YtabhkfpglhfiiaaDoorMem
import Derived.Deep.AppendLies
namespace Go.Proofs.YtabhkfpglhfiiaaDoor
open Go.RowKit

theorem flat_split (l : List V) (j : Nat) (u : Value) (h : (flat l)[j]? = some u) : ∃ v : V, l[j / 3]? = some v ∧ (flat l)[j / 3 * 3 + j % 3]? = some u := by
  have hj : j < (flat l).length := (List.getElem?_eq_some_iff.1 h).1
  rw [flat_len] at hj
  exact ⟨l[j / 3]'(by omega), List.getElem?_eq_getElem (by omega), by rw [show j / 3 * 3 + j % 3 = j from by omega]; exact h⟩
theorem VAt.news {w : World} {b off : Nat} {l : List V} (h : VAt w b off l) (j : Nat) (u : Value) (hu : (flat l)[j]? = some u) : w.cell? ((⟨b, off, none⟩ : Addr).add j) = some u := by
  obtain ⟨v, hv, hf⟩ := flat_split l j u hu
  obtain ⟨f1, f2, f3⟩ := flat_get l _ v hv
  obtain ⟨c1, c2, c3⟩ := h _ v hv
  have e : (⟨b, off, none⟩ : Addr).add j = ⟨b, off + (j / 3 * 3 + j % 3), none⟩ := by
    unfold Addr.add
    split
    · subst_vars; rfl
    · rw [show j / 3 * 3 + j % 3 = j from by omega]
  rw [e]
  have : j % 3 = 0 ∨ j % 3 = 1 ∨ j % 3 = 2 := by omega
  rcases this with h3 | h3 | h3 <;> rw [h3] at hf ⊢
  · rw [Nat.add_zero] at hf ⊢; rw [f1] at hf; rw [c1]; exact hf
  · rw [f2] at hf; rw [← Nat.add_assoc, c2]; exact hf
  · rw [f3] at hf; rw [← Nat.add_assoc, c3]; exact hf

/-- a row of the call's own that is not empty -/
theorem own_full {w : World} {base : Nat} {e : TypeId} {v : Value} {l : List V} {n : Nat} (h : w.ownsRow base e 3 v n (flat l)) (hl : l.length = n) (hn : 0 < n) :
    ∃ g cap, v = .slice (some ⟨g, 0, none⟩) n cap ∧ n ≤ cap ∧ base ≤ g ∧ g < w.heap.size ∧ VAt w g 0 l ∧ ∀ j, w.frozen? ⟨g, j, none⟩ = false := by
  subst hl
  obtain ⟨_, hcase⟩ := id h
  rcases hcase with ⟨_, h0⟩ | ⟨g, cap, cur, rfl, hg, hh, hc, hcap, hsz, htake⟩
  · omega
  · refine ⟨g, cap, rfl, hc, hg, ?_, ?_, fun j => h.frozenAt j⟩
    · rcases Nat.lt_or_ge g w.heap.size with hlt | hge
      · exact hlt
      · rw [Array.getElem?_eq_none hge] at hh; cases hh
    · intro i x hx
      obtain ⟨f1, f2, f3⟩ := flat_get l i x hx
      have hi : i < l.length := (List.getElem?_eq_some_iff.1 hx).1
      rw [Nat.zero_add, h.cellAt _ (by omega), h.cellAt _ (by omega), h.cellAt _ (by omega)]
      exact ⟨f1, f2, f3⟩

/-- one value stored into a row -/
theorem VAt.set3 {w : World} {b : Nat} {l : List V} (h : VAt w b 0 l) {q : Nat} {x : V} (hx : l[q]? = some x) (v : V) :
    VAt (((w.setCell ⟨b, q * 3, none⟩ (.int .i64 v.k)).setCell ⟨b, q * 3 + 1, none⟩ (.int .i64 v.n)).setCell ⟨b, q * 3 + 2, none⟩ (.string v.s)) b 0 (l.set q v) := by
  intro i y hy
  have hq : q < l.length := (List.getElem?_eq_some_iff.1 hx).1
  obtain ⟨x1, x2, x3⟩ := h q x hx
  rw [Nat.zero_add] at x1 x2 x3 ⊢
  by_cases hi : i = q
  · subst hi
    rw [List.getElem?_set_self hq] at hy
    obtain rfl : v = y := by simpa using hy
    refine ⟨?_, ?_, ?_⟩
    · rw [World.cell?_setCell_other _ _ _ _ (by simp), World.cell?_setCell_other _ _ _ _ (by simp)]
      exact World.cell?_setCell_same _ _ _ x1
    · rw [World.cell?_setCell_other _ _ _ _ (by simp)]
      exact World.cell?_setCell_same _ _ _ ((World.cell?_setCell_other _ _ _ _ (by simp)).trans x2)
    · exact World.cell?_setCell_same _ _ _ ((World.cell?_setCell_other _ _ _ _ (by simp)).trans ((World.cell?_setCell_other _ _ _ _ (by simp)).trans x3))
  · rw [List.getElem?_set_ne (by omega)] at hy
    obtain ⟨y1, y2, y3⟩ := h i y hy
    rw [Nat.zero_add] at y1 y2 y3
    refine ⟨?_, ?_, ?_⟩
    all_goals
      rw [World.cell?_setCell_other _ _ _ _ (by simp <;> omega), World.cell?_setCell_other _ _ _ _ (by simp <;> omega), World.cell?_setCell_other _ _ _ _ (by simp <;> omega)]
      assumption
end Go.Proofs.YtabhkfpglhfiiaaDoor
