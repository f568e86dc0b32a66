/-
  The order's laws on values and rows: no Go in sight.
-/
import Derived.Test.YtabhkfpglhfiiaaSame
import Derived.Test.YtabhkfpglhfiiaaValLaws
namespace Go.Proofs.Ytabhkfpglhfiiaa
open Go.RowKit
theorem V.cmp_tri {a b : V} (ha : V.okB a = true) (hb : V.okB b = true) : (V.cmp a b = -1 ∧ V.cmp b a = 1 ∧ a ≠ b) ∨ (V.cmp a b = 1 ∧ V.cmp b a = -1 ∧ a ≠ b) ∨ (V.cmp a b = 0 ∧ V.cmp b a = 0 ∧ a = b) := by
  unfold V.cmp
  rcases V.tri ha hb with ⟨h1, h2, h3⟩ | ⟨h1, h2, h3⟩ | ⟨h1, h2, h3⟩ <;> rw [h1, h2]
  · exact .inl ⟨rfl, rfl, h3⟩
  · exact .inr (.inl ⟨rfl, rfl, h3⟩)
  · exact .inr (.inr ⟨rfl, rfl, h3⟩)
theorem cmp_neg {a b : V} (h : V.cmp a b < 0) : V.lt a b = true := by
  unfold V.cmp at h
  by_cases h1 : V.lt a b = true
  · exact h1
  · rw [if_neg h1] at h
    split at h <;> omega
theorem cmpR_tri : ∀ a b : List V, (∀ x ∈ a, V.okB x = true) → (∀ x ∈ b, V.okB x = true) → (cmpR a b = -1 ∧ cmpR b a = 1 ∧ a ≠ b) ∨ (cmpR a b = 1 ∧ cmpR b a = -1 ∧ a ≠ b) ∨ (cmpR a b = 0 ∧ cmpR b a = 0 ∧ a = b)
  | [], [], _, _ => .inr (.inr ⟨rfl, rfl, rfl⟩)
  | [], _ :: _, _, _ => .inl ⟨rfl, rfl, by simp⟩
  | _ :: _, [], _, _ => .inr (.inl ⟨rfl, rfl, by simp⟩)
  | x :: a, y :: b, ha, hb => by
    have h := cmpR_tri a b (fun z hz => ha z (List.mem_cons_of_mem _ hz)) (fun z hz => hb z (List.mem_cons_of_mem _ hz))
    rcases V.cmp_tri (ha x List.mem_cons_self) (hb y List.mem_cons_self) with ⟨h1, h2, h3⟩ | ⟨h1, h2, h3⟩ | ⟨h1, h2, h3⟩
    · left
      simp [cmpR, h1, h2, h3]
    · right; left
      simp [cmpR, h1, h2, h3]
    · subst h3
      simp only [cmpR, h1]
      simpa using h
theorem cmpR_trans : ∀ a b c : List V, (∀ x ∈ a, V.okB x = true) → (∀ x ∈ b, V.okB x = true) → (∀ x ∈ c, V.okB x = true) → cmpR a b < 0 → cmpR b c < 0 → cmpR a c < 0
  | [], [], _, _, _, _, h, _ => by simp [cmpR] at h
  | _ :: _, [], _, _, _, _, h, _ => by simp [cmpR] at h
  | _, _ :: _, [], _, _, _, _, h => by simp [cmpR] at h
  | [], _ :: _, _ :: _, _, _, _, _, _ => by simp [cmpR]
  | x :: a, y :: b, z :: c, ha, hb, hc, h1, h2 => by
    have h := cmpR_trans a b c (fun z hz => ha z (List.mem_cons_of_mem _ hz)) (fun z hz => hb z (List.mem_cons_of_mem _ hz)) (fun z hz => hc z (List.mem_cons_of_mem _ hz))
    have hx := ha x List.mem_cons_self
    have hy := hb y List.mem_cons_self
    have hz := hc z List.mem_cons_self
    rcases V.cmp_tri hx hy with ⟨a1, a2, a3⟩ | ⟨a1, a2, a3⟩ | ⟨a1, a2, a3⟩
    · rcases V.cmp_tri hy hz with ⟨b1, b2, b3⟩ | ⟨b1, b2, b3⟩ | ⟨b1, b2, b3⟩
      · have h3 := V.lt_trans (cmp_neg (by rw [a1]; decide)) (cmp_neg (by rw [b1]; decide))
        have h4 : V.cmp x z = -1 := by unfold V.cmp; rw [if_pos h3]
        simp [cmpR, h4]
      · simp [cmpR, b1] at h2
      · subst b3
        simp [cmpR, a1]
    · simp [cmpR, a1] at h1
    · subst a3
      rcases V.cmp_tri hx hz with ⟨b1, b2, b3⟩ | ⟨b1, b2, b3⟩ | ⟨b1, b2, b3⟩
      · simp [cmpR, b1]
      · simp [cmpR, b1] at h2
      · simp only [cmpR, a1, b1] at h1 h2 ⊢
        simp at h1 h2 ⊢
        exact h h1 h2
theorem cmpR_prefix : ∀ (a : List V) (n : Nat), (∀ x ∈ a, V.okB x = true) → n < a.length → cmpR (a.take n) a = -1
  | [], _, _, h => by simp at h
  | _ :: _, 0, _, _ => rfl
  | x :: a, n + 1, ha, h => by
    have h1 : V.cmp x x = 0 := by
      have hx := ha x List.mem_cons_self
      rcases V.cmp_tri hx hx with ⟨_, _, h⟩ | ⟨_, _, h⟩ | ⟨h, _, _⟩
      · exact absurd rfl h
      · exact absurd rfl h
      · exact h
    rw [List.take_succ_cons]
    simp only [cmpR, h1]
    simpa using cmpR_prefix a n (fun z hz => ha z (List.mem_cons_of_mem _ hz)) (by simpa using h)
theorem eqB_iff (a b : V) : V.eqB a b = true ↔ a = b := by
  obtain ⟨ak, an, az⟩ := a
  obtain ⟨bk, bn, bz⟩ := b
  unfold V.eqB
  simp only [Bool.and_eq_true, beq_iff_eq]
  constructor
  · rintro ⟨rfl, rfl, h⟩
    rw [bytes_ext h]
  · intro h
    injection h with h1 h2 h3
    exact ⟨h1, h2, by rw [h3]⟩
theorem eqR_iff : ∀ a b : List V, eqR a b = true ↔ a = b
  | [], [] => by simp [eqR]
  | [], _ :: _ => by simp [eqR]
  | _ :: _, [] => by simp [eqR]
  | x :: a, y :: b => by
    rw [eqR, Bool.and_eq_true, eqB_iff, eqR_iff a b]
    simp
theorem rowOk_all {a : List V} (h : rowOk a = true) : ∀ x ∈ a, V.okB x = true := by
  unfold rowOk at h
  simp only [Bool.and_eq_true, List.all_eq_true] at h
  exact h.2
theorem rowOk_take {a : List V} {n : Nat} (h : rowOk a = true) (hn : 0 < n) : rowOk (a.take n) = true := by
  unfold rowOk at h ⊢
  simp only [Bool.and_eq_true, List.all_eq_true, decide_eq_true_eq, List.length_take] at h ⊢
  exact ⟨by omega, fun x hx => h.2 x (List.mem_of_mem_take hx)⟩
theorem order_one {a b : List V} (ha : rowOk a = true) (hb : rowOk b = true) : ((rowLess a b != rowLess b a) == !eqR a b) = true ∧ (rowSame a b == eqR a b) = true := by
  unfold rowLess rowSame
  rw [ha, hb]
  rcases cmpR_tri a b (rowOk_all ha) (rowOk_all hb) with ⟨h1, h2, h3⟩ | ⟨h1, h2, h3⟩ | ⟨h1, h2, h3⟩
  · have : eqR a b = false := by
      cases h : eqR a b
      · rfl
      · exact absurd ((eqR_iff a b).1 h) h3
    rw [h1, h2, this]; decide
  · have : eqR a b = false := by
      cases h : eqR a b
      · rfl
      · exact absurd ((eqR_iff a b).1 h) h3
    rw [h1, h2, this]; decide
  · rw [h1, h2, (eqR_iff a b).2 h3]; decide
theorem order_trans {a b c : List V} (ha : rowOk a = true) (hb : rowOk b = true) (hc : rowOk c = true) (h1 : rowLess a b = true) (h2 : rowLess b c = true) : rowLess a c = true := by
  unfold rowLess at h1 h2 ⊢
  rw [ha, hb] at h1
  rw [hb, hc] at h2
  rw [ha, hc]
  simp only [Bool.and_self, Bool.true_and, decide_eq_true_eq] at h1 h2 ⊢
  exact cmpR_trans a b c (rowOk_all ha) (rowOk_all hb) (rowOk_all hc) h1 h2
theorem order_prefix {a : List V} {n : Nat} (ha : rowOk a = true) (hn : 0 < n) (hl : n < a.length) : rowLess (a.take n) a = true := by
  unfold rowLess
  rw [ha, rowOk_take ha hn, cmpR_prefix a n (rowOk_all ha) hl]
  decide
end Go.Proofs.Ytabhkfpglhfiiaa
