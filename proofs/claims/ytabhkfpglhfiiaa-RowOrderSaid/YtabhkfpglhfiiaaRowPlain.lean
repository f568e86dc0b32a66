/-
  Plain laws on rows and columns: no Go in sight.
-/
import Derived.Test.YtabhkfpglhfiiaaCols
import Derived.Test.YtabhkfpglhfiiaaFits
namespace Go.Proofs.Ytabhkfpglhfiiaa
open Go.RowKit

theorem idx_first {α : Type} {p : α → Bool} {l : List α} : ∀ {i : Nat} {x : α} {k : Nat}, l[i]? = some x → p x = true → (k : Int) ≤ idx p l k ∧ idx p l k ≤ (k : Int) + i := by
  induction l with
  | nil => intro i x k h; simp at h
  | cons y l ih =>
    intro i x k h hp
    unfold idx
    by_cases hy : p y = true
    · rw [if_pos hy]; omega
    · rw [if_neg hy]
      cases i with
      | zero =>
        obtain rfl : y = x := by simpa using h
        exact absurd hp hy
      | succ i =>
        have := ih (k := k + 1) (by simpa using h) hp
        omega
theorem idx_at {α : Type} {p : α → Bool} {l : List α} : ∀ {k : Nat}, 0 ≤ idx p l k → ∃ (i : Nat) (x : α), idx p l k = (k : Int) + (i : Nat) ∧ l[i]? = some x ∧ p x = true := by
  induction l with
  | nil => intro k h; simp [idx] at h
  | cons y l ih =>
    intro k h
    unfold idx at h ⊢
    by_cases hy : p y = true
    · rw [if_pos hy]; exact ⟨0, y, by omega, rfl, hy⟩
    · rw [if_neg hy] at h ⊢
      obtain ⟨i, x, e, hx, hp⟩ := ih h
      exact ⟨i + 1, x, by omega, by simpa using hx, hp⟩

theorem find_yes {l : List C} {s : ByteArray} (h : findB l s = true) : ∃ (q : Nat) (x : C), findN l s = (q : Int) ∧ l[q]? = some x ∧ C.isB s x = true ∧ ∀ (i : Nat) (y : C), l[i]? = some y → C.isB s y = true → q ≤ i := by
  unfold findB at h
  have h' : 0 ≤ idx (C.isB s) l 0 := of_decide_eq_true h
  obtain ⟨i, x, e, hx, hp⟩ := idx_at h'
  refine ⟨i, x, ?_, hx, hp, fun j y hy hpy => ?_⟩
  · unfold findN; rw [if_pos h', e]; omega
  · have := (idx_first (p := C.isB s) (k := 0) hy hpy).2
    omega
theorem find_no {l : List C} {s : ByteArray} (h : findB l s = false) : findN l s = 0 ∧ ∀ (i : Nat) (y : C), l[i]? = some y → C.isB s y = false := by
  unfold findB at h
  have h' : ¬ 0 ≤ idx (C.isB s) l 0 := of_decide_eq_false h
  refine ⟨by unfold findN; rw [if_neg h'], fun i y hy => ?_⟩
  cases hp : C.isB s y with
  | false => rfl
  | true => have := (idx_first (p := C.isB s) (k := 0) hy hp).1; omega

theorem cols_len {l : List C} (h : colsE l = 0) : 0 < l.length ∧ l.length ≤ 6 := by
  unfold colsE at h
  split at h
  · omega
  · rename_i h1; simp at h1; have := h1.1; exact ⟨List.length_pos_iff.2 h1.1, h1.2⟩

theorem zipB_get : ∀ {l : List C} {r : List V}, zipB l r = true → ∀ (i : Nat) (c : C) (v : V), l[i]? = some c → r[i]? = some v → V.okB v = true ∧ v.k = c.k := by
  intro l
  induction l with
  | nil => intro r _ i c v h; simp at h
  | cons x l ih =>
    intro r h i c v hc hv
    cases r with
    | nil => simp at hv
    | cons y r =>
      unfold zipB at h
      simp only [Bool.and_eq_true, beq_iff_eq] at h
      cases i with
      | zero =>
        obtain rfl : x = c := by simpa using hc
        obtain rfl : y = v := by simpa using hv
        exact h.1
      | succ i => exact ih h.2 i c v (by simpa using hc) (by simpa using hv)
theorem zipB_of : ∀ {l : List C} {r : List V}, (∀ (i : Nat) (c : C) (v : V), l[i]? = some c → r[i]? = some v → V.okB v = true ∧ v.k = c.k) → zipB l r = true := by
  intro l
  induction l with
  | nil => intro r _; cases r <;> rfl
  | cons x l ih =>
    intro r h
    cases r with
    | nil => rfl
    | cons y r =>
      unfold zipB
      have h0 := h 0 x y rfl rfl
      rw [h0.1, h0.2, beq_self_eq_true, Bool.and_self, Bool.true_and]
      exact ih fun i c v hc hv => h (i + 1) c v (by simpa using hc) (by simpa using hv)
theorem fits_get {l : List C} {r : List V} (h : fitsB l r = true) : l.length = r.length ∧ ∀ (i : Nat) (c : C) (v : V), l[i]? = some c → r[i]? = some v → V.okB v = true ∧ v.k = c.k := by
  unfold fitsB at h
  rw [Bool.and_eq_true, decide_eq_true_eq] at h
  exact ⟨h.1, zipB_get h.2⟩
theorem okB_kind {v : V} (h : V.okB v = true) : v.k = 1 ∨ v.k = 2 := by
  unfold V.okB at h
  simp only [Bool.or_eq_true, Bool.and_eq_true, beq_iff_eq] at h
  rcases h with h | h
  · exact .inl h.1
  · exact .inr h.1
theorem okB_flip {k : Int} (h : k = 1 ∨ k = 2) : V.okB ⟨3 - k, 0, ⟨#[]⟩⟩ = true := by
  rcases h with rfl | rfl <;> decide +kernel
theorem rowOk_of {l : List C} {r : List V} (hc : colsE l = 0) (hf : fitsB l r = true) : rowOk r = true := by
  obtain ⟨h1, h2⟩ := cols_len hc
  obtain ⟨h3, h4⟩ := fits_get hf
  unfold rowOk
  have ha : r.all V.okB = true := by
    rw [List.all_eq_true]
    intro v hv
    obtain ⟨i, hi, rfl⟩ := List.mem_iff_getElem.1 hv
    exact (h4 i l[i] r[i] (List.getElem?_eq_getElem (by omega)) (List.getElem?_eq_getElem hi)).1
  simp [ha, ← h3, h1, h2]
/-- a row with another kind in one place is Right, and fits no more -/
theorem turned {l : List C} {r : List V} {q : Nat} {v : V} (hc : colsE l = 0) (hf : fitsB l r = true) (hv : r[q]? = some v) :
    rowOk (r.set q ⟨3 - v.k, 0, ⟨#[]⟩⟩) = true ∧ fitsB l (r.set q ⟨3 - v.k, 0, ⟨#[]⟩⟩) = false := by
  obtain ⟨h1, h2⟩ := cols_len hc
  obtain ⟨h3, h4⟩ := fits_get hf
  have hq : q < r.length := (List.getElem?_eq_some_iff.1 hv).1
  obtain ⟨c, hcq⟩ : ∃ c, l[q]? = some c := ⟨_, List.getElem?_eq_getElem (by omega)⟩
  obtain ⟨ok, kk⟩ := h4 q c v hcq hv
  constructor
  · unfold rowOk
    have ha : (r.set q ⟨3 - v.k, 0, ⟨#[]⟩⟩).all V.okB = true := by
      rw [List.all_eq_true]
      intro x hx
      rcases List.mem_or_eq_of_mem_set hx with h | h
      · obtain ⟨i, hi, rfl⟩ := List.mem_iff_getElem.1 h
        exact (h4 i l[i] r[i] (List.getElem?_eq_getElem (by omega)) (List.getElem?_eq_getElem hi)).1
      · subst h; exact okB_flip (okB_kind ok)
    simp only [List.length_set, ha, Bool.and_true, ← h3]
    simp [h1, h2]
  · cases hz : fitsB l (r.set q ⟨3 - v.k, 0, ⟨#[]⟩⟩) with
    | false => rfl
    | true =>
      have := ((fits_get hz).2 q c ⟨3 - v.k, 0, ⟨#[]⟩⟩ hcq (by rw [List.getElem?_set_self hq])).2
      have k2 := okB_kind ok
      simp only at this
      omega
theorem CRow.take {w : World} {B : Nat} {A : Option Addr} {l : List C} (h : CRow w B A l) (k : Nat) : CRow w B A (l.take k) := by
  rcases h with rfl | ⟨b, o, hA, hb, h⟩
  · exact .inl (by simp)
  · exact .inr ⟨b, o, hA, hb, h.take k⟩
theorem VRow.take {w : World} {B : Nat} {A : Option Addr} {l : List V} (h : VRow w B A l) (k : Nat) : VRow w B A (l.take k) := by
  rcases h with rfl | ⟨b, o, hA, hb, h⟩
  · exact .inl (by simp)
  · exact .inr ⟨b, o, hA, hb, fun i v hv => h i v (by
      rw [List.getElem?_take] at hv
      split at hv
      · exact hv
      · cases hv)⟩
end Go.Proofs.Ytabhkfpglhfiiaa
