/-
  The order's laws on values and rows: no Go in sight.
-/
import Derived.Test.YtabhkfpglhfiiaaSame
namespace Go.Proofs.Ytabhkfpglhfiiaa
open Go.RowKit
theorem bl_tri : ∀ x y : List UInt8, (Op.bytesLess x y = true ∧ Op.bytesLess y x = false ∧ x ≠ y) ∨ (Op.bytesLess x y = false ∧ Op.bytesLess y x = true ∧ x ≠ y) ∨ (Op.bytesLess x y = false ∧ Op.bytesLess y x = false ∧ x = y)
  | [], [] => .inr (.inr ⟨rfl, rfl, rfl⟩)
  | [], _ :: _ => .inl ⟨rfl, rfl, by simp⟩
  | _ :: _, [] => .inr (.inl ⟨rfl, rfl, by simp⟩)
  | a :: x, b :: y => by
    have h := bl_tri x y
    simp only [Op.bytesLess]
    by_cases h1 : a < b
    · left
      have h2 : ¬ b < a := by intro h; exact absurd (UInt8.lt_trans h1 h) (UInt8.lt_irrefl a)
      have h3 : ¬ b = a := by rintro rfl; exact UInt8.lt_irrefl _ h1
      simp [h1, h2, h3, Ne.symm h3]
    · by_cases h2 : b < a
      · right; left
        have h3 : ¬ a = b := by rintro rfl; exact UInt8.lt_irrefl _ h2
        simp [h1, h2, h3]
      · obtain rfl : a = b := UInt8.le_antisymm (UInt8.not_lt.1 h2) (UInt8.not_lt.1 h1)
        simp [h1]
        exact h
theorem bl_trans : ∀ x y z : List UInt8, Op.bytesLess x y = true → Op.bytesLess y z = true → Op.bytesLess x z = true
  | _, [], _, h, _ => by simp [Op.bytesLess] at h
  | _, _ :: _, [], _, h => by simp [Op.bytesLess] at h
  | [], _ :: _, _ :: _, _, _ => rfl
  | a :: x, b :: y, c :: z, h1, h2 => by
    simp only [Op.bytesLess, Bool.or_eq_true, Bool.and_eq_true, decide_eq_true_eq, beq_iff_eq] at h1 h2 ⊢
    rcases h1 with h1 | ⟨rfl, h1⟩
    · rcases h2 with h2 | ⟨rfl, h2⟩
      · exact .inl (UInt8.lt_trans h1 h2)
      · exact .inl h1
    · rcases h2 with h2 | ⟨rfl, h2⟩
      · exact .inl h2
      · exact .inr ⟨rfl, bl_trans x y z h1 h2⟩
theorem bytes_ext {a b : ByteArray} (h : a.toList = b.toList) : a = b := by
  rw [ByteArray.toList_eq, ByteArray.toList_eq] at h
  obtain ⟨⟨x⟩⟩ := a
  obtain ⟨⟨y⟩⟩ := b
  simp at h
  rw [h]
theorem ok_cases {a : V} (h : V.okB a = true) : (a.k = 1 ∧ a.s.toList = []) ∨ (a.k = 2 ∧ a.n = 0) := by
  unfold V.okB at h
  simp only [Bool.or_eq_true, Bool.and_eq_true, beq_iff_eq, List.isEmpty_iff] at h
  rcases h with ⟨h1, h2⟩ | ⟨h1, h2, _⟩
  · exact .inl ⟨h1, h2⟩
  · exact .inr ⟨h1, h2⟩
theorem V.tri {a b : V} (ha : V.okB a = true) (hb : V.okB b = true) : (V.lt a b = true ∧ V.lt b a = false ∧ a ≠ b) ∨ (V.lt a b = false ∧ V.lt b a = true ∧ a ≠ b) ∨ (V.lt a b = false ∧ V.lt b a = false ∧ a = b) := by
  obtain ⟨ak, an, az⟩ := a
  obtain ⟨bk, bn, bz⟩ := b
  unfold V.lt
  rw [ha, hb]
  unfold V.ltIn
  simp only [Bool.and_self, Bool.true_and]
  rcases ok_cases ha with ⟨h1, h2⟩ | ⟨h1, h2⟩ <;> rcases ok_cases hb with ⟨h3, h4⟩ | ⟨h3, h4⟩ <;> simp only at h1 h2 h3 h4 <;> subst h1 <;> subst h3
  · have e : az = bz := bytes_ext (h2.trans h4.symm)
    subst e
    by_cases h5 : an < bn
    · left; simp [h5]; omega
    · by_cases h6 : bn < an
      · right; left; simp [h6]; omega
      · right; right; simp; omega
  · left; simp
  · right; left; simp
  · subst h2 h4
    rcases bl_tri az.toList bz.toList with ⟨h5, h6, h7⟩ | ⟨h5, h6, h7⟩ | ⟨h5, h6, h7⟩
    · left; simp [h5, h6]; rintro rfl; exact h7 rfl
    · right; left; simp [h5, h6]; rintro rfl; exact h7 rfl
    · right; right; simp [h5, h6]; exact bytes_ext h7
theorem V.lt_trans {a b c : V} (h1 : V.lt a b = true) (h2 : V.lt b c = true) : V.lt a c = true := by
  obtain ⟨ak, an, az⟩ := a
  obtain ⟨bk, bn, bz⟩ := b
  obtain ⟨ck, cn, cz⟩ := c
  unfold V.lt at h1 h2 ⊢
  simp only [Bool.and_eq_true] at h1 h2
  obtain ⟨⟨ha, hb⟩, h1⟩ := h1
  obtain ⟨⟨_, hc⟩, h2⟩ := h2
  rw [ha, hc]
  unfold V.ltIn at h1 h2 ⊢
  simp only [Bool.and_self, Bool.true_and]
  rcases ok_cases ha with ⟨k1, _⟩ | ⟨k1, _⟩ <;> rcases ok_cases hb with ⟨k2, _⟩ | ⟨k2, _⟩ <;> rcases ok_cases hc with ⟨k3, _⟩ | ⟨k3, _⟩ <;> simp only at k1 k2 k3 <;> subst k1 <;> subst k2 <;> subst k3 <;> simp at h1 h2 ⊢
  · omega
  · exact bl_trans _ _ _ h1 h2
theorem V.cmp_tri {a b : V} (ha : V.okB a = true) (hb : V.okB b = true) : (V.cmp a b = -1 ∧ V.cmp b a = 1 ∧ a ≠ b) ∨ (V.cmp a b = 1 ∧ V.cmp b a = -1 ∧ a ≠ b) ∨ (V.cmp a b = 0 ∧ V.cmp b a = 0 ∧ a = b) := by
  unfold V.cmp
  rcases V.tri ha hb with ⟨h1, h2, h3⟩ | ⟨h1, h2, h3⟩ | ⟨h1, h2, h3⟩ <;> rw [h1, h2]
  · exact .inl ⟨rfl, rfl, h3⟩
  · exact .inr (.inl ⟨rfl, rfl, h3⟩)
  · exact .inr (.inr ⟨rfl, rfl, h3⟩)
theorem cmp_neg {a b : V} (h : V.cmp a b < 0) : V.lt a b = true := by
  unfold V.cmp at h
  by_cases h1 : V.lt a b = true
  · exact h1
  · rw [if_neg h1] at h
    split at h <;> omega
theorem cmpR_tri : ∀ a b : List V, (∀ x ∈ a, V.okB x = true) → (∀ x ∈ b, V.okB x = true) → (cmpR a b = -1 ∧ cmpR b a = 1 ∧ a ≠ b) ∨ (cmpR a b = 1 ∧ cmpR b a = -1 ∧ a ≠ b) ∨ (cmpR a b = 0 ∧ cmpR b a = 0 ∧ a = b)
  | [], [], _, _ => .inr (.inr ⟨rfl, rfl, rfl⟩)
  | [], _ :: _, _, _ => .inl ⟨rfl, rfl, by simp⟩
  | _ :: _, [], _, _ => .inr (.inl ⟨rfl, rfl, by simp⟩)
  | x :: a, y :: b, ha, hb => by
    have h := cmpR_tri a b (fun z hz => ha z (List.mem_cons_of_mem _ hz)) (fun z hz => hb z (List.mem_cons_of_mem _ hz))
    rcases V.cmp_tri (ha x List.mem_cons_self) (hb y List.mem_cons_self) with ⟨h1, h2, h3⟩ | ⟨h1, h2, h3⟩ | ⟨h1, h2, h3⟩
    · left
      simp [cmpR, h1, h2, h3]
    · right; left
      simp [cmpR, h1, h2, h3]
    · subst h3
      simp only [cmpR, h1]
      simpa using h
theorem cmpR_trans : ∀ a b c : List V, (∀ x ∈ a, V.okB x = true) → (∀ x ∈ b, V.okB x = true) → (∀ x ∈ c, V.okB x = true) → cmpR a b < 0 → cmpR b c < 0 → cmpR a c < 0
  | [], [], _, _, _, _, h, _ => by simp [cmpR] at h
  | _ :: _, [], _, _, _, _, h, _ => by simp [cmpR] at h
  | _, _ :: _, [], _, _, _, _, h => by simp [cmpR] at h
  | [], _ :: _, _ :: _, _, _, _, _, _ => by simp [cmpR]
  | x :: a, y :: b, z :: c, ha, hb, hc, h1, h2 => by
    have h := cmpR_trans a b c (fun z hz => ha z (List.mem_cons_of_mem _ hz)) (fun z hz => hb z (List.mem_cons_of_mem _ hz)) (fun z hz => hc z (List.mem_cons_of_mem _ hz))
    have hx := ha x List.mem_cons_self
    have hy := hb y List.mem_cons_self
    have hz := hc z List.mem_cons_self
    rcases V.cmp_tri hx hy with ⟨a1, a2, a3⟩ | ⟨a1, a2, a3⟩ | ⟨a1, a2, a3⟩
    · rcases V.cmp_tri hy hz with ⟨b1, b2, b3⟩ | ⟨b1, b2, b3⟩ | ⟨b1, b2, b3⟩
      · have h3 := V.lt_trans (cmp_neg (by rw [a1]; decide)) (cmp_neg (by rw [b1]; decide))
        have h4 : V.cmp x z = -1 := by unfold V.cmp; rw [if_pos h3]
        simp [cmpR, h4]
      · simp [cmpR, b1] at h2
      · subst b3
        simp [cmpR, a1]
    · simp [cmpR, a1] at h1
    · subst a3
      rcases V.cmp_tri hx hz with ⟨b1, b2, b3⟩ | ⟨b1, b2, b3⟩ | ⟨b1, b2, b3⟩
      · simp [cmpR, b1]
      · simp [cmpR, b1] at h2
      · simp only [cmpR, a1, b1] at h1 h2 ⊢
        simp at h1 h2 ⊢
        exact h h1 h2
theorem cmpR_prefix : ∀ (a : List V) (n : Nat), (∀ x ∈ a, V.okB x = true) → n < a.length → cmpR (a.take n) a = -1
  | [], _, _, h => by simp at h
  | _ :: _, 0, _, _ => rfl
  | x :: a, n + 1, ha, h => by
    have h1 : V.cmp x x = 0 := by
      have hx := ha x List.mem_cons_self
      rcases V.cmp_tri hx hx with ⟨_, _, h⟩ | ⟨_, _, h⟩ | ⟨h, _, _⟩
      · exact absurd rfl h
      · exact absurd rfl h
      · exact h
    rw [List.take_succ_cons]
    simp only [cmpR, h1]
    simpa using cmpR_prefix a n (fun z hz => ha z (List.mem_cons_of_mem _ hz)) (by simpa using h)
theorem eqB_iff (a b : V) : V.eqB a b = true ↔ a = b := by
  obtain ⟨ak, an, az⟩ := a
  obtain ⟨bk, bn, bz⟩ := b
  unfold V.eqB
  simp only [Bool.and_eq_true, beq_iff_eq]
  constructor
  · rintro ⟨rfl, rfl, h⟩
    rw [bytes_ext h]
  · intro h
    injection h with h1 h2 h3
    exact ⟨h1, h2, by rw [h3]⟩
theorem eqR_iff : ∀ a b : List V, eqR a b = true ↔ a = b
  | [], [] => by simp [eqR]
  | [], _ :: _ => by simp [eqR]
  | _ :: _, [] => by simp [eqR]
  | x :: a, y :: b => by
    rw [eqR, Bool.and_eq_true, eqB_iff, eqR_iff a b]
    simp
theorem rowOk_all {a : List V} (h : rowOk a = true) : ∀ x ∈ a, V.okB x = true := by
  unfold rowOk at h
  simp only [Bool.and_eq_true, List.all_eq_true] at h
  exact h.2
theorem rowOk_take {a : List V} {n : Nat} (h : rowOk a = true) (hn : 0 < n) : rowOk (a.take n) = true := by
  unfold rowOk at h ⊢
  simp only [Bool.and_eq_true, List.all_eq_true, decide_eq_true_eq, List.length_take] at h ⊢
  exact ⟨by omega, fun x hx => h.2 x (List.mem_of_mem_take hx)⟩
theorem order_one {a b : List V} (ha : rowOk a = true) (hb : rowOk b = true) : ((rowLess a b != rowLess b a) == !eqR a b) = true ∧ (rowSame a b == eqR a b) = true := by
  unfold rowLess rowSame
  rw [ha, hb]
  rcases cmpR_tri a b (rowOk_all ha) (rowOk_all hb) with ⟨h1, h2, h3⟩ | ⟨h1, h2, h3⟩ | ⟨h1, h2, h3⟩
  · have : eqR a b = false := by
      cases h : eqR a b
      · rfl
      · exact absurd ((eqR_iff a b).1 h) h3
    rw [h1, h2, this]; decide
  · have : eqR a b = false := by
      cases h : eqR a b
      · rfl
      · exact absurd ((eqR_iff a b).1 h) h3
    rw [h1, h2, this]; decide
  · rw [h1, h2, (eqR_iff a b).2 h3]; decide
theorem order_trans {a b c : List V} (ha : rowOk a = true) (hb : rowOk b = true) (hc : rowOk c = true) (h1 : rowLess a b = true) (h2 : rowLess b c = true) : rowLess a c = true := by
  unfold rowLess at h1 h2 ⊢
  rw [ha, hb] at h1
  rw [hb, hc] at h2
  rw [ha, hc]
  simp only [Bool.and_self, Bool.true_and, decide_eq_true_eq] at h1 h2 ⊢
  exact cmpR_trans a b c (rowOk_all ha) (rowOk_all hb) (rowOk_all hc) h1 h2
theorem order_prefix {a : List V} {n : Nat} (ha : rowOk a = true) (hn : 0 < n) (hl : n < a.length) : rowLess (a.take n) a = true := by
  unfold rowLess
  rw [ha, rowOk_take ha hn, cmpR_prefix a n (rowOk_all ha) hl]
  decide
end Go.Proofs.Ytabhkfpglhfiiaa
