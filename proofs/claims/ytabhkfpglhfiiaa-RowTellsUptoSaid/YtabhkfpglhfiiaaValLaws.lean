/-
  The order's laws on values: no Go in sight.
-/
import Derived.Test.YtabhkfpglhfiiaaLess
namespace Go.Proofs.Ytabhkfpglhfiiaa
open Go.RowKit
theorem bl_tri : ∀ x y : List UInt8, (Op.bytesLess x y = true ∧ Op.bytesLess y x = false ∧ x ≠ y) ∨ (Op.bytesLess x y = false ∧ Op.bytesLess y x = true ∧ x ≠ y) ∨ (Op.bytesLess x y = false ∧ Op.bytesLess y x = false ∧ x = y)
  | [], [] => .inr (.inr ⟨rfl, rfl, rfl⟩)
  | [], _ :: _ => .inl ⟨rfl, rfl, by simp⟩
  | _ :: _, [] => .inr (.inl ⟨rfl, rfl, by simp⟩)
  | a :: x, b :: y => by
    have h := bl_tri x y
    simp only [Op.bytesLess]
    by_cases h1 : a < b
    · left
      have h2 : ¬ b < a := by intro h; exact absurd (UInt8.lt_trans h1 h) (UInt8.lt_irrefl a)
      have h3 : ¬ b = a := by rintro rfl; exact UInt8.lt_irrefl _ h1
      simp [h1, h2, h3, Ne.symm h3]
    · by_cases h2 : b < a
      · right; left
        have h3 : ¬ a = b := by rintro rfl; exact UInt8.lt_irrefl _ h2
        simp [h1, h2, h3]
      · obtain rfl : a = b := UInt8.le_antisymm (UInt8.not_lt.1 h2) (UInt8.not_lt.1 h1)
        simp [h1]
        exact h
theorem bl_trans : ∀ x y z : List UInt8, Op.bytesLess x y = true → Op.bytesLess y z = true → Op.bytesLess x z = true
  | _, [], _, h, _ => by simp [Op.bytesLess] at h
  | _, _ :: _, [], _, h => by simp [Op.bytesLess] at h
  | [], _ :: _, _ :: _, _, _ => rfl
  | a :: x, b :: y, c :: z, h1, h2 => by
    simp only [Op.bytesLess, Bool.or_eq_true, Bool.and_eq_true, decide_eq_true_eq, beq_iff_eq] at h1 h2 ⊢
    rcases h1 with h1 | ⟨rfl, h1⟩
    · rcases h2 with h2 | ⟨rfl, h2⟩
      · exact .inl (UInt8.lt_trans h1 h2)
      · exact .inl h1
    · rcases h2 with h2 | ⟨rfl, h2⟩
      · exact .inl h2
      · exact .inr ⟨rfl, bl_trans x y z h1 h2⟩
theorem bytes_ext {a b : ByteArray} (h : a.toList = b.toList) : a = b := by
  rw [ByteArray.toList_eq, ByteArray.toList_eq] at h
  obtain ⟨⟨x⟩⟩ := a
  obtain ⟨⟨y⟩⟩ := b
  simp at h
  rw [h]
theorem ok_cases {a : V} (h : V.okB a = true) : (a.k = 1 ∧ a.s.toList = []) ∨ (a.k = 2 ∧ a.n = 0) := by
  unfold V.okB at h
  simp only [Bool.or_eq_true, Bool.and_eq_true, beq_iff_eq, List.isEmpty_iff] at h
  rcases h with ⟨h1, h2⟩ | ⟨h1, h2, _⟩
  · exact .inl ⟨h1, h2⟩
  · exact .inr ⟨h1, h2⟩
theorem V.tri {a b : V} (ha : V.okB a = true) (hb : V.okB b = true) : (V.lt a b = true ∧ V.lt b a = false ∧ a ≠ b) ∨ (V.lt a b = false ∧ V.lt b a = true ∧ a ≠ b) ∨ (V.lt a b = false ∧ V.lt b a = false ∧ a = b) := by
  obtain ⟨ak, an, az⟩ := a
  obtain ⟨bk, bn, bz⟩ := b
  unfold V.lt
  rw [ha, hb]
  unfold V.ltIn
  simp only [Bool.and_self, Bool.true_and]
  rcases ok_cases ha with ⟨h1, h2⟩ | ⟨h1, h2⟩ <;> rcases ok_cases hb with ⟨h3, h4⟩ | ⟨h3, h4⟩ <;> simp only at h1 h2 h3 h4 <;> subst h1 <;> subst h3
  · have e : az = bz := bytes_ext (h2.trans h4.symm)
    subst e
    by_cases h5 : an < bn
    · left; simp [h5]; omega
    · by_cases h6 : bn < an
      · right; left; simp [h6]; omega
      · right; right; simp; omega
  · left; simp
  · right; left; simp
  · subst h2 h4
    rcases bl_tri az.toList bz.toList with ⟨h5, h6, h7⟩ | ⟨h5, h6, h7⟩ | ⟨h5, h6, h7⟩
    · left; simp [h5, h6]; rintro rfl; exact h7 rfl
    · right; left; simp [h5, h6]; rintro rfl; exact h7 rfl
    · right; right; simp [h5, h6]; exact bytes_ext h7
theorem V.lt_trans {a b c : V} (h1 : V.lt a b = true) (h2 : V.lt b c = true) : V.lt a c = true := by
  obtain ⟨ak, an, az⟩ := a
  obtain ⟨bk, bn, bz⟩ := b
  obtain ⟨ck, cn, cz⟩ := c
  unfold V.lt at h1 h2 ⊢
  simp only [Bool.and_eq_true] at h1 h2
  obtain ⟨⟨ha, hb⟩, h1⟩ := h1
  obtain ⟨⟨_, hc⟩, h2⟩ := h2
  rw [ha, hc]
  unfold V.ltIn at h1 h2 ⊢
  simp only [Bool.and_self, Bool.true_and]
  rcases ok_cases ha with ⟨k1, _⟩ | ⟨k1, _⟩ <;> rcases ok_cases hb with ⟨k2, _⟩ | ⟨k2, _⟩ <;> rcases ok_cases hc with ⟨k3, _⟩ | ⟨k3, _⟩ <;> simp only at k1 k2 k3 <;> subst k1 <;> subst k2 <;> subst k3 <;> simp at h1 h2 ⊢
  · omega
  · exact bl_trans _ _ _ h1 h2
end Go.Proofs.Ytabhkfpglhfiiaa
