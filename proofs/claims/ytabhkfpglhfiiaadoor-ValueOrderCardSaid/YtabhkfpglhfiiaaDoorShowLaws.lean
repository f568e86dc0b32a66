/-
  Digits and quoted texts: their signs, their lengths, what they are worth. No Go in sight.
-/
import Derived.Test.YtabhkfpglhfiiaaDoorShow
import Derived.Test.YtabhkfpglhfiiaaDoorValLaws
namespace Go.Proofs.YtabhkfpglhfiiaaDoor
open Go.RowKit
theorem pow_le_nd : ∀ u : Nat, 0 < u → 10 ^ (Lib.nDigits u - 1) ≤ u := by
  intro u
  induction u using Nat.strongRecOn with
  | _ u ih =>
    intro h
    by_cases h10 : u < 10
    · rw [Lib.nDigits_small h10]; simp; omega
    · rw [Lib.nDigits_big h10]
      have h1 := ih (u / 10) (by omega) (by omega)
      have h2 := Lib.nDigits_pos (u / 10)
      have e : Lib.nDigits (u / 10) + 1 - 1 = (Lib.nDigits (u / 10) - 1) + 1 := by omega
      rw [e, Nat.pow_succ]
      omega
theorem dg_toNat (u j : Nat) : (Lib.dg u j).toNat = 48 + u / 10 ^ j % 10 := by
  unfold Lib.dg
  rw [UInt8.toNat_ofNat']
  omega
theorem lead_digit (u : Nat) (h : 0 < u) : 1 ≤ u / 10 ^ (Lib.nDigits u - 1) % 10 := by
  have h1 := pow_le_nd u h
  have h2 := Lib.lt_pow_nDigits u
  have h3 := Lib.nDigits_pos u
  have hp : 0 < 10 ^ (Lib.nDigits u - 1) := Nat.pow_pos (by decide)
  have e : (10 : Nat) ^ Lib.nDigits u = 10 ^ (Lib.nDigits u - 1) * 10 := by rw [← Nat.pow_succ]; congr 1; omega
  have q1 : 1 ≤ u / 10 ^ (Lib.nDigits u - 1) := (Nat.one_le_div_iff hp).2 h1
  have q2 : u / 10 ^ (Lib.nDigits u - 1) < 10 := Nat.div_lt_of_lt_mul (by rw [← e]; exact h2)
  omega
theorem pre_step (u L i : Nat) (h : i < L) : u / 10 ^ (L - (i + 1)) = u / 10 ^ (L - i) * 10 + u / 10 ^ (L - 1 - i) % 10 := by
  have e1 : L - (i + 1) = L - 1 - i := by omega
  have e2 : L - i = (L - 1 - i) + 1 := by omega
  rw [e1, e2, Nat.pow_succ, ← Nat.div_div_eq_div_mul]
  omega
theorem dec_get (u i : Nat) (h : i < Lib.nDigits u) : (Lib.decDigits u)[i]? = some (Lib.dg u (Lib.nDigits u - 1 - i)) := by
  rw [Lib.decDigits_eq]
  simp [h]
/-- what is read of a text of digits at a place -/
theorem dec_at (u i : Nat) (D : ByteArray) (hD : D.data.toList = Lib.decDigits u) (h : i < D.size) : i < Lib.nDigits u ∧ (D[i]).toNat = 48 + u / 10 ^ (Lib.nDigits u - 1 - i) % 10 := by
  have hl : D.size = Lib.nDigits u := by rw [← Lib.decDigits_length, ← hD]; rfl
  refine ⟨by omega, ?_⟩
  have h1 : D.data.toList[i]? = some D[i] := List.getElem?_eq_getElem (by exact h)
  rw [hD, dec_get u i (by omega)] at h1
  injection h1 with h1
  rw [← h1, dg_toNat]
theorem neg_at (u i : Nat) (D : ByteArray) (hD : D.data.toList = 45 :: Lib.decDigits u) (h : i + 1 < D.size) : i < Lib.nDigits u ∧ (D[i + 1]).toNat = 48 + u / 10 ^ (Lib.nDigits u - 1 - i) % 10 := by
  have hl : D.size = Lib.nDigits u + 1 := by
    rw [← Lib.decDigits_length]
    have : D.data.toList.length = (Lib.decDigits u).length + 1 := by rw [hD]; rfl
    exact this
  refine ⟨by omega, ?_⟩
  have h1 : D.data.toList[i + 1]? = some D[i + 1] := List.getElem?_eq_getElem (by exact h)
  rw [hD, List.getElem?_cons_succ, dec_get u i (by omega)] at h1
  injection h1 with h1
  rw [← h1, dg_toNat]
theorem neg_zero (u : Nat) (D : ByteArray) (hD : D.data.toList = 45 :: Lib.decDigits u) (h : 0 < D.size) : (D[0]).toNat = 45 := by
  have h1 : D.data.toList[0]? = some D[0] := List.getElem?_eq_getElem (by exact h)
  rw [hD] at h1
  injection h1 with h1
  rw [← h1]
  rfl
theorem hexD_sign (n : Nat) : 32 ≤ (hexD n).toNat ∧ (hexD n).toNat ≤ 126 ∨ 16 ≤ n := by
  by_cases h : n < 16
  · left
    have : ∀ i : Fin 16, 32 ≤ (hexD i.val).toNat ∧ (hexD i.val).toNat ≤ 126 := by decide
    exact this ⟨n, h⟩
  · right; omega
theorem qB_signs (c : UInt8) : ∀ x ∈ qB c, 32 ≤ x.toNat ∧ x.toNat ≤ 126 := by
  intro x hx
  unfold qB at hx
  split at hx
  · next h =>
    unfold plainC at h
    simp only [Bool.and_eq_true, decide_eq_true_eq] at h
    simp at hx
    subst hx
    omega
  · have h1 := c.toNat_lt
    simp only [List.mem_cons, List.not_mem_nil, or_false] at hx
    rcases hx with rfl | rfl | rfl
    · decide
    · rcases hexD_sign (c.toNat / 16) with h | h
      · exact h
      · omega
    · rcases hexD_sign (c.toNat % 16) with h | h
      · exact h
      · omega
theorem quote_signs (l : List UInt8) : ∀ x ∈ quoteL l, 32 ≤ x.toNat ∧ x.toNat ≤ 126 := by
  intro x hx
  unfold quoteL at hx
  simp only [List.cons_append, List.mem_cons, List.mem_append, List.mem_flatMap, List.not_mem_nil, or_false] at hx
  rcases hx with rfl | ⟨c, _, hc⟩ | rfl
  · decide
  · exact qB_signs c x hc
  · decide
theorem quote_size (l : List UInt8) : (ByteArray.mk (quoteL l).toArray).size = (l.flatMap qB).length + 2 := by
  show (quoteL l).length = _
  simp [quoteL]
theorem quote_first (l : List UInt8) (h : 0 < (ByteArray.mk (quoteL l).toArray).size) : ((ByteArray.mk (quoteL l).toArray)[0]'h).toNat = 34 := rfl
theorem quote_last (l : List UInt8) (i : Nat) (hi : i = (l.flatMap qB).length + 1) (h : i < (ByteArray.mk (quoteL l).toArray).size) : ((ByteArray.mk (quoteL l).toArray)[i]'h).toNat = 34 := by
  subst hi
  have h1 : (quoteL l)[(l.flatMap qB).length + 1]? = some 34 := by simp [quoteL]
  have h2 : (quoteL l)[(l.flatMap qB).length + 1]? = some ((ByteArray.mk (quoteL l).toArray)[(l.flatMap qB).length + 1]'h) := List.getElem?_eq_getElem (by exact h)
  rw [h1] at h2
  injection h2 with h2
  rw [← h2]
  rfl
theorem quote_at (l : List UInt8) (i : Nat) (h : i < (ByteArray.mk (quoteL l).toArray).size) : 32 ≤ ((ByteArray.mk (quoteL l).toArray)[i]'h).toNat ∧ ((ByteArray.mk (quoteL l).toArray)[i]'h).toNat ≤ 126 :=
  quote_signs l _ (List.mem_of_getElem? (i := i) (List.getElem?_eq_getElem (by exact h)))
end Go.Proofs.YtabhkfpglhfiiaaDoor
