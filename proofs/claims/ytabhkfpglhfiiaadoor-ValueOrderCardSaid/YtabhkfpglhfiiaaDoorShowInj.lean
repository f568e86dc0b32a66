/-
  Unlike right values are shown unlike: no Go in sight.
-/
import Derived.Test.YtabhkfpglhfiiaaDoorShowLaws
import Derived.Test.YtabhkfpglhfiiaaDoorStructEq
namespace Go.Proofs.YtabhkfpglhfiiaaDoor
open Go.RowKit
/-- what a text of digits is worth -/
def worth (l : List UInt8) : Nat := l.foldl (fun a c => a * 10 + (c.toNat - 48)) 0
theorem worth_snoc (l : List UInt8) (c : UInt8) : worth (l ++ [c]) = worth l * 10 + (c.toNat - 48) := by simp [worth]
theorem worth_dec : ∀ u : Nat, worth (Lib.decDigits u) = u := by
  intro u
  induction u using Nat.strongRecOn with
  | _ u ih =>
    rw [Lib.decDigits]
    by_cases h : u < 10
    · rw [dif_pos h]
      have e : (UInt8.ofNat (48 + u)).toNat = 48 + u := by rw [UInt8.toNat_ofNat']; omega
      show 0 * 10 + ((UInt8.ofNat (48 + u)).toNat - 48) = u
      rw [e]
      omega
    · rw [dif_neg h, worth_snoc, ih (u / 10) (by omega)]
      have e : (UInt8.ofNat (48 + u % 10)).toNat = 48 + u % 10 := by rw [UInt8.toNat_ofNat']; omega
      rw [e]
      omega
theorem dec_inj {u v : Nat} (h : Lib.decDigits u = Lib.decDigits v) : u = v := by
  have := congrArg worth h
  rwa [worth_dec, worth_dec] at this
theorem dec_head (u : Nat) : ∃ c l, Lib.decDigits u = c :: l ∧ 48 ≤ c.toNat ∧ c.toNat ≤ 57 := by
  have hp := Lib.nDigits_pos u
  have h := dec_get u 0 (by omega)
  cases hd : Lib.decDigits u with
  | nil => rw [hd] at h; simp at h
  | cons c l =>
    rw [hd] at h
    injection h with h
    refine ⟨c, l, rfl, ?_⟩
    rw [show c = Lib.dg u (Lib.nDigits u - 1 - 0) from h, dg_toNat]
    omega
theorem itoa_inj {a b : Int} (h : Lib.itoa a = Lib.itoa b) : a = b := by
  unfold Lib.itoa at h
  by_cases ha : a < 0
  · by_cases hb : b < 0
    · rw [if_pos ha, if_pos hb] at h
      injection h with _ h
      have := dec_inj h
      omega
    · rw [if_pos ha, if_neg hb] at h
      obtain ⟨c, l, e, h1, h2⟩ := dec_head b.toNat
      rw [e] at h
      injection h with h _
      subst h
      exact absurd h1 (by decide)
  · by_cases hb : b < 0
    · rw [if_neg ha, if_pos hb] at h
      obtain ⟨c, l, e, h1, h2⟩ := dec_head a.toNat
      rw [e] at h
      injection h with h _
      subst h
      exact absurd h1 (by decide)
    · rw [if_neg ha, if_neg hb] at h
      have := dec_inj h
      omega
theorem hexD_inj {a b : Nat} (ha : a < 16) (hb : b < 16) (h : hexD a = hexD b) : a = b := by
  have : ∀ x y : Fin 16, hexD x.val = hexD y.val → x.val = y.val := by decide
  exact this ⟨a, ha⟩ ⟨b, hb⟩ h
theorem qB_ne (c : UInt8) : qB c ≠ [] := by unfold qB; split <;> simp
theorem qB_92 {c : UInt8} (h : plainC c = true) : c ≠ 92 := by
  rintro rfl
  revert h
  decide
theorem fq_inj : ∀ l m : List UInt8, l.flatMap qB = m.flatMap qB → l = m
  | [], [], _ => rfl
  | [], d :: m, h => by
    rw [List.flatMap_cons] at h
    have := (List.append_eq_nil_iff.1 h.symm).1
    exact absurd this (qB_ne d)
  | c :: l, [], h => by
    rw [List.flatMap_cons] at h
    have := (List.append_eq_nil_iff.1 h).1
    exact absurd this (qB_ne c)
  | c :: l, d :: m, h => by
    rw [List.flatMap_cons, List.flatMap_cons] at h
    unfold qB at h
    cases hc : plainC c <;> cases hd : plainC d <;> rw [hc, hd] at h
    · simp only [Bool.false_eq_true, if_false, List.cons_append, List.nil_append, List.cons.injEq, true_and] at h
      obtain ⟨h1, h2, h3⟩ := h
      have c1 := c.toNat_lt
      have d1 := d.toNat_lt
      have e1 := hexD_inj (by omega) (by omega) h1
      have e2 := hexD_inj (by omega) (by omega) h2
      have : c.toNat = d.toNat := by omega
      rw [UInt8.toNat_inj.1 this, fq_inj l m h3]
    · simp only [Bool.false_eq_true, if_false, if_true, List.cons_append, List.nil_append, List.cons.injEq] at h
      exact absurd h.1.symm (qB_92 hd)
    · simp only [Bool.false_eq_true, if_false, if_true, List.cons_append, List.nil_append, List.cons.injEq] at h
      exact absurd h.1 (qB_92 hc)
    · simp only [if_true, List.cons_append, List.nil_append, List.cons.injEq] at h
      rw [h.1, fq_inj l m h.2]
theorem quote_inj {l m : List UInt8} (h : quoteL l = quoteL m) : l = m := by
  unfold quoteL at h
  simp only [List.cons_append, List.cons.injEq, true_and] at h
  exact fq_inj l m (List.append_cancel_right h)
theorem itoa_head (n : Int) : ∃ c l, Lib.itoa n = c :: l ∧ c ≠ 34 := by
  unfold Lib.itoa
  by_cases h : n < 0
  · exact ⟨45, _, if_pos h, by decide⟩
  · obtain ⟨c, l, e, h1, h2⟩ := dec_head n.toNat
    refine ⟨c, l, by rw [if_neg h, e], ?_⟩
    rintro rfl
    exact absurd h1 (by decide)
theorem show_inj {a b : V} (ha : V.okB a = true) (hb : V.okB b = true) (h : showL a = showL b) : a = b := by
  obtain ⟨ak, an, az⟩ := a
  obtain ⟨bk, bn, bz⟩ := b
  unfold showL at h
  rw [ha, hb] at h
  simp only [if_true] at h
  rcases ok_cases ha with ⟨h1, h2⟩ | ⟨h1, h2⟩ <;> rcases ok_cases hb with ⟨h3, h4⟩ | ⟨h3, h4⟩ <;> simp only at h1 h2 h3 h4 <;> subst h1 <;> subst h3
  · have e := itoa_inj h
    subst e
    rw [bytes_ext (h2.trans h4.symm)]
  · obtain ⟨c, l, e, hc⟩ := itoa_head an
    have h : Lib.itoa an = quoteL bz.data.toList := h
    rw [e, quoteL] at h
    simp only [List.cons_append, List.cons.injEq] at h
    exact absurd h.1 hc
  · obtain ⟨c, l, e, hc⟩ := itoa_head bn
    have h : quoteL az.data.toList = Lib.itoa bn := h
    rw [e, quoteL] at h
    simp only [List.cons_append, List.cons.injEq] at h
    exact absurd h.1.symm hc
  · have h : quoteL az.data.toList = quoteL bz.data.toList := h
    have e := quote_inj h
    subst h2 h4
    have e2 : az = bz := bytes_ext (by rw [ByteArray.toList_eq, ByteArray.toList_eq]; exact e)
    rw [e2]
theorem eqB_iff (a b : V) : V.eqB a b = true ↔ a = b := by
  obtain ⟨ak, an, az⟩ := a
  obtain ⟨bk, bn, bz⟩ := b
  unfold V.eqB
  simp only [Bool.and_eq_true, beq_iff_eq]
  constructor
  · rintro ⟨rfl, rfl, h⟩
    rw [bytes_ext h]
  · intro h
    injection h with h1 h2 h3
    exact ⟨h1, h2, by rw [h3]⟩
theorem show_eq {a b : V} (ha : V.okB a = true) (hb : V.okB b = true) : ((ByteArray.mk (showL a).toArray).toList == (ByteArray.mk (showL b).toArray).toList) = V.eqB a b := by
  rw [Bool.eq_iff_iff, eqB_iff, beq_iff_eq, ByteArray.toList_eq, ByteArray.toList_eq]
  constructor
  · intro h
    exact show_inj ha hb h
  · rintro rfl
    rfl
end Go.Proofs.YtabhkfpglhfiiaaDoor
