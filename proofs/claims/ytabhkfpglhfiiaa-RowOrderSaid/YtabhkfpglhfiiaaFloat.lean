/-
  Plain facts on binary64 words, over the model's own Ieee core: what 'float64(n)' stands for, how two such words are ordered, that they are whole. No program in sight.
-/
import Derived.Laws.FloatArith
import Derived.Laws.Cover3
import GoSem.Extern.MathFloor
namespace Go.Proofs.Ytabhkfpglhfiiaa
namespace Fl

theorem log2_bounds (n : Nat) (h : n ≠ 0) : 2 ^ n.log2 ≤ n ∧ n < 2 ^ (n.log2 + 1) :=
  ⟨Nat.log2_self_le h, Nat.lt_log2_self⟩

/-- the word of an integer -/
def F (n : Int) : Nat := floatOfInt .f64 n

/-- what a whole number's word reads as -/
def Reads (x : Nat) (n : Int) : Prop := ∃ k : Nat, k ≤ 1074 ∧ Ieee.double.read x = .number (decide (n < 0)) (n.natAbs * 2 ^ k) (-(k : Int))

theorem reads_F (n : Int) (h : n.natAbs < 2 ^ 53) : Reads (F n) n := by
  by_cases h0 : n.natAbs = 0
  · obtain rfl : n = 0 := by omega
    exact ⟨1074, by omega, by decide +kernel⟩
  · obtain ⟨hl1, hl2⟩ := log2_bounds _ h0
    have hL : n.natAbs.log2 ≤ 52 := by
      by_cases hc : n.natAbs.log2 ≤ 52
      · exact hc
      · exfalso
        have : 2 ^ 53 ≤ 2 ^ n.natAbs.log2 := Nat.pow_le_pow_right (by omega) (by omega)
        omega
    obtain ⟨k, hk⟩ : ∃ k, k + n.natAbs.log2 = 52 := ⟨52 - n.natAbs.log2, by omega⟩
    refine ⟨k, by omega, ?_⟩
    have hlo : 2 ^ 52 ≤ n.natAbs * 2 ^ k := by
      have := Nat.mul_le_mul_right (2 ^ k) hl1
      rw [← Nat.pow_add] at this
      rwa [show n.natAbs.log2 + k = 52 from by omega] at this
    have hhi : n.natAbs * 2 ^ k < 2 ^ 53 := by
      have := (Nat.mul_lt_mul_right (a := 2 ^ k) (Nat.two_pow_pos k)).2 hl2
      rw [← Nat.pow_add] at this
      rwa [show n.natAbs.log2 + 1 + k = 53 from by omega] at this
    generalize hm : n.natAbs * 2 ^ k = m at hlo hhi ⊢
    have hw : F n = Ieee.double.word (decide (n < 0)) ((1074 - k) * 2 ^ 52 + m) := by
      show Ieee.double.nearest (decide (n < 0)) n.natAbs 0 = _
      unfold Ieee.Format.nearest
      rw [if_neg h0]
      have hp : Ieee.double.leastPlace = -1074 := by decide +kernel
      have hf : Ieee.double.fractionBits = 52 := rfl
      have hb : Ieee.double.binade = 2 ^ 52 := rfl
      have hi : Ieee.double.infRung = 2047 * 2 ^ 52 := by decide +kernel
      simp only [hp, hf, hb, hi]
      have e1 : max ((0 : Int) + (n.natAbs.log2 : Int) - ((52 : Nat) : Int)) (-1074) = -(k : Int) := by omega
      rw [e1]
      have e2 : ((0 : Int) - -(k : Int)).toNat = k := by omega
      have e3 : (-(k : Int) - 0).toNat = 0 := by omega
      have e4 : (-(k : Int) - -1074).toNat = 1074 - k := by omega
      rw [e2, e3, e4]
      have e5 : Ieee.Toward.even.cut (decide (n < 0)) (n.natAbs <<< k) 0 = m := by
        rw [Nat.shiftLeft_eq, hm]
        unfold Ieee.Toward.cut
        simp [Nat.mod_one]
      rw [e5, Nat.min_eq_left (by omega)]
    rw [hw]
    have hs : Ieee.double.signWeight = 2 ^ 63 := by decide +kernel
    have hb : Ieee.double.binade = 2 ^ 52 := rfl
    have hi : Ieee.double.infRung = 2047 * 2 ^ 52 := by decide +kernel
    have hp : Ieee.double.leastPlace = -1074 := by decide +kernel
    generalize hr : (1074 - k) * 2 ^ 52 + m = r
    have hr1 : r < 2047 * 2 ^ 52 := by omega
    have hr2 : 2 ^ 52 ≤ r := by omega
    have hword : Ieee.double.word (decide (n < 0)) r % 2 ^ 63 = r ∧ (Ieee.double.word (decide (n < 0)) r / 2 ^ 63 % 2 == 1) = decide (n < 0) := by
      unfold Ieee.Format.word
      rw [hs]
      by_cases hn : n < 0
      · simp only [hn, decide_true, if_true]
        constructor
        · omega
        · have : (2 ^ 63 + r) / 2 ^ 63 % 2 = 1 := by omega
          rw [this]; rfl
      · simp only [hn, decide_false, Bool.false_eq_true, if_false]
        constructor
        · omega
        · have : r / 2 ^ 63 % 2 = 0 := by omega
          rw [this]; rfl
    unfold Ieee.Format.read
    rw [hs, hword.1, hword.2, hb, hi, hp]
    simp only
    rw [if_neg (by omega), if_pos hr1]
    have e6 : 2 ^ 52 + r % 2 ^ 52 = m := by omega
    have e7 : (-1074 : Int) + ((r / 2 ^ 52 - 1 : Nat) : Int) = -(k : Int) := by omega
    rw [e6, e7]

theorem signed_val (n : Int) (k j : Nat) : Ieee.signed (decide (n < 0)) (n.natAbs * 2 ^ k) j = n * 2 ^ (k + j) := by
  unfold Ieee.signed
  rw [Nat.shiftLeft_eq, Nat.mul_assoc, ← Nat.pow_add]
  have e : (((n.natAbs * 2 ^ (k + j) : Nat)) : Int) = (n.natAbs : Int) * 2 ^ (k + j) := by
    rw [Int.natCast_mul, Int.natCast_pow]; rfl
  by_cases hn : n < 0
  · simp only [hn, decide_true, if_true]
    rw [e, ← Int.neg_mul, show -(n.natAbs : Int) = n from by omega]
  · simp only [hn, decide_false, Bool.false_eq_true, if_false]
    rw [e, show (n.natAbs : Int) = n from by omega]

theorem compare_scale (a b c : Int) (h : 0 < c) : compare (a * c) (b * c) = compare a b := by
  rcases Int.lt_trichotomy a b with h1 | h1 | h1
  · rw [Int.compare_eq_lt.2 h1, Int.compare_eq_lt.2 (Int.mul_lt_mul_of_pos_right h1 h)]
  · subst h1; rw [Int.compare_eq_eq.2 rfl, Int.compare_eq_eq.2 rfl]
  · rw [Int.compare_eq_gt.2 h1, Int.compare_eq_gt.2 (Int.mul_lt_mul_of_pos_right h1 h)]

theorem order_reads {x y : Nat} {a b : Int} (hx : Reads x a) (hy : Reads y b) : Ieee.double.order x y = some (compare a b) := by
  obtain ⟨k, _, hk⟩ := hx
  obtain ⟨j, _, hj⟩ := hy
  unfold Ieee.Format.order
  rw [hk, hj]
  show some (compare (Ieee.signed _ _ (-(k : Int) - min (-(k : Int)) (-(j : Int))).toNat) (Ieee.signed _ _ (-(j : Int) - min (-(k : Int)) (-(j : Int))).toNat)) = _
  rw [signed_val, signed_val]
  have e1 : k + (-(k : Int) - min (-(k : Int)) (-(j : Int))).toNat = max k j := by omega
  have e2 : j + (-(j : Int) - min (-(k : Int)) (-(j : Int))).toNat = max k j := by omega
  rw [e1, e2, compare_scale _ _ _ (Int.pow_pos (by omega))]

theorem cut_zero_even (s : Bool) (A k : Nat) : Ieee.Toward.zero.cut s ((A * 2 ^ k) <<< 0) k = A := by
  unfold Ieee.Toward.cut
  simp only [Bool.toNat_false, Nat.add_zero, Nat.shiftLeft_eq, Nat.one_mul, Nat.pow_zero, Nat.mul_one]
  by_cases hA : A = 0
  · subst hA; simp
  · have hk : k ≤ (A * 2 ^ k).log2 := (Nat.le_log2 (by
      intro h; rcases Nat.mul_eq_zero.1 h with h | h
      · exact hA h
      · have := Nat.two_pow_pos k; omega)).2 (Nat.le_mul_of_pos_left _ (by omega))
    rw [Nat.min_eq_left (by omega), Nat.mul_div_cancel _ (Nat.two_pow_pos k)]

theorem integral_reads {x : Nat} {a : Int} (hx : Reads x a) : (Ieee.double.read x).integral .zero = .number (decide (a < 0)) a.natAbs 0 := by
  obtain ⟨k, _, hk⟩ := hx
  rw [hk]
  show Ieee.Datum.number _ (Ieee.Toward.zero.cut _ ((a.natAbs * 2 ^ k) <<< (-(k : Int)).toNat) (-(-(k : Int))).toNat) 0 = _
  have e1 : (-(k : Int)).toNat = 0 := by omega
  have e2 : (-(-(k : Int))).toNat = k := by omega
  rw [e1, e2, cut_zero_even]

theorem toInt_reads {x : Nat} {a : Int} (hx : Reads x a) : (Ieee.double.read x).toInt .zero = some a := by
  unfold Ieee.Datum.toInt
  rw [integral_reads hx]
  show some (Ieee.signed (decide (a < 0)) a.natAbs 0) = _
  have := signed_val a 0 0
  simp only [Nat.pow_zero, Nat.mul_one, Nat.add_zero, Int.pow_zero, Int.mul_one] at this
  rw [this]

/-- the word of 'trunc' of a whole number -/
theorem trunc_reads {x : Nat} {a : Int} (hx : Reads x a) : FloatKind.f64.encode ((FloatKind.f64.decode x).integral .zero) = F a := by
  show Ieee.double.write ((Ieee.double.read x).integral .zero) = _
  rw [integral_reads hx]
  rfl

theorem floatToInt_reads {x : Nat} {a : Int} (hx : Reads x a) (h1 : -9223372036854775808 ≤ a) (h2 : a ≤ 9223372036854775807) : floatToIntVal .f64 x .i64 = some a := by
  unfold floatToIntVal
  show (match (Ieee.double.read x).toInt .zero with | some n => if IntKind.min .i64 ≤ n ∧ n ≤ IntKind.max .i64 then some n else none | none => none) = _
  rw [toInt_reads hx]
  simp only
  rw [if_pos ⟨h1, h2⟩]

end Fl
end Go.Proofs.Ytabhkfpglhfiiaa
