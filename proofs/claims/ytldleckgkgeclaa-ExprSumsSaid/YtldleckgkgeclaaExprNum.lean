/-
  Plain laws of sums, differences, products of int64's; and of bits.
-/
import Derived.Test.YtldleckgkgeclaaExpr0
import Derived.KernelRfl
import Derived.Laws.BitsLemmas
namespace Go.Proofs.Ytldleckgkgeclaa
open Go.RowKit
theorem i64_and1 (n : Int) : bits .and .i64 n 1 = n % 2 := by
  have h1 : (BitVec.ofInt 64 1).toNat = 2 ^ 1 - 1 := by decide
  have key : (BitVec.ofInt 64 n &&& BitVec.ofInt 64 1).toNat = (n % ((2 ^ 64 : Nat) : Int)).toNat % 2 ^ 1 := by
    rw [BitVec.toNat_and, BitVec.toNat_ofInt, h1, Nat.and_two_pow_sub_one_eq_mod]
  show IntKind.i64.wrap ((BitVec.ofInt 64 n &&& BitVec.ofInt 64 1).toNat : Nat) = n % 2
  rw [key, IntKind.wrap_i64]
  omega
theorem i64_and_and1 (a c : Int) : bits .and .i64 (bits .and .i64 a c) 1 = if a % 2 = 1 ∧ c % 2 = 1 then 1 else 0 := by
  rw [i64_and1]
  show IntKind.i64.wrap ((BitVec.ofInt 64 a &&& BitVec.ofInt 64 c).toNat : Nat) % 2 = _
  have key : (BitVec.ofInt 64 a &&& BitVec.ofInt 64 c).toNat % 2 ^ 1 = ((a % ((2 ^ 64 : Nat) : Int)).toNat % 2 ^ 1) &&& ((c % ((2 ^ 64 : Nat) : Int)).toNat % 2 ^ 1) := by
    rw [BitVec.toNat_and, Nat.and_mod_two_pow, BitVec.toNat_ofInt, BitVec.toNat_ofInt]
  have hw : IntKind.i64.wrap ((BitVec.ofInt 64 a &&& BitVec.ofInt 64 c).toNat : Nat) % 2 = (((BitVec.ofInt 64 a &&& BitVec.ofInt 64 c).toNat % 2 ^ 1 : Nat) : Int) := by
    rw [IntKind.wrap_i64]; omega
  rw [hw, key]
  have ea : (a % ((2 ^ 64 : Nat) : Int)).toNat % 2 ^ 1 = if a % 2 = 1 then 1 else 0 := by split <;> omega
  have ec : (c % ((2 ^ 64 : Nat) : Int)).toNat % 2 ^ 1 = if c % 2 = 1 then 1 else 0 := by split <;> omega
  rw [ea, ec]
  by_cases h1 : a % 2 = 1 <;> by_cases h2 : c % 2 = 1 <;> simp [h1, h2]

theorem op_add_ (a c : Int) : operateL opAdd (numV a) (numV c) = if (decide (a < wrap64 (a + c)) == decide (0 < c)) = true then (numV (wrap64 (a + c)), 0) else (zeroV, 26) := by kernel_rfl
theorem op_sub_ (a c : Int) : operateL opSub (numV a) (numV c) = if (decide (wrap64 (a - c) < a) == decide (0 < c)) = true then (numV (wrap64 (a - c)), 0) else (zeroV, 26) := by kernel_rfl
theorem op_mul_ (a c : Int) : operateL opMul (numV a) (numV c) = if (reckonL opMul a c).2 = true then (numV (reckonL opMul a c).1, 0) else (zeroV, 26) := by kernel_rfl
theorem re_mul_neg {a c : Int} (h : (decide (a < 0) != decide (c < 0)) = true) : reckonL opMul a c = (wrap64 (-(wrap64 ((a.natAbs * c.natAbs % 18446744073709551616 : Nat) : Int))), (a.natAbs * c.natAbs / 18446744073709551616 == 0) && decide (a.natAbs * c.natAbs % 18446744073709551616 ≤ 9223372036854775808)) := by
  unfold reckonL
  rw [if_neg (by decide), if_neg (by decide), if_neg (by decide), if_pos h]
theorem re_mul_pos {a c : Int} (h : (decide (a < 0) != decide (c < 0)) = false) : reckonL opMul a c = (wrap64 ((a.natAbs * c.natAbs % 18446744073709551616 : Nat) : Int), (a.natAbs * c.natAbs / 18446744073709551616 == 0) && decide (a.natAbs * c.natAbs % 18446744073709551616 < 9223372036854775808)) := by
  unfold reckonL
  rw [if_neg (by decide), if_neg (by decide), if_neg (by decide), if_neg (by rw [h]; decide)]
theorem add_in {a c : Int} (_ : -9223372036854775808 ≤ a) (_ : a ≤ 9223372036854775807) (_ : -9223372036854775808 ≤ c) (_ : c ≤ 9223372036854775807) (h1 : -9223372036854775808 ≤ a + c) (h2 : a + c ≤ 9223372036854775807) : operateL opAdd (numV a) (numV c) = (numV (a + c), 0) := by
  have hw : wrap64 (a + c) = a + c := by unfold wrap64; omega
  have hb : (decide (a < a + c) == decide (0 < c)) = true := by
    by_cases h : 0 < c
    · rw [decide_eq_true (by omega), decide_eq_true h]; rfl
    · rw [decide_eq_false (by omega), decide_eq_false h]; rfl
  rw [op_add_, hw, if_pos hb]
theorem add_out {a c : Int} (_ : -9223372036854775808 ≤ a) (_ : a ≤ 9223372036854775807) (_ : -9223372036854775808 ≤ c) (_ : c ≤ 9223372036854775807) (h : ¬ (-9223372036854775808 ≤ a + c ∧ a + c ≤ 9223372036854775807)) : operateL opAdd (numV a) (numV c) = (zeroV, 26) := by
  have hb : (decide (a < wrap64 (a + c)) == decide (0 < c)) = false := by
    unfold wrap64
    by_cases h0 : 0 < c
    · rw [decide_eq_false (by omega), decide_eq_true h0]; rfl
    · rw [decide_eq_true (by omega), decide_eq_false h0]; rfl
  rw [op_add_, hb, if_neg (by decide)]
theorem sub_in {a c : Int} (_ : -9223372036854775808 ≤ a) (_ : a ≤ 9223372036854775807) (_ : -9223372036854775808 ≤ c) (_ : c ≤ 9223372036854775807) (h1 : -9223372036854775808 ≤ a - c) (h2 : a - c ≤ 9223372036854775807) : operateL opSub (numV a) (numV c) = (numV (a - c), 0) := by
  have hw : wrap64 (a - c) = a - c := by unfold wrap64; omega
  have hb : (decide (a - c < a) == decide (0 < c)) = true := by
    by_cases h : 0 < c
    · rw [decide_eq_true (by omega), decide_eq_true h]; rfl
    · rw [decide_eq_false (by omega), decide_eq_false h]; rfl
  rw [op_sub_, hw, if_pos hb]
theorem sub_out {a c : Int} (_ : -9223372036854775808 ≤ a) (_ : a ≤ 9223372036854775807) (_ : -9223372036854775808 ≤ c) (_ : c ≤ 9223372036854775807) (h : ¬ (-9223372036854775808 ≤ a - c ∧ a - c ≤ 9223372036854775807)) : operateL opSub (numV a) (numV c) = (zeroV, 26) := by
  have hb : (decide (wrap64 (a - c) < a) == decide (0 < c)) = false := by
    unfold wrap64
    by_cases h0 : 0 < c
    · rw [decide_eq_false (by omega), decide_eq_true h0]; rfl
    · rw [decide_eq_true (by omega), decide_eq_false h0]; rfl
  rw [op_sub_, hb, if_neg (by decide)]
/-- how great a product may be, without its sign -/
def mostOf (a c : Int) : Nat := if (decide (a < 0) != decide (c < 0)) = true then 9223372036854775808 else 9223372036854775807
theorem mul_abs (a c : Int) : a * c = if (decide (a < 0) != decide (c < 0)) = true then -((a.natAbs * c.natAbs : Nat) : Int) else ((a.natAbs * c.natAbs : Nat) : Int) := by
  have ha : a = a.natAbs ∨ a = -(a.natAbs : Int) := by omega
  have hc : c = c.natAbs ∨ c = -(c.natAbs : Int) := by omega
  rw [Int.natCast_mul]
  by_cases h1 : a < 0 <;> by_cases h2 : c < 0
  · have e1 : a = -(a.natAbs : Int) := by omega
    have e2 : c = -(c.natAbs : Int) := by omega
    rw [decide_eq_true h1, decide_eq_true h2, if_neg (by decide)]
    conv => lhs; rw [e1, e2, Int.neg_mul_neg]
  · have e1 : a = -(a.natAbs : Int) := by omega
    have e2 : c = (c.natAbs : Int) := by omega
    rw [decide_eq_true h1, decide_eq_false h2, if_pos (by decide)]
    conv => lhs; rw [e1, e2, Int.neg_mul]
  · have e1 : a = (a.natAbs : Int) := by omega
    have e2 : c = -(c.natAbs : Int) := by omega
    rw [decide_eq_false h1, decide_eq_true h2, if_pos (by decide)]
    conv => lhs; rw [e1, e2, Int.mul_neg]
  · have e1 : a = (a.natAbs : Int) := by omega
    have e2 : c = (c.natAbs : Int) := by omega
    rw [decide_eq_false h1, decide_eq_false h2, if_neg (by decide)]
    conv => lhs; rw [e1, e2]
theorem mul_in {a c : Int} (h : a.natAbs * c.natAbs ≤ mostOf a c) : operateL opMul (numV a) (numV c) = (numV (a * c), 0) ∧ -9223372036854775808 ≤ a * c ∧ a * c ≤ 9223372036854775807 := by
  have e := mul_abs a c
  rw [op_mul_]
  unfold mostOf at h
  cases hs : (decide (a < 0) != decide (c < 0))
  · rw [re_mul_pos hs]
    rw [hs, if_neg (by decide)] at h e
    generalize a.natAbs * c.natAbs = p at *
    have e1 : p % 18446744073709551616 = p := by omega
    have e2 : p / 18446744073709551616 = 0 := by omega
    have e3 : wrap64 (p : Int) = p := by unfold wrap64; omega
    rw [e1, e2, decide_eq_true (show p < 9223372036854775808 by omega)]
    refine ⟨?_, by omega, by omega⟩
    show (if (true : Bool) = true then (numV (wrap64 (p : Int)), (0 : Int)) else (zeroV, 26)) = _
    rw [if_pos rfl, e3, e]
  · rw [re_mul_neg hs]
    rw [hs, if_pos rfl] at h e
    generalize a.natAbs * c.natAbs = p at *
    have e1 : p % 18446744073709551616 = p := by omega
    have e2 : p / 18446744073709551616 = 0 := by omega
    have e3 : wrap64 (-(wrap64 (p : Int))) = -(p : Int) := by unfold wrap64; omega
    rw [e1, e2, decide_eq_true (show p ≤ 9223372036854775808 by omega)]
    refine ⟨?_, by omega, by omega⟩
    show (if (true : Bool) = true then (numV (wrap64 (-(wrap64 (p : Int)))), (0 : Int)) else (zeroV, 26)) = _
    rw [if_pos rfl, e3, e]
theorem mul_out {a c : Int} (h : ¬ a.natAbs * c.natAbs ≤ mostOf a c) : operateL opMul (numV a) (numV c) = (zeroV, 26) := by
  rw [op_mul_]
  unfold mostOf at h
  cases hs : (decide (a < 0) != decide (c < 0))
  · rw [re_mul_pos hs]
    rw [hs, if_neg (by decide)] at h
    generalize a.natAbs * c.natAbs = p at *
    have hb : ((p / 18446744073709551616 == 0) && decide (p % 18446744073709551616 < 9223372036854775808)) = false := by
      by_cases h0 : p / 18446744073709551616 = 0
      · rw [decide_eq_false (by omega), Bool.and_false]
      · rw [beq_false_of_ne h0, Bool.false_and]
    rw [hb]
    rfl
  · rw [re_mul_neg hs]
    rw [hs, if_pos rfl] at h
    generalize a.natAbs * c.natAbs = p at *
    have hb : ((p / 18446744073709551616 == 0) && decide (p % 18446744073709551616 ≤ 9223372036854775808)) = false := by
      by_cases h0 : p / 18446744073709551616 = 0
      · rw [decide_eq_false (by omega), Bool.and_false]
      · rw [beq_false_of_ne h0, Bool.false_and]
    rw [hb]
    rfl
end Go.Proofs.Ytldleckgkgeclaa
