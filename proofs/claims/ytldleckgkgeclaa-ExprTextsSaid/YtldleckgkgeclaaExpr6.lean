/-
  Package expr's contracts: truth, size, reckon; value's Num, Str; bits.Mul64.
-/
import Derived.Test.YtldleckgkgeclaaExpr5
import Derived.Lib.Mul64
import Derived.Laws.Bits64b
namespace Go.Proofs.Ytldleckgkgeclaa
open Go.RowKit

theorem value_num (n : Int) (w : World) :
    Calls Try.prog 82 #[.int .i64 n] w fun e w' => e = .returned (.agg #[.int .i64 1, .int .i64 n, .string ⟨#[]⟩]) ∧ w.alloc (.cells #[.int .i64 1, .int .i64 n, .string ⟨#[]⟩] 29) = w' := by
  go_enter Try.func82, Try.ntmps82
  go_wp2
  exact bodyPost_ret (v := .agg #[.int .i64 1, .int .i64 n, .string ⟨#[]⟩]) (by simp [results, Try.results82, go_sem]) rfl ⟨rfl, rfl⟩
theorem value_str (s : ByteArray) (w : World) :
    Calls Try.prog 83 #[.string s] w fun e w' => e = .returned (.agg #[.int .i64 2, .int .i64 0, .string s]) ∧ w.alloc (.cells #[.int .i64 2, .int .i64 0, .string s] 29) = w' := by
  go_enter Try.func83, Try.ntmps83
  go_wp2
  exact bodyPost_ret (v := .agg #[.int .i64 2, .int .i64 0, .string s]) (by simp [results, Try.results83, go_sem]) rfl ⟨rfl, rfl⟩
theorem truth_any (b : Bool) (w : World) :
    Calls Try.prog 124 #[.bool b] w fun e w' => e = .returned (.tuple #[.agg #[.int .i64 1, .int .i64 (boolI b), .string ⟨#[]⟩], .int .i64 0]) ∧ Below w.heap.size w w' := by
  cases b
  · go_enter Try.func124, Try.ntmps124
    go_wp2_with fail
    refine (value_num 0 _).mono ?_
    rintro e w' ⟨rfl, rfl⟩
    go_wp2_with fail
    exact bodyPost_ret (v := .tuple #[.agg #[.int .i64 1, .int .i64 0, .string ⟨#[]⟩], .int .i64 0]) (by simp [results, Try.results124, go_sem]) rfl ⟨rfl, by repeat (first | exact Below.refl _ _ | refine Below.alloc ?_ (by simp <;> omega) _ | refine Below.setCell ?_ (by simp) _)⟩
  · go_enter Try.func124, Try.ntmps124
    go_wp2_with fail
    refine (value_num 1 _).mono ?_
    rintro e w' ⟨rfl, rfl⟩
    go_wp2_with fail
    exact bodyPost_ret (v := .tuple #[.agg #[.int .i64 1, .int .i64 1, .string ⟨#[]⟩], .int .i64 0]) (by simp [results, Try.results124, go_sem]) rfl ⟨rfl, by repeat (first | exact Below.refl _ _ | refine Below.alloc ?_ (by simp <;> omega) _ | refine Below.setCell ?_ (by simp) _)⟩

theorem size_any (n : Int) (h1 : -9223372036854775808 ≤ n) (h2 : n ≤ 9223372036854775807) (w : World) :
    Calls Try.prog 153 #[.int .i64 n] w fun e w' => e = .returned (.int .u64 (n.natAbs : Nat)) ∧ w = w' := by
  by_cases h : n < 0
  · go_enter Try.func153, Try.ntmps153
    go_wp2
    go_ret
    refine ⟨congrArg (fun z => Ending.returned (.int .u64 z)) ?_, rfl⟩
    first | omega | (simp only [IntKind.wrap_u64]; omega)
  · go_enter Try.func153, Try.ntmps153
    go_wp2
    go_ret
    refine ⟨congrArg (fun z => Ending.returned (.int .u64 z)) ?_, rfl⟩
    first | omega | (simp only [IntKind.wrap_u64]; omega)

theorem maskN (a : Nat) (ha : a < 18446744073709551616) : bits .and .u64 (a : Int) 4294967295 = ((a % 4294967296 : Nat) : Int) := by
  have h := bits_and_u64_nat a 4294967295 ha (by omega)
  have e : a &&& 4294967295 = a % 4294967296 := Nat.and_two_pow_sub_one_eq_mod a 32
  rw [e] at h
  exact h
theorem divN (a : Nat) : (a : Int) / 4294967296 = ((a / 4294967296 : Nat) : Int) := by omega
theorem mulN (a b : Nat) : (a : Int) * (b : Int) = ((a * b : Nat) : Int) := (Int.natCast_mul a b).symm
theorem addN (a b : Nat) : (a : Int) + (b : Int) = ((a + b : Nat) : Int) := (Int.natCast_add a b).symm
theorem wrapN (a : Nat) (ha : a < 18446744073709551616) : IntKind.u64.wrap (a : Int) = (a : Int) := by rw [IntKind.wrap_u64]; omega
theorem wrapM (a : Nat) : IntKind.u64.wrap (a : Int) = ((a % 18446744073709551616 : Nat) : Int) := by rw [IntKind.wrap_u64]; omega
set_option maxHeartbeats 1000000 in
theorem mul64_any (x y : Nat) (hx : x < 18446744073709551616) (hy : y < 18446744073709551616) (w : World) :
    Calls Try.prog 152 #[.int .u64 x, .int .u64 y] w fun e w' => e = .returned (.tuple #[.int .u64 ((x * y / 18446744073709551616 : Nat) : Int), .int .u64 ((x * y % 18446744073709551616 : Nat) : Int)]) ∧ w = w' := by
  obtain ⟨bd, bt, bw, hhi⟩ := Lib.mul64_hi x y hx hy
  have ba := Lib.half_mul_le (a := x / 4294967296) (b := y / 4294967296) (by omega) (by omega)
  have bb := Lib.half_mul_le (a := x / 4294967296) (b := y % 4294967296) (by omega) (by omega)
  have bc := Lib.half_mul_le (a := x % 4294967296) (b := y / 4294967296) (by omega) (by omega)
  have ba' : x / 4294967296 * (y / 4294967296) < 18446744073709551616 := by omega
  have bb' : x / 4294967296 * (y % 4294967296) < 18446744073709551616 := by omega
  have bc' : x % 4294967296 * (y / 4294967296) < 18446744073709551616 := by omega
  have bh1 : x / 4294967296 * (y / 4294967296) + (x / 4294967296 * (y % 4294967296) + x % 4294967296 * (y % 4294967296) / 4294967296) / 4294967296 < 18446744073709551616 := by omega
  have bh : x / 4294967296 * (y / 4294967296) + (x / 4294967296 * (y % 4294967296) + x % 4294967296 * (y % 4294967296) / 4294967296) / 4294967296 + ((x / 4294967296 * (y % 4294967296) + x % 4294967296 * (y % 4294967296) / 4294967296) % 4294967296 + x % 4294967296 * (y / 4294967296)) / 4294967296 < 18446744073709551616 := by omega
  go_enter Try.func152, Try.ntmps152
  go_wp2
  simp only [maskN x hx, maskN y hy, divN, mulN, addN, wrapN _ bd, wrapN _ bb', wrapN _ bt, maskN _ bt, wrapN _ bc', wrapN _ bw, wrapN _ ba', wrapN _ bh1, wrapN _ bh, wrapM (x * y)]
  rw [hhi]
  go_ret2
  exact ⟨rfl, rfl⟩

theorem ending_pair {a b c d : Value} (h1 : a = c) (h2 : b = d) : Ending.returned (.tuple #[a, b]) = Ending.returned (.tuple #[c, d]) := by rw [h1, h2]
theorem dec_cases (a : Int) : (a < 0 ∧ decide (a < 0) = true) ∨ (0 ≤ a ∧ decide (a < 0) = false) := by
  by_cases h : a < 0
  · exact .inl ⟨h, decide_eq_true h⟩
  · exact .inr ⟨by omega, decide_eq_false h⟩
theorem dec_le (n : Nat) : decide (n ≤ 9223372036854775808) = decide ((n : Int) ≤ 9223372036854775808) := by rw [decide_eq_decide]; omega
theorem dec_lt (n : Nat) : decide (n < 9223372036854775808) = decide ((n : Int) < 9223372036854775808) := by rw [decide_eq_decide]; omega
set_option maxRecDepth 100000 in
set_option maxHeartbeats 1000000 in
theorem reckon_any (op : ByteArray) (a b : Int) (ha1 : -9223372036854775808 ≤ a) (ha2 : a ≤ 9223372036854775807) (hb1 : -9223372036854775808 ≤ b) (hb2 : b ≤ 9223372036854775807) (w : World) :
    Calls Try.prog 125 #[.string op, .int .i64 a, .int .i64 b] w fun e w' => e = .returned (.tuple #[.int .i64 (reckonL op.toList a b).1, .bool (reckonL op.toList a b).2]) ∧ w = w' := by
  by_cases h1 : op.toList = opAdd
  · have hr : Hid (reckonL op.toList a b = (wrap64 (a + b), decide (a < wrap64 (a + b)) == decide (0 < b))) := Lib.hid (by unfold reckonL; rw [if_pos h1])
    generalize reckonL op.toList a b = r at *
    simp only [opAdd] at h1
    clear ha1 ha2 hb1 hb2
    go_enter Try.func125, Try.ntmps125
    go_wp2
    go_ret2
    exact ⟨by rw [hr.out]; rfl, rfl⟩
  have e1 : (op.toList == [97, 100, 100]) = false := by simpa [opAdd] using h1
  by_cases h2 : op.toList = opSub
  · have hr : Hid (reckonL op.toList a b = (wrap64 (a - b), decide (wrap64 (a - b) < a) == decide (0 < b))) := Lib.hid (by unfold reckonL; rw [if_neg h1, if_pos h2])
    generalize reckonL op.toList a b = r at *
    simp only [opSub] at h2
    clear ha1 ha2 hb1 hb2 h1 e1
    go_enter Try.func125, Try.ntmps125
    go_wp2
    go_ret2
    exact ⟨by rw [hr.out]; rfl, rfl⟩
  have e2 : (op.toList == [115, 117, 98]) = false := by simpa [opSub] using h2
  by_cases h3 : op.toList = opNeg
  · have hr : Hid (reckonL op.toList a b = (wrap64 (-a), a != -9223372036854775808)) := Lib.hid (by unfold reckonL; rw [if_neg h1, if_neg h2, if_pos h3])
    generalize reckonL op.toList a b = r at *
    simp only [opNeg] at h3
    clear ha1 ha2 hb1 hb2 h1 e1 h2 e2
    go_enter Try.func125, Try.ntmps125
    go_wp2
    go_ret2
    exact ⟨by rw [hr.out]; rfl, rfl⟩
  have e3 : (op.toList == [110, 101, 103]) = false := by simpa [opNeg] using h3
  have hs1 := Lib.hid (size_any a ha1 ha2)
  have hs2 := Lib.hid (size_any b hb1 hb2)
  have hm := Lib.hid (mul64_any a.natAbs b.natAbs (by omega) (by omega))
  have hr : Hid (reckonL op.toList a b = if (decide (a < 0) != decide (b < 0)) = true then (wrap64 (-(wrap64 ((a.natAbs * b.natAbs % 18446744073709551616 : Nat) : Int))), (a.natAbs * b.natAbs / 18446744073709551616 == 0) && decide (a.natAbs * b.natAbs % 18446744073709551616 ≤ 9223372036854775808))
    else (wrap64 ((a.natAbs * b.natAbs % 18446744073709551616 : Nat) : Int), (a.natAbs * b.natAbs / 18446744073709551616 == 0) && decide (a.natAbs * b.natAbs % 18446744073709551616 < 9223372036854775808))) := Lib.hid (by unfold reckonL; rw [if_neg h1, if_neg h2, if_neg h3])
  have hlo : a.natAbs * b.natAbs % 18446744073709551616 < 18446744073709551616 := Nat.mod_lt _ (by decide)
  generalize reckonL op.toList a b = r at *
  generalize a.natAbs * b.natAbs / 18446744073709551616 = hi at *
  generalize a.natAbs * b.natAbs % 18446744073709551616 = lo at *
  generalize a.natAbs = x at *
  generalize b.natAbs = y at *
  have Hlo := Lib.hid hlo
  clear ha1 ha2 hb1 hb2 h1 h2 h3 hlo
  by_cases hh : hi = 0
  · subst hh
    rcases dec_cases a with ⟨ha, ha'⟩ | ⟨ha, ha'⟩ <;> rcases dec_cases b with ⟨hb, hb'⟩ | ⟨hb, hb'⟩
    · have hsg : (decide (a < 0) != decide (b < 0)) = false := by rw [ha', hb']; rfl
      have hr2 : Hid (r = (wrap64 (lo : Int), decide ((lo : Int) < 9223372036854775808))) := Lib.hid (by rw [hr.out, hsg, if_neg (by decide), show ((0 : Nat) == 0) = true from rfl, Bool.true_and, dec_lt])
      clear hr hsg
      go_enter Try.func125, Try.ntmps125
      go_wp2_with fail
      refine (hs1.out _).mono ?_
      rintro e w' ⟨rfl, rfl⟩
      go_wp2_with fail
      refine (hs2.out _).mono ?_
      rintro e w' ⟨rfl, rfl⟩
      go_wp2_with fail
      refine (hm.out _).mono ?_
      rintro e w' ⟨rfl, rfl⟩
      go_wp2_with fail
      go_ret2
      exact ⟨by rw [hr2.out]; exact ending_pair (by rfl) (by show Value.bool _ = Value.bool _; refine congrArg Value.bool ?_; dsimp only), rfl⟩
    · have hsg : (decide (a < 0) != decide (b < 0)) = true := by rw [ha', hb']; rfl
      have hr2 : Hid (r = (wrap64 (-(wrap64 (lo : Int))), decide ((lo : Int) ≤ 9223372036854775808))) := Lib.hid (by rw [hr.out, hsg, if_pos rfl, show ((0 : Nat) == 0) = true from rfl, Bool.true_and, dec_le])
      clear hr hsg
      go_enter Try.func125, Try.ntmps125
      go_wp2_with fail
      refine (hs1.out _).mono ?_
      rintro e w' ⟨rfl, rfl⟩
      go_wp2_with fail
      refine (hs2.out _).mono ?_
      rintro e w' ⟨rfl, rfl⟩
      go_wp2_with fail
      refine (hm.out _).mono ?_
      rintro e w' ⟨rfl, rfl⟩
      go_wp2_with fail
      go_ret2
      exact ⟨by rw [hr2.out]; exact ending_pair (by rfl) (by show Value.bool _ = Value.bool _; refine congrArg Value.bool ?_; dsimp only), rfl⟩
    · have hsg : (decide (a < 0) != decide (b < 0)) = true := by rw [ha', hb']; rfl
      have hr2 : Hid (r = (wrap64 (-(wrap64 (lo : Int))), decide ((lo : Int) ≤ 9223372036854775808))) := Lib.hid (by rw [hr.out, hsg, if_pos rfl, show ((0 : Nat) == 0) = true from rfl, Bool.true_and, dec_le])
      clear hr hsg
      go_enter Try.func125, Try.ntmps125
      go_wp2_with fail
      refine (hs1.out _).mono ?_
      rintro e w' ⟨rfl, rfl⟩
      go_wp2_with fail
      refine (hs2.out _).mono ?_
      rintro e w' ⟨rfl, rfl⟩
      go_wp2_with fail
      refine (hm.out _).mono ?_
      rintro e w' ⟨rfl, rfl⟩
      go_wp2_with fail
      go_ret2
      exact ⟨by rw [hr2.out]; exact ending_pair (by rfl) (by show Value.bool _ = Value.bool _; refine congrArg Value.bool ?_; dsimp only), rfl⟩
    · have hsg : (decide (a < 0) != decide (b < 0)) = false := by rw [ha', hb']; rfl
      have hr2 : Hid (r = (wrap64 (lo : Int), decide ((lo : Int) < 9223372036854775808))) := Lib.hid (by rw [hr.out, hsg, if_neg (by decide), show ((0 : Nat) == 0) = true from rfl, Bool.true_and, dec_lt])
      clear hr hsg
      go_enter Try.func125, Try.ntmps125
      go_wp2_with fail
      refine (hs1.out _).mono ?_
      rintro e w' ⟨rfl, rfl⟩
      go_wp2_with fail
      refine (hs2.out _).mono ?_
      rintro e w' ⟨rfl, rfl⟩
      go_wp2_with fail
      refine (hm.out _).mono ?_
      rintro e w' ⟨rfl, rfl⟩
      go_wp2_with fail
      go_ret2
      exact ⟨by rw [hr2.out]; exact ending_pair (by rfl) (by show Value.bool _ = Value.bool _; refine congrArg Value.bool ?_; dsimp only), rfl⟩
  · have hh' : ((hi : Int) == 0) = false := by simp; omega
    have hh2 : (hi == 0) = false := by simpa using hh
    rcases dec_cases a with ⟨ha, ha'⟩ | ⟨ha, ha'⟩ <;> rcases dec_cases b with ⟨hb, hb'⟩ | ⟨hb, hb'⟩
    · have hsg : (decide (a < 0) != decide (b < 0)) = false := by rw [ha', hb']; rfl
      have hr2 : Hid (r = (wrap64 (lo : Int), false)) := Lib.hid (by rw [hr.out, hsg, if_neg (by decide), hh2, Bool.false_and])
      clear hr hsg
      go_enter Try.func125, Try.ntmps125
      go_wp2_with fail
      refine (hs1.out _).mono ?_
      rintro e w' ⟨rfl, rfl⟩
      go_wp2_with fail
      refine (hs2.out _).mono ?_
      rintro e w' ⟨rfl, rfl⟩
      go_wp2_with fail
      refine (hm.out _).mono ?_
      rintro e w' ⟨rfl, rfl⟩
      go_wp2_with fail
      go_ret2
      exact ⟨by rw [hr2.out]; exact ending_pair (by rfl) (by show Value.bool _ = Value.bool _; refine congrArg Value.bool ?_; dsimp only), rfl⟩
    · have hsg : (decide (a < 0) != decide (b < 0)) = true := by rw [ha', hb']; rfl
      have hr2 : Hid (r = (wrap64 (-(wrap64 (lo : Int))), false)) := Lib.hid (by rw [hr.out, hsg, if_pos rfl, hh2, Bool.false_and])
      clear hr hsg
      go_enter Try.func125, Try.ntmps125
      go_wp2_with fail
      refine (hs1.out _).mono ?_
      rintro e w' ⟨rfl, rfl⟩
      go_wp2_with fail
      refine (hs2.out _).mono ?_
      rintro e w' ⟨rfl, rfl⟩
      go_wp2_with fail
      refine (hm.out _).mono ?_
      rintro e w' ⟨rfl, rfl⟩
      go_wp2_with fail
      go_ret2
      exact ⟨by rw [hr2.out]; exact ending_pair (by rfl) (by show Value.bool _ = Value.bool _; refine congrArg Value.bool ?_; dsimp only), rfl⟩
    · have hsg : (decide (a < 0) != decide (b < 0)) = true := by rw [ha', hb']; rfl
      have hr2 : Hid (r = (wrap64 (-(wrap64 (lo : Int))), false)) := Lib.hid (by rw [hr.out, hsg, if_pos rfl, hh2, Bool.false_and])
      clear hr hsg
      go_enter Try.func125, Try.ntmps125
      go_wp2_with fail
      refine (hs1.out _).mono ?_
      rintro e w' ⟨rfl, rfl⟩
      go_wp2_with fail
      refine (hs2.out _).mono ?_
      rintro e w' ⟨rfl, rfl⟩
      go_wp2_with fail
      refine (hm.out _).mono ?_
      rintro e w' ⟨rfl, rfl⟩
      go_wp2_with fail
      go_ret2
      exact ⟨by rw [hr2.out]; exact ending_pair (by rfl) (by show Value.bool _ = Value.bool _; refine congrArg Value.bool ?_; dsimp only), rfl⟩
    · have hsg : (decide (a < 0) != decide (b < 0)) = false := by rw [ha', hb']; rfl
      have hr2 : Hid (r = (wrap64 (lo : Int), false)) := Lib.hid (by rw [hr.out, hsg, if_neg (by decide), hh2, Bool.false_and])
      clear hr hsg
      go_enter Try.func125, Try.ntmps125
      go_wp2_with fail
      refine (hs1.out _).mono ?_
      rintro e w' ⟨rfl, rfl⟩
      go_wp2_with fail
      refine (hs2.out _).mono ?_
      rintro e w' ⟨rfl, rfl⟩
      go_wp2_with fail
      refine (hm.out _).mono ?_
      rintro e w' ⟨rfl, rfl⟩
      go_wp2_with fail
      go_ret2
      exact ⟨by rw [hr2.out]; exact ending_pair (by rfl) (by show Value.bool _ = Value.bool _; refine congrArg Value.bool ?_; dsimp only), rfl⟩
end Go.Proofs.Ytldleckgkgeclaa
