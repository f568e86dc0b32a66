/-
  The walk of TallyNumbers: chapter 3's runs, and where tallies end.
-/
import Derived.Test.YtabhkfpglhfiiaaTallyRules
import Derived.Handy
namespace Go.Proofs.Ytabhkfpglhfiiaa
open Go.RowKit

theorem F_m1 : Fl.F (-1) = 13830554455654793216 := by decide +kernel
theorem F_m2 : Fl.F (-2) = 13835058055282163712 := by decide +kernel
theorem F_5 : Fl.F 5 = 4617315517961601024 := by decide +kernel
theorem F_more : Fl.F 1125899906842625 = 4832362400168542212 := by decide +kernel
theorem reads_w {n : Int} {x : Nat} (h : Fl.F n = x) (h1 : -9007199254740991 ≤ n := by omega) (h2 : n ≤ 9007199254740991 := by omega) : Fl.Reads x n := by
  rw [← h]; exact rd n h1 h2

/-- one half is no whole part -/
theorem half_arch (w : World) : (callFunc 94 #[.float .f64 4602678819172646912]).run Try.prog w = .ok (.value (.float .f64 0)) w := by
  rw [run_callFunc_extern (e := Extern.MathFloor.toIntegral "math.archTrunc" .zero) Try.func94 (by kernel_rfl) (by kernel_rfl) (by kernel_rfl) (by kernel_rfl) _ w]
  have e : (Extern.MathFloor.toIntegral "math.archTrunc" .zero #[.float .f64 4602678819172646912]).run Try.prog w = .ok (.float .f64 0) w := by kernel_rfl
  rw [e]
  rfl
theorem half_whole (w : World) :
    Calls Try.prog 50 #[.float .f64 4602678819172646912] w fun e w' => e = .returned (.bool false) ∧ w = w' := by
  have h := half_arch
  have f1 : FloatKind.f64.format.order 4602678819172646912 0 = some .gt := by decide +kernel
  have f2 : FloatKind.f64.format.order 4602678819172646912 4832362400168542208 = some .lt := by decide +kernel
  go_enter Try.func50, Try.ntmps50
  go_wp2
  go_ret
  exact ⟨rfl, rfl⟩
theorem half_right (y : Nat) (w : World) :
    Calls Try.prog 14 #[.complex .f64 4602678819172646912 y] w fun e w' => e = .returned (.bool false) ∧ w = w' := by
  go_enter Try.func14, Try.ntmps14
  go_wp2_with fail
  refine (half_whole _).mono ?_
  rintro e w' ⟨rfl, rfl⟩
  go_wp2_with fail
  go_ret
  exact ⟨rfl, rfl⟩
theorem half_parts (y : Nat) (w : World) :
    Calls Try.prog 13 #[.complex .f64 4602678819172646912 y] w fun e w' => e = .returned (.tuple #[.int .i64 0, .int .i64 0, .bool false]) ∧ w = w' := by
  go_enter Try.func13, Try.ntmps13
  go_wp2_with fail
  refine (half_right _ _).mono ?_
  rintro e w' ⟨rfl, rfl⟩
  go_wp2_with fail
  go_ret3
  exact ⟨rfl, rfl⟩

theorem parts_no {x y : Nat} {a b : Int} (hx : Fl.Reads x a) (hy : Fl.Reads y b) (h : okT a b = false) (w : World) :
    Calls Try.prog 13 #[.complex .f64 x y] w fun e w' => e = .returned (.tuple #[.int .i64 0, .int .i64 0, .bool false]) ∧ w = w' := by
  have := parts_any hx hy w
  rwa [h, sel_false, sel_false] at this
theorem right_no {x y : Nat} {a b : Int} (hx : Fl.Reads x a) (hy : Fl.Reads y b) (h : okT a b = false) (w : World) :
    Calls Try.prog 14 #[.complex .f64 x y] w fun e w' => e = .returned (.bool false) ∧ w = w' := by
  have := right_any hx hy w
  rwa [show (okPart a && okPart b) = false from h] at this

/-- where tallies end -/
theorem over_add {a b : Int} (ha : 0 ≤ a) (ha' : a ≤ 1125899906842624) (hb : 0 ≤ b) (hb' : b ≤ 1125899906842624) (hab : 1125899906842624 < a + b) (w : World) :
    Calls Try.prog 11 #[.complex .f64 (Fl.F a) (Fl.F 0), .complex .f64 (Fl.F b) (Fl.F 0)] w fun e w' => e = .returned (.tuple #[.complex .f64 0 0, .bool false]) ∧ w = w' := by
  have := add_any (rd a) (rd 0) (rd b) (rd 0) w
  have e1 : addOk a 0 b 0 = false := by
    unfold addOk fitN
    rw [netT_of ha ha' (by omega) (by omega), netT_of hb hb' (by omega) (by omega), okT_of ha ha' (by omega) (by omega), okT_of hb hb' (by omega) (by omega)]
    simp
    omega
  rwa [e1, show addN a 0 b 0 = 0 from by unfold addN; rw [e1, sel_false], show pos 0 = 0 from rfl, show pos (-0) = 0 from rfl, F_zero] at this
theorem over_times {x y u v : Nat} {n m r : Int} (h1 : Tal x y n) (h2 : Tal u v m) (hr : n * m = r) (b : r < -1125899906842624 ∨ 1125899906842624 < r) (w : World) :
    Calls Try.prog 12 #[.complex .f64 x y, .complex .f64 u v] w fun e w' => e = .returned (.tuple #[.complex .f64 0 0, .bool false]) ∧ w = w' := by
  obtain ⟨a, b, ha, hb, hab, rfl⟩ := h1
  obtain ⟨c, d, hc, hd, hcd, rfl⟩ := h2
  have := times_yes ha hb hc hd w hab hcd
  unfold Timed at this
  have e1 : fitN r = false := by
    unfold fitN
    simp
    omega
  rwa [netT_tal hab, netT_tal hcd, hr, e1, sel_false, show pos 0 = 0 from rfl, show pos (-0) = 0 from rfl, F_zero] at this

set_option maxHeartbeats 2000000 in
set_option maxRecDepth 100000 in
theorem tallyNumbers_walk (w : World) :
    Calls Try.prog 3 #[] w fun e w' => e = .returned (.bool true) ∧ Grown w w' := by
  go_enter Try.func3, Try.ntmps3
  go_wp2_with (go_at_call 10; refine (Of_any _ _ _).mono ?_; rintro e w' ⟨rfl, rfl⟩)
  refine (over_add (a := 1125899906842624) (b := 1) (by omega) (by omega) (by omega) (by omega) (by omega) _).mono ?_
  rintro e w' ⟨rfl, rfl⟩
  go_wp2_with (go_at_call 10; refine (Of_any _ _ _).mono ?_; rintro e w' ⟨rfl, rfl⟩)
  have tm : Tal (Fl.F 1125899906842624) (Fl.F 0) 1125899906842624 := tal_of (a := 1125899906842624) (b := 0) (by omega) (by omega) (by omega) (by omega)
  have TM := Lib.hid tm
  clear tm
  refine (add_tal TM.out (tal_of (a := 1) (b := 1) (by omega) (by omega) (by omega) (by omega)) (r := 1125899906842624) (by omega) (by omega) (by omega) _).mono ?_
  rintro e w' ⟨rfl, rfl⟩
  rw [pos_of (by omega), pos_no (by omega)]
  go_wp2_with (go_at_call 10; refine (Of_any _ _ _).mono ?_; rintro e w' ⟨rfl, rfl⟩)
  refine (over_times TM.out (tal_of (a := 2) (b := 0) (by omega) (by omega) (by omega) (by omega)) (r := 2251799813685248) (by omega) (by omega) _).mono ?_
  rintro e w' ⟨rfl, rfl⟩
  go_wp2_with (go_at_call 10; refine (Of_any _ _ _).mono ?_; rintro e w' ⟨rfl, rfl⟩)
  refine (times_tal TM.out (tal_of (a := 0) (b := 1) (by omega) (by omega) (by omega) (by omega)) (r := -1125899906842624) (by omega) (by omega) (by omega) _).mono ?_
  rintro e w' ⟨rfl, rfl⟩
  rw [pos_no (by omega), pos_of (n := - -1125899906842624) (by omega)]
  go_wp2_with fail
  refine (half_parts _ _).mono ?_
  rintro e w' ⟨rfl, rfl⟩
  go_wp2_with fail
  refine (parts_no (reads_w F_m1) reads_zero (by decide) _).mono ?_
  rintro e w' ⟨rfl, rfl⟩
  go_wp2_with (go_at_call 10; refine (Of_any _ _ _).mono ?_; rintro e w' ⟨rfl, rfl⟩)
  refine (times_tal (tal_of (a := 5) (b := 5) (by omega) (by omega) (by omega) (by omega)) TM.out (r := 0) (by omega) (by omega) (by omega) _).mono ?_
  rintro e w' ⟨rfl, rfl⟩
  rw [show pos 0 = 0 from rfl, show pos (-0) = 0 from rfl]
  have o0 := order_self reads_zero
  go_wp2_with fail
  refine wp_loop_rounds 5 ?_
  rw [rounds_succ]
  go_wp2_with (go_at_call 10; refine (Of_any _ _ _).mono ?_; rintro e w' ⟨rfl, rfl⟩)
  refine (over_times (tal_of (a := 67108864) (b := 0) (by omega) (by omega) (by omega) (by omega)) (tal_of (a := 0) (b := 67108864) (by omega) (by omega) (by omega) (by omega)) (r := -4503599627370496) (by omega) (by omega) _).mono ?_
  rintro e w' ⟨rfl, rfl⟩
  go_wp2_with fail
  rw [rounds_succ]
  go_wp2_with (go_at_call 10; refine (Of_any _ _ _).mono ?_; rintro e w' ⟨rfl, rfl⟩)
  refine (over_times (tal_of (a := 4294967296) (b := 0) (by omega) (by omega) (by omega) (by omega)) (tal_of (a := 0) (b := 4294967296) (by omega) (by omega) (by omega) (by omega)) (r := -18446744073709551616) (by omega) (by omega) _).mono ?_
  rintro e w' ⟨rfl, rfl⟩
  go_wp2_with fail
  rw [rounds_succ]
  go_wp2_with (go_at_call 10; refine (Of_any _ _ _).mono ?_; rintro e w' ⟨rfl, rfl⟩)
  refine (over_times (tal_of (a := 1099511627776) (b := 0) (by omega) (by omega) (by omega) (by omega)) (tal_of (a := 0) (b := 1099511627776) (by omega) (by omega) (by omega) (by omega)) (r := -1208925819614629174706176) (by omega) (by omega) _).mono ?_
  rintro e w' ⟨rfl, rfl⟩
  go_wp2_with fail
  rw [rounds_succ]
  go_wp2_with (go_at_call 10; refine (Of_any _ _ _).mono ?_; rintro e w' ⟨rfl, rfl⟩)
  refine (over_times (tal_of (a := 1125899906842624) (b := 0) (by omega) (by omega) (by omega) (by omega)) (tal_of (a := 0) (b := 1125899906842624) (by omega) (by omega) (by omega) (by omega)) (r := -1267650600228229401496703205376) (by omega) (by omega) _).mono ?_
  rintro e w' ⟨rfl, rfl⟩
  go_wp2_with fail
  rw [rounds_succ]
  go_wp2_with (go_at_call 10; refine (Of_any _ _ _).mono ?_; rintro e w' ⟨rfl, rfl⟩)
  refine (times_tal (tal_of (a := 33554432) (b := 0) (by omega) (by omega) (by omega) (by omega)) (tal_of (a := 0) (b := 33554432) (by omega) (by omega) (by omega) (by omega)) (r := -1125899906842624) (by omega) (by omega) (by omega) _).mono ?_
  rintro e w' ⟨rfl, rfl⟩
  rw [pos_no (by omega), pos_of (n := - -1125899906842624) (by omega)]
  have o1 := order_self (rd 1125899906842624)
  have o2 := order_self (rd 0)
  have o3 : FloatKind.f64.format.order (Fl.F 1125899906842624) 4832362400168542208 = some .eq := order_of (rd _) reads_most (Int.compare_eq_eq.2 rfl)
  have o4 : FloatKind.f64.format.order (Fl.F 0) 0 = some .eq := order_of (rd _) reads_zero (Int.compare_eq_eq.2 rfl)
  have o5 : FloatKind.f64.format.order 4611686018427387904 4611686018427387904 = some .eq := by have := order_self (rd 2); rwa [F_2] at this
  rw [show - -(1125899906842624 : Int) = 1125899906842624 from rfl]
  go_wp2_with (go_at_call 10; refine (Of_any _ _ _).mono ?_; rintro e w' ⟨rfl, rfl⟩)
  refine (right_no (rd (-1)) (rd 0) (by decide) _).mono ?_
  rintro e w' ⟨rfl, rfl⟩
  go_wp2_with fail
  refine (right_no (reads_w F_more) reads_zero (by decide) _).mono ?_
  rintro e w' ⟨rfl, rfl⟩
  go_wp2_with fail
  refine (right_tal ⟨0, 0, reads_zero, reads_zero, by decide, rfl⟩ _).mono ?_
  rintro e w' ⟨rfl, rfl⟩
  go_wp2_with fail
  refine (reduce_tal ⟨5, 5, reads_w F_5, reads_w F_5, by decide, rfl⟩ _).mono ?_
  rintro e w' ⟨rfl, rfl⟩
  rw [show pos (5 - 5) = 0 from rfl, show pos (-(5 - 5)) = 0 from rfl]
  go_wp2_with fail
  refine (flip_tal ⟨2, 0, reads_w F_2, reads_zero, by decide, rfl⟩ _).mono ?_
  rintro e w' ⟨rfl, rfl⟩
  go_wp2_with fail
  refine (flip_no (reads_w F_m2) reads_zero (by decide) _).mono ?_
  rintro e w' ⟨rfl, rfl⟩
  go_wp2_with fail
  refine (known3 _).mono ?_
  rintro e w' ⟨rfl, rfl⟩
  go_wp2_with fail
  go_ret
  exact ⟨rfl, by repeat (first | exact Grown.refl _ | apply Grown.drew | apply Grown.alloc)⟩

end Go.Proofs.Ytabhkfpglhfiiaa
