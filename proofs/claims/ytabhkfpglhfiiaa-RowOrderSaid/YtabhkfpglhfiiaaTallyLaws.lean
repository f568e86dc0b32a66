/-
  Some of chapter 3's runs ('known'), and 'Within': their contracts.
-/
import Derived.Test.YtabhkfpglhfiiaaTallyTimes
namespace Go.Proofs.Ytabhkfpglhfiiaa
open Go.RowKit

def Within (lo hi : Int) (w : World) (e : Ending) (w' : World) : Prop := ∃ m : Int, lo ≤ m ∧ m ≤ hi ∧ e = .returned (.int .i64 m) ∧ w = w'

set_option maxHeartbeats 400000 in
theorem within_any (n hi : Int) (w : World) (h1 : -9223372036854775808 ≤ n) (h2 : n ≤ 9223372036854775807) (h3 : 0 ≤ hi) (h4 : hi ≤ 1125899906842624) :
    Calls Try.prog 20 #[.int .i64 n, .int .i64 0, .int .i64 hi] w (Within 0 hi w) := by
  by_cases hp : 0 ≤ n
  · have b1 : 0 ≤ n % (hi + 1) := Int.emod_nonneg n (by omega)
    have b2 : n % (hi + 1) < hi + 1 := Int.emod_lt_of_pos n (by omega)
    go_enter Try.func20, Try.ntmps20
    go_wp2
    go_ret
    exact ⟨n % (hi + 1), b1, by omega, rfl, rfl⟩
  · have b1 : -(hi + 1) < n.tmod (hi + 1) := by
      have := Int.lt_tmod_of_pos n (show 0 < hi + 1 by omega); omega
    have b2 : n.tmod (hi + 1) < hi + 1 := Int.tmod_lt_of_pos n (by omega)
    by_cases hn : n.tmod (hi + 1) < 0
    · go_enter Try.func20, Try.ntmps20
      go_wp2
      go_ret
      exact ⟨n.tmod (hi + 1) + hi + 1, by omega, by omega, rfl, rfl⟩
    · go_enter Try.func20, Try.ntmps20
      go_wp2
      go_ret
      exact ⟨n.tmod (hi + 1), by omega, by omega, rfl, rfl⟩

theorem F_2 : Fl.F 2 = 4611686018427387904 := by decide +kernel
theorem F_6 : Fl.F 6 = 4618441417868443648 := by decide +kernel
theorem rd (n : Int) (h1 : -9007199254740991 ≤ n := by omega) (h2 : n ≤ 9007199254740991 := by omega) : Fl.Reads (Fl.F n) n := Fl.reads_F n (by omega)
theorem order_self {x : Nat} {a : Int} (h : Fl.Reads x a) : FloatKind.f64.format.order x x = some .eq := order_of h h (Int.compare_eq_eq.2 rfl)
theorem pos_of {n : Int} (h : 0 ≤ n) : pos n = n := (pos_bd n).2.1 h
theorem pos_no {n : Int} (h : n ≤ 0) : pos n = 0 := (pos_bd n).2.2 h

set_option maxHeartbeats 400000 in
theorem known3 (w : World) : Calls Try.prog 17 #[] w fun e w' => e = .returned (.bool true) ∧ w = w' := by
  have k1 : Hid (∀ w, Calls Try.prog 11 #[.complex .f64 (Fl.F 3) (Fl.F 1), .complex .f64 (Fl.F 1) (Fl.F 5)] w fun e w' => e = .returned (.tuple #[.complex .f64 0 4611686018427387904, .bool true]) ∧ w = w') :=
    Lib.hid fun w => by
      have := add_any (rd 3) (rd 1) (rd 1) (rd 5) w
      rwa [show pos (addN 3 1 1 5) = 0 from by decide, show pos (-(addN 3 1 1 5)) = 2 from by decide, show addOk 3 1 1 5 = true from by decide, F_zero, F_2] at this
  have k2 : Hid (∀ w, Calls Try.prog 12 #[.complex .f64 (Fl.F 0) (Fl.F 2), .complex .f64 (Fl.F 0) (Fl.F 3)] w fun e w' => e = .returned (.tuple #[.complex .f64 4618441417868443648 0, .bool true]) ∧ w = w') :=
    Lib.hid fun w => by
      have := times_yes (rd 0) (rd 2) (rd 0) (rd 3) w (by decide) (by decide)
      unfold Timed at this
      rwa [show fitN (netT 0 2 * netT 0 3) = true from by decide, sel_true, show netT 0 2 * netT 0 3 = 6 from by decide, show pos 6 = 6 from by decide, show pos (-6) = 0 from by decide, F_zero, F_6] at this
  have k3 : Hid (∀ w, Calls Try.prog 19 #[.complex .f64 (Fl.F 2) (Fl.F 5)] w fun e w' => e = .returned (.int .i64 (-3)) ∧ w = w') :=
    Lib.hid fun w => by
      have := net_any (rd 2) (rd 5) w
      rwa [show netT 2 5 = -3 from by decide] at this
  have o1 := order_self reads_zero
  have o2 : FloatKind.f64.format.order 4611686018427387904 4611686018427387904 = some .eq := by have := order_self (rd 2); rwa [F_2] at this
  have o3 : FloatKind.f64.format.order 4618441417868443648 4618441417868443648 = some .eq := by have := order_self (rd 6); rwa [F_6] at this
  go_enter Try.func17, Try.ntmps17
  go_wp2_with (first | (go_at_call 10; refine (Of_any _ _ _).mono ?_; rintro e w' ⟨rfl, rfl⟩) | (go_at_call 11; refine (k1.out _).mono ?_; rintro e w' ⟨rfl, rfl⟩) | (go_at_call 12; refine (k2.out _).mono ?_; rintro e w' ⟨rfl, rfl⟩) | (go_at_call 19; refine (k3.out _).mono ?_; rintro e w' ⟨rfl, rfl⟩))
  go_ret
  exact ⟨rfl, rfl⟩

end Go.Proofs.Ytabhkfpglhfiiaa
