/-
  The walk of TallyParts.
-/
import Derived.Test.YtabhkfpglhfiiaaTallyLaws
namespace Go.Proofs.Ytabhkfpglhfiiaa
open Go.RowKit

theorem okT_of {a b : Int} (h1 : 0 ≤ a) (h2 : a ≤ 1125899906842624) (h3 : 0 ≤ b) (h4 : b ≤ 1125899906842624) : okT a b = true := by
  unfold okT okPart
  simp [h1, h2, h3, h4]
theorem netT_of {a b : Int} (h1 : 0 ≤ a) (h2 : a ≤ 1125899906842624) (h3 : 0 ≤ b) (h4 : b ≤ 1125899906842624) : netT a b = a - b := by
  unfold netT
  rw [okT_of h1 h2 h3 h4, sel_true]

theorem parts_of {a b : Int} (h1 : 0 ≤ a) (h2 : a ≤ 1125899906842624) (h3 : 0 ≤ b) (h4 : b ≤ 1125899906842624) (w : World) :
    Calls Try.prog 13 #[.complex .f64 (Fl.F a) (Fl.F b)] w fun e w' => e = .returned (.tuple #[.int .i64 a, .int .i64 b, .bool true]) ∧ w = w' := by
  have := parts_any (rd a) (rd b) w
  rwa [okT_of h1 h2 h3 h4, sel_true, sel_true] at this
theorem right_of {a b : Int} (h1 : 0 ≤ a) (h2 : a ≤ 1125899906842624) (h3 : 0 ≤ b) (h4 : b ≤ 1125899906842624) (w : World) :
    Calls Try.prog 14 #[.complex .f64 (Fl.F a) (Fl.F b)] w fun e w' => e = .returned (.bool true) ∧ w = w' := by
  have := right_any (rd a) (rd b) w
  rwa [show (okPart a && okPart b) = true from okT_of h1 h2 h3 h4] at this
theorem net_of {a b : Int} (h1 : 0 ≤ a) (h2 : a ≤ 1125899906842624) (h3 : 0 ≤ b) (h4 : b ≤ 1125899906842624) (w : World) :
    Calls Try.prog 19 #[.complex .f64 (Fl.F a) (Fl.F b)] w fun e w' => e = .returned (.int .i64 (a - b)) ∧ w = w' := by
  have := net_any (rd a) (rd b) w
  rwa [netT_of h1 h2 h3 h4] at this
theorem flip_of {a b : Int} (h1 : 0 ≤ a) (h2 : a ≤ 1125899906842624) (h3 : 0 ≤ b) (h4 : b ≤ 1125899906842624) (w : World) :
    Calls Try.prog 16 #[.complex .f64 (Fl.F a) (Fl.F b)] w fun e w' => e = .returned (.complex .f64 (Fl.F b) (Fl.F a)) ∧ w = w' :=
  flip_yes (rd a) (rd b) (okT_of h1 h2 h3 h4) w
theorem reduce_of {a b u v : Int} (h1 : 0 ≤ a) (h2 : a ≤ 1125899906842624) (h3 : 0 ≤ b) (h4 : b ≤ 1125899906842624) (hu : pos (a - b) = u) (hv : pos (-(a - b)) = v) (w : World) :
    Calls Try.prog 15 #[.complex .f64 (Fl.F a) (Fl.F b)] w fun e w' => e = .returned (.complex .f64 (Fl.F u) (Fl.F v)) ∧ w = w' := by
  have := reduce_any (rd a) (rd b) w
  rwa [netT_of h1 h2 h3 h4, hu, hv] at this

theorem bd64 {n : Int} (h : (Lit.int .i64 n).wf = true) : -9223372036854775808 ≤ n ∧ n ≤ 9223372036854775807 := by
  simpa [Lit.wf, IntKind.min, IntKind.max, IntKind.bits, IntKind.signed] using h

set_option maxHeartbeats 1000000 in
theorem tallyParts_walk (a0 : Int) (a1 : Int) (w0 : (Lit.int .i64 a0).wf = true) (w1 : (Lit.int .i64 a1).wf = true) (w : World) :
    Calls Try.prog 5 #[.int .i64 a0, .int .i64 a1] w fun e w' => e = .returned (.bool true) ∧ w = w' := by
  have hx : Hid (∀ w, Calls Try.prog 20 #[.int .i64 a0, .int .i64 0, .int .i64 1099511627776] w (Within 0 1099511627776 w)) :=
    Lib.hid fun w => within_any a0 _ w (bd64 w0).1 (bd64 w0).2 (by omega) (by omega)
  have hy : Hid (∀ w, Calls Try.prog 20 #[.int .i64 a1, .int .i64 0, .int .i64 1099511627776] w (Within 0 1099511627776 w)) :=
    Lib.hid fun w => within_any a1 _ w (bd64 w1).1 (bd64 w1).2 (by omega) (by omega)
  clear w0 w1
  go_enter Try.func5, Try.ntmps5
  go_wp2_with fail
  refine (hx.out _).mono ?_
  rintro e w' ⟨a, ha1, ha2, rfl, rfl⟩
  go_wp2_with fail
  refine (hy.out _).mono ?_
  rintro e w' ⟨b, hb1, hb2, rfl, rfl⟩
  have o1 := order_self (rd a)
  have o2 := order_self (rd b)
  go_wp2_with fail
  refine (Of_any _ _ _).mono ?_
  rintro e w' ⟨rfl, rfl⟩
  go_wp2_with fail
  refine (parts_of ha1 (by omega) hb1 (by omega) _).mono ?_
  rintro e w' ⟨rfl, rfl⟩
  go_wp2_with fail
  obtain ⟨u, v, hu0, hv0, hu1, hv1, hu, hv, huv⟩ : ∃ u v : Int, 0 ≤ u ∧ 0 ≤ v ∧ u ≤ 1099511627776 ∧ v ≤ 1099511627776 ∧ pos (a - b) = u ∧ pos (-(a - b)) = v ∧
      ((u = 0 ∧ v = b - a ∧ 0 < v) ∨ (u = a - b ∧ v = 0 ∧ 0 < u) ∨ (u = 0 ∧ v = 0 ∧ a = b)) := by
    rcases Int.lt_trichotomy a b with h | h | h
    · exact ⟨0, b - a, by omega, by omega, by omega, by omega, pos_no (by omega), by rw [pos_of (by omega)]; omega, by omega⟩
    · exact ⟨0, 0, by omega, by omega, by omega, by omega, pos_no (by omega), pos_no (by omega), by omega⟩
    · exact ⟨a - b, 0, by omega, by omega, by omega, by omega, pos_of (by omega), pos_no (by omega), by omega⟩
  refine (reduce_of ha1 (by omega) hb1 (by omega) hu hv _).mono ?_
  rintro e w' ⟨rfl, rfl⟩
  clear hu hv
  have e3 : a - b = u - v := by omega
  have HE := Lib.hid e3
  clear e3
  go_wp2_with fail
  refine (parts_of hu0 (by omega) hv0 (by omega) _).mono ?_
  rintro e w' ⟨rfl, rfl⟩
  rcases huv with ⟨rfl, rfl, h⟩ | ⟨rfl, rfl, h⟩ | ⟨rfl, rfl, rfl⟩
  all_goals
    go_wp2_with fail
    refine (right_of ha1 (by omega) hb1 (by omega) _).mono ?_
    rintro e w' ⟨rfl, rfl⟩
    go_wp2_with fail
    refine (flip_of ha1 (by omega) hb1 (by omega) _).mono ?_
    rintro e w' ⟨rfl, rfl⟩
    go_wp2_with fail
    refine (flip_of hb1 (by omega) ha1 (by omega) _).mono ?_
    rintro e w' ⟨rfl, rfl⟩
    go_wp2_with fail
    refine (net_of ha1 (by omega) hb1 (by omega) _).mono ?_
    rintro e w' ⟨rfl, rfl⟩
    go_wp2_with fail
    refine (known3 _).mono ?_
    rintro e w' ⟨rfl, rfl⟩
    go_wp2_with fail
    go_ret
    exact ⟨rfl, rfl⟩

end Go.Proofs.Ytabhkfpglhfiiaa
