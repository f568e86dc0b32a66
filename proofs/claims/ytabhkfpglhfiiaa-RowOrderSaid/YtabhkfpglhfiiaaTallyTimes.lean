/-
  The contract of tally.Times over whole tallies.
-/
import Derived.Test.YtabhkfpglhfiiaaTally
namespace Go.Proofs.Ytabhkfpglhfiiaa
open Go.RowKit

/-- what Times gives of two right tallies of the nets n and m -/
def Timed (n m : Int) (w : World) (e : Ending) (w' : World) : Prop :=
  e = .returned (.tuple #[.complex .f64 (Fl.F (pos (sel (fitN (n * m)) (n * m)))) (Fl.F (pos (-(sel (fitN (n * m)) (n * m))))), .bool (fitN (n * m))]) ∧ w = w'
theorem timed_no {n m : Int} {w : World} (h : fitN (n * m) = false) : Timed n m w (.returned (.tuple #[.complex .f64 0 0, .bool false])) w := by
  unfold Timed
  rw [h, sel_false, show pos 0 = 0 from rfl, show pos (-0) = 0 from rfl, F_zero]
  exact ⟨rfl, rfl⟩

set_option maxHeartbeats 1000000 in
theorem times_gg {x y u v : Nat} {n m : Int} (n1 : Hid (∀ w, Calls Try.prog 19 #[.complex .f64 x y] w fun e w' => e = .returned (.int .i64 n) ∧ w = w')) (n2 : Hid (∀ w, Calls Try.prog 19 #[.complex .f64 u v] w fun e w' => e = .returned (.int .i64 m) ∧ w = w'))
    (r1 : Hid (∀ w, Calls Try.prog 14 #[.complex .f64 x y] w fun e w' => e = .returned (.bool true) ∧ w = w')) (r2 : Hid (∀ w, Calls Try.prog 14 #[.complex .f64 u v] w fun e w' => e = .returned (.bool true) ∧ w = w'))
    (b1 : -1125899906842624 ≤ n) (b2 : n ≤ 1125899906842624) (b3 : -1125899906842624 ≤ m) (b4 : m ≤ 1125899906842624) (hn : 0 < n) (hm : 0 < m) (w : World) :
    Calls Try.prog 12 #[.complex .f64 x y, .complex .f64 u v] w (Timed n m w) := by
  obtain ⟨z, hz'⟩ : ∃ z, n * m = z := ⟨_, rfl⟩
  have hz := Lib.hid hz'
  have hzp : 0 < z := by
    have : 0 < n * m := by exact Int.mul_pos hn hm
    omega
  clear hz'
  have d1 : decide (n < 0) = false := by simp; omega
  have d2 : decide (m < 0) = false := by simp; omega
  by_cases hf : fitN z = true
  · have hb : -1125899906842624 ≤ z ∧ z ≤ 1125899906842624 := by unfold fitN at hf; simpa using hf
    obtain ⟨h3, h4⟩ := hb
    have HF := Lib.hid hf
    clear hf
    go_enter Try.func12, Try.ntmps12
    go_wp2_with fail
    refine (r1.out _).mono ?_
    rintro e w' ⟨rfl, rfl⟩
    go_wp2_with fail
    refine (r2.out _).mono ?_
    rintro e w' ⟨rfl, rfl⟩
    go_wp2_with fail
    refine (n1.out _).mono ?_
    rintro e w' ⟨rfl, rfl⟩
    go_wp2_with fail
    refine (n2.out _).mono ?_
    rintro e w' ⟨rfl, rfl⟩
    go_wp2_with fail
    refine (mul64_fit _ _ z (by omega) (by omega) (by omega) (by omega) (hz.out) (by omega) _).mono ?_
    rintro e w' ⟨rfl, rfl⟩
    go_wp2_with fail
    refine (some_any z true _ (by omega) (by omega)).mono ?_
    rintro e w' ⟨rfl, rfl⟩
    go_wp2_with fail
    go_ret2
    unfold Timed
    rw [hz.out]
    exact ⟨rfl, rfl⟩
  · have hf' : fitN z = false := by simpa using hf
    have hb : z < -1125899906842624 ∨ 1125899906842624 < z := by unfold fitN at hf; simp at hf; omega
    have HT : Hid (fitN (n * m) = false) := by rw [hz.out]; exact hf'
    have hb' : 1125899906842624 < z := by omega
    clear hf hf' hb
    go_enter Try.func12, Try.ntmps12
    go_wp2_with fail
    refine (r1.out _).mono ?_
    rintro e w' ⟨rfl, rfl⟩
    go_wp2_with fail
    refine (r2.out _).mono ?_
    rintro e w' ⟨rfl, rfl⟩
    go_wp2_with fail
    refine (n1.out _).mono ?_
    rintro e w' ⟨rfl, rfl⟩
    go_wp2_with fail
    refine (n2.out _).mono ?_
    rintro e w' ⟨rfl, rfl⟩
    go_wp2_with fail
    refine (mul64_over _ _ z (by omega) (by omega) (by omega) (by omega) (hz.out) (by omega) _).mono ?_
    rintro e w' ⟨hi, lo, hor, rfl, rfl⟩
    rcases hor with h5 | ⟨rfl, h5⟩
    all_goals
      go_wp2_with fail
      go_ret2
      exact timed_no HT.out

set_option maxHeartbeats 1000000 in
theorem times_gl {x y u v : Nat} {n m : Int} (n1 : Hid (∀ w, Calls Try.prog 19 #[.complex .f64 x y] w fun e w' => e = .returned (.int .i64 n) ∧ w = w')) (n2 : Hid (∀ w, Calls Try.prog 19 #[.complex .f64 u v] w fun e w' => e = .returned (.int .i64 m) ∧ w = w'))
    (r1 : Hid (∀ w, Calls Try.prog 14 #[.complex .f64 x y] w fun e w' => e = .returned (.bool true) ∧ w = w')) (r2 : Hid (∀ w, Calls Try.prog 14 #[.complex .f64 u v] w fun e w' => e = .returned (.bool true) ∧ w = w'))
    (b1 : -1125899906842624 ≤ n) (b2 : n ≤ 1125899906842624) (b3 : -1125899906842624 ≤ m) (b4 : m ≤ 1125899906842624) (hn : 0 < n) (hm : m < 0) (w : World) :
    Calls Try.prog 12 #[.complex .f64 x y, .complex .f64 u v] w (Timed n m w) := by
  obtain ⟨z, hz'⟩ : ∃ z, n * m = z := ⟨_, rfl⟩
  have hz := Lib.hid hz'
  have hzp : z < 0 := by
    have : n * m < 0 := by exact Int.mul_neg_of_pos_of_neg hn hm
    omega
  clear hz'
  have d1 : decide (n < 0) = false := by simp; omega
  have d2 : decide (m < 0) = true := by simp; omega
  by_cases hf : fitN z = true
  · have hb : -1125899906842624 ≤ z ∧ z ≤ 1125899906842624 := by unfold fitN at hf; simpa using hf
    obtain ⟨h3, h4⟩ := hb
    have HF := Lib.hid hf
    clear hf
    go_enter Try.func12, Try.ntmps12
    go_wp2_with fail
    refine (r1.out _).mono ?_
    rintro e w' ⟨rfl, rfl⟩
    go_wp2_with fail
    refine (r2.out _).mono ?_
    rintro e w' ⟨rfl, rfl⟩
    go_wp2_with fail
    refine (n1.out _).mono ?_
    rintro e w' ⟨rfl, rfl⟩
    go_wp2_with fail
    refine (n2.out _).mono ?_
    rintro e w' ⟨rfl, rfl⟩
    go_wp2_with fail
    refine (mul64_fit _ _ (-z) (by omega) (by omega) (by omega) (by omega) (by rw [Int.mul_neg, hz.out]) (by omega) _).mono ?_
    rintro e w' ⟨rfl, rfl⟩
    go_wp2_with fail
    refine (some_any z true _ (by omega) (by omega)).mono ?_
    rintro e w' ⟨rfl, rfl⟩
    go_wp2_with fail
    go_ret2
    unfold Timed
    rw [hz.out]
    exact ⟨rfl, rfl⟩
  · have hf' : fitN z = false := by simpa using hf
    have hb : z < -1125899906842624 ∨ 1125899906842624 < z := by unfold fitN at hf; simp at hf; omega
    have HT : Hid (fitN (n * m) = false) := by rw [hz.out]; exact hf'
    have hb' : z < -1125899906842624 := by omega
    clear hf hf' hb
    go_enter Try.func12, Try.ntmps12
    go_wp2_with fail
    refine (r1.out _).mono ?_
    rintro e w' ⟨rfl, rfl⟩
    go_wp2_with fail
    refine (r2.out _).mono ?_
    rintro e w' ⟨rfl, rfl⟩
    go_wp2_with fail
    refine (n1.out _).mono ?_
    rintro e w' ⟨rfl, rfl⟩
    go_wp2_with fail
    refine (n2.out _).mono ?_
    rintro e w' ⟨rfl, rfl⟩
    go_wp2_with fail
    refine (mul64_over _ _ (-z) (by omega) (by omega) (by omega) (by omega) (by rw [Int.mul_neg, hz.out]) (by omega) _).mono ?_
    rintro e w' ⟨hi, lo, hor, rfl, rfl⟩
    rcases hor with h5 | ⟨rfl, h5⟩
    all_goals
      go_wp2_with fail
      go_ret2
      exact timed_no HT.out

set_option maxHeartbeats 1000000 in
theorem times_lg {x y u v : Nat} {n m : Int} (n1 : Hid (∀ w, Calls Try.prog 19 #[.complex .f64 x y] w fun e w' => e = .returned (.int .i64 n) ∧ w = w')) (n2 : Hid (∀ w, Calls Try.prog 19 #[.complex .f64 u v] w fun e w' => e = .returned (.int .i64 m) ∧ w = w'))
    (r1 : Hid (∀ w, Calls Try.prog 14 #[.complex .f64 x y] w fun e w' => e = .returned (.bool true) ∧ w = w')) (r2 : Hid (∀ w, Calls Try.prog 14 #[.complex .f64 u v] w fun e w' => e = .returned (.bool true) ∧ w = w'))
    (b1 : -1125899906842624 ≤ n) (b2 : n ≤ 1125899906842624) (b3 : -1125899906842624 ≤ m) (b4 : m ≤ 1125899906842624) (hn : n < 0) (hm : 0 < m) (w : World) :
    Calls Try.prog 12 #[.complex .f64 x y, .complex .f64 u v] w (Timed n m w) := by
  obtain ⟨z, hz'⟩ : ∃ z, n * m = z := ⟨_, rfl⟩
  have hz := Lib.hid hz'
  have hzp : z < 0 := by
    have : n * m < 0 := by exact Int.mul_neg_of_neg_of_pos hn hm
    omega
  clear hz'
  have d1 : decide (n < 0) = true := by simp; omega
  have d2 : decide (m < 0) = false := by simp; omega
  by_cases hf : fitN z = true
  · have hb : -1125899906842624 ≤ z ∧ z ≤ 1125899906842624 := by unfold fitN at hf; simpa using hf
    obtain ⟨h3, h4⟩ := hb
    have HF := Lib.hid hf
    clear hf
    go_enter Try.func12, Try.ntmps12
    go_wp2_with fail
    refine (r1.out _).mono ?_
    rintro e w' ⟨rfl, rfl⟩
    go_wp2_with fail
    refine (r2.out _).mono ?_
    rintro e w' ⟨rfl, rfl⟩
    go_wp2_with fail
    refine (n1.out _).mono ?_
    rintro e w' ⟨rfl, rfl⟩
    go_wp2_with fail
    refine (n2.out _).mono ?_
    rintro e w' ⟨rfl, rfl⟩
    go_wp2_with fail
    refine (mul64_fit _ _ (-z) (by omega) (by omega) (by omega) (by omega) (by rw [Int.neg_mul, hz.out]) (by omega) _).mono ?_
    rintro e w' ⟨rfl, rfl⟩
    go_wp2_with fail
    refine (some_any z true _ (by omega) (by omega)).mono ?_
    rintro e w' ⟨rfl, rfl⟩
    go_wp2_with fail
    go_ret2
    unfold Timed
    rw [hz.out]
    exact ⟨rfl, rfl⟩
  · have hf' : fitN z = false := by simpa using hf
    have hb : z < -1125899906842624 ∨ 1125899906842624 < z := by unfold fitN at hf; simp at hf; omega
    have HT : Hid (fitN (n * m) = false) := by rw [hz.out]; exact hf'
    have hb' : z < -1125899906842624 := by omega
    clear hf hf' hb
    go_enter Try.func12, Try.ntmps12
    go_wp2_with fail
    refine (r1.out _).mono ?_
    rintro e w' ⟨rfl, rfl⟩
    go_wp2_with fail
    refine (r2.out _).mono ?_
    rintro e w' ⟨rfl, rfl⟩
    go_wp2_with fail
    refine (n1.out _).mono ?_
    rintro e w' ⟨rfl, rfl⟩
    go_wp2_with fail
    refine (n2.out _).mono ?_
    rintro e w' ⟨rfl, rfl⟩
    go_wp2_with fail
    refine (mul64_over _ _ (-z) (by omega) (by omega) (by omega) (by omega) (by rw [Int.neg_mul, hz.out]) (by omega) _).mono ?_
    rintro e w' ⟨hi, lo, hor, rfl, rfl⟩
    rcases hor with h5 | ⟨rfl, h5⟩
    all_goals
      go_wp2_with fail
      go_ret2
      exact timed_no HT.out

set_option maxHeartbeats 1000000 in
theorem times_ll {x y u v : Nat} {n m : Int} (n1 : Hid (∀ w, Calls Try.prog 19 #[.complex .f64 x y] w fun e w' => e = .returned (.int .i64 n) ∧ w = w')) (n2 : Hid (∀ w, Calls Try.prog 19 #[.complex .f64 u v] w fun e w' => e = .returned (.int .i64 m) ∧ w = w'))
    (r1 : Hid (∀ w, Calls Try.prog 14 #[.complex .f64 x y] w fun e w' => e = .returned (.bool true) ∧ w = w')) (r2 : Hid (∀ w, Calls Try.prog 14 #[.complex .f64 u v] w fun e w' => e = .returned (.bool true) ∧ w = w'))
    (b1 : -1125899906842624 ≤ n) (b2 : n ≤ 1125899906842624) (b3 : -1125899906842624 ≤ m) (b4 : m ≤ 1125899906842624) (hn : n < 0) (hm : m < 0) (w : World) :
    Calls Try.prog 12 #[.complex .f64 x y, .complex .f64 u v] w (Timed n m w) := by
  obtain ⟨z, hz'⟩ : ∃ z, n * m = z := ⟨_, rfl⟩
  have hz := Lib.hid hz'
  have hzp : 0 < z := by
    have : 0 < n * m := by exact Int.mul_pos_of_neg_of_neg hn hm
    omega
  clear hz'
  have d1 : decide (n < 0) = true := by simp; omega
  have d2 : decide (m < 0) = true := by simp; omega
  by_cases hf : fitN z = true
  · have hb : -1125899906842624 ≤ z ∧ z ≤ 1125899906842624 := by unfold fitN at hf; simpa using hf
    obtain ⟨h3, h4⟩ := hb
    have HF := Lib.hid hf
    clear hf
    go_enter Try.func12, Try.ntmps12
    go_wp2_with fail
    refine (r1.out _).mono ?_
    rintro e w' ⟨rfl, rfl⟩
    go_wp2_with fail
    refine (r2.out _).mono ?_
    rintro e w' ⟨rfl, rfl⟩
    go_wp2_with fail
    refine (n1.out _).mono ?_
    rintro e w' ⟨rfl, rfl⟩
    go_wp2_with fail
    refine (n2.out _).mono ?_
    rintro e w' ⟨rfl, rfl⟩
    go_wp2_with fail
    refine (mul64_fit _ _ z (by omega) (by omega) (by omega) (by omega) (by rw [Int.neg_mul_neg, hz.out]) (by omega) _).mono ?_
    rintro e w' ⟨rfl, rfl⟩
    go_wp2_with fail
    refine (some_any z true _ (by omega) (by omega)).mono ?_
    rintro e w' ⟨rfl, rfl⟩
    go_wp2_with fail
    go_ret2
    unfold Timed
    rw [hz.out]
    exact ⟨rfl, rfl⟩
  · have hf' : fitN z = false := by simpa using hf
    have hb : z < -1125899906842624 ∨ 1125899906842624 < z := by unfold fitN at hf; simp at hf; omega
    have HT : Hid (fitN (n * m) = false) := by rw [hz.out]; exact hf'
    have hb' : 1125899906842624 < z := by omega
    clear hf hf' hb
    go_enter Try.func12, Try.ntmps12
    go_wp2_with fail
    refine (r1.out _).mono ?_
    rintro e w' ⟨rfl, rfl⟩
    go_wp2_with fail
    refine (r2.out _).mono ?_
    rintro e w' ⟨rfl, rfl⟩
    go_wp2_with fail
    refine (n1.out _).mono ?_
    rintro e w' ⟨rfl, rfl⟩
    go_wp2_with fail
    refine (n2.out _).mono ?_
    rintro e w' ⟨rfl, rfl⟩
    go_wp2_with fail
    refine (mul64_over _ _ z (by omega) (by omega) (by omega) (by omega) (by rw [Int.neg_mul_neg, hz.out]) (by omega) _).mono ?_
    rintro e w' ⟨hi, lo, hor, rfl, rfl⟩
    rcases hor with h5 | ⟨rfl, h5⟩
    all_goals
      go_wp2_with fail
      go_ret2
      exact timed_no HT.out

set_option maxHeartbeats 1000000 in
theorem times_zg {x y u v : Nat} {n m : Int} (n1 : Hid (∀ w, Calls Try.prog 19 #[.complex .f64 x y] w fun e w' => e = .returned (.int .i64 n) ∧ w = w')) (n2 : Hid (∀ w, Calls Try.prog 19 #[.complex .f64 u v] w fun e w' => e = .returned (.int .i64 m) ∧ w = w'))
    (r1 : Hid (∀ w, Calls Try.prog 14 #[.complex .f64 x y] w fun e w' => e = .returned (.bool true) ∧ w = w')) (r2 : Hid (∀ w, Calls Try.prog 14 #[.complex .f64 u v] w fun e w' => e = .returned (.bool true) ∧ w = w'))
    (b1 : -1125899906842624 ≤ n) (b2 : n ≤ 1125899906842624) (b3 : -1125899906842624 ≤ m) (b4 : m ≤ 1125899906842624) (hn : n = 0) (hm : 0 < m) (w : World) :
    Calls Try.prog 12 #[.complex .f64 x y, .complex .f64 u v] w (Timed n m w) := by
  subst hn
  go_enter Try.func12, Try.ntmps12
  go_wp2_with fail
  refine (r1.out _).mono ?_
  rintro e w' ⟨rfl, rfl⟩
  go_wp2_with fail
  refine (r2.out _).mono ?_
  rintro e w' ⟨rfl, rfl⟩
  go_wp2_with fail
  refine (n1.out _).mono ?_
  rintro e w' ⟨rfl, rfl⟩
  go_wp2_with fail
  refine (n2.out _).mono ?_
  rintro e w' ⟨rfl, rfl⟩
  go_wp2_with fail
  refine (mul64_fit _ _ 0 (by omega) (by omega) (by omega) (by omega) (by simp) (by omega) _).mono ?_
  rintro e w' ⟨rfl, rfl⟩
  go_wp2_with fail
  refine (some_any 0 true _ (by omega) (by omega)).mono ?_
  rintro e w' ⟨rfl, rfl⟩
  go_wp2_with fail
  go_ret2
  unfold Timed
  have ez : 0 * m = (0 : Int) := by simp
  rw [ez]
  exact ⟨rfl, rfl⟩

set_option maxHeartbeats 1000000 in
theorem times_zl {x y u v : Nat} {n m : Int} (n1 : Hid (∀ w, Calls Try.prog 19 #[.complex .f64 x y] w fun e w' => e = .returned (.int .i64 n) ∧ w = w')) (n2 : Hid (∀ w, Calls Try.prog 19 #[.complex .f64 u v] w fun e w' => e = .returned (.int .i64 m) ∧ w = w'))
    (r1 : Hid (∀ w, Calls Try.prog 14 #[.complex .f64 x y] w fun e w' => e = .returned (.bool true) ∧ w = w')) (r2 : Hid (∀ w, Calls Try.prog 14 #[.complex .f64 u v] w fun e w' => e = .returned (.bool true) ∧ w = w'))
    (b1 : -1125899906842624 ≤ n) (b2 : n ≤ 1125899906842624) (b3 : -1125899906842624 ≤ m) (b4 : m ≤ 1125899906842624) (hn : n = 0) (hm : m < 0) (w : World) :
    Calls Try.prog 12 #[.complex .f64 x y, .complex .f64 u v] w (Timed n m w) := by
  subst hn
  go_enter Try.func12, Try.ntmps12
  go_wp2_with fail
  refine (r1.out _).mono ?_
  rintro e w' ⟨rfl, rfl⟩
  go_wp2_with fail
  refine (r2.out _).mono ?_
  rintro e w' ⟨rfl, rfl⟩
  go_wp2_with fail
  refine (n1.out _).mono ?_
  rintro e w' ⟨rfl, rfl⟩
  go_wp2_with fail
  refine (n2.out _).mono ?_
  rintro e w' ⟨rfl, rfl⟩
  go_wp2_with fail
  refine (mul64_fit _ _ 0 (by omega) (by omega) (by omega) (by omega) (by simp) (by omega) _).mono ?_
  rintro e w' ⟨rfl, rfl⟩
  go_wp2_with fail
  refine (some_any 0 true _ (by omega) (by omega)).mono ?_
  rintro e w' ⟨rfl, rfl⟩
  go_wp2_with fail
  go_ret2
  unfold Timed
  have ez : 0 * m = (0 : Int) := by simp
  rw [ez]
  exact ⟨rfl, rfl⟩

set_option maxHeartbeats 1000000 in
theorem times_zz {x y u v : Nat} {n m : Int} (n1 : Hid (∀ w, Calls Try.prog 19 #[.complex .f64 x y] w fun e w' => e = .returned (.int .i64 n) ∧ w = w')) (n2 : Hid (∀ w, Calls Try.prog 19 #[.complex .f64 u v] w fun e w' => e = .returned (.int .i64 m) ∧ w = w'))
    (r1 : Hid (∀ w, Calls Try.prog 14 #[.complex .f64 x y] w fun e w' => e = .returned (.bool true) ∧ w = w')) (r2 : Hid (∀ w, Calls Try.prog 14 #[.complex .f64 u v] w fun e w' => e = .returned (.bool true) ∧ w = w'))
    (b1 : -1125899906842624 ≤ n) (b2 : n ≤ 1125899906842624) (b3 : -1125899906842624 ≤ m) (b4 : m ≤ 1125899906842624) (hn : n = 0) (hm : m = 0) (w : World) :
    Calls Try.prog 12 #[.complex .f64 x y, .complex .f64 u v] w (Timed n m w) := by
  subst hn
  subst hm
  go_enter Try.func12, Try.ntmps12
  go_wp2_with fail
  refine (r1.out _).mono ?_
  rintro e w' ⟨rfl, rfl⟩
  go_wp2_with fail
  refine (r2.out _).mono ?_
  rintro e w' ⟨rfl, rfl⟩
  go_wp2_with fail
  refine (n1.out _).mono ?_
  rintro e w' ⟨rfl, rfl⟩
  go_wp2_with fail
  refine (n2.out _).mono ?_
  rintro e w' ⟨rfl, rfl⟩
  go_wp2_with fail
  refine (mul64_fit _ _ 0 (by omega) (by omega) (by omega) (by omega) (by simp) (by omega) _).mono ?_
  rintro e w' ⟨rfl, rfl⟩
  go_wp2_with fail
  refine (some_any 0 true _ (by omega) (by omega)).mono ?_
  rintro e w' ⟨rfl, rfl⟩
  go_wp2_with fail
  go_ret2
  unfold Timed
  have ez : 0 * 0 = (0 : Int) := by simp
  rw [ez]
  exact ⟨rfl, rfl⟩

set_option maxHeartbeats 1000000 in
theorem times_gz {x y u v : Nat} {n m : Int} (n1 : Hid (∀ w, Calls Try.prog 19 #[.complex .f64 x y] w fun e w' => e = .returned (.int .i64 n) ∧ w = w')) (n2 : Hid (∀ w, Calls Try.prog 19 #[.complex .f64 u v] w fun e w' => e = .returned (.int .i64 m) ∧ w = w'))
    (r1 : Hid (∀ w, Calls Try.prog 14 #[.complex .f64 x y] w fun e w' => e = .returned (.bool true) ∧ w = w')) (r2 : Hid (∀ w, Calls Try.prog 14 #[.complex .f64 u v] w fun e w' => e = .returned (.bool true) ∧ w = w'))
    (b1 : -1125899906842624 ≤ n) (b2 : n ≤ 1125899906842624) (b3 : -1125899906842624 ≤ m) (b4 : m ≤ 1125899906842624) (hn : 0 < n) (hm : m = 0) (w : World) :
    Calls Try.prog 12 #[.complex .f64 x y, .complex .f64 u v] w (Timed n m w) := by
  subst hm
  go_enter Try.func12, Try.ntmps12
  go_wp2_with fail
  refine (r1.out _).mono ?_
  rintro e w' ⟨rfl, rfl⟩
  go_wp2_with fail
  refine (r2.out _).mono ?_
  rintro e w' ⟨rfl, rfl⟩
  go_wp2_with fail
  refine (n1.out _).mono ?_
  rintro e w' ⟨rfl, rfl⟩
  go_wp2_with fail
  refine (n2.out _).mono ?_
  rintro e w' ⟨rfl, rfl⟩
  go_wp2_with fail
  refine (mul64_fit _ _ 0 (by omega) (by omega) (by omega) (by omega) (by simp) (by omega) _).mono ?_
  rintro e w' ⟨rfl, rfl⟩
  go_wp2_with fail
  refine (some_any 0 true _ (by omega) (by omega)).mono ?_
  rintro e w' ⟨rfl, rfl⟩
  go_wp2_with fail
  go_ret2
  unfold Timed
  have ez : n * 0 = (0 : Int) := by simp
  rw [ez]
  exact ⟨rfl, rfl⟩

set_option maxHeartbeats 1000000 in
theorem times_lz {x y u v : Nat} {n m : Int} (n1 : Hid (∀ w, Calls Try.prog 19 #[.complex .f64 x y] w fun e w' => e = .returned (.int .i64 n) ∧ w = w')) (n2 : Hid (∀ w, Calls Try.prog 19 #[.complex .f64 u v] w fun e w' => e = .returned (.int .i64 m) ∧ w = w'))
    (r1 : Hid (∀ w, Calls Try.prog 14 #[.complex .f64 x y] w fun e w' => e = .returned (.bool true) ∧ w = w')) (r2 : Hid (∀ w, Calls Try.prog 14 #[.complex .f64 u v] w fun e w' => e = .returned (.bool true) ∧ w = w'))
    (b1 : -1125899906842624 ≤ n) (b2 : n ≤ 1125899906842624) (b3 : -1125899906842624 ≤ m) (b4 : m ≤ 1125899906842624) (hn : n < 0) (hm : m = 0) (w : World) :
    Calls Try.prog 12 #[.complex .f64 x y, .complex .f64 u v] w (Timed n m w) := by
  subst hm
  go_enter Try.func12, Try.ntmps12
  go_wp2_with fail
  refine (r1.out _).mono ?_
  rintro e w' ⟨rfl, rfl⟩
  go_wp2_with fail
  refine (r2.out _).mono ?_
  rintro e w' ⟨rfl, rfl⟩
  go_wp2_with fail
  refine (n1.out _).mono ?_
  rintro e w' ⟨rfl, rfl⟩
  go_wp2_with fail
  refine (n2.out _).mono ?_
  rintro e w' ⟨rfl, rfl⟩
  go_wp2_with fail
  refine (mul64_fit _ _ 0 (by omega) (by omega) (by omega) (by omega) (by simp) (by omega) _).mono ?_
  rintro e w' ⟨rfl, rfl⟩
  go_wp2_with fail
  refine (some_any 0 true _ (by omega) (by omega)).mono ?_
  rintro e w' ⟨rfl, rfl⟩
  go_wp2_with fail
  go_ret2
  unfold Timed
  have ez : n * 0 = (0 : Int) := by simp
  rw [ez]
  exact ⟨rfl, rfl⟩

theorem times_yes {x y u v : Nat} {a b c d : Int} (hx : Fl.Reads x a) (hy : Fl.Reads y b) (hu : Fl.Reads u c) (hv : Fl.Reads v d) (w : World) (h1 : okT a b = true) (h2 : okT c d = true) :
    Calls Try.prog 12 #[.complex .f64 x y, .complex .f64 u v] w (Timed (netT a b) (netT c d) w) := by
  have n1 := Lib.hid (net_any hx hy)
  have n2 := Lib.hid (net_any hu hv)
  have r1 := Lib.hid (right_any hx hy)
  have r2 := Lib.hid (right_any hu hv)
  obtain ⟨b1, b2⟩ := netT_bd a b
  obtain ⟨b3, b4⟩ := netT_bd c d
  change Hid (∀ w, Calls Try.prog 14 #[.complex .f64 x y] w fun e w' => e = .returned (.bool (okT a b)) ∧ w = w') at r1
  change Hid (∀ w, Calls Try.prog 14 #[.complex .f64 u v] w fun e w' => e = .returned (.bool (okT c d)) ∧ w = w') at r2
  rw [h1] at r1
  rw [h2] at r2
  generalize netT a b = n at *
  generalize netT c d = m at *
  rcases Int.lt_trichotomy n 0 with hn | hn | hn <;> rcases Int.lt_trichotomy m 0 with hm | hm | hm
  · exact times_ll n1 n2 r1 r2 b1 b2 b3 b4 hn hm w
  · exact times_lz n1 n2 r1 r2 b1 b2 b3 b4 hn hm w
  · exact times_lg n1 n2 r1 r2 b1 b2 b3 b4 hn hm w
  · exact times_zl n1 n2 r1 r2 b1 b2 b3 b4 hn hm w
  · exact times_zz n1 n2 r1 r2 b1 b2 b3 b4 hn hm w
  · exact times_zg n1 n2 r1 r2 b1 b2 b3 b4 hn hm w
  · exact times_gl n1 n2 r1 r2 b1 b2 b3 b4 hn hm w
  · exact times_gz n1 n2 r1 r2 b1 b2 b3 b4 hn hm w
  · exact times_gg n1 n2 r1 r2 b1 b2 b3 b4 hn hm w

end Go.Proofs.Ytabhkfpglhfiiaa
