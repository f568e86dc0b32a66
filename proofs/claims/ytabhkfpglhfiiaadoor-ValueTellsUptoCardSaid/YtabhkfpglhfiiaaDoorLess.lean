/-
  Package value's contract: Less.
-/
import Derived.Test.YtabhkfpglhfiiaaDoorValue
namespace Go.Proofs.YtabhkfpglhfiiaaDoor
open Go.RowKit

def V.ltIn (a b : V) : Bool := if (a.k != b.k) then a.k == 1 else if (a.k == 1) then decide (a.n < b.n) else Op.bytesLess a.s.toList b.s.toList
def V.lt (a b : V) : Bool := (V.okB a && V.okB b) && V.ltIn a b

set_option maxHeartbeats 400000 in
theorem value_less (k n : Int) (s : ByteArray) (k2 n2 : Int) (s2 : ByteArray) (w : World) :
    Calls Tryd.prog 16 #[.agg #[.int .i64 k, .int .i64 n, .string s], .agg #[.int .i64 k2, .int .i64 n2, .string s2]] w fun e w' =>
      e = .returned (.bool (V.lt ⟨k, n, s⟩ ⟨k2, n2, s2⟩)) ∧ Below w.heap.size w w' := by
  have hr1 := Lib.hid (value_right k n s)
  have hr2 := Lib.hid (value_right k2 n2 s2)
  unfold V.lt
  generalize V.okB ⟨k, n, s⟩ = q at *
  generalize V.okB ⟨k2, n2, s2⟩ = q2 at *
  cases q
  · rw [Bool.false_and, Bool.false_and]
    clear hr2
    go_enter Tryd.func16, Tryd.ntmps16
    go_wp2_with fail
    refine (hr1.out _).mono ?_
    rintro e w' ⟨rfl, rfl⟩
    go_wp2_with fail
    go_ret
    exact ⟨rfl, by repeat (first | exact Below.refl _ _ | refine Below.alloc ?_ (by simp <;> omega) _)⟩
  · cases q2
    · rw [Bool.and_false, Bool.false_and]
      go_enter Tryd.func16, Tryd.ntmps16
      go_wp2_with fail
      refine (hr1.out _).mono ?_
      rintro e w' ⟨rfl, rfl⟩
      go_wp2_with fail
      refine (hr2.out _).mono ?_
      rintro e w' ⟨rfl, rfl⟩
      go_wp2_with fail
      go_ret
      exact ⟨rfl, by repeat (first | exact Below.refl _ _ | refine Below.alloc ?_ (by simp <;> omega) _)⟩
    · rw [Bool.and_self, Bool.true_and]
      by_cases h1 : (k != k2) = true
      · have e0 : V.ltIn ⟨k, n, s⟩ ⟨k2, n2, s2⟩ = (k == 1) := if_pos h1
        rw [e0]
        clear e0
        go_enter Tryd.func16, Tryd.ntmps16
        go_wp2_with fail
        refine (hr1.out _).mono ?_
        rintro e w' ⟨rfl, rfl⟩
        go_wp2_with fail
        refine (hr2.out _).mono ?_
        rintro e w' ⟨rfl, rfl⟩
        go_wp2_with fail
        go_ret
        exact ⟨rfl, by repeat (first | exact Below.refl _ _ | refine Below.alloc ?_ (by simp <;> omega) _)⟩
      · have h1' : (k != k2) = false := by simpa using h1
        by_cases h2 : (k == 1) = true
        · have e0 : V.ltIn ⟨k, n, s⟩ ⟨k2, n2, s2⟩ = decide (n < n2) := (if_neg h1).trans (if_pos h2)
          rw [e0]
          clear e0 h1
          go_enter Tryd.func16, Tryd.ntmps16
          go_wp2_with fail
          refine (hr1.out _).mono ?_
          rintro e w' ⟨rfl, rfl⟩
          go_wp2_with fail
          refine (hr2.out _).mono ?_
          rintro e w' ⟨rfl, rfl⟩
          go_wp2_with fail
          go_ret
          exact ⟨rfl, by repeat (first | exact Below.refl _ _ | refine Below.alloc ?_ (by simp <;> omega) _)⟩
        · have h2' : (k == 1) = false := by simpa using h2
          have e0 : V.ltIn ⟨k, n, s⟩ ⟨k2, n2, s2⟩ = Op.bytesLess s.toList s2.toList := (if_neg h1).trans (if_neg h2)
          rw [e0]
          clear e0 h1 h2
          go_enter Tryd.func16, Tryd.ntmps16
          go_wp2_with fail
          refine (hr1.out _).mono ?_
          rintro e w' ⟨rfl, rfl⟩
          go_wp2_with fail
          refine (hr2.out _).mono ?_
          rintro e w' ⟨rfl, rfl⟩
          go_wp2_with fail
          go_ret
          exact ⟨rfl, by repeat (first | exact Below.refl _ _ | refine Below.alloc ?_ (by simp <;> omega) _)⟩

end Go.Proofs.YtabhkfpglhfiiaaDoor
