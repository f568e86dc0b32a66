/-
  Package value's contracts.
-/
import Derived.Test.YtldleckgkgeclaaDoorRows
import Derived.Test.YtldleckgkgeclaaDoorMem
import Derived.WalkLawsBesides
import Derived.Deep.QuietTactic
import Derived.BigQuiet
import Derived.Deep.RegionHeld3
namespace Go.Proofs.YtldleckgkgeclaaDoor
open Go.RowKit

set_option maxHeartbeats 400000 in
theorem value_right (k n : Int) (s : ByteArray) (w : World) :
    Calls Tryd.prog 59 #[.agg #[.int .i64 k, .int .i64 n, .string s]] w fun e w' =>
      e = .returned (.bool (V.okB ⟨k, n, s⟩)) ∧ w.alloc (.cells #[.int .i64 k, .int .i64 n, .string s] 60) = w' := by
  by_cases h1 : (k == 1) = true
  · have hr : V.okB ⟨k, n, s⟩ = s.toList.isEmpty := by
      have : (k == 2) = false := by simp at h1 ⊢; omega
      simp [V.okB, h1, this]
    rw [hr]
    clear hr
    go_enter Tryd.func59, Tryd.ntmps59
    go_wp2
    go_ret
    exact ⟨rfl, rfl⟩
  · have h1' : (k == 1) = false := by simpa using h1
    clear h1
    by_cases h2 : (k == 2) = true
    · by_cases h3 : n = 0
      · subst h3
        have hr : V.okB ⟨k, 0, s⟩ = decide ((s.size : Int) ≤ 40) := by simp [V.okB, h1', h2]
        rw [hr]
        clear hr
        go_enter Tryd.func59, Tryd.ntmps59
        go_wp2
        go_ret
        exact ⟨rfl, rfl⟩
      · have hr : V.okB ⟨k, n, s⟩ = false := by simp [V.okB, h1', h3]
        rw [hr]
        clear hr
        go_enter Tryd.func59, Tryd.ntmps59
        go_wp2
        go_ret
        exact ⟨rfl, rfl⟩
    · have h2' : (k == 2) = false := by simpa using h2
      clear h2
      have hr : V.okB ⟨k, n, s⟩ = false := by simp [V.okB, h1', h2']
      rw [hr]
      clear hr
      go_enter Tryd.func59, Tryd.ntmps59
      go_wp2
      go_ret
      exact ⟨rfl, rfl⟩

end Go.Proofs.YtldleckgkgeclaaDoor
