/-
  Package sexp's reader: signs, runs of them, whether a whole tree is there.
-/
import Derived.Test.YtldleckgkgeclaaDoorSx0
import Derived.Test.YtldleckgkgeclaaDoorValue
import Derived.Deep.DeepCutAuto
set_option linter.unusedVariables false
set_option linter.unusedSimpArgs false
namespace Go.Proofs.YtldleckgkgeclaaDoor
open Go.RowKit
theorem letter_any (c : UInt8) (w : World) : Calls Tryd.prog 40 #[.int .u8 (c.toNat : Int)] w fun e w' => e = .returned (.bool (letP c)) ∧ w = w' := by
  unfold letP
  cases a1 : decide (97 ≤ (c.toNat : Int))
  · go_enter Tryd.func40, Tryd.ntmps40
    go_wp2
    go_ret
    exact ⟨rfl, rfl⟩
  · cases a2 : decide ((c.toNat : Int) ≤ 122)
    all_goals
      go_enter Tryd.func40, Tryd.ntmps40
      go_wp2
      go_ret
      exact ⟨rfl, rfl⟩
theorem digit_any (c : UInt8) (w : World) : Calls Tryd.prog 41 #[.int .u8 (c.toNat : Int)] w fun e w' => e = .returned (.bool (digP c)) ∧ w = w' := by
  unfold digP
  cases a1 : decide (48 ≤ (c.toNat : Int))
  · go_enter Tryd.func41, Tryd.ntmps41
    go_wp2
    go_ret
    exact ⟨rfl, rfl⟩
  · cases a2 : decide ((c.toNat : Int) ≤ 57)
    all_goals
      go_enter Tryd.func41, Tryd.ntmps41
      go_wp2
      go_ret
      exact ⟨rfl, rfl⟩
theorem whole_any {w : World} {g n c : Nat} {A : Option Addr} {x y : Value} {t : TypeId} (h : w.heap[g]? = some (.cells #[x, y, .slice A n c] t (0, 0))) :
    Calls Tryd.prog 21 #[.pointer (some ⟨g, 0, none⟩)] w fun e w' => e = .returned (.bool (decide (0 < n))) ∧ w = w' := by
  have h0 : w.cell? ⟨g, 2, none⟩ = some (.slice A n c) := by simp [World.cell?, h]
  clear h
  go_enter Tryd.func21, Tryd.ntmps21
  go_wp2
  go_ret
  exact ⟨rfl, rfl⟩
theorem run_letters (s : ByteArray) (p : Nat) (hp : p ≤ s.size) (hs : s.size ≤ 600) (w : World) : Calls Tryd.prog 42 #[.string s, .int .i64 (p : Int), .func (.func 40) #[] #[]] w fun e w' => e = .returned (.int .i64 (runE letP s p)) ∧ w = w' := by
  have hL := Lib.hid (fun c => letter_any c w)
  go_enter Tryd.func42, Tryd.ntmps42
  go_wp2_with fail
  go_loop [7] (fun i => ∃ k : Nat, k ≤ s.size ∧ i = .int .i64 k ∧ Hid (runE letP s k = runE letP s p)) (fun i => s.size - (intOf i).toNat)
  case atStart => exact ⟨p, hp, rfl, Lib.hid rfl⟩
  case round =>
    obtain ⟨k, hk, rfl, hR⟩ := hrel
    by_cases hks : k < s.size
    · have hlk := Lib.hid (hL.out s[k])
      have HB := Lib.hid (bt_eq hks)
      cases hlt : letP s[k]
      · rw [hlt] at hlk
        have hR' := hR.out
        rw [runE_stop (by rw [HB.out]; exact hlt)] at hR'
        have HR := Lib.hid hR'
        clear hR' hlt
        go_wp2_with fail
        refine (hlk.out).mono ?_
        rintro e w' ⟨rfl, rfl⟩
        go_wp2_with fail
        go_ret
        exact ⟨by rw [← HR.out]; rfl, rfl⟩
      · rw [hlt] at hlk
        have hR' := hR.out
        rw [runE_step hks (by rw [HB.out]; exact hlt)] at hR'
        have HR := Lib.hid hR'
        clear hR' hlt
        go_wp2_with fail
        refine (hlk.out).mono ?_
        rintro e w' ⟨rfl, rfl⟩
        go_wp2_with fail
        go_round
        case rel => exact ⟨k + 1, by omega, by go_num, HR⟩
        case measure => simp [intOf]; omega
    · obtain rfl : k = s.size := by omega
      have hR' := hR.out
      rw [runE_end (by omega)] at hR'
      have HR := Lib.hid hR'
      clear hR'
      go_wp2_with fail
      go_ret
      exact ⟨by rw [← HR.out]; rfl, rfl⟩
theorem run_digits (s : ByteArray) (p : Nat) (hp : p ≤ s.size) (hs : s.size ≤ 600) (w : World) : Calls Tryd.prog 42 #[.string s, .int .i64 (p : Int), .func (.func 41) #[] #[]] w fun e w' => e = .returned (.int .i64 (runE digP s p)) ∧ w = w' := by
  have hL := Lib.hid (fun c => digit_any c w)
  go_enter Tryd.func42, Tryd.ntmps42
  go_wp2_with fail
  go_loop [7] (fun i => ∃ k : Nat, k ≤ s.size ∧ i = .int .i64 k ∧ Hid (runE digP s k = runE digP s p)) (fun i => s.size - (intOf i).toNat)
  case atStart => exact ⟨p, hp, rfl, Lib.hid rfl⟩
  case round =>
    obtain ⟨k, hk, rfl, hR⟩ := hrel
    by_cases hks : k < s.size
    · have hlk := Lib.hid (hL.out s[k])
      have HB := Lib.hid (bt_eq hks)
      cases hlt : digP s[k]
      · rw [hlt] at hlk
        have hR' := hR.out
        rw [runE_stop (by rw [HB.out]; exact hlt)] at hR'
        have HR := Lib.hid hR'
        clear hR' hlt
        go_wp2_with fail
        refine (hlk.out).mono ?_
        rintro e w' ⟨rfl, rfl⟩
        go_wp2_with fail
        go_ret
        exact ⟨by rw [← HR.out]; rfl, rfl⟩
      · rw [hlt] at hlk
        have hR' := hR.out
        rw [runE_step hks (by rw [HB.out]; exact hlt)] at hR'
        have HR := Lib.hid hR'
        clear hR' hlt
        go_wp2_with fail
        refine (hlk.out).mono ?_
        rintro e w' ⟨rfl, rfl⟩
        go_wp2_with fail
        go_round
        case rel => exact ⟨k + 1, by omega, by go_num, HR⟩
        case measure => simp [intOf]; omega
    · obtain rfl : k = s.size := by omega
      have hR' := hR.out
      rw [runE_end (by omega)] at hR'
      have HR := Lib.hid hR'
      clear hR'
      go_wp2_with fail
      go_ret
      exact ⟨by rw [← HR.out]; rfl, rfl⟩
end Go.Proofs.YtldleckgkgeclaaDoor
