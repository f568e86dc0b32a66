/-
  The reference's reader of brackets: numbers.
-/
import Derived.Test.YtldleckgkgeclaaDoorMb6
import Derived.Deep.DeepCutAuto
import Derived.ChangeAlike
set_option linter.unusedVariables false
set_option linter.unusedSimpArgs false
namespace Go.Proofs.YtldleckgkgeclaaDoor
open Go.RowKit
/-- what number gives: a place behind where it began, if it is one -/
def NumEnd (s : ByteArray) (p : Nat) (e : Ending) : Prop := ∃ (n : Int) (i : Nat) (ok : Bool), e = .returned (.tuple #[.int .i64 n, .int .i64 (i : Int), .bool ok]) ∧ i ≤ s.size ∧ (ok = true → p < i) ∧ -9223372036854775808 ≤ n ∧ n ≤ 9223372036854775807
theorem wrap_bd (x : Int) : -9223372036854775808 ≤ IntKind.i64.wrap x ∧ IntKind.i64.wrap x ≤ 9223372036854775807 := by
  unfold IntKind.wrap
  simp [IntKind.bits, IntKind.signed]
  omega
theorem wrap64_bd (x : Int) : -9223372036854775808 ≤ wrap64 x ∧ wrap64 x ≤ 9223372036854775807 := by
  unfold wrap64
  omega
set_option maxRecDepth 100000 in
set_option maxHeartbeats 2000000 in
theorem number_any (s : ByteArray) (p : Nat) (hp : p < s.size) (hs : s.size ≤ 600) (w : World) : Calls Tryd.prog 46 #[.string s, .int .i64 (p : Int)] w fun e w' => NumEnd s p e ∧ w = w' := by
  have hD := Lib.hid (fun c => digit_any c w)
  cases hq : ((s[p].toNat : Int) == 45)
  · skip
    go_enter Tryd.func46, Tryd.ntmps46
    go_upto_region 7 with (fail)
    go_wp2_with fail
    go_loop [7, 9, 10] (fun i u q => ∃ (k : Nat) (z : Int) (b : Bool), p ≤ k ∧ k ≤ s.size ∧ i = .int .i64 k ∧ u = .int .u64 z ∧ q = .bool b) (fun i _ _ => s.size - (intOf i).toNat)
    case atStart => exact ⟨p, 0, true, by omega, by omega, by go_num, rfl, rfl⟩
    case round =>
      obtain ⟨k, z, b, hk1, hk2, rfl, rfl, rfl⟩ := hrel
      by_cases hlt : k < s.size
      · have hdk := Lib.hid (hD.out s[k])
        cases hdg : digB s[k]
        · rw [hdg] at hdk
          cases hkp : ((k : Int) == (p : Int))
          · have hkn : Hid (k ≠ p) := Lib.hid (by have := hkp; simp at this; omega)
            cases b
            · go_wp2_with fail
              refine (hdk.out).mono ?_
              rintro e w' ⟨rfl, rfl⟩
              go_wp2_with fail
              all_goals
                go_ret3
                exact ⟨⟨_, k, _, rfl, by omega, by simp, by omega, by omega⟩, rfl⟩
            · cases hz1 : decide (9223372036854775807 < z)
              all_goals
                cases hz2 : decide (9223372036854775808 < z)
                all_goals
                  go_wp2_with fail
                  refine (hdk.out).mono ?_
                  rintro e w' ⟨rfl, rfl⟩
                  go_wp2_with fail
                  all_goals
                    go_ret3
                    exact ⟨⟨_, k, _, rfl, by omega, by first | (simp; done) | (intro _; have := hkn.out; omega), by first | omega | exact (wrap_bd _).1 | exact (wrap64_bd _).1, by first | omega | exact (wrap_bd _).2 | exact (wrap64_bd _).2⟩, rfl⟩
          · go_wp2_with fail
            refine (hdk.out).mono ?_
            rintro e w' ⟨rfl, rfl⟩
            go_wp2_with fail
            all_goals
              go_ret3
              exact ⟨⟨_, k, _, rfl, by omega, by simp, by omega, by omega⟩, rfl⟩

        · rw [hdg] at hdk
          generalize hdv : (s[k].toNat : Int) = dv at *
          cases hq9 : decide ((9223372036854775808 - (dv - 48)) / 10 < z)
          all_goals
            go_wp2_with fail
            refine (hdk.out).mono ?_
            rintro e w' ⟨rfl, rfl⟩
            go_wp2_with fail
            all_goals
              go_round
              case rel => exact ⟨k + 1, _, _, by omega, by omega, by go_num, rfl, rfl⟩
              case measure => simp [intOf]; omega
      · obtain rfl : k = s.size := by omega
        cases hkp : ((s.size : Int) == (p : Int))
        · have hkn : Hid (s.size ≠ p) := Lib.hid (by have := hkp; simp at this; omega)
          cases b
          · go_wp2_with fail
            all_goals
              go_ret3
              exact ⟨⟨_, s.size, _, rfl, by omega, by simp, by omega, by omega⟩, rfl⟩
          · cases hz1 : decide (9223372036854775807 < z)
            all_goals
              cases hz2 : decide (9223372036854775808 < z)
              all_goals
                go_wp2_with fail
                all_goals
                  go_ret3
                  exact ⟨⟨_, s.size, _, rfl, by omega, by first | (simp; done) | (intro _; have := hkn.out; omega), by first | omega | exact (wrap_bd _).1 | exact (wrap64_bd _).1, by first | omega | exact (wrap_bd _).2 | exact (wrap64_bd _).2⟩, rfl⟩
        · go_wp2_with fail
          all_goals
            go_ret3
            exact ⟨⟨_, s.size, _, rfl, by omega, by simp, by omega, by omega⟩, rfl⟩

  · skip
    go_enter Tryd.func46, Tryd.ntmps46
    go_upto_region 7 with (fail)
    go_wp2_with fail
    go_loop [7, 9, 10] (fun i u q => ∃ (k : Nat) (z : Int) (b : Bool), p + 1 ≤ k ∧ k ≤ s.size ∧ i = .int .i64 k ∧ u = .int .u64 z ∧ q = .bool b) (fun i _ _ => s.size - (intOf i).toNat)
    case atStart => exact ⟨p + 1, 0, true, by omega, by omega, by go_num, rfl, rfl⟩
    case round =>
      obtain ⟨k, z, b, hk1, hk2, rfl, rfl, rfl⟩ := hrel
      by_cases hlt : k < s.size
      · have hdk := Lib.hid (hD.out s[k])
        cases hdg : digB s[k]
        · rw [hdg] at hdk
          cases hkp : ((k : Int) == ((p : Int) + 1))
          · have hkn : Hid (k ≠ p + 1) := Lib.hid (by have := hkp; simp at this; omega)
            cases b
            · go_wp2_with fail
              refine (hdk.out).mono ?_
              rintro e w' ⟨rfl, rfl⟩
              go_wp2_with fail
              all_goals
                go_ret3
                exact ⟨⟨_, k, _, rfl, by omega, by simp, by omega, by omega⟩, rfl⟩
            · cases hz1 : decide (9223372036854775807 < z)
              all_goals
                cases hz2 : decide (9223372036854775808 < z)
                all_goals
                  go_wp2_with fail
                  refine (hdk.out).mono ?_
                  rintro e w' ⟨rfl, rfl⟩
                  go_wp2_with fail
                  all_goals
                    go_ret3
                    exact ⟨⟨_, k, _, rfl, by omega, by first | (simp; done) | (intro _; have := hkn.out; omega), by first | omega | exact (wrap_bd _).1 | exact (wrap64_bd _).1, by first | omega | exact (wrap_bd _).2 | exact (wrap64_bd _).2⟩, rfl⟩
          · go_wp2_with fail
            refine (hdk.out).mono ?_
            rintro e w' ⟨rfl, rfl⟩
            go_wp2_with fail
            all_goals
              go_ret3
              exact ⟨⟨_, k, _, rfl, by omega, by simp, by omega, by omega⟩, rfl⟩

        · rw [hdg] at hdk
          generalize hdv : (s[k].toNat : Int) = dv at *
          cases hq9 : decide ((9223372036854775808 - (dv - 48)) / 10 < z)
          all_goals
            go_wp2_with fail
            refine (hdk.out).mono ?_
            rintro e w' ⟨rfl, rfl⟩
            go_wp2_with fail
            all_goals
              go_round
              case rel => exact ⟨k + 1, _, _, by omega, by omega, by go_num, rfl, rfl⟩
              case measure => simp [intOf]; omega
      · obtain rfl : k = s.size := by omega
        cases hkp : ((s.size : Int) == ((p : Int) + 1))
        · have hkn : Hid (s.size ≠ p + 1) := Lib.hid (by have := hkp; simp at this; omega)
          cases b
          · go_wp2_with fail
            all_goals
              go_ret3
              exact ⟨⟨_, s.size, _, rfl, by omega, by simp, by omega, by omega⟩, rfl⟩
          · cases hz1 : decide (9223372036854775807 < z)
            all_goals
              cases hz2 : decide (9223372036854775808 < z)
              all_goals
                go_wp2_with fail
                all_goals
                  go_ret3
                  exact ⟨⟨_, s.size, _, rfl, by omega, by first | (simp; done) | (intro _; have := hkn.out; omega), by first | omega | exact (wrap_bd _).1 | exact (wrap64_bd _).1, by first | omega | exact (wrap_bd _).2 | exact (wrap64_bd _).2⟩, rfl⟩
        · go_wp2_with fail
          all_goals
            go_ret3
            exact ⟨⟨_, s.size, _, rfl, by omega, by simp, by omega, by omega⟩, rfl⟩

end Go.Proofs.YtldleckgkgeclaaDoor
