/-
  Package confluenceref4's Digits.
-/
import Derived.Test.YtabhkfpglhfiiaaDoorShow
namespace Go.Proofs.YtabhkfpglhfiiaaDoor
open Go.RowKit
def strEmpty : Value → Nat
  | .string b => if b.size = 0 then 1 else 0
  | _ => 0
def digS (m : Nat) (l : List UInt8) : List UInt8 := if m = 0 ∧ l ≠ [] then l else Lib.decDigits m ++ l
theorem digS_step (m : Nat) (l : List UInt8) (h : 0 < m ∨ l = []) : digS (m / 10) (UInt8.ofNat (48 + m % 10) :: l) = digS m l := by
  unfold digS
  have h1 : ¬ (m = 0 ∧ l ≠ []) := by rintro ⟨rfl, h2⟩; rcases h with h | h; omega; exact h2 h
  rw [if_neg h1]
  by_cases h2 : m < 10
  · have e1 : m / 10 = 0 := by omega
    have e2 : m % 10 = m := by omega
    rw [e1, e2, if_pos ⟨rfl, by simp⟩, Lib.decDigits, dif_pos h2]
    rfl
  · have e1 : m / 10 ≠ 0 := by omega
    rw [if_neg (fun h => e1 h.1), Lib.decDigits.eq_1 m, dif_neg h2, List.append_assoc]
    rfl
theorem strEmpty_cons (c : UInt8) (l : List UInt8) : strEmpty (.string ⟨(c :: l).toArray⟩) = 0 := by
  show (if (ByteArray.mk (c :: l).toArray).size = 0 then 1 else 0) = 0
  exact if_neg (by show ¬ (c :: l).length = 0; simp)
theorem dig_fin : ∀ i : Fin 10, (ByteArray.mk #[48, 49, 50, 51, 52, 53, 54, 55, 56, 57]).extract i.val (i.val + 1) = ⟨#[UInt8.ofNat (48 + i.val)]⟩ := by decide +kernel
theorem dig_cat (m : Nat) (l : List UInt8) : (ByteArray.mk #[48, 49, 50, 51, 52, 53, 54, 55, 56, 57]).extract (m % 10) (m % 10 + 1) ++ ⟨l.toArray⟩ = ⟨(UInt8.ofNat (48 + m % 10) :: l).toArray⟩ := by
  rw [dig_fin ⟨m % 10, by omega⟩]
  apply ByteArray.ext
  simp
set_option maxRecDepth 100000 in
set_option maxHeartbeats 1000000 in
theorem digits_any (n : Int) (h0 : -9223372036854775808 ≤ n) (h1 : n ≤ 9223372036854775807) (w : World) :
    Calls Tryd.prog 42 #[.int .i64 n] w fun e w' => e = .returned (.string ⟨(Lib.itoa n).toArray⟩) ∧ w' = w := by
  obtain ⟨M, hM⟩ : ∃ M : Nat, M = n.natAbs := ⟨_, rfl⟩
  have HM := Lib.hid hM
  have hMb : M < 18446744073709551616 := by omega
  clear hM
  go_enter Tryd.func42, Tryd.ntmps42
  go_upto_if 9 with (fail)
  go_cut [3] (fun s3 wx => s3 = .int .u64 M ∧ wx = w)
  case first =>
    by_cases hn : n < 0
    · have e1 : Hid (IntKind.u64.wrap (IntKind.u64.wrap (-(n + 1)) + 1) = M) := Lib.hid (by rw [IntKind.wrap_u64, IntKind.wrap_u64, HM.out]; omega)
      go_wp2
      go_meet
      exact ⟨by first | (with_reducible rfl) | exact congrArg (Value.int .u64) e1.out | exact congrArg (Value.int .u64) (by have := HM.out; omega), rfl⟩
    · have e1 : Hid (IntKind.u64.wrap n = M) := Lib.hid (by rw [IntKind.wrap_u64, HM.out]; omega)
      go_wp2
      go_meet
      exact ⟨by first | (with_reducible rfl) | exact congrArg (Value.int .u64) e1.out | exact congrArg (Value.int .u64) (by have := HM.out; omega), rfl⟩
  case rest =>
  obtain ⟨rfl, hwc⟩ := hcut
  obtain rfl : w = wc := hwc.symm
  clear hwc
  go_wp2_with fail
  go_loop [3, 4] (fun u s => ∃ (m : Nat) (l : List UInt8), u = .int .u64 m ∧ s = .string ⟨l.toArray⟩ ∧ m < 18446744073709551616 ∧ Hid (digS m l = Lib.decDigits M)) (fun u s => 2 * (intOf u).toNat + strEmpty s)
  case atStart => exact ⟨M, [], rfl, rfl, hMb, Lib.hid (by unfold digS; rw [if_neg (by simp), List.append_nil])⟩
  case round =>
    obtain ⟨m, l, rfl, rfl, hm, hz⟩ := hrel
    have hll : l.length ≤ 20 := by
      have h2 := congrArg List.length hz.out
      rw [Lib.decDigits_length] at h2
      have h3 := Lib.nDigits_le20 M hMb
      have h4 : l.length ≤ (digS m l).length := by unfold digS; split <;> simp
      omega
    by_cases hgo : 0 < m ∨ l = []
    · have hst := Lib.hid ((digS_step m l hgo).trans hz.out)
      clear hz
      have h10 : (m : Int) % 10 < 10 := by omega
      have h11 : 0 ≤ (m : Int) % 10 := by omega
      have hmin : min (m % 10 + 1) 10 = m % 10 + 1 := by omega
      have hHid : Hid (m / 10 < 18446744073709551616) := Lib.hid (by omega)
      by_cases hm0 : 0 < m
      · have d1 : decide (0 < (m : Int)) = true := decide_eq_true (by omega)
        go_wp2
        go_round
        case rel => exact ⟨m / 10, UInt8.ofNat (48 + m % 10) :: l, by go_num, by rw [dig_cat], hHid.out, hst⟩
        case measure =>
          show 2 * (intOf (.int .u64 ((m : Int) / 10))).toNat + strEmpty (.string (_ ++ _)) < 2 * (intOf (.int .u64 (m : Int))).toNat + strEmpty _
          rw [dig_cat, strEmpty_cons]
          simp only [intOf]
          omega
      · obtain rfl : m = 0 := by omega
        obtain rfl : l = [] := by rcases hgo with h | h; omega; exact h
        go_wp2
        go_round
        case rel => exact ⟨0, [48], rfl, rfl, by decide, hst⟩
        case measure => simp [intOf, strEmpty]; decide
    · obtain rfl : m = 0 := by omega
      have hl : l ≠ [] := fun h => hgo (.inr h)
      have hf : Hid (l = Lib.decDigits M) := Lib.hid (by have := hz.out; unfold digS at this; rwa [if_pos ⟨rfl, hl⟩] at this)
      have hsz : l.isEmpty = false := by cases l with | nil => exact absurd rfl hl | cons a l => rfl
      clear hz hgo
      by_cases hn : n < 0
      · have hi : Hid (Lib.itoa n = 45 :: l) := Lib.hid (by unfold Lib.itoa; rw [if_pos hn, hf.out, HM.out])
        go_wp2
        go_ret
        refine ⟨?_, rfl⟩
        rw [hi.out]
        show Ending.returned (Value.string (_ ++ _)) = _
        have e : (ByteArray.mk #[45]) ++ ⟨l.toArray⟩ = ⟨(45 :: l).toArray⟩ := by apply ByteArray.ext; simp
        rw [e]
      · have hi : Hid (Lib.itoa n = l) := Lib.hid (by unfold Lib.itoa; rw [if_neg hn, hf.out, HM.out]; congr 1; omega)
        go_wp2
        go_ret
        exact ⟨by rw [hi.out]; rfl, rfl⟩
end Go.Proofs.YtabhkfpglhfiiaaDoor
