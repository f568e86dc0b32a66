/-
  Package confluencekeep's Row: rows equal.
-/
import Derived.Test.YtabhkfpglhfiiaaCmp
import Derived.BigQuiet
import Derived.Test.YtabhkfpglhfiiaaStructEq
namespace Go.Proofs.Ytabhkfpglhfiiaa
open Go.RowKit
def eqR : List V → List V → Bool
  | [], [] => true
  | x :: a, y :: b => V.eqB x y && eqR a b
  | _, _ => false

set_option maxHeartbeats 1000000 in
theorem keepRow_full (b o c rb ro d n : Nat) (l r : List V) (hl : l.length = n) (hr : r.length = n) (hn : n ≤ 9223372036854775807) (w : World) (hb : b < w.heap.size) (hL : VAt w b o l) (hrb : rb < w.heap.size) (hR : VAt w rb ro r) :
    Calls Try.prog 39 #[.slice (some ⟨b, o, none⟩) n c, .slice (some ⟨rb, ro, none⟩) n d] w fun e w' => e = .returned (.bool (eqR l r)) ∧ Below w.heap.size w w' := by
  have HL := Lib.hid hL
  have HR := Lib.hid hR
  have Hl := Lib.hid hl
  have Hr := Lib.hid hr
  clear hL hR hl hr
  go_enter Try.func39, Try.ntmps39
  go_wp2_with fail
  go_loopw [5] (fun i wr => ∃ k : Nat, k ≤ n ∧ i = .int .i64 k ∧ Below w.heap.size w wr ∧ Hid (eqR l r = eqR (l.drop k) (r.drop k))) (fun i _ => n - (intOf i).toNat)
  case atStart => exact ⟨0, Nat.zero_le _, rfl, Below.refl _ _, rfl⟩
  case round =>
    obtain ⟨k, hk, rfl, hbl, hz⟩ := hrel
    have HB := Lib.hid hbl
    by_cases hlt : k < n
    · obtain ⟨x, hx⟩ : ∃ x, l[k]? = some x := ⟨_, List.getElem?_eq_getElem (by rw [Hl.out]; exact hlt)⟩
      obtain ⟨y, hy⟩ : ∃ y, r[k]? = some y := ⟨_, List.getElem?_eq_getElem (by rw [Hr.out]; exact hlt)⟩
      obtain ⟨x1, x2, x3⟩ := HL.out.below hbl hb k x hx
      obtain ⟨y1, y2, y3⟩ := HR.out.below hbl hrb k y hy
      obtain ⟨xk, xn, xs⟩ := x
      obtain ⟨yk, yn, ys⟩ := y
      have x1 : wr.cell? ⟨b, o + k * 3, none⟩ = some (.int .i64 xk) := x1
      have x2 : wr.cell? ⟨b, o + k * 3 + 1, none⟩ = some (.int .i64 xn) := x2
      have x3 : wr.cell? ⟨b, o + k * 3 + 2, none⟩ = some (.string xs) := x3
      have y1 : wr.cell? ⟨rb, ro + k * 3, none⟩ = some (.int .i64 yk) := y1
      have y2 : wr.cell? ⟨rb, ro + k * 3 + 1, none⟩ = some (.int .i64 yn) := y2
      have y3 : wr.cell? ⟨rb, ro + k * 3 + 2, none⟩ = some (.string ys) := y3
      have hi0 : (0 : Int) ≤ (k : Int) := by omega
      have hi1 : (k : Int) < (n : Int) := by omega
      have Hx := Lib.hid hx
      have Hy := Lib.hid hy
      have hd : (l.drop k) = ⟨xk, xn, xs⟩ :: l.drop (k + 1) := by
        obtain ⟨h1, h2⟩ := List.getElem?_eq_some_iff.1 Hx.out
        rw [List.drop_eq_getElem_cons h1, h2]
      have hd2 : (r.drop k) = ⟨yk, yn, ys⟩ :: r.drop (k + 1) := by
        obtain ⟨h1, h2⟩ := List.getElem?_eq_some_iff.1 Hy.out
        rw [List.drop_eq_getElem_cons h1, h2]
      have hst : Hid (eqR l r = ((xk == yk && (xn == yn && xs.toList == ys.toList)) && eqR (l.drop (k + 1)) (r.drop (k + 1)))) := Lib.hid (by rw [hz.out, hd, hd2]; rfl)
      clear hx hy hz hbl hd hd2
      by_cases he : (xk == yk && (xn == yn && xs.toList == ys.toList)) = true
      · have hst2 : Hid (eqR l r = eqR (l.drop (k + 1)) (r.drop (k + 1))) := Lib.hid (by rw [hst.out, he, Bool.true_and])
        clear hst
        have hnv : ∀ w, (binOp .neq 49 (.agg #[.int .i64 xk, .int .i64 xn, .string xs]) (.agg #[.int .i64 yk, .int .i64 yn, .string ys])).run Try.prog w = .ok (.bool false) w := fun w => by rw [neq_value, he]; rfl
        have hgv := fun w => guard_value .neq (.tmp 20) (.tmp 24) #[.int .i64 xk, .int .i64 xn, .string xs] #[.int .i64 yk, .int .i64 yn, .string ys] w
        go_wp2_with fail
        go_quiet (fail)
        go_wp2_with fail
        go_roundw
        case rel => exact ⟨k + 1, by omega, by go_num, ⟨HB.out.os, HB.out.tape, HB.out.output, HB.out.size, HB.out.block⟩, hst2⟩
        case measure => simp [intOf]; omega
      · have he' : (xk == yk && (xn == yn && xs.toList == ys.toList)) = false := by simpa using he
        have hst2 : Hid (eqR l r = false) := Lib.hid (by rw [hst.out, he', Bool.false_and])
        clear hst he
        have hnv : ∀ w, (binOp .neq 49 (.agg #[.int .i64 xk, .int .i64 xn, .string xs]) (.agg #[.int .i64 yk, .int .i64 yn, .string ys])).run Try.prog w = .ok (.bool true) w := fun w => by rw [neq_value, he']; rfl
        have hgv := fun w => guard_value .neq (.tmp 20) (.tmp 24) #[.int .i64 xk, .int .i64 xn, .string xs] #[.int .i64 yk, .int .i64 yn, .string ys] w
        go_wp2_with fail
        go_quiet (fail)
        go_wp2_with fail
        go_ret
        exact ⟨by rw [hst2.out]; rfl, HB.out.os, HB.out.tape, HB.out.output, HB.out.size, HB.out.block⟩
    · have hst : Hid (eqR l r = true) := Lib.hid (by rw [hz.out, List.drop_of_length_le (by rw [Hl.out]; omega), List.drop_of_length_le (by rw [Hr.out]; omega)]; rfl)
      clear hz hbl
      go_wp2_with fail
      go_ret
      exact ⟨by rw [hst.out]; rfl, HB.out⟩
theorem eqR_len : ∀ l r : List V, l.length ≠ r.length → eqR l r = false
  | [], [], h => absurd rfl h
  | [], _ :: _, _ => rfl
  | _ :: _, [], _ => rfl
  | x :: l, y :: r, h => by
    rw [eqR, eqR_len l r (by simpa using h), Bool.and_false]
theorem keepRow_any (A D : Option Addr) (c d : Nat) (l r : List V) (hl : l.length ≤ 9223372036854775807) (hr : r.length ≤ 9223372036854775807) (w : World) (hA : VRow w w.heap.size A l) (hD : VRow w w.heap.size D r) :
    Calls Try.prog 39 #[.slice A l.length c, .slice D r.length d] w fun e w' => e = .returned (.bool (eqR l r)) ∧ Below w.heap.size w w' := by
  by_cases he : l.length = r.length
  · rcases hA with rfl | ⟨b, o, rfl, hb, hL⟩
    · obtain rfl : r = [] := List.eq_nil_of_length_eq_zero he.symm
      show Calls _ _ #[.slice A 0 c, .slice D 0 d] w fun e w' => e = .returned (.bool true) ∧ _
      clear hD he hl hr
      go_enter Try.func39, Try.ntmps39
      go_wp2_with fail
      go_loopw [5] (fun i wr => i = .int .i64 0 ∧ wr = w) (fun i _ => 0)
      case atStart => exact ⟨rfl, rfl⟩
      case round =>
        obtain ⟨rfl, rfl⟩ := hrel
        go_wp2_with fail
        go_ret
        exact ⟨rfl, Below.refl _ _⟩
    · rcases hD with rfl | ⟨rb, ro, rfl, hrb, hR⟩
      · obtain rfl : l = [] := List.eq_nil_of_length_eq_zero he
        show Calls _ _ #[.slice _ 0 c, .slice D 0 d] w fun e w' => e = .returned (.bool true) ∧ _
        clear he hl hr hL
        go_enter Try.func39, Try.ntmps39
        go_wp2_with fail
        go_loopw [5] (fun i wr => i = .int .i64 0 ∧ wr = w) (fun i _ => 0)
        case atStart => exact ⟨rfl, rfl⟩
        case round =>
          obtain ⟨rfl, rfl⟩ := hrel
          go_wp2_with fail
          go_ret
          exact ⟨rfl, Below.refl _ _⟩
      · rw [← he]
        exact keepRow_full b o c rb ro d l.length l r rfl he.symm hl w hb hL hrb hR
  · have e0 := eqR_len l r he
    have hne : ((l.length : Int) != (r.length : Int)) = true := by simp; omega
    rw [e0]
    generalize l.length = n at *
    generalize r.length = m at *
    clear hA hD e0 hl hr
    go_enter Try.func39, Try.ntmps39
    go_wp2_with fail
    go_ret
    exact ⟨rfl, Below.refl _ _⟩
end Go.Proofs.Ytabhkfpglhfiiaa
