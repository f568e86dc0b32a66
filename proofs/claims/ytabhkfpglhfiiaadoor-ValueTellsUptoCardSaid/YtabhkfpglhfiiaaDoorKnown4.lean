/-
  Some of chapter 4's runs ('known'); Num, Str.
-/
import Derived.Test.YtabhkfpglhfiiaaDoorQuote
namespace Go.Proofs.YtabhkfpglhfiiaaDoor
open Go.RowKit
theorem v_num (n : Int) (w : World) :
    Calls Tryd.prog 9 #[.int .i64 n] w fun e w' => e = .returned (.agg #[.int .i64 1, .int .i64 n, .string ⟨#[]⟩]) ∧ w.alloc (.cells #[.int .i64 1, .int .i64 n, .string ⟨#[]⟩] 24) = w' := by
  go_enter Tryd.func9, Tryd.ntmps9
  go_wp2
  exact bodyPost_ret (v := .agg #[.int .i64 1, .int .i64 n, .string ⟨#[]⟩]) (by simp [results, Tryd.results9, go_sem]) rfl ⟨rfl, rfl⟩
theorem v_str (s : ByteArray) (w : World) :
    Calls Tryd.prog 8 #[.string s] w fun e w' => e = .returned (.agg #[.int .i64 2, .int .i64 0, .string s]) ∧ w.alloc (.cells #[.int .i64 2, .int .i64 0, .string s] 24) = w' := by
  go_enter Tryd.func8, Tryd.ntmps8
  go_wp2
  exact bodyPost_ret (v := .agg #[.int .i64 2, .int .i64 0, .string s]) (by simp [results, Tryd.results8, go_sem]) rfl ⟨rfl, rfl⟩
/-- value.Show in a world behind w -/
def ShowsAt (w : World) : Prop := ∀ (w1 : World) (k n : Int) (s : ByteArray), Below w.heap.size w w1 → -9223372036854775808 ≤ n → n ≤ 9223372036854775807 →
  Calls Tryd.prog 7 #[.agg #[.int .i64 k, .int .i64 n, .string s]] w1 fun e w' => e = .returned (.string ⟨(showL ⟨k, n, s⟩).toArray⟩) ∧ Below w.heap.size w w'
theorem showsAt {B : Nat} {w : World} (hB : B ≤ w.heap.size) (hT : Lib.TabBelow Tryd.prog B w "internal/strconv.uint64pow10" .u64 Lib.pow10Tab) : ShowsAt w := fun w1 k n s hb h0 h1 =>
  (value_show k n s h0 h1 B w1 (by have := hb.size; omega) (hT.on (hb.mono hB))).mono fun e w' ⟨he, h2⟩ => ⟨he, hb.trans (h2.mono hb.size)⟩
set_option maxHeartbeats 1000000 in
theorem known4 (w w0 : World) (hS : Hid (ShowsAt w)) (hb0 : Hid (Below w.heap.size w w0)) : Calls Tryd.prog 10 #[] w0 fun e w' => e = .returned (.bool true) ∧ Below w.heap.size w w' := by
  have l1 : Hid (V.lt ⟨1, 9, ⟨#[]⟩⟩ ⟨2, 0, ⟨#[]⟩⟩ = true) := Lib.hid (by decide +kernel)
  have l2 : Hid (V.lt ⟨2, 0, ⟨#[97]⟩⟩ ⟨2, 0, ⟨#[97, 98]⟩⟩ = true) := Lib.hid (by decide +kernel)
  have s1 : Hid (showL ⟨1, -5, ⟨#[]⟩⟩ = [45, 53]) := Lib.hid (by
    have h : V.okB ⟨1, -5, ⟨#[]⟩⟩ = true := by decide +kernel
    unfold showL
    rw [h]
    show Lib.itoa (-5) = _
    unfold Lib.itoa
    rw [if_pos (by decide)]
    show 45 :: Lib.decDigits 5 = _
    rw [Lib.decDigits, dif_pos (by decide)]
    rfl)
  have s2 : Hid (showL ⟨2, 0, ⟨#[97, 34, 98]⟩⟩ = [34, 97, 92, 50, 50, 98, 34]) := Lib.hid (by
    have h : V.okB ⟨2, 0, ⟨#[97, 34, 98]⟩⟩ = true := by decide +kernel
    unfold showL
    rw [h]
    show quoteL [97, 34, 98] = _
    decide +kernel)
  go_enter Tryd.func10, Tryd.ntmps10
  go_wp2_with fail
  refine (v_num 9 _).mono ?_
  rintro e w1 ⟨rfl, hw1⟩
  have B1 := Lib.hid (hb0.out.trans (by rw [← hw1]; exact (Below.refl _ _).alloc hb0.out.size _ : Below w.heap.size w0 w1))
  clear hw1
  go_wp2_with fail
  refine (v_str _ _).mono ?_
  rintro e w2 ⟨rfl, hw2⟩
  have B2 := Lib.hid (B1.out.trans (by rw [← hw2]; exact (Below.refl _ _).alloc B1.out.size _ : Below w.heap.size w1 w2))
  clear hw2
  go_wp2_with fail
  refine (value_less _ _ _ _ _ _ _).mono ?_
  rintro e w3 ⟨rfl, b3⟩
  have B3 := Lib.hid (B2.out.trans (b3.mono B2.out.size))
  clear b3
  rw [l1.out]
  go_wp2_with fail
  refine (v_str _ _).mono ?_
  rintro e w4 ⟨rfl, hw4⟩
  have B4 := Lib.hid (B3.out.trans (by rw [← hw4]; exact (Below.refl _ _).alloc B3.out.size _ : Below w.heap.size w3 w4))
  clear hw4
  go_wp2_with fail
  refine (v_str _ _).mono ?_
  rintro e w5 ⟨rfl, hw5⟩
  have B5 := Lib.hid (B4.out.trans (by rw [← hw5]; exact (Below.refl _ _).alloc B4.out.size _ : Below w.heap.size w4 w5))
  clear hw5
  go_wp2_with fail
  refine (value_less _ _ _ _ _ _ _).mono ?_
  rintro e w6 ⟨rfl, b6⟩
  have B6 := Lib.hid (B5.out.trans (b6.mono B5.out.size))
  clear b6
  rw [l2.out]
  go_wp2_with fail
  refine (v_num (-5) _).mono ?_
  rintro e w7 ⟨rfl, hw7⟩
  have B7 := Lib.hid (B6.out.trans (by rw [← hw7]; exact (Below.refl _ _).alloc B6.out.size _ : Below w.heap.size w6 w7))
  clear hw7
  go_wp2_with fail
  refine (hS.out _ _ _ _ B7.out (by decide) (by decide)).mono ?_
  rintro e w8 ⟨rfl, b8⟩
  have B8 := Lib.hid b8
  clear b8
  rw [s1.out]
  go_wp2_with fail
  refine (v_str _ _).mono ?_
  rintro e w9 ⟨rfl, hw9⟩
  have B9 := Lib.hid (B8.out.trans (by rw [← hw9]; exact (Below.refl _ _).alloc B8.out.size _ : Below w.heap.size w8 w9))
  clear hw9
  go_wp2_with fail
  refine (hS.out _ _ _ _ B9.out (by decide) (by decide)).mono ?_
  rintro e w10 ⟨rfl, b10⟩
  have B10 := Lib.hid b10
  clear b10
  rw [s2.out]
  go_wp2_with fail
  go_ret
  exact ⟨rfl, B10.out⟩
end Go.Proofs.YtabhkfpglhfiiaaDoor
