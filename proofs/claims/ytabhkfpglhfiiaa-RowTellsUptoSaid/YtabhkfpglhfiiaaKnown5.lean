/-
  Some of chapter 5's runs ('known').
-/
import Derived.Test.YtabhkfpglhfiiaaNums
import Derived.Test.YtabhkfpglhfiiaaName
import Derived.Test.YtabhkfpglhfiiaaFits
namespace Go.Proofs.Ytabhkfpglhfiiaa
open Go.RowKit

def NewRowAt (w : World) (n : Nat) (l : List V) (e : Ending) (w' : World) : Prop := ∃ A c, e = .returned (.slice A n c) ∧ VRow w' w'.heap.size A l ∧ Below w.heap.size w w'

/-- 'Nums(x)', 'Nums(x, y)' of a literal's numbers -/
theorem nums_one (x : Int) (w : World) (t : TypeId) :
    Calls Try.prog 32 #[.slice (some ⟨w.heap.size, 0, none⟩) 1 1] (w.alloc (.cells #[.int .i64 x] t)) (NewRowAt w 1 [numV x]) :=
  (nums_any w.heap.size 0 1 [x] 1 rfl (by omega) (w.alloc (.cells #[.int .i64 x] t)) (by simp) (fun k hk => by
    obtain rfl : k = 0 := by omega
    simp)).mono fun e w' ⟨v, he, hown, hb⟩ => by
      obtain ⟨A, c, hv, _, hr, _⟩ := own_row hown
      exact ⟨A, c, by rw [he, hv]; rfl, hr, ((Below.refl _ _).alloc (Nat.le_refl _) _).trans (hb.mono (by simp))⟩
theorem nums_two (x y : Int) (w : World) (t : TypeId) :
    Calls Try.prog 32 #[.slice (some ⟨w.heap.size, 0, none⟩) 2 2] (w.alloc (.cells #[.int .i64 x, .int .i64 y] t)) (NewRowAt w 2 [numV x, numV y]) :=
  (nums_any w.heap.size 0 2 [x, y] 2 rfl (by omega) (w.alloc (.cells #[.int .i64 x, .int .i64 y] t)) (by simp) (fun k hk => by
    have : k = 0 ∨ k = 1 := by omega
    rcases this with rfl | rfl <;> simp)).mono fun e w' ⟨v, he, hown, hb⟩ => by
      obtain ⟨A, c, hv, _, hr, _⟩ := own_row hown
      exact ⟨A, c, by rw [he, hv]; rfl, hr, ((Below.refl _ _).alloc (Nat.le_refl _) _).trans (hb.mono (by simp))⟩

theorem rowLess_len {n m : Nat} {a b : List V} {q : Bool} (hn : a.length = n) (hm : b.length = m) (hq : rowLess a b = q) (hn' : n ≤ 1000) (hm' : m ≤ 1000) (A D : Option Addr) (c d : Nat) (w : World) (hA : VRow w w.heap.size A a) (hD : VRow w w.heap.size D b) :
    Calls Try.prog 38 #[.slice A n c, .slice D m d] w fun e w' => e = .returned (.bool q) ∧ Below w.heap.size w w' := by
  subst hn hm hq
  exact rowLess_any A D c d a b (by omega) (by omega) w hA hD

theorem fits_len {n m : Nat} {l : List C} {r : List V} {q : Bool} (hn : l.length = n) (hm : r.length = m) (hq : fitsB l r = q) (hn' : n ≤ 1000) (hm' : m ≤ 1000) (A D : Option Addr) (c d : Nat) (w : World) (hA : CRow w w.heap.size A l) (hD : VRow w w.heap.size D r) :
    Calls Try.prog 23 #[.slice A n c, .slice D m d] w fun e w' => e = .returned (.bool q) ∧ Below w.heap.size w w' := by
  subst hn hm hq
  exact fits_any A D c d l r (by omega) (by omega) w hA hD
/-- a literal of one column, of one value -/
theorem crow_lit (w : World) (nm : ByteArray) (k : Int) (t : TypeId) : CRow (w.alloc (.cells #[.string nm, .int .i64 k] t)) (w.heap.size + 1) (some ⟨w.heap.size, 0, none⟩) [⟨nm, k⟩] :=
  .inr ⟨w.heap.size, 0, rfl, by omega, fun i c hc => by
    match i, hc with
    | 0, hc => obtain rfl : (⟨nm, k⟩ : C) = c := by simpa using hc
               simp⟩
theorem vrow_lit (w : World) (v : V) (t : TypeId) : VRow (w.alloc (.cells #[.int .i64 v.k, .int .i64 v.n, .string v.s] t)) (w.heap.size + 1) (some ⟨w.heap.size, 0, none⟩) [v] :=
  .inr ⟨w.heap.size, 0, rfl, by omega, fun i c hc => by
    match i, hc with
    | 0, hc => obtain rfl : v = c := by simpa using hc
               simp⟩

set_option maxHeartbeats 1000000 in
theorem known5 (w : World) : Calls Try.prog 24 #[] w fun e w' => e = .returned (.bool true) ∧ Below w.heap.size w w' := by
  go_enter Try.func24, Try.ntmps24
  go_wp2_with fail
  refine (nums_one 1 w _).mono ?_
  rintro e w1 ⟨A1, c1, rfl, hr1, hb1⟩
  have R1 := Lib.hid hr1
  have B1 := Lib.hid hb1
  clear hr1 hb1
  go_wp2_with fail
  refine (nums_two 1 2 w1 _).mono ?_
  rintro e w2 ⟨A2, c2, rfl, hr2, hb2⟩
  have R2 := Lib.hid hr2
  have R1' := Lib.hid ((R1.out.below hb2).more hb2.size)
  have B2 := Lib.hid (B1.out.trans (hb2.mono B1.out.size))
  clear hr2 hb2 R1 B1
  go_wp2_with fail
  refine (rowLess_len (n := 1) (m := 2) (a := [numV 1]) (b := [numV 1, numV 2]) (q := true) rfl rfl (by decide +kernel) (by omega) (by omega) A1 A2 c1 c2 w2 R1'.out R2.out).mono ?_
  rintro e w3 ⟨rfl, hb3⟩
  have B3 := Lib.hid (B2.out.trans (hb3.mono B2.out.size))
  clear hb3 R1' R2 B2
  go_wp2_with fail
  refine (nums_one 2 w3 _).mono ?_
  rintro e w4 ⟨A4, c4, rfl, hr4, hb4⟩
  have R4 := Lib.hid hr4
  have B4 := Lib.hid (B3.out.trans (hb4.mono B3.out.size))
  clear hr4 hb4 B3
  go_wp2_with fail
  refine (nums_two 1 2 w4 _).mono ?_
  rintro e w5 ⟨A5, c5, rfl, hr5, hb5⟩
  have R5 := Lib.hid hr5
  have R4' := Lib.hid ((R4.out.below hb5).more hb5.size)
  have B5 := Lib.hid (B4.out.trans (hb5.mono B4.out.size))
  clear hr5 hb5 R4 B4
  go_wp2_with fail
  refine (rowLess_len (n := 1) (m := 2) (a := [numV 2]) (b := [numV 1, numV 2]) (q := false) rfl rfl (by decide +kernel) (by omega) (by omega) A4 A5 c4 c5 w5 R4'.out R5.out).mono ?_
  rintro e w6 ⟨rfl, hb6⟩
  have B6 := Lib.hid (B5.out.trans (hb6.mono B5.out.size))
  clear hb6 R4' R5 B5
  go_wp2_with fail
  refine (keep_str _ _).mono ?_
  rintro e w' ⟨rfl, rfl⟩
  go_wp2_with fail
  have hC := Lib.hid ((crow_lit w6 ⟨#[97]⟩ 1 43).below (((Below.refl _ _).alloc (by simp) (.cells #[.int .i64 2, .int .i64 0, .string ⟨#[120]⟩] 49)).alloc (by simp) (.cells #[.int .i64 2, .int .i64 0, .string ⟨#[120]⟩] 49)))
  have hD := Lib.hid (vrow_lit ((w6.alloc (.cells #[.string ⟨#[97]⟩, .int .i64 1] 43)).alloc (.cells #[.int .i64 2, .int .i64 0, .string ⟨#[120]⟩] 49)) ⟨2, 0, ⟨#[120]⟩⟩ 49)
  have hfit0 := (fits_len (n := 1) (m := 1) (l := [⟨⟨#[97]⟩, 1⟩]) (r := [⟨2, 0, ⟨#[120]⟩⟩]) (q := false) rfl rfl (by decide +kernel) (by omega) (by omega) _ _ 1 1 _ (hC.out.more (by simp <;> omega)) (hD.out.more (by simp)))
  simp only [World.size_alloc] at hfit0
  have hfit := Lib.hid hfit0
  clear hfit0 hC hD
  refine hfit.out.mono ?_
  rintro e w7 ⟨rfl, hb7⟩
  have B7 := Lib.hid ((((B6.out.alloc B6.out.size _).alloc (by have := B6.out.size; simp; omega) _).alloc (by have := B6.out.size; simp; omega) _).trans (hb7.mono (by have := B6.out.size; simp; omega)))
  clear hb7 B6
  go_wp2_with fail
  refine (name_any _ _).mono ?_
  rintro e w' ⟨rfl, rfl⟩
  rw [show nameB ⟨#[97]⟩ = true from by decide +kernel]
  go_wp2_with fail
  refine (name_any _ _).mono ?_
  rintro e w' ⟨rfl, rfl⟩
  rw [show nameB ⟨#[116, 97, 98, 108, 101]⟩ = false from by decide +kernel]
  go_wp2_with fail
  go_ret
  exact ⟨rfl, B7.out⟩

end Go.Proofs.Ytabhkfpglhfiiaa
