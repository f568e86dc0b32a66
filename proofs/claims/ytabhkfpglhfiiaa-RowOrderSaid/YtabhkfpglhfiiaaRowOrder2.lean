/-
  RowOrder, whatever the rows.
-/
import Derived.Test.YtabhkfpglhfiiaaRowOrder
namespace Go.Proofs.Ytabhkfpglhfiiaa
open Go.RowKit
set_option maxRecDepth 100000 in
set_option maxHeartbeats 4000000 in
theorem rowOrder_any (A D E : Option Addr) (ca cb cc : Nat) (a b c : List V) (ha : a.length ≤ 9223372036854775807) (hb : b.length ≤ 9223372036854775807) (hc : c.length ≤ 9223372036854775807) (hca : a.length ≤ ca)
    (hw : ∀ v ∈ a, -9223372036854775808 ≤ v.n ∧ v.n ≤ 9223372036854775807) (w : World) (hA : VRow w w.heap.size A a) (hD : VRow w w.heap.size D b) (hE : VRow w w.heap.size E c) :
    Calls Try.prog 8 #[.slice A a.length ca, .slice D b.length cb, .slice E c.length cc] w fun e w' => e = .returned (.bool true) ∧ Below w.heap.size w w' := by
  have hra : Hid (∀ w1, Below w.heap.size w w1 → Calls Try.prog 25 #[.slice A a.length ca] w1 fun e w' => e = .returned (.bool (rowOk a)) ∧ Below w1.heap.size w1 w') := Lib.hid fun w1 h1 => rowRight_any A ca a ha w1 (hA.kept h1)
  have hrb : Hid (∀ w1, Below w.heap.size w w1 → Calls Try.prog 25 #[.slice D b.length cb] w1 fun e w' => e = .returned (.bool (rowOk b)) ∧ Below w1.heap.size w1 w') := Lib.hid fun w1 h1 => rowRight_any D cb b hb w1 (hD.kept h1)
  have hrc : Hid (∀ w1, Below w.heap.size w w1 → Calls Try.prog 25 #[.slice E c.length cc] w1 fun e w' => e = .returned (.bool (rowOk c)) ∧ Below w1.heap.size w1 w') := Lib.hid fun w1 h1 => rowRight_any E cc c hc w1 (hE.kept h1)
  by_cases ra : rowOk a = true
  · by_cases rb : rowOk b = true
    · by_cases rc : rowOk c = true
      · rw [ra] at hra
        rw [rb] at hrb
        rw [rc] at hrc
        have hn : 0 < a.length := by
          unfold rowOk at ra
          simp only [Bool.and_eq_true, decide_eq_true_eq] at ra
          exact ra.1.1
        obtain ⟨bk, o, rfl, hbk, hv⟩ : ∃ bk o, A = some ⟨bk, o, none⟩ ∧ bk < w.heap.size ∧ VAt w bk o a := by
          rcases id hA with h | h
          · subst h; simp at hn
          · exact h
        obtain ⟨o1, o2⟩ := order_one ra rb
        have e2 : rowSame a b = eqR a b := by simpa using o2
        refine rowOrder_main bk o ca cb cc D E a b c (rowLess a b) (rowLess b a) (eqR a b) (rowLess b c) (rowLess a c) ha hca hn ra hw w hA hra hrb hrc ?_ ?_ ?_ ?_ ?_ ?_ ?_ ?_ ?_
        · exact Lib.hid fun w1 h1 => rowLess_any _ D ca cb a b ha hb w1 (hA.kept h1) (hD.kept h1)
        · exact Lib.hid fun w1 h1 => rowLess_any D _ cb ca b a hb ha w1 (hD.kept h1) (hA.kept h1)
        · exact Lib.hid fun w1 h1 => rowLess_any D E cb cc b c hb hc w1 (hD.kept h1) (hE.kept h1)
        · exact Lib.hid fun w1 h1 => rowLess_any _ E ca cc a c ha hc w1 (hA.kept h1) (hE.kept h1)
        · exact Lib.hid fun w1 h1 => by
            have := rowSame_any _ D ca cb a b ha hb w1 (hA.kept h1) (hD.kept h1)
            rwa [e2] at this
        · exact Lib.hid fun w1 h1 => keepRow_any _ D ca cb a b ha hb w1 (hA.kept h1) (hD.kept h1)
        · refine Lib.hid fun m hm hm0 w1 h1 => ?_
          have hl : (a.take m).length = m := by rw [List.length_take]; omega
          have := rowLess_any (some ⟨bk, o, none⟩) (some ⟨bk, o, none⟩) ca ca (a.take m) a (by omega) ha w1 (.inr ⟨bk, o, rfl, by have := h1.size; omega, fun i v hi => (hv.below h1 hbk) i v (by
            rw [List.getElem?_take] at hi
            split at hi
            · exact hi
            · cases hi)⟩) (hA.kept h1)
          rwa [order_prefix ra hm0 (by omega), hl] at this
        · refine Lib.hid ?_
          unfold rowLess
          rw [ra, rb]
          rcases cmpR_tri a b (rowOk_all ra) (rowOk_all rb) with ⟨h1, h2, h3⟩ | ⟨h1, h2, h3⟩ | ⟨h1, h2, h3⟩
          · left; rw [h1, h2]; exact ⟨rfl, rfl, by cases h : eqR a b; rfl; exact absurd ((eqR_iff a b).1 h) h3⟩
          · right; left; rw [h1, h2]; exact ⟨rfl, rfl, by cases h : eqR a b; rfl; exact absurd ((eqR_iff a b).1 h) h3⟩
          · right; right; rw [h1, h2]; exact ⟨rfl, rfl, (eqR_iff a b).2 h3⟩
        · exact Lib.hid fun h1 h2 => order_trans ra rb rc h1 h2
      · have rc' : rowOk c = false := by simpa using rc
        rw [ra] at hra
        rw [rb] at hrb
        rw [rc'] at hrc
        clear hA hD hE ra rb rc rc' hw ha hb hc hca
        generalize a.length = n at *
        generalize b.length = m at *
        generalize c.length = k at *
        go_enter Try.func8, Try.ntmps8
        go_wp2_with fail
        refine (hra.out w (Below.refl _ _)).mono ?_
        rintro e w1 ⟨rfl, b1⟩
        have B1 := Lib.hid b1
        clear b1
        go_wp2_with fail
        refine (hrb.out w1 B1.out).mono ?_
        rintro e w2 ⟨rfl, b2⟩
        have B2 := Lib.hid (B1.out.trans (b2.mono B1.out.size))
        clear b2
        go_wp2_with fail
        refine (hrc.out w2 B2.out).mono ?_
        rintro e w3 ⟨rfl, b3⟩
        have B3 := Lib.hid (B2.out.trans (b3.mono B2.out.size))
        clear b3
        go_wp2_with fail
        refine (known5 w3).mono ?_
        rintro e w4 ⟨rfl, b4⟩
        have B4 := Lib.hid (B3.out.trans (b4.mono B3.out.size))
        clear b4
        go_wp2_with fail
        go_ret
        exact ⟨rfl, B4.out⟩
    · have rb' : rowOk b = false := by simpa using rb
      rw [ra] at hra
      rw [rb'] at hrb
      clear hA hD hE ra rb rb' hw ha hb hc hca hrc
      generalize a.length = n at *
      generalize b.length = m at *
      generalize c.length = k at *
      go_enter Try.func8, Try.ntmps8
      go_wp2_with fail
      refine (hra.out w (Below.refl _ _)).mono ?_
      rintro e w1 ⟨rfl, b1⟩
      have B1 := Lib.hid b1
      clear b1
      go_wp2_with fail
      refine (hrb.out w1 B1.out).mono ?_
      rintro e w2 ⟨rfl, b2⟩
      have B2 := Lib.hid (B1.out.trans (b2.mono B1.out.size))
      clear b2
      go_wp2_with fail
      refine (known5 w2).mono ?_
      rintro e w4 ⟨rfl, b4⟩
      have B4 := Lib.hid (B2.out.trans (b4.mono B2.out.size))
      clear b4
      go_wp2_with fail
      go_ret
      exact ⟨rfl, B4.out⟩
  · have ra' : rowOk a = false := by simpa using ra
    rw [ra'] at hra
    clear hA hD hE ra ra' hw ha hb hc hca hrb hrc
    generalize a.length = n at *
    generalize b.length = m at *
    generalize c.length = k at *
    go_enter Try.func8, Try.ntmps8
    go_wp2_with fail
    refine (hra.out w (Below.refl _ _)).mono ?_
    rintro e w1 ⟨rfl, b1⟩
    have B1 := Lib.hid b1
    clear b1
    go_wp2_with fail
    refine (known5 w1).mono ?_
    rintro e w4 ⟨rfl, b4⟩
    have B4 := Lib.hid (B1.out.trans (b4.mono B1.out.size))
    clear b4
    go_wp2_with fail
    go_ret
    exact ⟨rfl, B4.out⟩
end Go.Proofs.Ytabhkfpglhfiiaa
