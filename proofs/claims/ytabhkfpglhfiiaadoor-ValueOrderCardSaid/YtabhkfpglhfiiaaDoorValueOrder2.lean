/-
  ValueOrder: the early ways, and all ways together.
-/
import Derived.Test.YtabhkfpglhfiiaaDoorValueOrder
namespace Go.Proofs.YtabhkfpglhfiiaaDoor
open Go.RowKit
set_option maxRecDepth 100000 in
set_option maxHeartbeats 4000000 in
theorem valueOrder_early (ak an bk bn ck cn : Int) (sa sb sc : ByteArray) (ho : V.okB ⟨ak, an, sa⟩ = false ∨ V.okB ⟨ak, an, sa⟩ = true ∧ V.okB ⟨bk, bn, sb⟩ = false ∨ V.okB ⟨ak, an, sa⟩ = true ∧ V.okB ⟨bk, bn, sb⟩ = true ∧ V.okB ⟨ck, cn, sc⟩ = false)
    (w : World) (hSS : Hid (∀ w1, Below w.heap.size w w1 → ShowsAt w1)) :
    Calls Tryd.prog 6 #[.agg #[.int .i64 ak, .int .i64 an, .string sa], .agg #[.int .i64 bk, .int .i64 bn, .string sb], .agg #[.int .i64 ck, .int .i64 cn, .string sc]] w fun e w' => e = .returned (.bool true) ∧ Below w.heap.size w w' := by
  have hra := Lib.hid (value_right ak an sa)
  have hrb := Lib.hid (value_right bk bn sb)
  have hrc := Lib.hid (value_right ck cn sc)
  have hS := Lib.hid (hSS.out w (Below.refl _ _))
  clear hSS
  obtain ⟨W0, hW0⟩ : ∃ W0, W0 = ((w.alloc (.cells #[.int .i64 ak, .int .i64 an, .string sa] 24)).alloc (.cells #[.int .i64 bk, .int .i64 bn, .string sb] 24)).alloc (.cells #[.int .i64 ck, .int .i64 cn, .string sc] 24) := ⟨_, rfl⟩
  have hbx : Hid (∀ w1, Below W0.heap.size W0 w1 → Box3 w1 w.heap.size ak an sa ∧ Box3 w1 (w.heap.size + 1) bk bn sb ∧ Box3 w1 (w.heap.size + 2) ck cn sc) := Lib.hid fun w1 h1 => by
    subst hW0
    have hs : w.heap.size + 2 < (((w.alloc (.cells #[.int .i64 ak, .int .i64 an, .string sa] 24)).alloc (.cells #[.int .i64 bk, .int .i64 bn, .string sb] 24)).alloc (.cells #[.int .i64 ck, .int .i64 cn, .string sc] 24)).heap.size := by simp
    exact ⟨(((Box3.new w ak an sa _).alloc (by simp) _).alloc (by simp; omega) _).on (by omega) h1, ((Box3.new' _ _ bk bn sb _ (by simp)).alloc (by simp) _).on (by omega) h1, (Box3.new' _ _ ck cn sc _ (by simp)).on (by omega) h1⟩
  have hB0 : Hid (Below w.heap.size w W0) := Lib.hid (by subst hW0; exact (((Below.refl _ _).alloc (Nat.le_refl _) _).alloc (by simp) _).alloc (by simp; omega) _)
  have HW0 := Lib.hid hW0
  rcases ho with oa | ⟨oa, ob⟩ | ⟨oa, ob, oc⟩
  · rw [oa] at hra
    clear hrb hrc oa
    go_enter Tryd.func6, Tryd.ntmps6
    go_wp2_with fail
    rw [← hW0]
    clear hW0 HW0
    refine (hra.out _).mono ?_
    rintro e w1 ⟨rfl, hw1⟩
    have B1 : Hid (Below W0.heap.size W0 w1) := Lib.hid (by rw [← hw1]; exact (Below.refl _ _).alloc (Nat.le_refl _) _)
    clear hw1 hra
    go_wp2_with fail
    refine (known4 w w1 hS (Lib.hid (hB0.out.trans (B1.out.mono hB0.out.size)))).mono ?_
    rintro e w2 ⟨rfl, b2⟩
    have B2 := Lib.hid b2
    clear b2
    go_wp2_with fail
    go_ret
    exact ⟨rfl, B2.out⟩
  · rw [oa] at hra
    rw [ob] at hrb
    clear hrc oa ob
    go_enter Tryd.func6, Tryd.ntmps6
    go_wp2_with fail
    rw [← hW0]
    clear hW0 HW0
    refine (hra.out _).mono ?_
    rintro e w1 ⟨rfl, hw1⟩
    have B1 : Hid (Below W0.heap.size W0 w1) := Lib.hid (by rw [← hw1]; exact (Below.refl _ _).alloc (Nat.le_refl _) _)
    obtain ⟨⟨a1, a2, a3⟩, ⟨b1, b2, b3⟩, ⟨c1, c2, c3⟩⟩ := hbx.out w1 B1.out
    clear hw1 hra
    go_wp2_with fail
    refine (hrb.out _).mono ?_
    rintro e w2 ⟨rfl, hw2⟩
    have B2 : Hid (Below W0.heap.size W0 w2) := Lib.hid (B1.out.trans (by rw [← hw2]; exact (Below.refl _ _).alloc B1.out.size _))
    clear hw2 hrb B1 a1 a2 a3 b1 b2 b3 c1 c2 c3
    go_wp2_with fail
    refine (known4 w w2 hS (Lib.hid (hB0.out.trans (B2.out.mono hB0.out.size)))).mono ?_
    rintro e w3 ⟨rfl, b3⟩
    have B3 := Lib.hid b3
    clear b3
    go_wp2_with fail
    go_ret
    exact ⟨rfl, B3.out⟩
  · rw [oa] at hra
    rw [ob] at hrb
    rw [oc] at hrc
    clear oa ob oc
    go_enter Tryd.func6, Tryd.ntmps6
    go_wp2_with fail
    rw [← hW0]
    clear hW0 HW0
    refine (hra.out _).mono ?_
    rintro e w1 ⟨rfl, hw1⟩
    have B1 : Hid (Below W0.heap.size W0 w1) := Lib.hid (by rw [← hw1]; exact (Below.refl _ _).alloc (Nat.le_refl _) _)
    obtain ⟨⟨a1, a2, a3⟩, ⟨b1, b2, b3⟩, ⟨c1, c2, c3⟩⟩ := hbx.out w1 B1.out
    clear hw1 hra
    go_wp2_with fail
    refine (hrb.out _).mono ?_
    rintro e w2 ⟨rfl, hw2⟩
    have B2 : Hid (Below W0.heap.size W0 w2) := Lib.hid (B1.out.trans (by rw [← hw2]; exact (Below.refl _ _).alloc B1.out.size _))
    clear a1 a2 a3 b1 b2 b3 c1 c2 c3
    obtain ⟨⟨a1, a2, a3⟩, ⟨b1, b2, b3⟩, ⟨c1, c2, c3⟩⟩ := hbx.out w2 B2.out
    clear hw2 hrb B1
    go_wp2_with fail
    refine (hrc.out _).mono ?_
    rintro e w3 ⟨rfl, hw3⟩
    have B3 : Hid (Below W0.heap.size W0 w3) := Lib.hid (B2.out.trans (by rw [← hw3]; exact (Below.refl _ _).alloc B2.out.size _))
    clear hw3 hrc B2 a1 a2 a3 b1 b2 b3 c1 c2 c3
    go_wp2_with fail
    refine (known4 w w3 hS (Lib.hid (hB0.out.trans (B3.out.mono hB0.out.size)))).mono ?_
    rintro e w4 ⟨rfl, b4⟩
    have B4 := Lib.hid b4
    clear b4
    go_wp2_with fail
    go_ret
    exact ⟨rfl, B4.out⟩
theorem valueOrder_any (ak an bk bn ck cn : Int) (sa sb sc : ByteArray)
    (wa : -9223372036854775808 ≤ an ∧ an ≤ 9223372036854775807) (wb : -9223372036854775808 ≤ bn ∧ bn ≤ 9223372036854775807) (w : World) (hSS : Hid (∀ w1, Below w.heap.size w w1 → ShowsAt w1)) :
    Calls Tryd.prog 6 #[.agg #[.int .i64 ak, .int .i64 an, .string sa], .agg #[.int .i64 bk, .int .i64 bn, .string sb], .agg #[.int .i64 ck, .int .i64 cn, .string sc]] w fun e w' => e = .returned (.bool true) ∧ Below w.heap.size w w' := by
  cases oa : V.okB ⟨ak, an, sa⟩
  · exact valueOrder_early _ _ _ _ _ _ _ _ _ (.inl oa) w hSS
  · cases ob : V.okB ⟨bk, bn, sb⟩
    · exact valueOrder_early _ _ _ _ _ _ _ _ _ (.inr (.inl ⟨oa, ob⟩)) w hSS
    · cases oc : V.okB ⟨ck, cn, sc⟩
      · exact valueOrder_early _ _ _ _ _ _ _ _ _ (.inr (.inr ⟨oa, ob, oc⟩)) w hSS
      · exact valueOrder_main ak an bk bn ck cn sa sb sc oa ob oc wa wb w hSS
end Go.Proofs.YtabhkfpglhfiiaaDoor
