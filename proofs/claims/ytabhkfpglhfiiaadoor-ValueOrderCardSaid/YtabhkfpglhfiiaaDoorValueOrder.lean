/-
  The walk of ValueOrder.
-/
import Derived.Test.YtabhkfpglhfiiaaDoorKnown4
import Derived.Test.YtabhkfpglhfiiaaDoorShowInj
import Derived.Test.YtabhkfpglhfiiaaDoorValTrip
import Derived.Test.YtabhkfpglhfiiaaDoorValueShows
import Derived.Deep.RegionHeld3
namespace Go.Proofs.YtabhkfpglhfiiaaDoor
open Go.RowKit
/-- three boxes, as the world grows behind them -/
def Box3 (w : World) (p : Nat) (k n : Int) (s : ByteArray) : Prop := w.cell? ⟨p, 0, none⟩ = some (.int .i64 k) ∧ w.cell? ⟨p, 1, none⟩ = some (.int .i64 n) ∧ w.cell? ⟨p, 2, none⟩ = some (.string s)
theorem Box3.on {w w1 : World} {p B : Nat} {k n : Int} {s : ByteArray} (h : Box3 w p k n s) (hp : p < B) (hb : Below B w w1) : Box3 w1 p k n s :=
  ⟨(hb.cell hp).trans h.1, (hb.cell hp).trans h.2.1, (hb.cell hp).trans h.2.2⟩
theorem Box3.new (w : World) (k n : Int) (s : ByteArray) (t : TypeId) : Box3 (w.alloc (.cells #[.int .i64 k, .int .i64 n, .string s] t)) w.heap.size k n s := by
  unfold Box3; simp
theorem Box3.new' (w : World) (p : Nat) (k n : Int) (s : ByteArray) (t : TypeId) (hp : p = w.heap.size) : Box3 (w.alloc (.cells #[.int .i64 k, .int .i64 n, .string s] t)) p k n s := by
  subst hp; exact Box3.new w k n s t
theorem Box3.alloc {w : World} {p : Nat} {k n : Int} {s : ByteArray} (h : Box3 w p k n s) (hp : p < w.heap.size) (o : Obj) : Box3 (w.alloc o) p k n s :=
  ⟨(World.cell?_alloc_lt w o _ hp).trans h.1, (World.cell?_alloc_lt w o _ hp).trans h.2.1, (World.cell?_alloc_lt w o _ hp).trans h.2.2⟩
theorem vB_small {v : V} (h : v.s.size ≤ 40) : (vB v).length ≤ 1000 := by have := vB_len v; omega
theorem ok_size {v : V} (h : V.okB v = true) : v.s.size ≤ 40 := by
  rcases ok_cases h with ⟨_, h2⟩ | ⟨h1, _⟩
  · have : v.s.toList.length = 0 := by rw [h2]; rfl
    rw [ByteArray.toList_eq] at this
    have e : v.s.size = 0 := this
    omega
  · unfold V.okB at h
    rw [h1] at h
    simp at h
    omega
theorem twelve_of {w1 : World} {pa pb pc px : Nat} {ak an bk bn ck cn xk xn : Int} {sa sb sc sx : ByteArray} (h : (Box3 w1 pa ak an sa ∧ Box3 w1 pb bk bn sb ∧ Box3 w1 pc ck cn sc) ∧ Box3 w1 px xk xn sx) :
    w1.cell? ⟨pa, 0, none⟩ = some (.int .i64 ak) ∧
    w1.cell? ⟨pa, 1, none⟩ = some (.int .i64 an) ∧
    w1.cell? ⟨pa, 2, none⟩ = some (.string sa) ∧
    w1.cell? ⟨pb, 0, none⟩ = some (.int .i64 bk) ∧
    w1.cell? ⟨pb, 1, none⟩ = some (.int .i64 bn) ∧
    w1.cell? ⟨pb, 2, none⟩ = some (.string sb) ∧
    w1.cell? ⟨pc, 0, none⟩ = some (.int .i64 ck) ∧
    w1.cell? ⟨pc, 1, none⟩ = some (.int .i64 cn) ∧
    w1.cell? ⟨pc, 2, none⟩ = some (.string sc) ∧
    w1.cell? ⟨px, 0, none⟩ = some (.int .i64 xk) ∧
    w1.cell? ⟨px, 1, none⟩ = some (.int .i64 xn) ∧
    w1.cell? ⟨px, 2, none⟩ = some (.string sx) :=
  ⟨h.1.1.1, h.1.1.2.1, h.1.1.2.2, h.1.2.1.1, h.1.2.1.2.1, h.1.2.1.2.2, h.1.2.2.1, h.1.2.2.2.1, h.1.2.2.2.2, h.2.1, h.2.2.1, h.2.2.2⟩
set_option maxRecDepth 100000 in
set_option maxHeartbeats 4000000 in
theorem valueOrder_main (ak an bk bn ck cn : Int) (sa sb sc : ByteArray) (oa : V.okB ⟨ak, an, sa⟩ = true) (ob : V.okB ⟨bk, bn, sb⟩ = true) (oc : V.okB ⟨ck, cn, sc⟩ = true)
    (wa : -9223372036854775808 ≤ an ∧ an ≤ 9223372036854775807) (wb : -9223372036854775808 ≤ bn ∧ bn ≤ 9223372036854775807) (w : World) (hSS : Hid (∀ w1, Below w.heap.size w w1 → ShowsAt w1)) :
    Calls Tryd.prog 6 #[.agg #[.int .i64 ak, .int .i64 an, .string sa], .agg #[.int .i64 bk, .int .i64 bn, .string sb], .agg #[.int .i64 ck, .int .i64 cn, .string sc]] w fun e w' => e = .returned (.bool true) ∧ Below w.heap.size w w' := by
  have hra := Lib.hid (value_right ak an sa)
  have hrb := Lib.hid (value_right bk bn sb)
  have hrc := Lib.hid (value_right ck cn sc)
  have hab := Lib.hid (value_less ak an sa bk bn sb)
  have hba := Lib.hid (value_less bk bn sb ak an sa)
  have hbc := Lib.hid (value_less bk bn sb ck cn sc)
  have hac := Lib.hid (value_less ak an sa ck cn sc)
  have htr : Hid (V.lt ⟨ak, an, sa⟩ ⟨bk, bn, sb⟩ = true → V.lt ⟨bk, bn, sb⟩ ⟨ck, cn, sc⟩ = true → V.lt ⟨ak, an, sa⟩ ⟨ck, cn, sc⟩ = true) := Lib.hid V.lt_trans
  have htri : Hid ((V.lt ⟨ak, an, sa⟩ ⟨bk, bn, sb⟩ != V.lt ⟨bk, bn, sb⟩ ⟨ak, an, sa⟩) = !(V.eqB ⟨ak, an, sa⟩ ⟨bk, bn, sb⟩)) := Lib.hid (by
    have hf : ∀ x y : V, x ≠ y → V.eqB x y = false := fun x y h => by
      cases h2 : V.eqB x y
      · rfl
      · exact absurd ((eqB_iff x y).1 h2) h
    rcases V.tri oa ob with ⟨h1, h2, h3⟩ | ⟨h1, h2, h3⟩ | ⟨h1, h2, h3⟩
    · rw [h1, h2, hf _ _ h3]; rfl
    · rw [h1, h2, hf _ _ h3]; rfl
    · rw [h1, h2, (eqB_iff _ _).2 h3]; rfl)
  have hse := Lib.hid (show_eq oa ob)
  have hsa : Hid (sa.size ≤ 40) := Lib.hid (ok_size oa)
  have hvb : Hid ((vB ⟨ak, an, sa⟩).length ≤ 1000) := Lib.hid (vB_small (ok_size oa))
  have htrip := Lib.hid (value_trip ⟨ak, an, sa⟩ oa wa)
  have Wa := Lib.hid wa
  have Wb := Lib.hid wb
  rw [oa] at hra
  rw [ob] at hrb
  rw [oc] at hrc
  have e0 : V.eqB ⟨ak, an, sa⟩ ⟨bk, bn, sb⟩ = (ak == bk && (an == bn && sa.toList == sb.toList)) := rfl
  rw [e0] at htri hse
  have hN : Hid (∀ w1, (binOp .neq 24 (.agg #[.int .i64 ak, .int .i64 an, .string sa]) (.agg #[.int .i64 bk, .int .i64 bn, .string sb])).run Tryd.prog w1 = .ok (.bool (!(ak == bk && (an == bn && sa.toList == sb.toList)))) w1) := Lib.hid fun w1 => neq_value _ _ _ _ _ _ w1
  have hE : Hid (∀ w1, (binOp .eql 24 (.agg #[.int .i64 ak, .int .i64 an, .string sa]) (.agg #[.int .i64 bk, .int .i64 bn, .string sb])).run Tryd.prog w1 = .ok (.bool (ak == bk && (an == bn && sa.toList == sb.toList))) w1) := Lib.hid fun w1 => eql_value _ _ _ _ _ _ w1
  have hX : Hid (∀ w1, (binOp .eql 24 (.agg #[.int .i64 ak, .int .i64 an, .string sa]) (.agg #[.int .i64 ak, .int .i64 an, .string sa])).run Tryd.prog w1 = .ok (.bool true) w1) := Lib.hid fun w1 => by rw [eql_value]; simp
  obtain ⟨SA, hSA⟩ : ∃ S, Hid (S = ByteArray.mk (showL ⟨ak, an, sa⟩).toArray) := ⟨_, Lib.hid rfl⟩
  obtain ⟨SB, hSB⟩ : ∃ S, Hid (S = ByteArray.mk (showL ⟨bk, bn, sb⟩).toArray) := ⟨_, Lib.hid rfl⟩
  have hse : Hid ((SA.toList == SB.toList) = (ak == bk && (an == bn && sa.toList == sb.toList))) := Lib.hid (by rw [hSA.out, hSB.out]; exact hse.out)
  generalize (ak == bk && (an == bn && sa.toList == sb.toList)) = q at *
  clear oa ob oc wa wb e0
  generalize V.lt ⟨ak, an, sa⟩ ⟨bk, bn, sb⟩ = la at *
  generalize V.lt ⟨bk, bn, sb⟩ ⟨ak, an, sa⟩ = lb at *
  generalize V.lt ⟨bk, bn, sb⟩ ⟨ck, cn, sc⟩ = lbc at *
  generalize V.lt ⟨ak, an, sa⟩ ⟨ck, cn, sc⟩ = lac at *
  obtain ⟨W0, hW0⟩ : ∃ W0, W0 = ((w.alloc (.cells #[.int .i64 ak, .int .i64 an, .string sa] 24)).alloc (.cells #[.int .i64 bk, .int .i64 bn, .string sb] 24)).alloc (.cells #[.int .i64 ck, .int .i64 cn, .string sc] 24) := ⟨_, rfl⟩
  have hbx : Hid (∀ w1, Below W0.heap.size W0 w1 → Box3 w1 w.heap.size ak an sa ∧ Box3 w1 (w.heap.size + 1) bk bn sb ∧ Box3 w1 (w.heap.size + 2) ck cn sc) := Lib.hid fun w1 h1 => by
    subst hW0
    have hs : w.heap.size + 2 < (((w.alloc (.cells #[.int .i64 ak, .int .i64 an, .string sa] 24)).alloc (.cells #[.int .i64 bk, .int .i64 bn, .string sb] 24)).alloc (.cells #[.int .i64 ck, .int .i64 cn, .string sc] 24)).heap.size := by simp
    exact ⟨(((Box3.new w ak an sa _).alloc (by simp) _).alloc (by simp; omega) _).on (by omega) h1, ((Box3.new' _ _ bk bn sb _ (by simp)).alloc (by simp) _).on (by omega) h1, (Box3.new' _ _ ck cn sc _ (by simp)).on (by omega) h1⟩
  have hB0 : Hid (Below w.heap.size w W0) := Lib.hid (by subst hW0; exact (((Below.refl _ _).alloc (Nat.le_refl _) _).alloc (by simp) _).alloc (by simp; omega) _)
  have HW0 := Lib.hid hW0
  go_enter Tryd.func6, Tryd.ntmps6
  go_wp2_with fail
  rw [← hW0]
  clear hW0 HW0
  refine (hra.out _).mono ?_
  rintro e w1 ⟨rfl, hw1⟩
  have B1 : Hid (Below W0.heap.size W0 w1) := Lib.hid (by rw [← hw1]; exact (Below.refl _ _).alloc (Nat.le_refl _) _)
  obtain ⟨⟨a1, a2, a3⟩, ⟨b1, b2, b3⟩, ⟨c1, c2, c3⟩⟩ := hbx.out w1 B1.out
  clear hw1 hra
  go_wp2_with fail
  refine (hrb.out _).mono ?_
  rintro e w2 ⟨rfl, hw2⟩
  have B2 : Hid (Below W0.heap.size W0 w2) := Lib.hid (B1.out.trans (by rw [← hw2]; exact (Below.refl _ _).alloc B1.out.size _))
  obtain ⟨⟨a1, a2, a3⟩, ⟨b1, b2, b3⟩, ⟨c1, c2, c3⟩⟩ := hbx.out w2 B2.out
  clear hw2 hrb B1
  go_wp2_with fail
  refine (hrc.out _).mono ?_
  rintro e w3 ⟨rfl, hw3⟩
  have B3 : Hid (Below W0.heap.size W0 w3) := Lib.hid (B2.out.trans (by rw [← hw3]; exact (Below.refl _ _).alloc B2.out.size _))
  obtain ⟨⟨a1, a2, a3⟩, ⟨b1, b2, b3⟩, ⟨c1, c2, c3⟩⟩ := hbx.out w3 B3.out
  clear hw3 hrc B2
  go_wp2_with fail
  refine (newWriter (fun k => W0.heap.size ≤ k) w3 B3.out.size).mono ?_
  rintro e w4 ⟨rfl, hw4, b4⟩
  have W4 := Lib.hid hw4
  have B4 := Lib.hid (B3.out.trans (b4.mono B3.out.size))
  obtain ⟨⟨a1, a2, a3⟩, ⟨b1, b2, b3⟩, ⟨c1, c2, c3⟩⟩ := hbx.out w4 B4.out
  clear hw4 b4
  generalize w3.heap.size = g at *
  clear B3
  go_wp2_with fail
  refine (value_put (fun k => W0.heap.size ≤ k) g [] ⟨ak, an, sa⟩ (by simp) (by have := hsa.out; show sa.size ≤ _; omega) w4 W4.out (fun k hk => by have := B4.out.size; omega)).mono ?_
  rintro e w5 ⟨rfl, hw5, o5⟩
  rw [List.nil_append] at hw5
  have W5 := Lib.hid hw5
  have B5 := Lib.hid (B4.out.trans (o5.below fun k h => h))
  obtain ⟨⟨a1, a2, a3⟩, ⟨b1, b2, b3⟩, ⟨c1, c2, c3⟩⟩ := hbx.out w5 B5.out
  clear hw5 o5 W4 B4
  go_wp2_with fail
  refine (wDone (fun k => W0.heap.size ≤ k) g _ (by have := hvb.out; omega) w5 W5.out).mono ?_
  rintro e w6 ⟨v6, rfl, own6, b6⟩
  have O6 := Lib.hid (own_bts own6)
  have B6 := Lib.hid (B5.out.trans (b6.mono B5.out.size))
  clear own6 b6 W5 B5
  go_wp2_with fail
  refine (newReader v6 _ (by have := hvb.out; omega) w6 O6.out).mono ?_
  rintro e w7 ⟨g2, rfl, hg1, hg2, hr7, b7⟩
  have R7 := Lib.hid hr7
  have hs6 := B6.out.size
  have B7 := Lib.hid (B6.out.trans (b7.mono B6.out.size))
  have hs7 := B7.out.size
  clear hr7 b7 B6 O6
  go_wp2_with fail
  refine (value_get (fun k => k = g2 ∨ w7.heap.size ≤ k) g2 ⟨vB ⟨ak, an, sa⟩, 0, 0, 0⟩ w7 (fun k hk => .inr hk) R7.out).mono ?_
  rintro e w8 ⟨rfl, hr8, o8⟩
  rw [htrip.out.1, show V.val ⟨ak, an, sa⟩ = .agg #[.int .i64 ak, .int .i64 an, .string sa] from rfl]
  have B8 := Lib.hid (B7.out.trans (o8.below hs7 (by omega)))
  have hs8 := B8.out.size
  have hr8a := hr8.kept (w' := w8.alloc (.cells #[.int .i64 ak, .int .i64 an, .string sa] 24)) ((Below.refl _ _).alloc (Nat.le_refl _) _)
  have R8 := Lib.hid hr8a
  have hb8a : Below W0.heap.size W0 (w8.alloc (.cells #[.int .i64 ak, .int .i64 an, .string sa] 24)) := B8.out.alloc B8.out.size _
  have B8a := Lib.hid hb8a
  obtain ⟨p9, hp9⟩ : ∃ p, p = w8.heap.size := ⟨_, rfl⟩
  obtain ⟨W8, hW8⟩ : ∃ W, W = w8.alloc (.cells #[.int .i64 ak, .int .i64 an, .string sa] 24) := ⟨_, rfl⟩
  have hx9 : Hid (∀ w1, Below W8.heap.size W8 w1 → Box3 w1 p9 ak an sa) := Lib.hid fun w1 h1 => by
    subst hW8
    subst hp9
    exact (Box3.new _ _ _ _ _).on (by simp) h1
  have hB8 : Hid (Below W0.heap.size W0 W8) := Lib.hid (by rw [hW8]; exact hb8a)
  rw [← hW8] at R8
  have HW8 := Lib.hid hW8
  clear hr8 o8 R7 B7 hr8a hb8a B8a
  go_wp2_with fail
  rw [← hW8, ← hp9]
  clear hW8 hp9 HW8
  refine (rEnd _ g2 _ W8 R8.out).mono ?_
  rw [htrip.out.2.1, htrip.out.2.2]
  rintro e w9 ⟨rfl, b9⟩
  have T9 := Lib.hid b9
  have LB : Hid (∀ w1, Below W8.heap.size W8 w1 → Below W0.heap.size W0 w1) := Lib.hid fun w1 h => hB8.out.trans (h.mono hB8.out.size)
  have hall : Hid (∀ w1, Below W8.heap.size W8 w1 → (Box3 w1 w.heap.size ak an sa ∧ Box3 w1 (w.heap.size + 1) bk bn sb ∧ Box3 w1 (w.heap.size + 2) ck cn sc) ∧ Box3 w1 p9 ak an sa) := Lib.hid fun w1 h => ⟨hbx.out w1 (LB.out w1 h), hx9.out w1 h⟩
  have LW : Hid (∀ w1, Below W8.heap.size W8 w1 → Below w.heap.size w w1) := Lib.hid fun w1 h => hB0.out.trans ((LB.out w1 h).mono hB0.out.size)
  have hS8 := Lib.hid (hSS.out W8 (LW.out W8 (Below.refl _ _)))
  have hAB : Hid (∀ w1, Below W8.heap.size W8 w1 → Calls Tryd.prog 16 #[.agg #[.int .i64 ak, .int .i64 an, .string sa], .agg #[.int .i64 bk, .int .i64 bn, .string sb]] w1 fun e w' => e = .returned (.bool la) ∧ Below W8.heap.size W8 w') := Lib.hid fun w1 h1 => (hab.out w1).mono fun e w' h => ⟨h.1, h1.trans (h.2.mono h1.size)⟩
  have hAB2 := hAB
  have hBA : Hid (∀ w1, Below W8.heap.size W8 w1 → Calls Tryd.prog 16 #[.agg #[.int .i64 bk, .int .i64 bn, .string sb], .agg #[.int .i64 ak, .int .i64 an, .string sa]] w1 fun e w' => e = .returned (.bool lb) ∧ Below W8.heap.size W8 w') := Lib.hid fun w1 h1 => (hba.out w1).mono fun e w' h => ⟨h.1, h1.trans (h.2.mono h1.size)⟩
  have hBC : Hid (∀ w1, Below W8.heap.size W8 w1 → Calls Tryd.prog 16 #[.agg #[.int .i64 bk, .int .i64 bn, .string sb], .agg #[.int .i64 ck, .int .i64 cn, .string sc]] w1 fun e w' => e = .returned (.bool lbc) ∧ Below W8.heap.size W8 w') := Lib.hid fun w1 h1 => (hbc.out w1).mono fun e w' h => ⟨h.1, h1.trans (h.2.mono h1.size)⟩
  have hAC : Hid (∀ w1, Below W8.heap.size W8 w1 → Calls Tryd.prog 16 #[.agg #[.int .i64 ak, .int .i64 an, .string sa], .agg #[.int .i64 ck, .int .i64 cn, .string sc]] w1 fun e w' => e = .returned (.bool lac) ∧ Below W8.heap.size W8 w') := Lib.hid fun w1 h1 => (hac.out w1).mono fun e w' h => ⟨h.1, h1.trans (h.2.mono h1.size)⟩
  have hSa : Hid (∀ w1, Below W8.heap.size W8 w1 → Calls Tryd.prog 7 #[.agg #[.int .i64 ak, .int .i64 an, .string sa]] w1 fun e w' => e = .returned (.string SA) ∧ Below W8.heap.size W8 w') := Lib.hid fun w1 h1 => by rw [hSA.out]; exact hS8.out w1 ak an sa h1 Wa.out.1 Wa.out.2
  have hSb : Hid (∀ w1, Below W8.heap.size W8 w1 → Calls Tryd.prog 7 #[.agg #[.int .i64 bk, .int .i64 bn, .string sb]] w1 fun e w' => e = .returned (.string SB) ∧ Below W8.heap.size W8 w') := Lib.hid fun w1 h1 => by rw [hSB.out]; exact hS8.out w1 bk bn sb h1 Wb.out.1 Wb.out.2
  have hKn : Hid (∀ w1, Below W8.heap.size W8 w1 → Calls Tryd.prog 10 #[] w1 fun e w' => e = .returned (.bool true) ∧ Below W8.heap.size W8 w') := Lib.hid fun w1 h1 => known4 W8 w1 hS8 (Lib.hid h1)
  clear hab hba hbc hac hS8 Wa Wb
  clear b9 R8 hx9 hbx hB8 LB hB0 hs6 hs7 hs8 hg1 hg2 htrip hvb hsa
  clear a1 a2 a3 b1 b2 b3 c1 c2 c3
  obtain ⟨⟨⟨a1, a2, a3⟩, ⟨b1, b2, b3⟩, ⟨c1, c2, c3⟩⟩, ⟨x1, x2, x3⟩⟩ := hall.out w9 T9.out
  go_wp2_with fail
  have T0 := Lib.hid (T9.out.drew)
  clear T9
  go_region_held3 (fun w' => w'.cell? ⟨w.heap.size, 0, none⟩ = some (.int .i64 ak) ∧ w'.cell? ⟨w.heap.size, 1, none⟩ = some (.int .i64 an) ∧ w'.cell? ⟨w.heap.size, 2, none⟩ = some (.string sa) ∧ w'.cell? ⟨w.heap.size + 1, 0, none⟩ = some (.int .i64 bk) ∧ w'.cell? ⟨w.heap.size + 1, 1, none⟩ = some (.int .i64 bn) ∧ w'.cell? ⟨w.heap.size + 1, 2, none⟩ = some (.string sb) ∧ w'.cell? ⟨w.heap.size + 1 + 1, 0, none⟩ = some (.int .i64 ck) ∧ w'.cell? ⟨w.heap.size + 1 + 1, 1, none⟩ = some (.int .i64 cn) ∧ w'.cell? ⟨w.heap.size + 1 + 1, 2, none⟩ = some (.string sc) ∧ w'.cell? ⟨p9, 0, none⟩ = some (.int .i64 ak) ∧ w'.cell? ⟨p9, 1, none⟩ = some (.int .i64 an) ∧ w'.cell? ⟨p9, 2, none⟩ = some (.string sa)) (exact twelve_of (hall.out _ (Hid.out (by assumption))))
    (first
      | (go_at_call 16; refine (hAB.out _ (Hid.out (by assumption))).mono ?_; rintro e wA ⟨rfl, bA⟩; have TA := Lib.hid bA; clear bA hAB)
      | (go_at_call 16; refine (hBA.out _ (Hid.out (by assumption))).mono ?_; rintro e wB ⟨rfl, bB⟩; have TB := Lib.hid bB; clear bB hBA))
  go_wp2_with fail
  rw [show (!la == lb) = !q from htri.out]
  have T1 := Lib.hid (TB.out.drew)
  clear T0 TA TB htri a1 a2 a3 b1 b2 b3 c1 c2 c3 x1 x2 x3
  have hN := hN.out
  have hE := hE.out
  have hX := hX.out
  have hse := hse.out
  rcases Bool.eq_false_or_eq_true la with rfl | rfl
  · rcases Bool.eq_false_or_eq_true lbc with rfl | rfl
    · obtain rfl := htr.out rfl rfl
      clear htr
      go_region_held3 (fun w' => w'.cell? ⟨w.heap.size, 0, none⟩ = some (.int .i64 ak) ∧ w'.cell? ⟨w.heap.size, 1, none⟩ = some (.int .i64 an) ∧ w'.cell? ⟨w.heap.size, 2, none⟩ = some (.string sa) ∧ w'.cell? ⟨w.heap.size + 1, 0, none⟩ = some (.int .i64 bk) ∧ w'.cell? ⟨w.heap.size + 1, 1, none⟩ = some (.int .i64 bn) ∧ w'.cell? ⟨w.heap.size + 1, 2, none⟩ = some (.string sb) ∧ w'.cell? ⟨w.heap.size + 1 + 1, 0, none⟩ = some (.int .i64 ck) ∧ w'.cell? ⟨w.heap.size + 1 + 1, 1, none⟩ = some (.int .i64 cn) ∧ w'.cell? ⟨w.heap.size + 1 + 1, 2, none⟩ = some (.string sc) ∧ w'.cell? ⟨p9, 0, none⟩ = some (.int .i64 ak) ∧ w'.cell? ⟨p9, 1, none⟩ = some (.int .i64 an) ∧ w'.cell? ⟨p9, 2, none⟩ = some (.string sa)) (exact twelve_of (hall.out _ (Hid.out (by assumption))))
        (first
          | (go_at_call 16; refine (hAB2.out _ (Hid.out (by assumption))).mono ?_; rintro e wA ⟨rfl, bA⟩; have TA := Lib.hid bA; clear bA hAB2)
          | (go_at_call 16; refine (hBC.out _ (Hid.out (by assumption))).mono ?_; rintro e wB ⟨rfl, bB⟩; have TB := Lib.hid bB; clear bB hBC)
          | (go_at_call 16; refine (hAC.out _ (Hid.out (by assumption))).mono ?_; rintro e wB ⟨rfl, bB⟩; have TB := Lib.hid bB; clear bB hAC)
          | (go_at_call 7; refine (hSa.out _ (Hid.out (by assumption))).mono ?_; rintro e wA ⟨rfl, bA⟩; have TA := Lib.hid bA; clear bA hSa)
          | (go_at_call 7; refine (hSb.out _ (Hid.out (by assumption))).mono ?_; rintro e wA ⟨rfl, bA⟩; have TA := Lib.hid bA; clear bA hSb)
          | (go_at_call 10; refine (hKn.out _ (Hid.out (by assumption))).mono ?_; rintro e wK ⟨rfl, bK⟩; have TK := Lib.hid bK; clear bK hKn))
      go_wp2_with fail
      go_ret
      exact ⟨rfl, LW.out _ (Hid.out (by assumption))⟩
    · clear htr
      refine wp_region_held_drew (S := fun w' => w'.cell? ⟨w.heap.size, 0, none⟩ = some (.int .i64 ak) ∧ w'.cell? ⟨w.heap.size, 1, none⟩ = some (.int .i64 an) ∧ w'.cell? ⟨w.heap.size, 2, none⟩ = some (.string sa) ∧ w'.cell? ⟨w.heap.size + 1, 0, none⟩ = some (.int .i64 bk) ∧ w'.cell? ⟨w.heap.size + 1, 1, none⟩ = some (.int .i64 bn) ∧ w'.cell? ⟨w.heap.size + 1, 2, none⟩ = some (.string sb) ∧ w'.cell? ⟨w.heap.size + 1 + 1, 0, none⟩ = some (.int .i64 ck) ∧ w'.cell? ⟨w.heap.size + 1 + 1, 1, none⟩ = some (.int .i64 cn) ∧ w'.cell? ⟨w.heap.size + 1 + 1, 2, none⟩ = some (.string sc) ∧ w'.cell? ⟨p9, 0, none⟩ = some (.int .i64 ak) ∧ w'.cell? ⟨p9, 1, none⟩ = some (.int .i64 an) ∧ w'.cell? ⟨p9, 2, none⟩ = some (.string sa)) (by kernel_rfl) (twelve_of (hall.out _ (Hid.out (by assumption)))) (fun hHeld => ?_)
      refine wpAnyH_take (i := 0) (v := .bool (!q)) rfl (by kernel_rfl) (by kernel_rfl) (by kernel_rfl) (fun _ _ _ h => h) (Or.inl ⟨by rfl, fun w1 hSw => by (dsimp only at hSw; go_simp)⟩) (by assumption) ?_
      simp only [List.getElem_toArray, List.getElem_cons_zero, Act.put, List.setIfInBounds_toArray, List.set_cons_zero, List.set_cons_succ]
      refine wpAnyH_take (i := 1) (v := .agg #[.int .i64 ak, .int .i64 an, .string sa]) rfl (by kernel_rfl) (by kernel_rfl) (by kernel_rfl) (fun _ _ _ h => h) (Or.inl ⟨by rfl, fun w1 hSw => by (dsimp only at hSw; go_simp)⟩) (by assumption) ?_
      simp only [List.getElem_toArray, List.getElem_cons_succ, List.getElem_cons_zero, Act.put, List.setIfInBounds_toArray, List.set_cons_zero, List.set_cons_succ]
      refine wpAnyH_take (i := 2) (v := .agg #[.int .i64 bk, .int .i64 bn, .string sb]) rfl (by kernel_rfl) (by kernel_rfl) (by kernel_rfl) (fun _ _ _ h => h) (Or.inl ⟨by rfl, fun w1 hSw => by (dsimp only at hSw; go_simp)⟩) (by assumption) ?_
      simp only [List.getElem_toArray, List.getElem_cons_succ, List.getElem_cons_zero, Act.put, List.setIfInBounds_toArray, List.set_cons_zero, List.set_cons_succ]
      refine wpAnyH_take (i := 3) (v := .bool (!q)) rfl (by kernel_rfl) (by kernel_rfl) (by kernel_rfl) (fun _ _ _ h => h) (Or.inl ⟨by rfl, fun w1 hSw => by (dsimp only at hSw; go_simp)⟩) (by assumption) ?_
      simp only [List.getElem_toArray, List.getElem_cons_succ, List.getElem_cons_zero, Act.put, List.setIfInBounds_toArray, List.set_cons_zero, List.set_cons_succ]
      refine wpAnyH_take (i := 4) (v := .bool true) rfl (by kernel_rfl) (by kernel_rfl) (by kernel_rfl) (fun _ _ _ h => h) (Or.inl ⟨by rfl, fun w1 hSw => by (dsimp only at hSw; go_simp)⟩) (by assumption) ?_
      simp only [List.getElem_toArray, List.getElem_cons_succ, List.getElem_cons_zero, Act.put, List.setIfInBounds_toArray, List.set_cons_zero, List.set_cons_succ]
      refine wpAnyH_take (i := 5) (v := .bool true) rfl (by kernel_rfl) (by kernel_rfl) (by kernel_rfl) (fun _ _ _ h => h) (Or.inl ⟨by rfl, fun w1 hSw => by (dsimp only at hSw; go_simp)⟩) (by assumption) ?_
      simp only [List.getElem_toArray, List.getElem_cons_succ, List.getElem_cons_zero, Act.put, List.setIfInBounds_toArray, List.set_cons_zero, List.set_cons_succ]
      refine wpAnyH_take (i := 6) (v := .agg #[.int .i64 ak, .int .i64 an, .string sa]) rfl (by kernel_rfl) (by kernel_rfl) (by kernel_rfl) (fun _ _ _ h => h) (Or.inl ⟨by rfl, fun w1 hSw => by (dsimp only at hSw; go_simp)⟩) (by assumption) ?_
      simp only [List.getElem_toArray, List.getElem_cons_succ, List.getElem_cons_zero, Act.put, List.setIfInBounds_toArray, List.set_cons_zero, List.set_cons_succ]
      refine wpAnyH_take (i := 7) (v := .agg #[.int .i64 bk, .int .i64 bn, .string sb]) rfl (by kernel_rfl) (by kernel_rfl) (by kernel_rfl) (fun _ _ _ h => h) (Or.inl ⟨by rfl, fun w1 hSw => by (dsimp only at hSw; go_simp)⟩) (by assumption) ?_
      simp only [List.getElem_toArray, List.getElem_cons_succ, List.getElem_cons_zero, Act.put, List.setIfInBounds_toArray, List.set_cons_zero, List.set_cons_succ]
      refine wpAnyH_ready (rs := [8]) (by kernel_rfl) (by simp) ?_
      refine AllReadyH.cons rfl (fun K hK => ?_) AllReadyH.nil
      simp only [List.getElem_toArray, List.getElem_cons_succ, List.getElem_cons_zero]
      go_simp
      refine (hAB2.out _ (Hid.out (by assumption))).mono ?_
      rintro e w' ⟨rfl, bA⟩
      have T8 := Lib.hid bA
      clear bA hAB2 hHeld
      go_wp2_with fail
      refine hK.out _ _ (twelve_of (hall.out _ (Hid.out (by assumption)))) (fun hHeld => ?_)
      clear hK K
      refine wpAnyH_take (i := 9) (v := .bool false) rfl (by kernel_rfl) (by kernel_rfl) (by kernel_rfl) (fun _ _ _ h => h) (Or.inl ⟨by rfl, fun w1 hSw => by (dsimp only at hSw; go_simp)⟩) (by assumption) ?_
      simp only [List.getElem_toArray, List.getElem_cons_succ, List.getElem_cons_zero, Act.put, List.setIfInBounds_toArray, List.set_cons_zero, List.set_cons_succ]
      refine wpAnyH_take (i := 10) (v := .bool false) rfl (by kernel_rfl) (by kernel_rfl) (by kernel_rfl) (fun _ _ _ h => h) (Or.inl ⟨by rfl, fun w1 hSw => by (dsimp only at hSw; go_simp)⟩) (by assumption) ?_
      simp only [List.getElem_toArray, List.getElem_cons_succ, List.getElem_cons_zero, Act.put, List.setIfInBounds_toArray, List.set_cons_zero, List.set_cons_succ]
      refine wpAnyH_take (i := 11) (v := .agg #[.int .i64 bk, .int .i64 bn, .string sb]) rfl (by kernel_rfl) (by kernel_rfl) (by kernel_rfl) (fun _ _ _ h => h) (Or.inl ⟨by rfl, fun w1 hSw => by (dsimp only at hSw; go_simp)⟩) (by assumption) ?_
      simp only [List.getElem_toArray, List.getElem_cons_succ, List.getElem_cons_zero, Act.put, List.setIfInBounds_toArray, List.set_cons_zero, List.set_cons_succ]
      refine wpAnyH_take (i := 12) (v := .agg #[.int .i64 ck, .int .i64 cn, .string sc]) rfl (by kernel_rfl) (by kernel_rfl) (by kernel_rfl) (fun _ _ _ h => h) (Or.inl ⟨by rfl, fun w1 hSw => by (dsimp only at hSw; go_simp)⟩) (by assumption) ?_
      simp only [List.getElem_toArray, List.getElem_cons_succ, List.getElem_cons_zero, Act.put, List.setIfInBounds_toArray, List.set_cons_zero, List.set_cons_succ]
      refine wpAnyH_ready (rs := [13]) (by kernel_rfl) (by simp) ?_
      refine AllReadyH.cons rfl (fun K hK => ?_) AllReadyH.nil
      simp only [List.getElem_toArray, List.getElem_cons_succ, List.getElem_cons_zero]
      go_simp
      refine (hBC.out _ (Hid.out (by assumption))).mono ?_
      rintro e w' ⟨rfl, bA⟩
      have T13 := Lib.hid bA
      clear bA hBC hHeld
      go_wp2_with fail
      refine hK.out _ _ (twelve_of (hall.out _ (Hid.out (by assumption)))) (fun hHeld => ?_)
      clear hK K
      refine wpAnyH_take (i := 14) (v := .bool true) rfl (by kernel_rfl) (by kernel_rfl) (by kernel_rfl) (fun _ _ _ h => h) (Or.inl ⟨by rfl, fun w1 hSw => by (dsimp only at hSw; go_simp)⟩) (by assumption) ?_
      simp only [List.getElem_toArray, List.getElem_cons_succ, List.getElem_cons_zero, Act.put, List.setIfInBounds_toArray, List.set_cons_zero, List.set_cons_succ]
      refine wpAnyH_take (i := 15) (v := .bool true) rfl (by kernel_rfl) (by kernel_rfl) (by kernel_rfl) (fun _ _ _ h => h) (Or.inl ⟨by rfl, fun w1 hSw => by (dsimp only at hSw; go_simp)⟩) (by assumption) ?_
      simp only [List.getElem_toArray, List.getElem_cons_succ, List.getElem_cons_zero, Act.put, List.setIfInBounds_toArray, List.set_cons_zero, List.set_cons_succ]
      refine wpAnyH_take (i := 16) (v := .bool true) rfl (by kernel_rfl) (by kernel_rfl) (by kernel_rfl) (fun _ _ _ h => h) (Or.inl ⟨by rfl, fun w1 hSw => by (dsimp only at hSw; go_simp)⟩) (by assumption) ?_
      simp only [List.getElem_toArray, List.getElem_cons_succ, List.getElem_cons_zero, Act.put, List.setIfInBounds_toArray, List.set_cons_zero, List.set_cons_succ]
      refine wpAnyH_take (i := 17) (v := undef) rfl (by kernel_rfl) (by kernel_rfl) (by kernel_rfl) (fun _ _ _ h => h) (Or.inr ⟨by kernel_rfl, rfl⟩) (by assumption) ?_
      simp only [List.getElem_toArray, List.getElem_cons_succ, List.getElem_cons_zero, Act.put, List.setIfInBounds_toArray, List.set_cons_zero, List.set_cons_succ]
      refine wpAnyH_take (i := 18) (v := undef) rfl (by kernel_rfl) (by kernel_rfl) (by kernel_rfl) (fun _ _ _ h => h) (Or.inr ⟨by kernel_rfl, rfl⟩) (by assumption) ?_
      simp only [List.getElem_toArray, List.getElem_cons_succ, List.getElem_cons_zero, Act.put, List.setIfInBounds_toArray, List.set_cons_zero, List.set_cons_succ]
      refine wpAnyH_take (i := 19) (v := undef) rfl (by kernel_rfl) (by kernel_rfl) (by kernel_rfl) (fun _ _ _ h => h) (Or.inr ⟨by kernel_rfl, rfl⟩) (by assumption) ?_
      simp only [List.getElem_toArray, List.getElem_cons_succ, List.getElem_cons_zero, Act.put, List.setIfInBounds_toArray, List.set_cons_zero, List.set_cons_succ]
      refine wpAnyH_take (i := 20) (v := .bool true) rfl (by kernel_rfl) (by kernel_rfl) (by kernel_rfl) (fun _ _ _ h => h) (Or.inl ⟨by rfl, fun w1 hSw => by (dsimp only at hSw; go_simp)⟩) (by assumption) ?_
      simp only [List.getElem_toArray, List.getElem_cons_succ, List.getElem_cons_zero, Act.put, List.setIfInBounds_toArray, List.set_cons_zero, List.set_cons_succ]
      refine wpAnyH_take (i := 21) (v := .bool true) rfl (by kernel_rfl) (by kernel_rfl) (by kernel_rfl) (fun _ _ _ h => h) (Or.inl ⟨by rfl, fun w1 hSw => by (dsimp only at hSw; go_simp)⟩) (by assumption) ?_
      simp only [List.getElem_toArray, List.getElem_cons_succ, List.getElem_cons_zero, Act.put, List.setIfInBounds_toArray, List.set_cons_zero, List.set_cons_succ]
      refine wpAnyH_take (i := 22) (v := .bool true) rfl (by kernel_rfl) (by kernel_rfl) (by kernel_rfl) (fun _ _ _ h => h) (Or.inl ⟨by rfl, fun w1 hSw => by (dsimp only at hSw; go_simp)⟩) (by assumption) ?_
      simp only [List.getElem_toArray, List.getElem_cons_succ, List.getElem_cons_zero, Act.put, List.setIfInBounds_toArray, List.set_cons_zero, List.set_cons_succ]
      refine wpAnyH_take (i := 23) (v := .agg #[.int .i64 ak, .int .i64 an, .string sa]) rfl (by kernel_rfl) (by kernel_rfl) (by kernel_rfl) (fun _ _ _ h => h) (Or.inl ⟨by rfl, fun w1 hSw => by (dsimp only at hSw; go_simp)⟩) (by assumption) ?_
      simp only [List.getElem_toArray, List.getElem_cons_succ, List.getElem_cons_zero, Act.put, List.setIfInBounds_toArray, List.set_cons_zero, List.set_cons_succ]
      refine wpAnyH_take (i := 25) (v := .agg #[.int .i64 bk, .int .i64 bn, .string sb]) rfl (by kernel_rfl) (by kernel_rfl) (by kernel_rfl) (fun _ _ _ h => h) (Or.inl ⟨by rfl, fun w1 hSw => by (dsimp only at hSw; go_simp)⟩) (by assumption) ?_
      simp only [List.getElem_toArray, List.getElem_cons_succ, List.getElem_cons_zero, Act.put, List.setIfInBounds_toArray, List.set_cons_zero, List.set_cons_succ]
      refine wpAnyH_take (i := 28) (v := .agg #[.int .i64 ak, .int .i64 an, .string sa]) rfl (by kernel_rfl) (by kernel_rfl) (by kernel_rfl) (fun _ _ _ h => h) (Or.inl ⟨by rfl, fun w1 hSw => by (dsimp only at hSw; go_simp)⟩) (by assumption) ?_
      simp only [List.getElem_toArray, List.getElem_cons_succ, List.getElem_cons_zero, Act.put, List.setIfInBounds_toArray, List.set_cons_zero, List.set_cons_succ]
      refine wpAnyH_take (i := 29) (v := .agg #[.int .i64 bk, .int .i64 bn, .string sb]) rfl (by kernel_rfl) (by kernel_rfl) (by kernel_rfl) (fun _ _ _ h => h) (Or.inl ⟨by rfl, fun w1 hSw => by (dsimp only at hSw; go_simp)⟩) (by assumption) ?_
      simp only [List.getElem_toArray, List.getElem_cons_succ, List.getElem_cons_zero, Act.put, List.setIfInBounds_toArray, List.set_cons_zero, List.set_cons_succ]
      refine wpAnyH_take (i := 30) (v := .bool q) rfl (by kernel_rfl) (by kernel_rfl) (by kernel_rfl) (fun _ _ _ h => h) (Or.inl ⟨by rfl, fun w1 hSw => by (dsimp only at hSw; go_simp)⟩) (by assumption) ?_
      simp only [List.getElem_toArray, List.getElem_cons_succ, List.getElem_cons_zero, Act.put, List.setIfInBounds_toArray, List.set_cons_zero, List.set_cons_succ]
      refine wpAnyH_ready (rs := [24]) (by kernel_rfl) (by simp) ?_
      refine AllReadyH.cons rfl (fun K hK => ?_) AllReadyH.nil
      simp only [List.getElem_toArray, List.getElem_cons_succ, List.getElem_cons_zero]
      go_simp
      refine (hSa.out _ (Hid.out (by assumption))).mono ?_
      rintro e w' ⟨rfl, bA⟩
      have T24 := Lib.hid bA
      clear bA hSa hHeld
      go_wp2_with fail
      refine hK.out _ _ (twelve_of (hall.out _ (Hid.out (by assumption)))) (fun hHeld => ?_)
      clear hK K
      refine wpAnyH_ready (rs := [26]) (by kernel_rfl) (by simp) ?_
      refine AllReadyH.cons rfl (fun K hK => ?_) AllReadyH.nil
      simp only [List.getElem_toArray, List.getElem_cons_succ, List.getElem_cons_zero]
      go_simp
      refine (hSb.out _ (Hid.out (by assumption))).mono ?_
      rintro e w' ⟨rfl, bA⟩
      have T26 := Lib.hid bA
      clear bA hSb hHeld
      go_wp2_with fail
      refine hK.out _ _ (twelve_of (hall.out _ (Hid.out (by assumption)))) (fun hHeld => ?_)
      clear hK K
      refine wpAnyH_take (i := 27) (v := .bool q) rfl (by kernel_rfl) (by kernel_rfl) (by kernel_rfl) (fun _ _ _ h => h) (Or.inl ⟨by rfl, fun w1 hSw => by (dsimp only at hSw; go_simp)⟩) (by assumption) ?_
      simp only [List.getElem_toArray, List.getElem_cons_succ, List.getElem_cons_zero, Act.put, List.setIfInBounds_toArray, List.set_cons_zero, List.set_cons_succ]
      refine wpAnyH_take (i := 31) (v := .bool true) rfl (by kernel_rfl) (by kernel_rfl) (by kernel_rfl) (fun _ _ _ h => h) (Or.inl ⟨by rfl, fun w1 hSw => by (dsimp only at hSw; go_simp)⟩) (by assumption) ?_
      simp only [List.getElem_toArray, List.getElem_cons_succ, List.getElem_cons_zero, Act.put, List.setIfInBounds_toArray, List.set_cons_zero, List.set_cons_succ]
      refine wpAnyH_take (i := 32) (v := .bool true) rfl (by kernel_rfl) (by kernel_rfl) (by kernel_rfl) (fun _ _ _ h => h) (Or.inl ⟨by rfl, fun w1 hSw => by (dsimp only at hSw; go_simp)⟩) (by assumption) ?_
      simp only [List.getElem_toArray, List.getElem_cons_succ, List.getElem_cons_zero, Act.put, List.setIfInBounds_toArray, List.set_cons_zero, List.set_cons_succ]
      refine wpAnyH_take (i := 33) (v := .bool true) rfl (by kernel_rfl) (by kernel_rfl) (by kernel_rfl) (fun _ _ _ h => h) (Or.inl ⟨by rfl, fun w1 hSw => by (dsimp only at hSw; go_simp)⟩) (by assumption) ?_
      simp only [List.getElem_toArray, List.getElem_cons_succ, List.getElem_cons_zero, Act.put, List.setIfInBounds_toArray, List.set_cons_zero, List.set_cons_succ]
      refine wpAnyH_take (i := 34) (v := .agg #[.int .i64 ak, .int .i64 an, .string sa]) rfl (by kernel_rfl) (by kernel_rfl) (by kernel_rfl) (fun _ _ _ h => h) (Or.inl ⟨by rfl, fun w1 hSw => by (dsimp only at hSw; go_simp)⟩) (by assumption) ?_
      simp only [List.getElem_toArray, List.getElem_cons_succ, List.getElem_cons_zero, Act.put, List.setIfInBounds_toArray, List.set_cons_zero, List.set_cons_succ]
      refine wpAnyH_take (i := 35) (v := .agg #[.int .i64 ak, .int .i64 an, .string sa]) rfl (by kernel_rfl) (by kernel_rfl) (by kernel_rfl) (fun _ _ _ h => h) (Or.inl ⟨by rfl, fun w1 hSw => by (dsimp only at hSw; go_simp)⟩) (by assumption) ?_
      simp only [List.getElem_toArray, List.getElem_cons_succ, List.getElem_cons_zero, Act.put, List.setIfInBounds_toArray, List.set_cons_zero, List.set_cons_succ]
      refine wpAnyH_take (i := 36) (v := .bool true) rfl (by kernel_rfl) (by kernel_rfl) (by kernel_rfl) (fun _ _ _ h => h) (Or.inl ⟨by rfl, fun w1 hSw => by (dsimp only at hSw; go_simp)⟩) (by assumption) ?_
      simp only [List.getElem_toArray, List.getElem_cons_succ, List.getElem_cons_zero, Act.put, List.setIfInBounds_toArray, List.set_cons_zero, List.set_cons_succ]
      refine wpAnyH_take (i := 37) (v := .bool true) rfl (by kernel_rfl) (by kernel_rfl) (by kernel_rfl) (fun _ _ _ h => h) (Or.inl ⟨by rfl, fun w1 hSw => by (dsimp only at hSw; go_simp)⟩) (by assumption) ?_
      simp only [List.getElem_toArray, List.getElem_cons_succ, List.getElem_cons_zero, Act.put, List.setIfInBounds_toArray, List.set_cons_zero, List.set_cons_succ]
      refine wpAnyH_take (i := 38) (v := .bool true) rfl (by kernel_rfl) (by kernel_rfl) (by kernel_rfl) (fun _ _ _ h => h) (Or.inl ⟨by rfl, fun w1 hSw => by (dsimp only at hSw; go_simp)⟩) (by assumption) ?_
      simp only [List.getElem_toArray, List.getElem_cons_succ, List.getElem_cons_zero, Act.put, List.setIfInBounds_toArray, List.set_cons_zero, List.set_cons_succ]
      refine wpAnyH_take (i := 39) (v := .int .i64 0) rfl (by kernel_rfl) (by kernel_rfl) (by kernel_rfl) (fun _ _ _ h => h) (Or.inl ⟨by rfl, fun w1 hSw => by (dsimp only at hSw; go_simp)⟩) (by assumption) ?_
      simp only [List.getElem_toArray, List.getElem_cons_succ, List.getElem_cons_zero, Act.put, List.setIfInBounds_toArray, List.set_cons_zero, List.set_cons_succ]
      refine wpAnyH_take (i := 40) (v := .bool true) rfl (by kernel_rfl) (by kernel_rfl) (by kernel_rfl) (fun _ _ _ h => h) (Or.inl ⟨by rfl, fun w1 hSw => by (dsimp only at hSw; go_simp)⟩) (by assumption) ?_
      simp only [List.getElem_toArray, List.getElem_cons_succ, List.getElem_cons_zero, Act.put, List.setIfInBounds_toArray, List.set_cons_zero, List.set_cons_succ]
      refine wpAnyH_take (i := 41) (v := .bool true) rfl (by kernel_rfl) (by kernel_rfl) (by kernel_rfl) (fun _ _ _ h => h) (Or.inl ⟨by rfl, fun w1 hSw => by (dsimp only at hSw; go_simp)⟩) (by assumption) ?_
      simp only [List.getElem_toArray, List.getElem_cons_succ, List.getElem_cons_zero, Act.put, List.setIfInBounds_toArray, List.set_cons_zero, List.set_cons_succ]
      refine wpAnyH_take (i := 42) (v := .bool true) rfl (by kernel_rfl) (by kernel_rfl) (by kernel_rfl) (fun _ _ _ h => h) (Or.inl ⟨by rfl, fun w1 hSw => by (dsimp only at hSw; go_simp)⟩) (by assumption) ?_
      simp only [List.getElem_toArray, List.getElem_cons_succ, List.getElem_cons_zero, Act.put, List.setIfInBounds_toArray, List.set_cons_zero, List.set_cons_succ]
      refine wpAnyH_ready (rs := [43]) (by kernel_rfl) (by simp) ?_
      refine AllReadyH.cons rfl (fun K hK => ?_) AllReadyH.nil
      simp only [List.getElem_toArray, List.getElem_cons_succ, List.getElem_cons_zero]
      go_simp
      refine (hKn.out _ (Hid.out (by assumption))).mono ?_
      rintro e w' ⟨rfl, bA⟩
      have T43 := Lib.hid bA
      clear bA hKn hHeld
      go_wp2_with fail
      refine hK.out _ _ (twelve_of (hall.out _ (Hid.out (by assumption)))) (fun hHeld => ?_)
      clear hK K
      refine wpAnyH_take (i := 44) (v := .bool true) rfl (by kernel_rfl) (by kernel_rfl) (by kernel_rfl) (fun _ _ _ h => h) (Or.inl ⟨by rfl, fun w1 hSw => by (dsimp only at hSw; go_simp)⟩) (by assumption) ?_
      simp only [List.getElem_toArray, List.getElem_cons_succ, List.getElem_cons_zero, Act.put, List.setIfInBounds_toArray, List.set_cons_zero, List.set_cons_succ]
      refine wpAnyH_ready (rs := [45]) (by kernel_rfl) (by simp) ?_
      refine AllReadyH.cons rfl (fun K hK => ?_) AllReadyH.nil
      simp only [List.getElem_toArray, List.getElem_cons_succ, List.getElem_cons_zero]
      go_simp
      refine hK.out _ _ (twelve_of (hall.out _ (Hid.out (by assumption)))) (fun hHeld => ?_)
      clear hK K
      refine wpAnyH_done (by kernel_rfl) ?_ _
      go_wp2_with fail
      go_ret
      exact ⟨rfl, LW.out _ (Hid.out (by assumption))⟩
  · clear htr
    refine wp_region_held_drew (S := fun w' => w'.cell? ⟨w.heap.size, 0, none⟩ = some (.int .i64 ak) ∧ w'.cell? ⟨w.heap.size, 1, none⟩ = some (.int .i64 an) ∧ w'.cell? ⟨w.heap.size, 2, none⟩ = some (.string sa) ∧ w'.cell? ⟨w.heap.size + 1, 0, none⟩ = some (.int .i64 bk) ∧ w'.cell? ⟨w.heap.size + 1, 1, none⟩ = some (.int .i64 bn) ∧ w'.cell? ⟨w.heap.size + 1, 2, none⟩ = some (.string sb) ∧ w'.cell? ⟨w.heap.size + 1 + 1, 0, none⟩ = some (.int .i64 ck) ∧ w'.cell? ⟨w.heap.size + 1 + 1, 1, none⟩ = some (.int .i64 cn) ∧ w'.cell? ⟨w.heap.size + 1 + 1, 2, none⟩ = some (.string sc) ∧ w'.cell? ⟨p9, 0, none⟩ = some (.int .i64 ak) ∧ w'.cell? ⟨p9, 1, none⟩ = some (.int .i64 an) ∧ w'.cell? ⟨p9, 2, none⟩ = some (.string sa)) (by kernel_rfl) (twelve_of (hall.out _ (Hid.out (by assumption)))) (fun hHeld => ?_)
    refine wpAnyH_take (i := 0) (v := .bool (!q)) rfl (by kernel_rfl) (by kernel_rfl) (by kernel_rfl) (fun _ _ _ h => h) (Or.inl ⟨by rfl, fun w1 hSw => by (dsimp only at hSw; go_simp)⟩) (by assumption) ?_
    simp only [List.getElem_toArray, List.getElem_cons_zero, Act.put, List.setIfInBounds_toArray, List.set_cons_zero, List.set_cons_succ]
    refine wpAnyH_take (i := 1) (v := .agg #[.int .i64 ak, .int .i64 an, .string sa]) rfl (by kernel_rfl) (by kernel_rfl) (by kernel_rfl) (fun _ _ _ h => h) (Or.inl ⟨by rfl, fun w1 hSw => by (dsimp only at hSw; go_simp)⟩) (by assumption) ?_
    simp only [List.getElem_toArray, List.getElem_cons_succ, List.getElem_cons_zero, Act.put, List.setIfInBounds_toArray, List.set_cons_zero, List.set_cons_succ]
    refine wpAnyH_take (i := 2) (v := .agg #[.int .i64 bk, .int .i64 bn, .string sb]) rfl (by kernel_rfl) (by kernel_rfl) (by kernel_rfl) (fun _ _ _ h => h) (Or.inl ⟨by rfl, fun w1 hSw => by (dsimp only at hSw; go_simp)⟩) (by assumption) ?_
    simp only [List.getElem_toArray, List.getElem_cons_succ, List.getElem_cons_zero, Act.put, List.setIfInBounds_toArray, List.set_cons_zero, List.set_cons_succ]
    refine wpAnyH_take (i := 3) (v := .bool (!q)) rfl (by kernel_rfl) (by kernel_rfl) (by kernel_rfl) (fun _ _ _ h => h) (Or.inl ⟨by rfl, fun w1 hSw => by (dsimp only at hSw; go_simp)⟩) (by assumption) ?_
    simp only [List.getElem_toArray, List.getElem_cons_succ, List.getElem_cons_zero, Act.put, List.setIfInBounds_toArray, List.set_cons_zero, List.set_cons_succ]
    refine wpAnyH_take (i := 4) (v := .bool true) rfl (by kernel_rfl) (by kernel_rfl) (by kernel_rfl) (fun _ _ _ h => h) (Or.inl ⟨by rfl, fun w1 hSw => by (dsimp only at hSw; go_simp)⟩) (by assumption) ?_
    simp only [List.getElem_toArray, List.getElem_cons_succ, List.getElem_cons_zero, Act.put, List.setIfInBounds_toArray, List.set_cons_zero, List.set_cons_succ]
    refine wpAnyH_take (i := 5) (v := .bool true) rfl (by kernel_rfl) (by kernel_rfl) (by kernel_rfl) (fun _ _ _ h => h) (Or.inl ⟨by rfl, fun w1 hSw => by (dsimp only at hSw; go_simp)⟩) (by assumption) ?_
    simp only [List.getElem_toArray, List.getElem_cons_succ, List.getElem_cons_zero, Act.put, List.setIfInBounds_toArray, List.set_cons_zero, List.set_cons_succ]
    refine wpAnyH_take (i := 6) (v := .agg #[.int .i64 ak, .int .i64 an, .string sa]) rfl (by kernel_rfl) (by kernel_rfl) (by kernel_rfl) (fun _ _ _ h => h) (Or.inl ⟨by rfl, fun w1 hSw => by (dsimp only at hSw; go_simp)⟩) (by assumption) ?_
    simp only [List.getElem_toArray, List.getElem_cons_succ, List.getElem_cons_zero, Act.put, List.setIfInBounds_toArray, List.set_cons_zero, List.set_cons_succ]
    refine wpAnyH_take (i := 7) (v := .agg #[.int .i64 bk, .int .i64 bn, .string sb]) rfl (by kernel_rfl) (by kernel_rfl) (by kernel_rfl) (fun _ _ _ h => h) (Or.inl ⟨by rfl, fun w1 hSw => by (dsimp only at hSw; go_simp)⟩) (by assumption) ?_
    simp only [List.getElem_toArray, List.getElem_cons_succ, List.getElem_cons_zero, Act.put, List.setIfInBounds_toArray, List.set_cons_zero, List.set_cons_succ]
    refine wpAnyH_ready (rs := [8]) (by kernel_rfl) (by simp) ?_
    refine AllReadyH.cons rfl (fun K hK => ?_) AllReadyH.nil
    simp only [List.getElem_toArray, List.getElem_cons_succ, List.getElem_cons_zero]
    go_simp
    refine (hAB2.out _ (Hid.out (by assumption))).mono ?_
    rintro e w' ⟨rfl, bA⟩
    have T8 := Lib.hid bA
    clear bA hAB2 hHeld
    go_wp2_with fail
    refine hK.out _ _ (twelve_of (hall.out _ (Hid.out (by assumption)))) (fun hHeld => ?_)
    clear hK K
    refine wpAnyH_take (i := 9) (v := .bool true) rfl (by kernel_rfl) (by kernel_rfl) (by kernel_rfl) (fun _ _ _ h => h) (Or.inl ⟨by rfl, fun w1 hSw => by (dsimp only at hSw; go_simp)⟩) (by assumption) ?_
    simp only [List.getElem_toArray, List.getElem_cons_succ, List.getElem_cons_zero, Act.put, List.setIfInBounds_toArray, List.set_cons_zero, List.set_cons_succ]
    refine wpAnyH_take (i := 10) (v := .bool true) rfl (by kernel_rfl) (by kernel_rfl) (by kernel_rfl) (fun _ _ _ h => h) (Or.inl ⟨by rfl, fun w1 hSw => by (dsimp only at hSw; go_simp)⟩) (by assumption) ?_
    simp only [List.getElem_toArray, List.getElem_cons_succ, List.getElem_cons_zero, Act.put, List.setIfInBounds_toArray, List.set_cons_zero, List.set_cons_succ]
    refine wpAnyH_take (i := 11) (v := undef) rfl (by kernel_rfl) (by kernel_rfl) (by kernel_rfl) (fun _ _ _ h => h) (Or.inr ⟨by kernel_rfl, rfl⟩) (by assumption) ?_
    simp only [List.getElem_toArray, List.getElem_cons_succ, List.getElem_cons_zero, Act.put, List.setIfInBounds_toArray, List.set_cons_zero, List.set_cons_succ]
    refine wpAnyH_take (i := 12) (v := undef) rfl (by kernel_rfl) (by kernel_rfl) (by kernel_rfl) (fun _ _ _ h => h) (Or.inr ⟨by kernel_rfl, rfl⟩) (by assumption) ?_
    simp only [List.getElem_toArray, List.getElem_cons_succ, List.getElem_cons_zero, Act.put, List.setIfInBounds_toArray, List.set_cons_zero, List.set_cons_succ]
    refine wpAnyH_take (i := 13) (v := undef) rfl (by kernel_rfl) (by kernel_rfl) (by kernel_rfl) (fun _ _ _ h => h) (Or.inr ⟨by kernel_rfl, rfl⟩) (by assumption) ?_
    simp only [List.getElem_toArray, List.getElem_cons_succ, List.getElem_cons_zero, Act.put, List.setIfInBounds_toArray, List.set_cons_zero, List.set_cons_succ]
    refine wpAnyH_take (i := 14) (v := undef) rfl (by kernel_rfl) (by kernel_rfl) (by kernel_rfl) (fun _ _ _ h => h) (Or.inr ⟨by kernel_rfl, rfl⟩) (by assumption) ?_
    simp only [List.getElem_toArray, List.getElem_cons_succ, List.getElem_cons_zero, Act.put, List.setIfInBounds_toArray, List.set_cons_zero, List.set_cons_succ]
    refine wpAnyH_take (i := 15) (v := .bool true) rfl (by kernel_rfl) (by kernel_rfl) (by kernel_rfl) (fun _ _ _ h => h) (Or.inl ⟨by rfl, fun w1 hSw => by (dsimp only at hSw; go_simp)⟩) (by assumption) ?_
    simp only [List.getElem_toArray, List.getElem_cons_succ, List.getElem_cons_zero, Act.put, List.setIfInBounds_toArray, List.set_cons_zero, List.set_cons_succ]
    refine wpAnyH_take (i := 16) (v := .bool true) rfl (by kernel_rfl) (by kernel_rfl) (by kernel_rfl) (fun _ _ _ h => h) (Or.inl ⟨by rfl, fun w1 hSw => by (dsimp only at hSw; go_simp)⟩) (by assumption) ?_
    simp only [List.getElem_toArray, List.getElem_cons_succ, List.getElem_cons_zero, Act.put, List.setIfInBounds_toArray, List.set_cons_zero, List.set_cons_succ]
    refine wpAnyH_take (i := 17) (v := undef) rfl (by kernel_rfl) (by kernel_rfl) (by kernel_rfl) (fun _ _ _ h => h) (Or.inr ⟨by kernel_rfl, rfl⟩) (by assumption) ?_
    simp only [List.getElem_toArray, List.getElem_cons_succ, List.getElem_cons_zero, Act.put, List.setIfInBounds_toArray, List.set_cons_zero, List.set_cons_succ]
    refine wpAnyH_take (i := 18) (v := undef) rfl (by kernel_rfl) (by kernel_rfl) (by kernel_rfl) (fun _ _ _ h => h) (Or.inr ⟨by kernel_rfl, rfl⟩) (by assumption) ?_
    simp only [List.getElem_toArray, List.getElem_cons_succ, List.getElem_cons_zero, Act.put, List.setIfInBounds_toArray, List.set_cons_zero, List.set_cons_succ]
    refine wpAnyH_take (i := 19) (v := undef) rfl (by kernel_rfl) (by kernel_rfl) (by kernel_rfl) (fun _ _ _ h => h) (Or.inr ⟨by kernel_rfl, rfl⟩) (by assumption) ?_
    simp only [List.getElem_toArray, List.getElem_cons_succ, List.getElem_cons_zero, Act.put, List.setIfInBounds_toArray, List.set_cons_zero, List.set_cons_succ]
    refine wpAnyH_take (i := 20) (v := .bool true) rfl (by kernel_rfl) (by kernel_rfl) (by kernel_rfl) (fun _ _ _ h => h) (Or.inl ⟨by rfl, fun w1 hSw => by (dsimp only at hSw; go_simp)⟩) (by assumption) ?_
    simp only [List.getElem_toArray, List.getElem_cons_succ, List.getElem_cons_zero, Act.put, List.setIfInBounds_toArray, List.set_cons_zero, List.set_cons_succ]
    refine wpAnyH_take (i := 21) (v := .bool true) rfl (by kernel_rfl) (by kernel_rfl) (by kernel_rfl) (fun _ _ _ h => h) (Or.inl ⟨by rfl, fun w1 hSw => by (dsimp only at hSw; go_simp)⟩) (by assumption) ?_
    simp only [List.getElem_toArray, List.getElem_cons_succ, List.getElem_cons_zero, Act.put, List.setIfInBounds_toArray, List.set_cons_zero, List.set_cons_succ]
    refine wpAnyH_take (i := 22) (v := .bool true) rfl (by kernel_rfl) (by kernel_rfl) (by kernel_rfl) (fun _ _ _ h => h) (Or.inl ⟨by rfl, fun w1 hSw => by (dsimp only at hSw; go_simp)⟩) (by assumption) ?_
    simp only [List.getElem_toArray, List.getElem_cons_succ, List.getElem_cons_zero, Act.put, List.setIfInBounds_toArray, List.set_cons_zero, List.set_cons_succ]
    refine wpAnyH_take (i := 23) (v := .agg #[.int .i64 ak, .int .i64 an, .string sa]) rfl (by kernel_rfl) (by kernel_rfl) (by kernel_rfl) (fun _ _ _ h => h) (Or.inl ⟨by rfl, fun w1 hSw => by (dsimp only at hSw; go_simp)⟩) (by assumption) ?_
    simp only [List.getElem_toArray, List.getElem_cons_succ, List.getElem_cons_zero, Act.put, List.setIfInBounds_toArray, List.set_cons_zero, List.set_cons_succ]
    refine wpAnyH_take (i := 25) (v := .agg #[.int .i64 bk, .int .i64 bn, .string sb]) rfl (by kernel_rfl) (by kernel_rfl) (by kernel_rfl) (fun _ _ _ h => h) (Or.inl ⟨by rfl, fun w1 hSw => by (dsimp only at hSw; go_simp)⟩) (by assumption) ?_
    simp only [List.getElem_toArray, List.getElem_cons_succ, List.getElem_cons_zero, Act.put, List.setIfInBounds_toArray, List.set_cons_zero, List.set_cons_succ]
    refine wpAnyH_take (i := 28) (v := .agg #[.int .i64 ak, .int .i64 an, .string sa]) rfl (by kernel_rfl) (by kernel_rfl) (by kernel_rfl) (fun _ _ _ h => h) (Or.inl ⟨by rfl, fun w1 hSw => by (dsimp only at hSw; go_simp)⟩) (by assumption) ?_
    simp only [List.getElem_toArray, List.getElem_cons_succ, List.getElem_cons_zero, Act.put, List.setIfInBounds_toArray, List.set_cons_zero, List.set_cons_succ]
    refine wpAnyH_take (i := 29) (v := .agg #[.int .i64 bk, .int .i64 bn, .string sb]) rfl (by kernel_rfl) (by kernel_rfl) (by kernel_rfl) (fun _ _ _ h => h) (Or.inl ⟨by rfl, fun w1 hSw => by (dsimp only at hSw; go_simp)⟩) (by assumption) ?_
    simp only [List.getElem_toArray, List.getElem_cons_succ, List.getElem_cons_zero, Act.put, List.setIfInBounds_toArray, List.set_cons_zero, List.set_cons_succ]
    refine wpAnyH_take (i := 30) (v := .bool q) rfl (by kernel_rfl) (by kernel_rfl) (by kernel_rfl) (fun _ _ _ h => h) (Or.inl ⟨by rfl, fun w1 hSw => by (dsimp only at hSw; go_simp)⟩) (by assumption) ?_
    simp only [List.getElem_toArray, List.getElem_cons_succ, List.getElem_cons_zero, Act.put, List.setIfInBounds_toArray, List.set_cons_zero, List.set_cons_succ]
    refine wpAnyH_ready (rs := [24]) (by kernel_rfl) (by simp) ?_
    refine AllReadyH.cons rfl (fun K hK => ?_) AllReadyH.nil
    simp only [List.getElem_toArray, List.getElem_cons_succ, List.getElem_cons_zero]
    go_simp
    refine (hSa.out _ (Hid.out (by assumption))).mono ?_
    rintro e w' ⟨rfl, bA⟩
    have T24 := Lib.hid bA
    clear bA hSa hHeld
    go_wp2_with fail
    refine hK.out _ _ (twelve_of (hall.out _ (Hid.out (by assumption)))) (fun hHeld => ?_)
    clear hK K
    refine wpAnyH_ready (rs := [26]) (by kernel_rfl) (by simp) ?_
    refine AllReadyH.cons rfl (fun K hK => ?_) AllReadyH.nil
    simp only [List.getElem_toArray, List.getElem_cons_succ, List.getElem_cons_zero]
    go_simp
    refine (hSb.out _ (Hid.out (by assumption))).mono ?_
    rintro e w' ⟨rfl, bA⟩
    have T26 := Lib.hid bA
    clear bA hSb hHeld
    go_wp2_with fail
    refine hK.out _ _ (twelve_of (hall.out _ (Hid.out (by assumption)))) (fun hHeld => ?_)
    clear hK K
    refine wpAnyH_take (i := 27) (v := .bool q) rfl (by kernel_rfl) (by kernel_rfl) (by kernel_rfl) (fun _ _ _ h => h) (Or.inl ⟨by rfl, fun w1 hSw => by (dsimp only at hSw; go_simp)⟩) (by assumption) ?_
    simp only [List.getElem_toArray, List.getElem_cons_succ, List.getElem_cons_zero, Act.put, List.setIfInBounds_toArray, List.set_cons_zero, List.set_cons_succ]
    refine wpAnyH_take (i := 31) (v := .bool true) rfl (by kernel_rfl) (by kernel_rfl) (by kernel_rfl) (fun _ _ _ h => h) (Or.inl ⟨by rfl, fun w1 hSw => by (dsimp only at hSw; go_simp)⟩) (by assumption) ?_
    simp only [List.getElem_toArray, List.getElem_cons_succ, List.getElem_cons_zero, Act.put, List.setIfInBounds_toArray, List.set_cons_zero, List.set_cons_succ]
    refine wpAnyH_take (i := 32) (v := .bool true) rfl (by kernel_rfl) (by kernel_rfl) (by kernel_rfl) (fun _ _ _ h => h) (Or.inl ⟨by rfl, fun w1 hSw => by (dsimp only at hSw; go_simp)⟩) (by assumption) ?_
    simp only [List.getElem_toArray, List.getElem_cons_succ, List.getElem_cons_zero, Act.put, List.setIfInBounds_toArray, List.set_cons_zero, List.set_cons_succ]
    refine wpAnyH_take (i := 33) (v := .bool true) rfl (by kernel_rfl) (by kernel_rfl) (by kernel_rfl) (fun _ _ _ h => h) (Or.inl ⟨by rfl, fun w1 hSw => by (dsimp only at hSw; go_simp)⟩) (by assumption) ?_
    simp only [List.getElem_toArray, List.getElem_cons_succ, List.getElem_cons_zero, Act.put, List.setIfInBounds_toArray, List.set_cons_zero, List.set_cons_succ]
    refine wpAnyH_take (i := 34) (v := .agg #[.int .i64 ak, .int .i64 an, .string sa]) rfl (by kernel_rfl) (by kernel_rfl) (by kernel_rfl) (fun _ _ _ h => h) (Or.inl ⟨by rfl, fun w1 hSw => by (dsimp only at hSw; go_simp)⟩) (by assumption) ?_
    simp only [List.getElem_toArray, List.getElem_cons_succ, List.getElem_cons_zero, Act.put, List.setIfInBounds_toArray, List.set_cons_zero, List.set_cons_succ]
    refine wpAnyH_take (i := 35) (v := .agg #[.int .i64 ak, .int .i64 an, .string sa]) rfl (by kernel_rfl) (by kernel_rfl) (by kernel_rfl) (fun _ _ _ h => h) (Or.inl ⟨by rfl, fun w1 hSw => by (dsimp only at hSw; go_simp)⟩) (by assumption) ?_
    simp only [List.getElem_toArray, List.getElem_cons_succ, List.getElem_cons_zero, Act.put, List.setIfInBounds_toArray, List.set_cons_zero, List.set_cons_succ]
    refine wpAnyH_take (i := 36) (v := .bool true) rfl (by kernel_rfl) (by kernel_rfl) (by kernel_rfl) (fun _ _ _ h => h) (Or.inl ⟨by rfl, fun w1 hSw => by (dsimp only at hSw; go_simp)⟩) (by assumption) ?_
    simp only [List.getElem_toArray, List.getElem_cons_succ, List.getElem_cons_zero, Act.put, List.setIfInBounds_toArray, List.set_cons_zero, List.set_cons_succ]
    refine wpAnyH_take (i := 37) (v := .bool true) rfl (by kernel_rfl) (by kernel_rfl) (by kernel_rfl) (fun _ _ _ h => h) (Or.inl ⟨by rfl, fun w1 hSw => by (dsimp only at hSw; go_simp)⟩) (by assumption) ?_
    simp only [List.getElem_toArray, List.getElem_cons_succ, List.getElem_cons_zero, Act.put, List.setIfInBounds_toArray, List.set_cons_zero, List.set_cons_succ]
    refine wpAnyH_take (i := 38) (v := .bool true) rfl (by kernel_rfl) (by kernel_rfl) (by kernel_rfl) (fun _ _ _ h => h) (Or.inl ⟨by rfl, fun w1 hSw => by (dsimp only at hSw; go_simp)⟩) (by assumption) ?_
    simp only [List.getElem_toArray, List.getElem_cons_succ, List.getElem_cons_zero, Act.put, List.setIfInBounds_toArray, List.set_cons_zero, List.set_cons_succ]
    refine wpAnyH_take (i := 39) (v := .int .i64 0) rfl (by kernel_rfl) (by kernel_rfl) (by kernel_rfl) (fun _ _ _ h => h) (Or.inl ⟨by rfl, fun w1 hSw => by (dsimp only at hSw; go_simp)⟩) (by assumption) ?_
    simp only [List.getElem_toArray, List.getElem_cons_succ, List.getElem_cons_zero, Act.put, List.setIfInBounds_toArray, List.set_cons_zero, List.set_cons_succ]
    refine wpAnyH_take (i := 40) (v := .bool true) rfl (by kernel_rfl) (by kernel_rfl) (by kernel_rfl) (fun _ _ _ h => h) (Or.inl ⟨by rfl, fun w1 hSw => by (dsimp only at hSw; go_simp)⟩) (by assumption) ?_
    simp only [List.getElem_toArray, List.getElem_cons_succ, List.getElem_cons_zero, Act.put, List.setIfInBounds_toArray, List.set_cons_zero, List.set_cons_succ]
    refine wpAnyH_take (i := 41) (v := .bool true) rfl (by kernel_rfl) (by kernel_rfl) (by kernel_rfl) (fun _ _ _ h => h) (Or.inl ⟨by rfl, fun w1 hSw => by (dsimp only at hSw; go_simp)⟩) (by assumption) ?_
    simp only [List.getElem_toArray, List.getElem_cons_succ, List.getElem_cons_zero, Act.put, List.setIfInBounds_toArray, List.set_cons_zero, List.set_cons_succ]
    refine wpAnyH_take (i := 42) (v := .bool true) rfl (by kernel_rfl) (by kernel_rfl) (by kernel_rfl) (fun _ _ _ h => h) (Or.inl ⟨by rfl, fun w1 hSw => by (dsimp only at hSw; go_simp)⟩) (by assumption) ?_
    simp only [List.getElem_toArray, List.getElem_cons_succ, List.getElem_cons_zero, Act.put, List.setIfInBounds_toArray, List.set_cons_zero, List.set_cons_succ]
    refine wpAnyH_ready (rs := [43]) (by kernel_rfl) (by simp) ?_
    refine AllReadyH.cons rfl (fun K hK => ?_) AllReadyH.nil
    simp only [List.getElem_toArray, List.getElem_cons_succ, List.getElem_cons_zero]
    go_simp
    refine (hKn.out _ (Hid.out (by assumption))).mono ?_
    rintro e w' ⟨rfl, bA⟩
    have T43 := Lib.hid bA
    clear bA hKn hHeld
    go_wp2_with fail
    refine hK.out _ _ (twelve_of (hall.out _ (Hid.out (by assumption)))) (fun hHeld => ?_)
    clear hK K
    refine wpAnyH_take (i := 44) (v := .bool true) rfl (by kernel_rfl) (by kernel_rfl) (by kernel_rfl) (fun _ _ _ h => h) (Or.inl ⟨by rfl, fun w1 hSw => by (dsimp only at hSw; go_simp)⟩) (by assumption) ?_
    simp only [List.getElem_toArray, List.getElem_cons_succ, List.getElem_cons_zero, Act.put, List.setIfInBounds_toArray, List.set_cons_zero, List.set_cons_succ]
    refine wpAnyH_ready (rs := [45]) (by kernel_rfl) (by simp) ?_
    refine AllReadyH.cons rfl (fun K hK => ?_) AllReadyH.nil
    simp only [List.getElem_toArray, List.getElem_cons_succ, List.getElem_cons_zero]
    go_simp
    refine hK.out _ _ (twelve_of (hall.out _ (Hid.out (by assumption)))) (fun hHeld => ?_)
    clear hK K
    refine wpAnyH_done (by kernel_rfl) ?_ _
    go_wp2_with fail
    go_ret
    exact ⟨rfl, LW.out _ (Hid.out (by assumption))⟩
end Go.Proofs.YtabhkfpglhfiiaaDoor
