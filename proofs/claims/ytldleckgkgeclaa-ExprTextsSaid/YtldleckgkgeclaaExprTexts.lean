/-
  ExprTexts: cat, len, eq, lt of texts.
-/
import Derived.Test.YtldleckgkgeclaaExprTxOf
import Derived.Deep.DeepCutAuto
import Derived.Deep.RegionHeld3
namespace Go.Proofs.Ytldleckgkgeclaa
open Go.RowKit
theorem vals4 {r : V × Int} {vk vn : Int} {vs : ByteArray} {ve : Int} (h : r = (⟨vk, vn, vs⟩, ve)) : vk = r.1.k ∧ vn = r.1.n ∧ vs = r.1.s ∧ ve = r.2 := by subst h; exact ⟨rfl, rfl, rfl, rfl⟩
theorem bool_one (b : Bool) : (boolI b == 1) = b := by cases b <;> rfl
set_option maxRecDepth 100000 in
set_option maxHeartbeats 4000000 in
theorem exprTexts_any (s0 t0 : ByteArray) (hs0 : s0.size ≤ maxLen) (ht0 : t0.size ≤ maxLen) (W : World) :
    Calls Try.prog 5 #[.string s0, .string t0] W fun e W' => e = .returned (.bool true) ∧ Below W.heap.size W W' := by
  unfold maxLen at hs0 ht0
  go_enter Try.func5, Try.ntmps5
  go_upto_if 18 with (fail)
  go_cut [0] (fun s wx => ∃ s' : ByteArray, s = .string s' ∧ s'.size ≤ 40 ∧ wx = W)
  case first =>
    by_cases h : (40 : Int) < s0.size
    · go_wp2_with fail
      go_meet
      refine ⟨_, rfl, ?_, rfl⟩
      simp
      try omega
    · go_wp2_with fail
      go_meet
      exact ⟨s0, rfl, by omega, rfl⟩
  case rest =>
  obtain ⟨s, rfl, hs, hwc⟩ := hcut
  obtain rfl : W = wc := hwc.symm
  clear hwc hs0
  go_upto_if 23 with (fail)
  go_cut [1] (fun s wx => ∃ s' : ByteArray, s = .string s' ∧ s'.size ≤ 40 ∧ wx = W)
  case first =>
    by_cases h : (40 : Int) < t0.size
    · go_wp2_with fail
      go_meet
      refine ⟨_, rfl, ?_, rfl⟩
      simp
      try omega
    · go_wp2_with fail
      go_meet
      exact ⟨t0, rfl, by omega, rfl⟩
  case rest =>
  obtain ⟨t, rfl, ht, hwc⟩ := hcut
  obtain rfl : W = wc := hwc.symm
  clear hwc ht0
  have hn : Hid (rowN [strV s, strV t]) := Lib.hid (by
    intro v hv
    simp only [List.mem_cons, List.not_mem_nil, or_false] at hv
    rcases hv with rfl | rfl <;> exact ⟨by show (_ : Int) ≤ 0; decide, by show (0 : Int) ≤ _; decide⟩)
  go_wp2_with fail
  refine (keep_str s _).mono ?_
  rintro e w1 ⟨rfl, rfl⟩
  go_wp2_with fail
  refine (keep_str t _).mono ?_
  rintro e w1 ⟨rfl, rfl⟩
  go_wp2_with fail
  obtain ⟨wa, ha⟩ : ∃ wa, wa = W.alloc (.cells #[.string ⟨#[120]⟩, .int .i64 2, .string ⟨#[121]⟩, .int .i64 2] 43) := ⟨_, rfl⟩
  have ca : (wa.cell? ⟨W.heap.size, 0, none⟩ = some (.string ⟨#[120]⟩) ∧ wa.cell? ⟨W.heap.size, 1, none⟩ = some (.int .i64 2)) ∧ (wa.cell? ⟨W.heap.size, 2, none⟩ = some (.string ⟨#[121]⟩) ∧ wa.cell? ⟨W.heap.size, 3, none⟩ = some (.int .i64 2)) := by rw [ha]; simp
  have hsa : wa.heap.size = W.heap.size + 1 := by rw [ha]; simp
  have hba : Below W.heap.size W wa := by rw [ha]; exact (Below.refl _ _).alloc (Nat.le_refl _) _
  rw [← ha]
  clear ha
  obtain ⟨wp, hp⟩ : ∃ wp, wp = (wa.alloc (.cells #[.int .i64 2, .int .i64 0, .string s] 29)).alloc (.cells #[.int .i64 2, .int .i64 0, .string t] 29) := ⟨_, rfl⟩
  have hsp : wp.heap.size = W.heap.size + 3 := by rw [hp]; simp; omega
  have hbp : Below wa.heap.size wa wp := by rw [hp]; exact ((Below.refl _ _).alloc (Nat.le_refl _) _).alloc (by simp) _
  rw [← hp]
  clear hp
  obtain ⟨w4, hw4⟩ : ∃ w4, w4 = wp.alloc (.cells #[.int .i64 2, .int .i64 0, .string s, .int .i64 2, .int .i64 0, .string t] 29) := ⟨_, rfl⟩
  have hb4 : Below wa.heap.size wa w4 := by rw [hw4]; exact hbp.alloc hbp.size _
  have cr : (w4.cell? ⟨wp.heap.size, 0, none⟩ = some (.int .i64 2) ∧ w4.cell? ⟨wp.heap.size, 1, none⟩ = some (.int .i64 0) ∧ w4.cell? ⟨wp.heap.size, 2, none⟩ = some (.string s)) ∧ (w4.cell? ⟨wp.heap.size, 3, none⟩ = some (.int .i64 2) ∧ w4.cell? ⟨wp.heap.size, 4, none⟩ = some (.int .i64 0) ∧ w4.cell? ⟨wp.heap.size, 5, none⟩ = some (.string t)) := by rw [hw4]; simp
  have hs4 : w4.heap.size = W.heap.size + 4 := by rw [hw4]; simp; omega
  rw [hsp] at cr
  have HU : Hid (CRow w4 w4.heap.size (some ⟨W.heap.size, 0, none⟩) xCols) := Lib.hid (by
    refine .inr ⟨W.heap.size, 0, rfl, by omega, ?_⟩
    intro i x hx
    have hl : W.heap.size < wa.heap.size := by omega
    match i, hx with
    | 0, hx =>
      simp [xCols] at hx; subst hx
      exact ⟨(hb4.cell (p := ⟨W.heap.size, 0, none⟩) hl).trans ca.1.1, (hb4.cell (p := ⟨W.heap.size, 1, none⟩) hl).trans ca.1.2⟩
    | 1, hx =>
      simp [xCols] at hx; subst hx
      exact ⟨(hb4.cell (p := ⟨W.heap.size, 2, none⟩) hl).trans ca.2.1, (hb4.cell (p := ⟨W.heap.size, 3, none⟩) hl).trans ca.2.2⟩)
  have HR : Hid (VRow w4 w4.heap.size (some ⟨W.heap.size + 3, 0, none⟩) [strV s, strV t]) := Lib.hid (by
    refine .inr ⟨W.heap.size + 3, 0, rfl, by omega, ?_⟩
    intro i x hx
    match i, hx with
    | 0, hx => simp at hx; subst hx; exact cr.1
    | 1, hx => simp at hx; subst hx; exact cr.2)
  have HB : Hid (Below W.heap.size W w4) := Lib.hid (hba.trans (hb4.mono (by omega)))
  have HP := Lib.hid hsp
  rw [← hw4]
  clear hw4 ca cr hsa hba hbp hb4 hs4
  refine (of_any of_cat _).mono ?_
  rintro e p0 ⟨⟨E0, ce0, rfl, hk⟩, hb⟩
  replace HR := Lib.hid ((HR.out.below hb).more hb.size)
  replace HU := Lib.hid ((HU.out.below hb).more hb.size)
  replace HB := Lib.hid (HB.out.trans (hb.mono HB.out.size))
  have hev := Lib.hid (evalTop_any xCols [strV s, strV t] (by decide) (by simp) hn.out (opE opCat [colE chX, colE chY]) (opE_fine _ _ (fun e he => by
    simp only [List.mem_cons, List.not_mem_nil, or_false] at he
    rcases he with rfl | rfl
    all_goals exact colE_fine _ (by decide)) (by decide)) E0 (some ⟨W.heap.size, 0, none⟩) (some ⟨W.heap.size + 3, 0, none⟩) ce0 2 2 p0 hk HU.out HR.out)
  rw [ev_cat s t hs ht] at hev
  generalize hgen : ((if 40 < s.size + t.size then (zeroV, 3) else (strV (s ++ t), 0)) : V × Int) = v0 at hev
  have HV0 := Lib.hid hgen
  obtain ⟨⟨vk0, vn0, vs0⟩, ve0⟩ := v0
  simp only at hev
  clear hb hk hgen
  go_wp2_with fail
  refine (hev.out).mono ?_
  rintro e r0 ⟨rfl, hb⟩
  have hal : Below r0.heap.size r0 (r0.alloc (.cells #[.int .i64 vk0, .int .i64 vn0, .string vs0] 29)) := (Below.refl _ _).alloc (Nat.le_refl _) _
  have hb2 := hb.trans (hal.mono hb.size)
  replace HR := Lib.hid ((HR.out.below hb2).more hb2.size)
  replace HU := Lib.hid ((HU.out.below hb2).more hb2.size)
  replace HB := Lib.hid (HB.out.trans (hb2.mono HB.out.size))
  have HC0 : Hid ((r0.alloc (.cells #[.int .i64 vk0, .int .i64 vn0, .string vs0] 29)).cell? ⟨r0.heap.size, 0, none⟩ = some (.int .i64 vk0) ∧ (r0.alloc (.cells #[.int .i64 vk0, .int .i64 vn0, .string vs0] 29)).cell? ⟨r0.heap.size, 1, none⟩ = some (.int .i64 vn0) ∧ (r0.alloc (.cells #[.int .i64 vk0, .int .i64 vn0, .string vs0] 29)).cell? ⟨r0.heap.size, 2, none⟩ = some (.string vs0)) := Lib.hid (by simp)
  have HS0 : Hid (r0.heap.size < (r0.alloc (.cells #[.int .i64 vk0, .int .i64 vn0, .string vs0] 29)).heap.size) := Lib.hid (by simp)
  clear hb hb2 hal hev
  go_wp2_with fail
  refine (of_any of_len _).mono ?_
  rintro e p1 ⟨⟨E1, ce1, rfl, hk⟩, hb⟩
  replace HR := Lib.hid ((HR.out.below hb).more hb.size)
  replace HU := Lib.hid ((HU.out.below hb).more hb.size)
  replace HB := Lib.hid (HB.out.trans (hb.mono HB.out.size))
  replace HC0 := Lib.hid (And.intro ((hb.cell (p := ⟨r0.heap.size, 0, none⟩) HS0.out).trans HC0.out.1) (And.intro ((hb.cell (p := ⟨r0.heap.size, 1, none⟩) HS0.out).trans HC0.out.2.1) ((hb.cell (p := ⟨r0.heap.size, 2, none⟩) HS0.out).trans HC0.out.2.2)))
  replace HS0 := Lib.hid (Nat.lt_of_lt_of_le HS0.out hb.size)
  have hev := Lib.hid (evalTop_any xCols [strV s, strV t] (by decide) (by simp) hn.out (opE opLen [colE chX]) (opE_fine _ _ (fun e he => by
    simp only [List.mem_cons, List.not_mem_nil, or_false] at he
    rcases he with rfl | rfl
    all_goals exact colE_fine _ (by decide)) (by decide)) E1 (some ⟨W.heap.size, 0, none⟩) (some ⟨W.heap.size + 3, 0, none⟩) ce1 2 2 p1 hk HU.out HR.out)
  rw [ev_len s t hs ht] at hev
  generalize hgen : ((numV s.size, 0) : V × Int) = v1 at hev
  have HV1 := Lib.hid hgen
  obtain ⟨⟨vk1, vn1, vs1⟩, ve1⟩ := v1
  simp only at hev
  clear hb hk hgen
  go_wp2_with fail
  refine (hev.out).mono ?_
  rintro e r1 ⟨rfl, hb⟩
  have hal : Below r1.heap.size r1 (r1.alloc (.cells #[.int .i64 vk1, .int .i64 vn1, .string vs1] 29)) := (Below.refl _ _).alloc (Nat.le_refl _) _
  have hb2 := hb.trans (hal.mono hb.size)
  replace HR := Lib.hid ((HR.out.below hb2).more hb2.size)
  replace HU := Lib.hid ((HU.out.below hb2).more hb2.size)
  replace HB := Lib.hid (HB.out.trans (hb2.mono HB.out.size))
  replace HC0 := Lib.hid (And.intro ((hb2.cell (p := ⟨r0.heap.size, 0, none⟩) HS0.out).trans HC0.out.1) (And.intro ((hb2.cell (p := ⟨r0.heap.size, 1, none⟩) HS0.out).trans HC0.out.2.1) ((hb2.cell (p := ⟨r0.heap.size, 2, none⟩) HS0.out).trans HC0.out.2.2)))
  replace HS0 := Lib.hid (Nat.lt_of_lt_of_le HS0.out hb2.size)
  have HC1 : Hid ((r1.alloc (.cells #[.int .i64 vk1, .int .i64 vn1, .string vs1] 29)).cell? ⟨r1.heap.size, 0, none⟩ = some (.int .i64 vk1) ∧ (r1.alloc (.cells #[.int .i64 vk1, .int .i64 vn1, .string vs1] 29)).cell? ⟨r1.heap.size, 1, none⟩ = some (.int .i64 vn1) ∧ (r1.alloc (.cells #[.int .i64 vk1, .int .i64 vn1, .string vs1] 29)).cell? ⟨r1.heap.size, 2, none⟩ = some (.string vs1)) := Lib.hid (by simp)
  have HS1 : Hid (r1.heap.size < (r1.alloc (.cells #[.int .i64 vk1, .int .i64 vn1, .string vs1] 29)).heap.size) := Lib.hid (by simp)
  clear hb hb2 hal hev
  go_wp2_with fail
  refine (of_any of_eq2 _).mono ?_
  rintro e p2 ⟨⟨E2, ce2, rfl, hk⟩, hb⟩
  replace HR := Lib.hid ((HR.out.below hb).more hb.size)
  replace HU := Lib.hid ((HU.out.below hb).more hb.size)
  replace HB := Lib.hid (HB.out.trans (hb.mono HB.out.size))
  replace HC0 := Lib.hid (And.intro ((hb.cell (p := ⟨r0.heap.size, 0, none⟩) HS0.out).trans HC0.out.1) (And.intro ((hb.cell (p := ⟨r0.heap.size, 1, none⟩) HS0.out).trans HC0.out.2.1) ((hb.cell (p := ⟨r0.heap.size, 2, none⟩) HS0.out).trans HC0.out.2.2)))
  replace HS0 := Lib.hid (Nat.lt_of_lt_of_le HS0.out hb.size)
  replace HC1 := Lib.hid (And.intro ((hb.cell (p := ⟨r1.heap.size, 0, none⟩) HS1.out).trans HC1.out.1) (And.intro ((hb.cell (p := ⟨r1.heap.size, 1, none⟩) HS1.out).trans HC1.out.2.1) ((hb.cell (p := ⟨r1.heap.size, 2, none⟩) HS1.out).trans HC1.out.2.2)))
  replace HS1 := Lib.hid (Nat.lt_of_lt_of_le HS1.out hb.size)
  have hev := Lib.hid (evalTop_any xCols [strV s, strV t] (by decide) (by simp) hn.out (opE opEq [colE chX, colE chY]) (opE_fine _ _ (fun e he => by
    simp only [List.mem_cons, List.not_mem_nil, or_false] at he
    rcases he with rfl | rfl
    all_goals exact colE_fine _ (by decide)) (by decide)) E2 (some ⟨W.heap.size, 0, none⟩) (some ⟨W.heap.size + 3, 0, none⟩) ce2 2 2 p2 hk HU.out HR.out)
  rw [ev_eq2 s t hs ht] at hev
  generalize hgen : ((numV (boolI (V.eqv (strV s) (strV t))), 0) : V × Int) = v2 at hev
  have HV2 := Lib.hid hgen
  obtain ⟨⟨vk2, vn2, vs2⟩, ve2⟩ := v2
  simp only at hev
  clear hb hk hgen
  go_wp2_with fail
  refine (hev.out).mono ?_
  rintro e r2 ⟨rfl, hb⟩
  have hal : Below r2.heap.size r2 (r2.alloc (.cells #[.int .i64 vk2, .int .i64 vn2, .string vs2] 29)) := (Below.refl _ _).alloc (Nat.le_refl _) _
  have hb2 := hb.trans (hal.mono hb.size)
  replace HR := Lib.hid ((HR.out.below hb2).more hb2.size)
  replace HU := Lib.hid ((HU.out.below hb2).more hb2.size)
  replace HB := Lib.hid (HB.out.trans (hb2.mono HB.out.size))
  replace HC0 := Lib.hid (And.intro ((hb2.cell (p := ⟨r0.heap.size, 0, none⟩) HS0.out).trans HC0.out.1) (And.intro ((hb2.cell (p := ⟨r0.heap.size, 1, none⟩) HS0.out).trans HC0.out.2.1) ((hb2.cell (p := ⟨r0.heap.size, 2, none⟩) HS0.out).trans HC0.out.2.2)))
  replace HS0 := Lib.hid (Nat.lt_of_lt_of_le HS0.out hb2.size)
  replace HC1 := Lib.hid (And.intro ((hb2.cell (p := ⟨r1.heap.size, 0, none⟩) HS1.out).trans HC1.out.1) (And.intro ((hb2.cell (p := ⟨r1.heap.size, 1, none⟩) HS1.out).trans HC1.out.2.1) ((hb2.cell (p := ⟨r1.heap.size, 2, none⟩) HS1.out).trans HC1.out.2.2)))
  replace HS1 := Lib.hid (Nat.lt_of_lt_of_le HS1.out hb2.size)
  have HC2 : Hid ((r2.alloc (.cells #[.int .i64 vk2, .int .i64 vn2, .string vs2] 29)).cell? ⟨r2.heap.size, 0, none⟩ = some (.int .i64 vk2) ∧ (r2.alloc (.cells #[.int .i64 vk2, .int .i64 vn2, .string vs2] 29)).cell? ⟨r2.heap.size, 1, none⟩ = some (.int .i64 vn2) ∧ (r2.alloc (.cells #[.int .i64 vk2, .int .i64 vn2, .string vs2] 29)).cell? ⟨r2.heap.size, 2, none⟩ = some (.string vs2)) := Lib.hid (by simp)
  have HS2 : Hid (r2.heap.size < (r2.alloc (.cells #[.int .i64 vk2, .int .i64 vn2, .string vs2] 29)).heap.size) := Lib.hid (by simp)
  clear hb hb2 hal hev
  go_wp2_with fail
  refine (of_any of_lt2 _).mono ?_
  rintro e p3 ⟨⟨E3, ce3, rfl, hk⟩, hb⟩
  replace HR := Lib.hid ((HR.out.below hb).more hb.size)
  replace HU := Lib.hid ((HU.out.below hb).more hb.size)
  replace HB := Lib.hid (HB.out.trans (hb.mono HB.out.size))
  replace HC0 := Lib.hid (And.intro ((hb.cell (p := ⟨r0.heap.size, 0, none⟩) HS0.out).trans HC0.out.1) (And.intro ((hb.cell (p := ⟨r0.heap.size, 1, none⟩) HS0.out).trans HC0.out.2.1) ((hb.cell (p := ⟨r0.heap.size, 2, none⟩) HS0.out).trans HC0.out.2.2)))
  replace HS0 := Lib.hid (Nat.lt_of_lt_of_le HS0.out hb.size)
  replace HC1 := Lib.hid (And.intro ((hb.cell (p := ⟨r1.heap.size, 0, none⟩) HS1.out).trans HC1.out.1) (And.intro ((hb.cell (p := ⟨r1.heap.size, 1, none⟩) HS1.out).trans HC1.out.2.1) ((hb.cell (p := ⟨r1.heap.size, 2, none⟩) HS1.out).trans HC1.out.2.2)))
  replace HS1 := Lib.hid (Nat.lt_of_lt_of_le HS1.out hb.size)
  replace HC2 := Lib.hid (And.intro ((hb.cell (p := ⟨r2.heap.size, 0, none⟩) HS2.out).trans HC2.out.1) (And.intro ((hb.cell (p := ⟨r2.heap.size, 1, none⟩) HS2.out).trans HC2.out.2.1) ((hb.cell (p := ⟨r2.heap.size, 2, none⟩) HS2.out).trans HC2.out.2.2)))
  replace HS2 := Lib.hid (Nat.lt_of_lt_of_le HS2.out hb.size)
  have hev := Lib.hid (evalTop_any xCols [strV s, strV t] (by decide) (by simp) hn.out (opE opLt [colE chX, colE chY]) (opE_fine _ _ (fun e he => by
    simp only [List.mem_cons, List.not_mem_nil, or_false] at he
    rcases he with rfl | rfl
    all_goals exact colE_fine _ (by decide)) (by decide)) E3 (some ⟨W.heap.size, 0, none⟩) (some ⟨W.heap.size + 3, 0, none⟩) ce3 2 2 p3 hk HU.out HR.out)
  rw [ev_lt2 s t hs ht] at hev
  generalize hgen : ((numV (boolI (V.lt (strV s) (strV t))), 0) : V × Int) = v3 at hev
  have HV3 := Lib.hid hgen
  obtain ⟨⟨vk3, vn3, vs3⟩, ve3⟩ := v3
  simp only at hev
  clear hb hk hgen
  go_wp2_with fail
  refine (hev.out).mono ?_
  rintro e r3 ⟨rfl, hb⟩
  have hal : Below r3.heap.size r3 (r3.alloc (.cells #[.int .i64 vk3, .int .i64 vn3, .string vs3] 29)) := (Below.refl _ _).alloc (Nat.le_refl _) _
  have hb2 := hb.trans (hal.mono hb.size)
  replace HR := Lib.hid ((HR.out.below hb2).more hb2.size)
  replace HU := Lib.hid ((HU.out.below hb2).more hb2.size)
  replace HB := Lib.hid (HB.out.trans (hb2.mono HB.out.size))
  replace HC0 := Lib.hid (And.intro ((hb2.cell (p := ⟨r0.heap.size, 0, none⟩) HS0.out).trans HC0.out.1) (And.intro ((hb2.cell (p := ⟨r0.heap.size, 1, none⟩) HS0.out).trans HC0.out.2.1) ((hb2.cell (p := ⟨r0.heap.size, 2, none⟩) HS0.out).trans HC0.out.2.2)))
  replace HS0 := Lib.hid (Nat.lt_of_lt_of_le HS0.out hb2.size)
  replace HC1 := Lib.hid (And.intro ((hb2.cell (p := ⟨r1.heap.size, 0, none⟩) HS1.out).trans HC1.out.1) (And.intro ((hb2.cell (p := ⟨r1.heap.size, 1, none⟩) HS1.out).trans HC1.out.2.1) ((hb2.cell (p := ⟨r1.heap.size, 2, none⟩) HS1.out).trans HC1.out.2.2)))
  replace HS1 := Lib.hid (Nat.lt_of_lt_of_le HS1.out hb2.size)
  replace HC2 := Lib.hid (And.intro ((hb2.cell (p := ⟨r2.heap.size, 0, none⟩) HS2.out).trans HC2.out.1) (And.intro ((hb2.cell (p := ⟨r2.heap.size, 1, none⟩) HS2.out).trans HC2.out.2.1) ((hb2.cell (p := ⟨r2.heap.size, 2, none⟩) HS2.out).trans HC2.out.2.2)))
  replace HS2 := Lib.hid (Nat.lt_of_lt_of_le HS2.out hb2.size)
  have HC3 : Hid ((r3.alloc (.cells #[.int .i64 vk3, .int .i64 vn3, .string vs3] 29)).cell? ⟨r3.heap.size, 0, none⟩ = some (.int .i64 vk3) ∧ (r3.alloc (.cells #[.int .i64 vk3, .int .i64 vn3, .string vs3] 29)).cell? ⟨r3.heap.size, 1, none⟩ = some (.int .i64 vn3) ∧ (r3.alloc (.cells #[.int .i64 vk3, .int .i64 vn3, .string vs3] 29)).cell? ⟨r3.heap.size, 2, none⟩ = some (.string vs3)) := Lib.hid (by simp)
  have HS3 : Hid (r3.heap.size < (r3.alloc (.cells #[.int .i64 vk3, .int .i64 vn3, .string vs3] 29)).heap.size) := Lib.hid (by simp)
  clear hb hb2 hal hev
  rw [eqv_str] at HV2
  rw [lt_str s t hs ht] at HV3
  obtain ⟨wz, hwz⟩ : ∃ wz, wz = (r3.alloc (.cells #[.int .i64 vk3, .int .i64 vn3, .string vs3] 29)) := ⟨_, rfl⟩
  rw [← hwz] at HC0 HC1 HC2 HC3 HB
  have HWZ := Lib.hid hwz
  clear HR HU hn hwz
  have HALL : Hid (∀ w1, Below wz.heap.size wz w1 → w1.cell? ⟨r0.heap.size, 0, none⟩ = some (.int .i64 vk0) ∧ w1.cell? ⟨r0.heap.size, 1, none⟩ = some (.int .i64 vn0) ∧ w1.cell? ⟨r0.heap.size, 2, none⟩ = some (.string vs0) ∧ w1.cell? ⟨r1.heap.size, 0, none⟩ = some (.int .i64 vk1) ∧ w1.cell? ⟨r1.heap.size, 1, none⟩ = some (.int .i64 vn1) ∧ w1.cell? ⟨r1.heap.size, 2, none⟩ = some (.string vs1) ∧ w1.cell? ⟨r2.heap.size, 1, none⟩ = some (.int .i64 vn2) ∧ w1.cell? ⟨r3.heap.size, 1, none⟩ = some (.int .i64 vn3)) := Lib.hid fun w1 h1 =>
    ⟨(h1.cell (p := ⟨r0.heap.size, 0, none⟩) (by rw [HWZ.out]; exact HS0.out)).trans HC0.out.1, (h1.cell (p := ⟨r0.heap.size, 1, none⟩) (by rw [HWZ.out]; exact HS0.out)).trans HC0.out.2.1, (h1.cell (p := ⟨r0.heap.size, 2, none⟩) (by rw [HWZ.out]; exact HS0.out)).trans HC0.out.2.2,
     (h1.cell (p := ⟨r1.heap.size, 0, none⟩) (by rw [HWZ.out]; exact HS1.out)).trans HC1.out.1, (h1.cell (p := ⟨r1.heap.size, 1, none⟩) (by rw [HWZ.out]; exact HS1.out)).trans HC1.out.2.1, (h1.cell (p := ⟨r1.heap.size, 2, none⟩) (by rw [HWZ.out]; exact HS1.out)).trans HC1.out.2.2,
     (h1.cell (p := ⟨r2.heap.size, 1, none⟩) (by rw [HWZ.out]; exact HS2.out)).trans HC2.out.2.1, (h1.cell (p := ⟨r3.heap.size, 1, none⟩) (by rw [HWZ.out]; exact HS3.out)).trans HC3.out.2.1⟩
  clear HC0 HC1 HC2 HC3 HS0 HS1 HS2 HS3
  have hKn : Hid (∀ w1, Below wz.heap.size wz w1 → Calls Try.prog 16 #[] w1 fun e w' => e = .returned (.bool true) ∧ Below wz.heap.size wz w') := Lib.hid fun w1 h1 => (known8_any w1).mono fun e w' ⟨h2, h3⟩ => ⟨h2, h1.trans (h3.mono h1.size)⟩
  have hNu : Hid (∀ w1, Below wz.heap.size wz w1 → Calls Try.prog 18 #[.int .i64 s.size] w1 fun e w' => e = .returned (.agg #[.int .i64 1, .int .i64 s.size, .string ⟨#[]⟩]) ∧ Below wz.heap.size wz w') := Lib.hid fun w1 h1 => (keep_num s.size w1).mono fun e w' ⟨h2, h3⟩ => ⟨h2, h3 ▸ h1.alloc h1.size _⟩
  have hSt : Hid (∀ w1, Below wz.heap.size wz w1 → Calls Try.prog 17 #[.string (s ++ t)] w1 fun e w' => e = .returned (.agg #[.int .i64 2, .int .i64 0, .string (s ++ t)]) ∧ Below wz.heap.size wz w') := Lib.hid fun w1 h1 => (keep_str (s ++ t) w1).mono fun e w' ⟨h2, h3⟩ => ⟨h2, h3 ▸ h1.alloc h1.size _⟩
  have LW : Hid (∀ w1, Below wz.heap.size wz w1 → Below W.heap.size W w1) := Lib.hid fun w1 h => HB.out.trans (h.mono HB.out.size)
  have T0 : Hid (Below wz.heap.size wz wz.drew) := Lib.hid (Below.refl _ _).drew
  have heq1 : ∀ w, (binOp .eql 29 (.agg #[.int .i64 2, .int .i64 0, .string (s ++ t)]) (.agg #[.int .i64 2, .int .i64 0, .string (s ++ t)])).run Try.prog w = .ok (.bool true) w := fun w => by rw [eql_value_]; simp
  have heq2 : ∀ w, (binOp .eql 29 (.agg #[.int .i64 1, .int .i64 s.size, .string ⟨#[]⟩]) (.agg #[.int .i64 1, .int .i64 s.size, .string ⟨#[]⟩])).run Try.prog w = .ok (.bool true) w := fun w => by rw [eql_value_]; simp
  obtain ⟨qe, hqe⟩ : ∃ b, b = (s.toList == t.toList) := ⟨_, rfl⟩
  obtain ⟨ql, hql⟩ : ∃ b, b = Op.bytesLess s.toList t.toList := ⟨_, rfl⟩
  obtain ⟨z2, n2, y2, e2⟩ := vals4 HV2.out
  obtain ⟨z3, n3, y3, e3⟩ := vals4 HV3.out
  have b2 : (vn2 == 1) = qe := by rw [n2, hqe]; exact bool_one _
  have b3 : (vn3 == 1) = ql := by rw [n3, hql]; exact bool_one _
  have l2 := hqe.symm
  have l3 := hql.symm
  obtain ⟨k1, n1, x1, e1⟩ := vals4 HV1.out
  replace e2 : ve2 = 0 := e2
  replace e3 : ve3 = 0 := e3
  replace e1 : ve1 = 0 := e1
  replace k1 : vk1 = 1 := k1
  replace n1 : vn1 = s.size := n1
  replace x1 : vs1 = ⟨#[]⟩ := x1
  subst e1 e2 e3 k1 n1 x1
  have B2 := Lib.hid b2
  have B3 := Lib.hid b3
  have L2 := Lib.hid l2
  have L3 := Lib.hid l3
  have Q1 := Lib.hid heq1
  have Q2 := Lib.hid heq2
  clear z2 y2 z3 y3 HV1 HV2 HV3 n2 n3 hqe hql HB b2 b3 l2 l3 heq1 heq2
  by_cases hbig : 40 < s.size + t.size
  · obtain ⟨k0, n0, x0, e0⟩ := vals4 HV0.out
    clear k0 n0 x0
    rw [if_pos hbig] at e0
    replace e0 : ve0 = 3 := e0
    subst e0
    have hbg : ¬ ((s.size : Int) + (t.size : Int) ≤ 40) := by omega
    clear HV0 hSt Q1 hbig
    go_wp2_with fail
    rw [← HWZ.out]
    clear HWZ
    have b2 := B2.out
    have b3 := B3.out
    have l2 := L2.out
    have l3 := L3.out
    have heq2 := Q2.out
    refine wp_region_held_drew (S := fun w' => w'.cell? ⟨r0.heap.size, 0, none⟩ = some (.int .i64 vk0) ∧ w'.cell? ⟨r0.heap.size, 1, none⟩ = some (.int .i64 vn0) ∧ w'.cell? ⟨r0.heap.size, 2, none⟩ = some (.string vs0) ∧ w'.cell? ⟨r1.heap.size, 0, none⟩ = some (.int .i64 1) ∧ w'.cell? ⟨r1.heap.size, 1, none⟩ = some (.int .i64 s.size) ∧ w'.cell? ⟨r1.heap.size, 2, none⟩ = some (.string ⟨#[]⟩) ∧ w'.cell? ⟨r2.heap.size, 1, none⟩ = some (.int .i64 vn2) ∧ w'.cell? ⟨r3.heap.size, 1, none⟩ = some (.int .i64 vn3)) (by kernel_rfl) (HALL.out _ (Hid.out (by assumption))) (fun hHeld => ?_)
    refine wpAnyH_take (i := 0) (v := .int .i64 3) rfl (by kernel_rfl) (by kernel_rfl) (by kernel_rfl) (fun _ _ _ h => h) (Or.inl ⟨by rfl, fun w1 hSw => by (dsimp only at hSw; go_simp)⟩) (by assumption) ?_
    simp only [List.getElem_toArray, List.getElem_cons_zero, Act.put, List.setIfInBounds_toArray, List.set_cons_zero, List.set_cons_succ]
    refine wpAnyH_take (i := 1) (v := .bool false) rfl (by kernel_rfl) (by kernel_rfl) (by kernel_rfl) (fun _ _ _ h => h) (Or.inl ⟨by rfl, fun w1 hSw => by (dsimp only at hSw; go_simp)⟩) (by assumption) ?_
    simp only [List.getElem_toArray, List.getElem_cons_succ, List.getElem_cons_zero, Act.put, List.setIfInBounds_toArray, List.set_cons_zero, List.set_cons_succ]
    refine wpAnyH_take (i := 2) (v := .bool false) rfl (by kernel_rfl) (by kernel_rfl) (by kernel_rfl) (fun _ _ _ h => h) (Or.inl ⟨by rfl, fun w1 hSw => by (dsimp only at hSw; go_simp)⟩) (by assumption) ?_
    simp only [List.getElem_toArray, List.getElem_cons_succ, List.getElem_cons_zero, Act.put, List.setIfInBounds_toArray, List.set_cons_zero, List.set_cons_succ]
    refine wpAnyH_take (i := 3) (v := .bool true) rfl (by kernel_rfl) (by kernel_rfl) (by kernel_rfl) (fun _ _ _ h => h) (Or.inl ⟨by rfl, fun w1 hSw => by (dsimp only at hSw; go_simp)⟩) (by assumption) ?_
    simp only [List.getElem_toArray, List.getElem_cons_succ, List.getElem_cons_zero, Act.put, List.setIfInBounds_toArray, List.set_cons_zero, List.set_cons_succ]
    refine wpAnyH_take (i := 4) (v := .bool true) rfl (by kernel_rfl) (by kernel_rfl) (by kernel_rfl) (fun _ _ _ h => h) (Or.inl ⟨by rfl, fun w1 hSw => by (dsimp only at hSw; go_simp)⟩) (by assumption) ?_
    simp only [List.getElem_toArray, List.getElem_cons_succ, List.getElem_cons_zero, Act.put, List.setIfInBounds_toArray, List.set_cons_zero, List.set_cons_succ]
    refine wpAnyH_take (i := 5) (v := .bool false) rfl (by kernel_rfl) (by kernel_rfl) (by kernel_rfl) (fun _ _ _ h => h) (Or.inl ⟨by rfl, fun w1 hSw => by (dsimp only at hSw; go_simp)⟩) (by assumption) ?_
    simp only [List.getElem_toArray, List.getElem_cons_succ, List.getElem_cons_zero, Act.put, List.setIfInBounds_toArray, List.set_cons_zero, List.set_cons_succ]
    refine wpAnyH_take (i := 6) (v := .bool false) rfl (by kernel_rfl) (by kernel_rfl) (by kernel_rfl) (fun _ _ _ h => h) (Or.inl ⟨by rfl, fun w1 hSw => by (dsimp only at hSw; go_simp)⟩) (by assumption) ?_
    simp only [List.getElem_toArray, List.getElem_cons_succ, List.getElem_cons_zero, Act.put, List.setIfInBounds_toArray, List.set_cons_zero, List.set_cons_succ]
    refine wpAnyH_take (i := 7) (v := .int .i64 3) rfl (by kernel_rfl) (by kernel_rfl) (by kernel_rfl) (fun _ _ _ h => h) (Or.inl ⟨by rfl, fun w1 hSw => by (dsimp only at hSw; go_simp)⟩) (by assumption) ?_
    simp only [List.getElem_toArray, List.getElem_cons_succ, List.getElem_cons_zero, Act.put, List.setIfInBounds_toArray, List.set_cons_zero, List.set_cons_succ]
    refine wpAnyH_take (i := 8) (v := .bool true) rfl (by kernel_rfl) (by kernel_rfl) (by kernel_rfl) (fun _ _ _ h => h) (Or.inl ⟨by rfl, fun w1 hSw => by (dsimp only at hSw; go_simp)⟩) (by assumption) ?_
    simp only [List.getElem_toArray, List.getElem_cons_succ, List.getElem_cons_zero, Act.put, List.setIfInBounds_toArray, List.set_cons_zero, List.set_cons_succ]
    refine wpAnyH_take (i := 9) (v := .bool true) rfl (by kernel_rfl) (by kernel_rfl) (by kernel_rfl) (fun _ _ _ h => h) (Or.inl ⟨by rfl, fun w1 hSw => by (dsimp only at hSw; go_simp)⟩) (by assumption) ?_
    simp only [List.getElem_toArray, List.getElem_cons_succ, List.getElem_cons_zero, Act.put, List.setIfInBounds_toArray, List.set_cons_zero, List.set_cons_succ]
    refine wpAnyH_take (i := 10) (v := .bool true) rfl (by kernel_rfl) (by kernel_rfl) (by kernel_rfl) (fun _ _ _ h => h) (Or.inl ⟨by rfl, fun w1 hSw => by (dsimp only at hSw; go_simp)⟩) (by assumption) ?_
    simp only [List.getElem_toArray, List.getElem_cons_succ, List.getElem_cons_zero, Act.put, List.setIfInBounds_toArray, List.set_cons_zero, List.set_cons_succ]
    refine wpAnyH_take (i := 11) (v := .bool true) rfl (by kernel_rfl) (by kernel_rfl) (by kernel_rfl) (fun _ _ _ h => h) (Or.inl ⟨by rfl, fun w1 hSw => by (dsimp only at hSw; go_simp)⟩) (by assumption) ?_
    simp only [List.getElem_toArray, List.getElem_cons_succ, List.getElem_cons_zero, Act.put, List.setIfInBounds_toArray, List.set_cons_zero, List.set_cons_succ]
    refine wpAnyH_take (i := 12) (v := .bool false) rfl (by kernel_rfl) (by kernel_rfl) (by kernel_rfl) (fun _ _ _ h => h) (Or.inl ⟨by rfl, fun w1 hSw => by (dsimp only at hSw; go_simp)⟩) (by assumption) ?_
    simp only [List.getElem_toArray, List.getElem_cons_succ, List.getElem_cons_zero, Act.put, List.setIfInBounds_toArray, List.set_cons_zero, List.set_cons_succ]
    refine wpAnyH_take (i := 13) (v := .bool true) rfl (by kernel_rfl) (by kernel_rfl) (by kernel_rfl) (fun _ _ _ h => h) (Or.inl ⟨by rfl, fun w1 hSw => by (dsimp only at hSw; go_simp)⟩) (by assumption) ?_
    simp only [List.getElem_toArray, List.getElem_cons_succ, List.getElem_cons_zero, Act.put, List.setIfInBounds_toArray, List.set_cons_zero, List.set_cons_succ]
    refine wpAnyH_take (i := 14) (v := .bool true) rfl (by kernel_rfl) (by kernel_rfl) (by kernel_rfl) (fun _ _ _ h => h) (Or.inl ⟨by rfl, fun w1 hSw => by (dsimp only at hSw; go_simp)⟩) (by assumption) ?_
    simp only [List.getElem_toArray, List.getElem_cons_succ, List.getElem_cons_zero, Act.put, List.setIfInBounds_toArray, List.set_cons_zero, List.set_cons_succ]
    refine wpAnyH_take (i := 15) (v := undef) rfl (by kernel_rfl) (by kernel_rfl) (by kernel_rfl) (fun _ _ _ h => h) (Or.inr ⟨by kernel_rfl, rfl⟩) (by assumption) ?_
    simp only [List.getElem_toArray, List.getElem_cons_succ, List.getElem_cons_zero, Act.put, List.setIfInBounds_toArray, List.set_cons_zero, List.set_cons_succ]
    refine wpAnyH_take (i := 16) (v := undef) rfl (by kernel_rfl) (by kernel_rfl) (by kernel_rfl) (fun _ _ _ h => h) (Or.inr ⟨by kernel_rfl, rfl⟩) (by assumption) ?_
    simp only [List.getElem_toArray, List.getElem_cons_succ, List.getElem_cons_zero, Act.put, List.setIfInBounds_toArray, List.set_cons_zero, List.set_cons_succ]
    refine wpAnyH_take (i := 17) (v := undef) rfl (by kernel_rfl) (by kernel_rfl) (by kernel_rfl) (fun _ _ _ h => h) (Or.inr ⟨by kernel_rfl, rfl⟩) (by assumption) ?_
    simp only [List.getElem_toArray, List.getElem_cons_succ, List.getElem_cons_zero, Act.put, List.setIfInBounds_toArray, List.set_cons_zero, List.set_cons_succ]
    refine wpAnyH_take (i := 18) (v := undef) rfl (by kernel_rfl) (by kernel_rfl) (by kernel_rfl) (fun _ _ _ h => h) (Or.inr ⟨by kernel_rfl, rfl⟩) (by assumption) ?_
    simp only [List.getElem_toArray, List.getElem_cons_succ, List.getElem_cons_zero, Act.put, List.setIfInBounds_toArray, List.set_cons_zero, List.set_cons_succ]
    refine wpAnyH_take (i := 19) (v := undef) rfl (by kernel_rfl) (by kernel_rfl) (by kernel_rfl) (fun _ _ _ h => h) (Or.inr ⟨by kernel_rfl, rfl⟩) (by assumption) ?_
    simp only [List.getElem_toArray, List.getElem_cons_succ, List.getElem_cons_zero, Act.put, List.setIfInBounds_toArray, List.set_cons_zero, List.set_cons_succ]
    refine wpAnyH_take (i := 20) (v := undef) rfl (by kernel_rfl) (by kernel_rfl) (by kernel_rfl) (fun _ _ _ h => h) (Or.inr ⟨by kernel_rfl, rfl⟩) (by assumption) ?_
    simp only [List.getElem_toArray, List.getElem_cons_succ, List.getElem_cons_zero, Act.put, List.setIfInBounds_toArray, List.set_cons_zero, List.set_cons_succ]
    refine wpAnyH_take (i := 21) (v := .bool true) rfl (by kernel_rfl) (by kernel_rfl) (by kernel_rfl) (fun _ _ _ h => h) (Or.inl ⟨by rfl, fun w1 hSw => by (dsimp only at hSw; go_simp)⟩) (by assumption) ?_
    simp only [List.getElem_toArray, List.getElem_cons_succ, List.getElem_cons_zero, Act.put, List.setIfInBounds_toArray, List.set_cons_zero, List.set_cons_succ]
    refine wpAnyH_take (i := 22) (v := .bool true) rfl (by kernel_rfl) (by kernel_rfl) (by kernel_rfl) (fun _ _ _ h => h) (Or.inl ⟨by rfl, fun w1 hSw => by (dsimp only at hSw; go_simp)⟩) (by assumption) ?_
    simp only [List.getElem_toArray, List.getElem_cons_succ, List.getElem_cons_zero, Act.put, List.setIfInBounds_toArray, List.set_cons_zero, List.set_cons_succ]
    refine wpAnyH_take (i := 23) (v := .bool true) rfl (by kernel_rfl) (by kernel_rfl) (by kernel_rfl) (fun _ _ _ h => h) (Or.inl ⟨by rfl, fun w1 hSw => by (dsimp only at hSw; go_simp)⟩) (by assumption) ?_
    simp only [List.getElem_toArray, List.getElem_cons_succ, List.getElem_cons_zero, Act.put, List.setIfInBounds_toArray, List.set_cons_zero, List.set_cons_succ]
    refine wpAnyH_take (i := 24) (v := .int .i64 0) rfl (by kernel_rfl) (by kernel_rfl) (by kernel_rfl) (fun _ _ _ h => h) (Or.inl ⟨by rfl, fun w1 hSw => by (dsimp only at hSw; go_simp)⟩) (by assumption) ?_
    simp only [List.getElem_toArray, List.getElem_cons_succ, List.getElem_cons_zero, Act.put, List.setIfInBounds_toArray, List.set_cons_zero, List.set_cons_succ]
    refine wpAnyH_take (i := 25) (v := .bool true) rfl (by kernel_rfl) (by kernel_rfl) (by kernel_rfl) (fun _ _ _ h => h) (Or.inl ⟨by rfl, fun w1 hSw => by (dsimp only at hSw; go_simp)⟩) (by assumption) ?_
    simp only [List.getElem_toArray, List.getElem_cons_succ, List.getElem_cons_zero, Act.put, List.setIfInBounds_toArray, List.set_cons_zero, List.set_cons_succ]
    refine wpAnyH_take (i := 26) (v := .bool true) rfl (by kernel_rfl) (by kernel_rfl) (by kernel_rfl) (fun _ _ _ h => h) (Or.inl ⟨by rfl, fun w1 hSw => by (dsimp only at hSw; go_simp)⟩) (by assumption) ?_
    simp only [List.getElem_toArray, List.getElem_cons_succ, List.getElem_cons_zero, Act.put, List.setIfInBounds_toArray, List.set_cons_zero, List.set_cons_succ]
    refine wpAnyH_take (i := 27) (v := .bool true) rfl (by kernel_rfl) (by kernel_rfl) (by kernel_rfl) (fun _ _ _ h => h) (Or.inl ⟨by rfl, fun w1 hSw => by (dsimp only at hSw; go_simp)⟩) (by assumption) ?_
    simp only [List.getElem_toArray, List.getElem_cons_succ, List.getElem_cons_zero, Act.put, List.setIfInBounds_toArray, List.set_cons_zero, List.set_cons_succ]
    refine wpAnyH_take (i := 28) (v := .agg #[.int .i64 1, .int .i64 s.size, .string ⟨#[]⟩]) rfl (by kernel_rfl) (by kernel_rfl) (by kernel_rfl) (fun _ _ _ h => h) (Or.inl ⟨by rfl, fun w1 hSw => by (dsimp only at hSw; go_simp)⟩) (by assumption) ?_
    simp only [List.getElem_toArray, List.getElem_cons_succ, List.getElem_cons_zero, Act.put, List.setIfInBounds_toArray, List.set_cons_zero, List.set_cons_succ]
    refine wpAnyH_take (i := 29) (v := .string s) rfl (by kernel_rfl) (by kernel_rfl) (by kernel_rfl) (fun _ _ _ h => h) (Or.inl ⟨by rfl, fun w1 hSw => by (dsimp only at hSw; go_simp)⟩) (by assumption) ?_
    simp only [List.getElem_toArray, List.getElem_cons_succ, List.getElem_cons_zero, Act.put, List.setIfInBounds_toArray, List.set_cons_zero, List.set_cons_succ]
    refine wpAnyH_take (i := 30) (v := .int .i64 s.size) rfl (by kernel_rfl) (by kernel_rfl) (by kernel_rfl) (fun _ _ _ h => h) (Or.inl ⟨by rfl, fun w1 hSw => by (dsimp only at hSw; go_simp)⟩) (by assumption) ?_
    simp only [List.getElem_toArray, List.getElem_cons_succ, List.getElem_cons_zero, Act.put, List.setIfInBounds_toArray, List.set_cons_zero, List.set_cons_succ]
    refine wpAnyH_ready (rs := [31]) (by kernel_rfl) (by simp) ?_
    refine AllReadyH.cons rfl (fun K hK => ?_) AllReadyH.nil
    simp only [List.getElem_toArray, List.getElem_cons_succ, List.getElem_cons_zero]
    go_simp
    refine (hNu.out _ (Hid.out (by assumption))).mono ?_
    rintro e w' ⟨rfl, bA⟩
    have U31 := Lib.hid bA
    clear bA hNu hHeld
    go_wp2_with fail
    refine hK.out _ _ (HALL.out _ (Hid.out (by assumption))) (fun hHeld => ?_)
    clear hK K
    refine wpAnyH_take (i := 32) (v := .bool true) rfl (by kernel_rfl) (by kernel_rfl) (by kernel_rfl) (fun _ _ _ h => h) (Or.inl ⟨by rfl, fun w1 hSw => by (dsimp only at hSw; go_simp)⟩) (by assumption) ?_
    simp only [List.getElem_toArray, List.getElem_cons_succ, List.getElem_cons_zero, Act.put, List.setIfInBounds_toArray, List.set_cons_zero, List.set_cons_succ]
    refine wpAnyH_take (i := 33) (v := .bool true) rfl (by kernel_rfl) (by kernel_rfl) (by kernel_rfl) (fun _ _ _ h => h) (Or.inl ⟨by rfl, fun w1 hSw => by (dsimp only at hSw; go_simp)⟩) (by assumption) ?_
    simp only [List.getElem_toArray, List.getElem_cons_succ, List.getElem_cons_zero, Act.put, List.setIfInBounds_toArray, List.set_cons_zero, List.set_cons_succ]
    refine wpAnyH_take (i := 34) (v := .bool true) rfl (by kernel_rfl) (by kernel_rfl) (by kernel_rfl) (fun _ _ _ h => h) (Or.inl ⟨by rfl, fun w1 hSw => by (dsimp only at hSw; go_simp)⟩) (by assumption) ?_
    simp only [List.getElem_toArray, List.getElem_cons_succ, List.getElem_cons_zero, Act.put, List.setIfInBounds_toArray, List.set_cons_zero, List.set_cons_succ]
    refine wpAnyH_take (i := 35) (v := .int .i64 0) rfl (by kernel_rfl) (by kernel_rfl) (by kernel_rfl) (fun _ _ _ h => h) (Or.inl ⟨by rfl, fun w1 hSw => by (dsimp only at hSw; go_simp)⟩) (by assumption) ?_
    simp only [List.getElem_toArray, List.getElem_cons_succ, List.getElem_cons_zero, Act.put, List.setIfInBounds_toArray, List.set_cons_zero, List.set_cons_succ]
    refine wpAnyH_take (i := 36) (v := .bool true) rfl (by kernel_rfl) (by kernel_rfl) (by kernel_rfl) (fun _ _ _ h => h) (Or.inl ⟨by rfl, fun w1 hSw => by (dsimp only at hSw; go_simp)⟩) (by assumption) ?_
    simp only [List.getElem_toArray, List.getElem_cons_succ, List.getElem_cons_zero, Act.put, List.setIfInBounds_toArray, List.set_cons_zero, List.set_cons_succ]
    refine wpAnyH_take (i := 37) (v := .bool true) rfl (by kernel_rfl) (by kernel_rfl) (by kernel_rfl) (fun _ _ _ h => h) (Or.inl ⟨by rfl, fun w1 hSw => by (dsimp only at hSw; go_simp)⟩) (by assumption) ?_
    simp only [List.getElem_toArray, List.getElem_cons_succ, List.getElem_cons_zero, Act.put, List.setIfInBounds_toArray, List.set_cons_zero, List.set_cons_succ]
    refine wpAnyH_take (i := 38) (v := .bool true) rfl (by kernel_rfl) (by kernel_rfl) (by kernel_rfl) (fun _ _ _ h => h) (Or.inl ⟨by rfl, fun w1 hSw => by (dsimp only at hSw; go_simp)⟩) (by assumption) ?_
    simp only [List.getElem_toArray, List.getElem_cons_succ, List.getElem_cons_zero, Act.put, List.setIfInBounds_toArray, List.set_cons_zero, List.set_cons_succ]
    refine wpAnyH_take (i := 39) (v := .int .i64 0) rfl (by kernel_rfl) (by kernel_rfl) (by kernel_rfl) (fun _ _ _ h => h) (Or.inl ⟨by rfl, fun w1 hSw => by (dsimp only at hSw; go_simp)⟩) (by assumption) ?_
    simp only [List.getElem_toArray, List.getElem_cons_succ, List.getElem_cons_zero, Act.put, List.setIfInBounds_toArray, List.set_cons_zero, List.set_cons_succ]
    refine wpAnyH_take (i := 40) (v := .bool true) rfl (by kernel_rfl) (by kernel_rfl) (by kernel_rfl) (fun _ _ _ h => h) (Or.inl ⟨by rfl, fun w1 hSw => by (dsimp only at hSw; go_simp)⟩) (by assumption) ?_
    simp only [List.getElem_toArray, List.getElem_cons_succ, List.getElem_cons_zero, Act.put, List.setIfInBounds_toArray, List.set_cons_zero, List.set_cons_succ]
    refine wpAnyH_take (i := 41) (v := .bool true) rfl (by kernel_rfl) (by kernel_rfl) (by kernel_rfl) (fun _ _ _ h => h) (Or.inl ⟨by rfl, fun w1 hSw => by (dsimp only at hSw; go_simp)⟩) (by assumption) ?_
    simp only [List.getElem_toArray, List.getElem_cons_succ, List.getElem_cons_zero, Act.put, List.setIfInBounds_toArray, List.set_cons_zero, List.set_cons_succ]
    refine wpAnyH_take (i := 42) (v := .bool true) rfl (by kernel_rfl) (by kernel_rfl) (by kernel_rfl) (fun _ _ _ h => h) (Or.inl ⟨by rfl, fun w1 hSw => by (dsimp only at hSw; go_simp)⟩) (by assumption) ?_
    simp only [List.getElem_toArray, List.getElem_cons_succ, List.getElem_cons_zero, Act.put, List.setIfInBounds_toArray, List.set_cons_zero, List.set_cons_succ]
    refine wpAnyH_take (i := 43) (v := .pointer (some ⟨r2.heap.size, 1, none⟩)) rfl (by kernel_rfl) (by kernel_rfl) (by kernel_rfl) (fun _ _ _ h => h) (Or.inl ⟨by rfl, fun w1 hSw => by (dsimp only at hSw; go_simp)⟩) (by assumption) ?_
    simp only [List.getElem_toArray, List.getElem_cons_succ, List.getElem_cons_zero, Act.put, List.setIfInBounds_toArray, List.set_cons_zero, List.set_cons_succ]
    refine wpAnyH_take (i := 44) (v := .int .i64 vn2) rfl (by kernel_rfl) (by kernel_rfl) (by kernel_rfl) (fun _ _ _ h => h) (Or.inl ⟨by rfl, fun w1 hSw => by (dsimp only at hSw; go_simp)⟩) (by assumption) ?_
    simp only [List.getElem_toArray, List.getElem_cons_succ, List.getElem_cons_zero, Act.put, List.setIfInBounds_toArray, List.set_cons_zero, List.set_cons_succ]
    refine wpAnyH_take (i := 45) (v := .bool qe) rfl (by kernel_rfl) (by kernel_rfl) (by kernel_rfl) (fun _ _ _ h => h) (Or.inl ⟨by rfl, fun w1 hSw => by (dsimp only at hSw; go_simp)⟩) (by assumption) ?_
    simp only [List.getElem_toArray, List.getElem_cons_succ, List.getElem_cons_zero, Act.put, List.setIfInBounds_toArray, List.set_cons_zero, List.set_cons_succ]
    refine wpAnyH_take (i := 46) (v := .string s) rfl (by kernel_rfl) (by kernel_rfl) (by kernel_rfl) (fun _ _ _ h => h) (Or.inl ⟨by rfl, fun w1 hSw => by (dsimp only at hSw; go_simp)⟩) (by assumption) ?_
    simp only [List.getElem_toArray, List.getElem_cons_succ, List.getElem_cons_zero, Act.put, List.setIfInBounds_toArray, List.set_cons_zero, List.set_cons_succ]
    refine wpAnyH_take (i := 47) (v := .string t) rfl (by kernel_rfl) (by kernel_rfl) (by kernel_rfl) (fun _ _ _ h => h) (Or.inl ⟨by rfl, fun w1 hSw => by (dsimp only at hSw; go_simp)⟩) (by assumption) ?_
    simp only [List.getElem_toArray, List.getElem_cons_succ, List.getElem_cons_zero, Act.put, List.setIfInBounds_toArray, List.set_cons_zero, List.set_cons_succ]
    refine wpAnyH_take (i := 48) (v := .bool qe) rfl (by kernel_rfl) (by kernel_rfl) (by kernel_rfl) (fun _ _ _ h => h) (Or.inl ⟨by rfl, fun w1 hSw => by (dsimp only at hSw; go_simp)⟩) (by assumption) ?_
    simp only [List.getElem_toArray, List.getElem_cons_succ, List.getElem_cons_zero, Act.put, List.setIfInBounds_toArray, List.set_cons_zero, List.set_cons_succ]
    refine wpAnyH_take (i := 49) (v := .bool true) rfl (by kernel_rfl) (by kernel_rfl) (by kernel_rfl) (fun _ _ _ h => h) (Or.inl ⟨by rfl, fun w1 hSw => by (dsimp only at hSw; go_simp)⟩) (by assumption) ?_
    simp only [List.getElem_toArray, List.getElem_cons_succ, List.getElem_cons_zero, Act.put, List.setIfInBounds_toArray, List.set_cons_zero, List.set_cons_succ]
    refine wpAnyH_take (i := 50) (v := .bool true) rfl (by kernel_rfl) (by kernel_rfl) (by kernel_rfl) (fun _ _ _ h => h) (Or.inl ⟨by rfl, fun w1 hSw => by (dsimp only at hSw; go_simp)⟩) (by assumption) ?_
    simp only [List.getElem_toArray, List.getElem_cons_succ, List.getElem_cons_zero, Act.put, List.setIfInBounds_toArray, List.set_cons_zero, List.set_cons_succ]
    refine wpAnyH_take (i := 51) (v := .bool true) rfl (by kernel_rfl) (by kernel_rfl) (by kernel_rfl) (fun _ _ _ h => h) (Or.inl ⟨by rfl, fun w1 hSw => by (dsimp only at hSw; go_simp)⟩) (by assumption) ?_
    simp only [List.getElem_toArray, List.getElem_cons_succ, List.getElem_cons_zero, Act.put, List.setIfInBounds_toArray, List.set_cons_zero, List.set_cons_succ]
    refine wpAnyH_take (i := 52) (v := .pointer (some ⟨r3.heap.size, 1, none⟩)) rfl (by kernel_rfl) (by kernel_rfl) (by kernel_rfl) (fun _ _ _ h => h) (Or.inl ⟨by rfl, fun w1 hSw => by (dsimp only at hSw; go_simp)⟩) (by assumption) ?_
    simp only [List.getElem_toArray, List.getElem_cons_succ, List.getElem_cons_zero, Act.put, List.setIfInBounds_toArray, List.set_cons_zero, List.set_cons_succ]
    refine wpAnyH_take (i := 53) (v := .int .i64 vn3) rfl (by kernel_rfl) (by kernel_rfl) (by kernel_rfl) (fun _ _ _ h => h) (Or.inl ⟨by rfl, fun w1 hSw => by (dsimp only at hSw; go_simp)⟩) (by assumption) ?_
    simp only [List.getElem_toArray, List.getElem_cons_succ, List.getElem_cons_zero, Act.put, List.setIfInBounds_toArray, List.set_cons_zero, List.set_cons_succ]
    refine wpAnyH_take (i := 54) (v := .bool ql) rfl (by kernel_rfl) (by kernel_rfl) (by kernel_rfl) (fun _ _ _ h => h) (Or.inl ⟨by rfl, fun w1 hSw => by (dsimp only at hSw; go_simp)⟩) (by assumption) ?_
    simp only [List.getElem_toArray, List.getElem_cons_succ, List.getElem_cons_zero, Act.put, List.setIfInBounds_toArray, List.set_cons_zero, List.set_cons_succ]
    refine wpAnyH_take (i := 55) (v := .string s) rfl (by kernel_rfl) (by kernel_rfl) (by kernel_rfl) (fun _ _ _ h => h) (Or.inl ⟨by rfl, fun w1 hSw => by (dsimp only at hSw; go_simp)⟩) (by assumption) ?_
    simp only [List.getElem_toArray, List.getElem_cons_succ, List.getElem_cons_zero, Act.put, List.setIfInBounds_toArray, List.set_cons_zero, List.set_cons_succ]
    refine wpAnyH_take (i := 56) (v := .string t) rfl (by kernel_rfl) (by kernel_rfl) (by kernel_rfl) (fun _ _ _ h => h) (Or.inl ⟨by rfl, fun w1 hSw => by (dsimp only at hSw; go_simp)⟩) (by assumption) ?_
    simp only [List.getElem_toArray, List.getElem_cons_succ, List.getElem_cons_zero, Act.put, List.setIfInBounds_toArray, List.set_cons_zero, List.set_cons_succ]
    refine wpAnyH_take (i := 57) (v := .bool ql) rfl (by kernel_rfl) (by kernel_rfl) (by kernel_rfl) (fun _ _ _ h => h) (Or.inl ⟨by rfl, fun w1 hSw => by (dsimp only at hSw; go_simp)⟩) (by assumption) ?_
    simp only [List.getElem_toArray, List.getElem_cons_succ, List.getElem_cons_zero, Act.put, List.setIfInBounds_toArray, List.set_cons_zero, List.set_cons_succ]
    refine wpAnyH_take (i := 58) (v := .bool true) rfl (by kernel_rfl) (by kernel_rfl) (by kernel_rfl) (fun _ _ _ h => h) (Or.inl ⟨by rfl, fun w1 hSw => by (dsimp only at hSw; go_simp)⟩) (by assumption) ?_
    simp only [List.getElem_toArray, List.getElem_cons_succ, List.getElem_cons_zero, Act.put, List.setIfInBounds_toArray, List.set_cons_zero, List.set_cons_succ]
    refine wpAnyH_take (i := 59) (v := .bool true) rfl (by kernel_rfl) (by kernel_rfl) (by kernel_rfl) (fun _ _ _ h => h) (Or.inl ⟨by rfl, fun w1 hSw => by (dsimp only at hSw; go_simp)⟩) (by assumption) ?_
    simp only [List.getElem_toArray, List.getElem_cons_succ, List.getElem_cons_zero, Act.put, List.setIfInBounds_toArray, List.set_cons_zero, List.set_cons_succ]
    refine wpAnyH_take (i := 60) (v := .bool true) rfl (by kernel_rfl) (by kernel_rfl) (by kernel_rfl) (fun _ _ _ h => h) (Or.inl ⟨by rfl, fun w1 hSw => by (dsimp only at hSw; go_simp)⟩) (by assumption) ?_
    simp only [List.getElem_toArray, List.getElem_cons_succ, List.getElem_cons_zero, Act.put, List.setIfInBounds_toArray, List.set_cons_zero, List.set_cons_succ]
    refine wpAnyH_ready (rs := [61]) (by kernel_rfl) (by simp) ?_
    refine AllReadyH.cons rfl (fun K hK => ?_) AllReadyH.nil
    simp only [List.getElem_toArray, List.getElem_cons_succ, List.getElem_cons_zero]
    go_simp
    refine (hKn.out _ (Hid.out (by assumption))).mono ?_
    rintro e w' ⟨rfl, bA⟩
    have U61 := Lib.hid bA
    clear bA hKn hHeld
    go_wp2_with fail
    refine hK.out _ _ (HALL.out _ (Hid.out (by assumption))) (fun hHeld => ?_)
    clear hK K
    refine wpAnyH_take (i := 62) (v := .bool true) rfl (by kernel_rfl) (by kernel_rfl) (by kernel_rfl) (fun _ _ _ h => h) (Or.inl ⟨by rfl, fun w1 hSw => by (dsimp only at hSw; go_simp)⟩) (by assumption) ?_
    simp only [List.getElem_toArray, List.getElem_cons_succ, List.getElem_cons_zero, Act.put, List.setIfInBounds_toArray, List.set_cons_zero, List.set_cons_succ]
    refine wpAnyH_take (i := 63) (v := .bool true) rfl (by kernel_rfl) (by kernel_rfl) (by kernel_rfl) (fun _ _ _ h => h) (Or.inl ⟨by rfl, fun w1 hSw => by (dsimp only at hSw; go_simp)⟩) (by assumption) ?_
    simp only [List.getElem_toArray, List.getElem_cons_succ, List.getElem_cons_zero, Act.put, List.setIfInBounds_toArray, List.set_cons_zero, List.set_cons_succ]
    refine wpAnyH_done (by kernel_rfl) ?_ _
    go_wp2_with fail
    go_ret
    exact ⟨rfl, LW.out _ (Hid.out (by assumption))⟩
  · obtain ⟨k0, n0, x0, e0⟩ := vals4 HV0.out
    rw [if_neg hbig] at k0 n0 x0 e0
    replace e0 : ve0 = 0 := e0
    replace k0 : vk0 = 2 := k0
    replace n0 : vn0 = 0 := n0
    replace x0 : vs0 = s ++ t := x0
    subst e0 k0 n0 x0
    have hbg : (s.size : Int) + (t.size : Int) ≤ 40 := by omega
    have hcat : s.size + t.size ≤ 9223372036854775807 := by omega
    clear HV0 hbig
    go_wp2_with fail
    rw [← HWZ.out]
    clear HWZ
    have b2 := B2.out
    have b3 := B3.out
    have l2 := L2.out
    have l3 := L3.out
    have heq1 := Q1.out
    have heq2 := Q2.out
    refine wp_region_held_drew (S := fun w' => w'.cell? ⟨r0.heap.size, 0, none⟩ = some (.int .i64 2) ∧ w'.cell? ⟨r0.heap.size, 1, none⟩ = some (.int .i64 0) ∧ w'.cell? ⟨r0.heap.size, 2, none⟩ = some (.string (s ++ t)) ∧ w'.cell? ⟨r1.heap.size, 0, none⟩ = some (.int .i64 1) ∧ w'.cell? ⟨r1.heap.size, 1, none⟩ = some (.int .i64 s.size) ∧ w'.cell? ⟨r1.heap.size, 2, none⟩ = some (.string ⟨#[]⟩) ∧ w'.cell? ⟨r2.heap.size, 1, none⟩ = some (.int .i64 vn2) ∧ w'.cell? ⟨r3.heap.size, 1, none⟩ = some (.int .i64 vn3)) (by kernel_rfl) (HALL.out _ (Hid.out (by assumption))) (fun hHeld => ?_)
    refine wpAnyH_take (i := 0) (v := .int .i64 0) rfl (by kernel_rfl) (by kernel_rfl) (by kernel_rfl) (fun _ _ _ h => h) (Or.inl ⟨by rfl, fun w1 hSw => by (dsimp only at hSw; go_simp)⟩) (by assumption) ?_
    simp only [List.getElem_toArray, List.getElem_cons_zero, Act.put, List.setIfInBounds_toArray, List.set_cons_zero, List.set_cons_succ]
    refine wpAnyH_take (i := 1) (v := .bool true) rfl (by kernel_rfl) (by kernel_rfl) (by kernel_rfl) (fun _ _ _ h => h) (Or.inl ⟨by rfl, fun w1 hSw => by (dsimp only at hSw; go_simp)⟩) (by assumption) ?_
    simp only [List.getElem_toArray, List.getElem_cons_succ, List.getElem_cons_zero, Act.put, List.setIfInBounds_toArray, List.set_cons_zero, List.set_cons_succ]
    refine wpAnyH_take (i := 2) (v := .bool true) rfl (by kernel_rfl) (by kernel_rfl) (by kernel_rfl) (fun _ _ _ h => h) (Or.inl ⟨by rfl, fun w1 hSw => by (dsimp only at hSw; go_simp)⟩) (by assumption) ?_
    simp only [List.getElem_toArray, List.getElem_cons_succ, List.getElem_cons_zero, Act.put, List.setIfInBounds_toArray, List.set_cons_zero, List.set_cons_succ]
    refine wpAnyH_take (i := 3) (v := .bool true) rfl (by kernel_rfl) (by kernel_rfl) (by kernel_rfl) (fun _ _ _ h => h) (Or.inl ⟨by rfl, fun w1 hSw => by (dsimp only at hSw; go_simp)⟩) (by assumption) ?_
    simp only [List.getElem_toArray, List.getElem_cons_succ, List.getElem_cons_zero, Act.put, List.setIfInBounds_toArray, List.set_cons_zero, List.set_cons_succ]
    refine wpAnyH_take (i := 4) (v := .bool true) rfl (by kernel_rfl) (by kernel_rfl) (by kernel_rfl) (fun _ _ _ h => h) (Or.inl ⟨by rfl, fun w1 hSw => by (dsimp only at hSw; go_simp)⟩) (by assumption) ?_
    simp only [List.getElem_toArray, List.getElem_cons_succ, List.getElem_cons_zero, Act.put, List.setIfInBounds_toArray, List.set_cons_zero, List.set_cons_succ]
    refine wpAnyH_take (i := 5) (v := .bool true) rfl (by kernel_rfl) (by kernel_rfl) (by kernel_rfl) (fun _ _ _ h => h) (Or.inl ⟨by rfl, fun w1 hSw => by (dsimp only at hSw; go_simp)⟩) (by assumption) ?_
    simp only [List.getElem_toArray, List.getElem_cons_succ, List.getElem_cons_zero, Act.put, List.setIfInBounds_toArray, List.set_cons_zero, List.set_cons_succ]
    refine wpAnyH_take (i := 6) (v := .bool true) rfl (by kernel_rfl) (by kernel_rfl) (by kernel_rfl) (fun _ _ _ h => h) (Or.inl ⟨by rfl, fun w1 hSw => by (dsimp only at hSw; go_simp)⟩) (by assumption) ?_
    simp only [List.getElem_toArray, List.getElem_cons_succ, List.getElem_cons_zero, Act.put, List.setIfInBounds_toArray, List.set_cons_zero, List.set_cons_succ]
    refine wpAnyH_take (i := 7) (v := undef) rfl (by kernel_rfl) (by kernel_rfl) (by kernel_rfl) (fun _ _ _ h => h) (Or.inr ⟨by kernel_rfl, rfl⟩) (by assumption) ?_
    simp only [List.getElem_toArray, List.getElem_cons_succ, List.getElem_cons_zero, Act.put, List.setIfInBounds_toArray, List.set_cons_zero, List.set_cons_succ]
    refine wpAnyH_take (i := 8) (v := undef) rfl (by kernel_rfl) (by kernel_rfl) (by kernel_rfl) (fun _ _ _ h => h) (Or.inr ⟨by kernel_rfl, rfl⟩) (by assumption) ?_
    simp only [List.getElem_toArray, List.getElem_cons_succ, List.getElem_cons_zero, Act.put, List.setIfInBounds_toArray, List.set_cons_zero, List.set_cons_succ]
    refine wpAnyH_take (i := 9) (v := .bool true) rfl (by kernel_rfl) (by kernel_rfl) (by kernel_rfl) (fun _ _ _ h => h) (Or.inl ⟨by rfl, fun w1 hSw => by (dsimp only at hSw; go_simp)⟩) (by assumption) ?_
    simp only [List.getElem_toArray, List.getElem_cons_succ, List.getElem_cons_zero, Act.put, List.setIfInBounds_toArray, List.set_cons_zero, List.set_cons_succ]
    refine wpAnyH_take (i := 10) (v := .bool true) rfl (by kernel_rfl) (by kernel_rfl) (by kernel_rfl) (fun _ _ _ h => h) (Or.inl ⟨by rfl, fun w1 hSw => by (dsimp only at hSw; go_simp)⟩) (by assumption) ?_
    simp only [List.getElem_toArray, List.getElem_cons_succ, List.getElem_cons_zero, Act.put, List.setIfInBounds_toArray, List.set_cons_zero, List.set_cons_succ]
    refine wpAnyH_take (i := 11) (v := .bool true) rfl (by kernel_rfl) (by kernel_rfl) (by kernel_rfl) (fun _ _ _ h => h) (Or.inl ⟨by rfl, fun w1 hSw => by (dsimp only at hSw; go_simp)⟩) (by assumption) ?_
    simp only [List.getElem_toArray, List.getElem_cons_succ, List.getElem_cons_zero, Act.put, List.setIfInBounds_toArray, List.set_cons_zero, List.set_cons_succ]
    refine wpAnyH_take (i := 12) (v := .bool true) rfl (by kernel_rfl) (by kernel_rfl) (by kernel_rfl) (fun _ _ _ h => h) (Or.inl ⟨by rfl, fun w1 hSw => by (dsimp only at hSw; go_simp)⟩) (by assumption) ?_
    simp only [List.getElem_toArray, List.getElem_cons_succ, List.getElem_cons_zero, Act.put, List.setIfInBounds_toArray, List.set_cons_zero, List.set_cons_succ]
    refine wpAnyH_take (i := 13) (v := .bool false) rfl (by kernel_rfl) (by kernel_rfl) (by kernel_rfl) (fun _ _ _ h => h) (Or.inl ⟨by rfl, fun w1 hSw => by (dsimp only at hSw; go_simp)⟩) (by assumption) ?_
    simp only [List.getElem_toArray, List.getElem_cons_succ, List.getElem_cons_zero, Act.put, List.setIfInBounds_toArray, List.set_cons_zero, List.set_cons_succ]
    refine wpAnyH_take (i := 14) (v := .bool false) rfl (by kernel_rfl) (by kernel_rfl) (by kernel_rfl) (fun _ _ _ h => h) (Or.inl ⟨by rfl, fun w1 hSw => by (dsimp only at hSw; go_simp)⟩) (by assumption) ?_
    simp only [List.getElem_toArray, List.getElem_cons_succ, List.getElem_cons_zero, Act.put, List.setIfInBounds_toArray, List.set_cons_zero, List.set_cons_succ]
    refine wpAnyH_take (i := 15) (v := .agg #[.int .i64 2, .int .i64 0, .string (s ++ t)]) rfl (by kernel_rfl) (by kernel_rfl) (by kernel_rfl) (fun _ _ _ h => h) (Or.inl ⟨by rfl, fun w1 hSw => by (dsimp only at hSw; go_simp)⟩) (by assumption) ?_
    simp only [List.getElem_toArray, List.getElem_cons_succ, List.getElem_cons_zero, Act.put, List.setIfInBounds_toArray, List.set_cons_zero, List.set_cons_succ]
    refine wpAnyH_take (i := 16) (v := .string s) rfl (by kernel_rfl) (by kernel_rfl) (by kernel_rfl) (fun _ _ _ h => h) (Or.inl ⟨by rfl, fun w1 hSw => by (dsimp only at hSw; go_simp)⟩) (by assumption) ?_
    simp only [List.getElem_toArray, List.getElem_cons_succ, List.getElem_cons_zero, Act.put, List.setIfInBounds_toArray, List.set_cons_zero, List.set_cons_succ]
    refine wpAnyH_take (i := 17) (v := .string t) rfl (by kernel_rfl) (by kernel_rfl) (by kernel_rfl) (fun _ _ _ h => h) (Or.inl ⟨by rfl, fun w1 hSw => by (dsimp only at hSw; go_simp)⟩) (by assumption) ?_
    simp only [List.getElem_toArray, List.getElem_cons_succ, List.getElem_cons_zero, Act.put, List.setIfInBounds_toArray, List.set_cons_zero, List.set_cons_succ]
    refine wpAnyH_take (i := 18) (v := .string (s ++ t)) rfl (by kernel_rfl) (by kernel_rfl) (by kernel_rfl) (fun _ _ _ h => h) (Or.inl ⟨by rfl, fun w1 hSw => by (dsimp only at hSw; go_simp)⟩) (by assumption) ?_
    simp only [List.getElem_toArray, List.getElem_cons_succ, List.getElem_cons_zero, Act.put, List.setIfInBounds_toArray, List.set_cons_zero, List.set_cons_succ]
    refine wpAnyH_ready (rs := [19]) (by kernel_rfl) (by simp) ?_
    refine AllReadyH.cons rfl (fun K hK => ?_) AllReadyH.nil
    simp only [List.getElem_toArray, List.getElem_cons_succ, List.getElem_cons_zero]
    go_simp
    refine (hSt.out _ (Hid.out (by assumption))).mono ?_
    rintro e w' ⟨rfl, bA⟩
    have U19 := Lib.hid bA
    clear bA hSt hHeld
    go_wp2_with fail
    refine hK.out _ _ (HALL.out _ (Hid.out (by assumption))) (fun hHeld => ?_)
    clear hK K
    refine wpAnyH_take (i := 20) (v := .bool true) rfl (by kernel_rfl) (by kernel_rfl) (by kernel_rfl) (fun _ _ _ h => h) (Or.inl ⟨by rfl, fun w1 hSw => by (dsimp only at hSw; go_simp)⟩) (by assumption) ?_
    simp only [List.getElem_toArray, List.getElem_cons_succ, List.getElem_cons_zero, Act.put, List.setIfInBounds_toArray, List.set_cons_zero, List.set_cons_succ]
    refine wpAnyH_take (i := 21) (v := .bool true) rfl (by kernel_rfl) (by kernel_rfl) (by kernel_rfl) (fun _ _ _ h => h) (Or.inl ⟨by rfl, fun w1 hSw => by (dsimp only at hSw; go_simp)⟩) (by assumption) ?_
    simp only [List.getElem_toArray, List.getElem_cons_succ, List.getElem_cons_zero, Act.put, List.setIfInBounds_toArray, List.set_cons_zero, List.set_cons_succ]
    refine wpAnyH_take (i := 22) (v := .bool true) rfl (by kernel_rfl) (by kernel_rfl) (by kernel_rfl) (fun _ _ _ h => h) (Or.inl ⟨by rfl, fun w1 hSw => by (dsimp only at hSw; go_simp)⟩) (by assumption) ?_
    simp only [List.getElem_toArray, List.getElem_cons_succ, List.getElem_cons_zero, Act.put, List.setIfInBounds_toArray, List.set_cons_zero, List.set_cons_succ]
    refine wpAnyH_take (i := 23) (v := .bool true) rfl (by kernel_rfl) (by kernel_rfl) (by kernel_rfl) (fun _ _ _ h => h) (Or.inl ⟨by rfl, fun w1 hSw => by (dsimp only at hSw; go_simp)⟩) (by assumption) ?_
    simp only [List.getElem_toArray, List.getElem_cons_succ, List.getElem_cons_zero, Act.put, List.setIfInBounds_toArray, List.set_cons_zero, List.set_cons_succ]
    refine wpAnyH_take (i := 24) (v := .int .i64 0) rfl (by kernel_rfl) (by kernel_rfl) (by kernel_rfl) (fun _ _ _ h => h) (Or.inl ⟨by rfl, fun w1 hSw => by (dsimp only at hSw; go_simp)⟩) (by assumption) ?_
    simp only [List.getElem_toArray, List.getElem_cons_succ, List.getElem_cons_zero, Act.put, List.setIfInBounds_toArray, List.set_cons_zero, List.set_cons_succ]
    refine wpAnyH_take (i := 25) (v := .bool true) rfl (by kernel_rfl) (by kernel_rfl) (by kernel_rfl) (fun _ _ _ h => h) (Or.inl ⟨by rfl, fun w1 hSw => by (dsimp only at hSw; go_simp)⟩) (by assumption) ?_
    simp only [List.getElem_toArray, List.getElem_cons_succ, List.getElem_cons_zero, Act.put, List.setIfInBounds_toArray, List.set_cons_zero, List.set_cons_succ]
    refine wpAnyH_take (i := 26) (v := .bool true) rfl (by kernel_rfl) (by kernel_rfl) (by kernel_rfl) (fun _ _ _ h => h) (Or.inl ⟨by rfl, fun w1 hSw => by (dsimp only at hSw; go_simp)⟩) (by assumption) ?_
    simp only [List.getElem_toArray, List.getElem_cons_succ, List.getElem_cons_zero, Act.put, List.setIfInBounds_toArray, List.set_cons_zero, List.set_cons_succ]
    refine wpAnyH_take (i := 27) (v := .bool true) rfl (by kernel_rfl) (by kernel_rfl) (by kernel_rfl) (fun _ _ _ h => h) (Or.inl ⟨by rfl, fun w1 hSw => by (dsimp only at hSw; go_simp)⟩) (by assumption) ?_
    simp only [List.getElem_toArray, List.getElem_cons_succ, List.getElem_cons_zero, Act.put, List.setIfInBounds_toArray, List.set_cons_zero, List.set_cons_succ]
    refine wpAnyH_take (i := 28) (v := .agg #[.int .i64 1, .int .i64 s.size, .string ⟨#[]⟩]) rfl (by kernel_rfl) (by kernel_rfl) (by kernel_rfl) (fun _ _ _ h => h) (Or.inl ⟨by rfl, fun w1 hSw => by (dsimp only at hSw; go_simp)⟩) (by assumption) ?_
    simp only [List.getElem_toArray, List.getElem_cons_succ, List.getElem_cons_zero, Act.put, List.setIfInBounds_toArray, List.set_cons_zero, List.set_cons_succ]
    refine wpAnyH_take (i := 29) (v := .string s) rfl (by kernel_rfl) (by kernel_rfl) (by kernel_rfl) (fun _ _ _ h => h) (Or.inl ⟨by rfl, fun w1 hSw => by (dsimp only at hSw; go_simp)⟩) (by assumption) ?_
    simp only [List.getElem_toArray, List.getElem_cons_succ, List.getElem_cons_zero, Act.put, List.setIfInBounds_toArray, List.set_cons_zero, List.set_cons_succ]
    refine wpAnyH_take (i := 30) (v := .int .i64 s.size) rfl (by kernel_rfl) (by kernel_rfl) (by kernel_rfl) (fun _ _ _ h => h) (Or.inl ⟨by rfl, fun w1 hSw => by (dsimp only at hSw; go_simp)⟩) (by assumption) ?_
    simp only [List.getElem_toArray, List.getElem_cons_succ, List.getElem_cons_zero, Act.put, List.setIfInBounds_toArray, List.set_cons_zero, List.set_cons_succ]
    refine wpAnyH_ready (rs := [31]) (by kernel_rfl) (by simp) ?_
    refine AllReadyH.cons rfl (fun K hK => ?_) AllReadyH.nil
    simp only [List.getElem_toArray, List.getElem_cons_succ, List.getElem_cons_zero]
    go_simp
    refine (hNu.out _ (Hid.out (by assumption))).mono ?_
    rintro e w' ⟨rfl, bA⟩
    have U31 := Lib.hid bA
    clear bA hNu hHeld
    go_wp2_with fail
    refine hK.out _ _ (HALL.out _ (Hid.out (by assumption))) (fun hHeld => ?_)
    clear hK K
    refine wpAnyH_take (i := 32) (v := .bool true) rfl (by kernel_rfl) (by kernel_rfl) (by kernel_rfl) (fun _ _ _ h => h) (Or.inl ⟨by rfl, fun w1 hSw => by (dsimp only at hSw; go_simp)⟩) (by assumption) ?_
    simp only [List.getElem_toArray, List.getElem_cons_succ, List.getElem_cons_zero, Act.put, List.setIfInBounds_toArray, List.set_cons_zero, List.set_cons_succ]
    refine wpAnyH_take (i := 33) (v := .bool true) rfl (by kernel_rfl) (by kernel_rfl) (by kernel_rfl) (fun _ _ _ h => h) (Or.inl ⟨by rfl, fun w1 hSw => by (dsimp only at hSw; go_simp)⟩) (by assumption) ?_
    simp only [List.getElem_toArray, List.getElem_cons_succ, List.getElem_cons_zero, Act.put, List.setIfInBounds_toArray, List.set_cons_zero, List.set_cons_succ]
    refine wpAnyH_take (i := 34) (v := .bool true) rfl (by kernel_rfl) (by kernel_rfl) (by kernel_rfl) (fun _ _ _ h => h) (Or.inl ⟨by rfl, fun w1 hSw => by (dsimp only at hSw; go_simp)⟩) (by assumption) ?_
    simp only [List.getElem_toArray, List.getElem_cons_succ, List.getElem_cons_zero, Act.put, List.setIfInBounds_toArray, List.set_cons_zero, List.set_cons_succ]
    refine wpAnyH_take (i := 35) (v := .int .i64 0) rfl (by kernel_rfl) (by kernel_rfl) (by kernel_rfl) (fun _ _ _ h => h) (Or.inl ⟨by rfl, fun w1 hSw => by (dsimp only at hSw; go_simp)⟩) (by assumption) ?_
    simp only [List.getElem_toArray, List.getElem_cons_succ, List.getElem_cons_zero, Act.put, List.setIfInBounds_toArray, List.set_cons_zero, List.set_cons_succ]
    refine wpAnyH_take (i := 36) (v := .bool true) rfl (by kernel_rfl) (by kernel_rfl) (by kernel_rfl) (fun _ _ _ h => h) (Or.inl ⟨by rfl, fun w1 hSw => by (dsimp only at hSw; go_simp)⟩) (by assumption) ?_
    simp only [List.getElem_toArray, List.getElem_cons_succ, List.getElem_cons_zero, Act.put, List.setIfInBounds_toArray, List.set_cons_zero, List.set_cons_succ]
    refine wpAnyH_take (i := 37) (v := .bool true) rfl (by kernel_rfl) (by kernel_rfl) (by kernel_rfl) (fun _ _ _ h => h) (Or.inl ⟨by rfl, fun w1 hSw => by (dsimp only at hSw; go_simp)⟩) (by assumption) ?_
    simp only [List.getElem_toArray, List.getElem_cons_succ, List.getElem_cons_zero, Act.put, List.setIfInBounds_toArray, List.set_cons_zero, List.set_cons_succ]
    refine wpAnyH_take (i := 38) (v := .bool true) rfl (by kernel_rfl) (by kernel_rfl) (by kernel_rfl) (fun _ _ _ h => h) (Or.inl ⟨by rfl, fun w1 hSw => by (dsimp only at hSw; go_simp)⟩) (by assumption) ?_
    simp only [List.getElem_toArray, List.getElem_cons_succ, List.getElem_cons_zero, Act.put, List.setIfInBounds_toArray, List.set_cons_zero, List.set_cons_succ]
    refine wpAnyH_take (i := 39) (v := .int .i64 0) rfl (by kernel_rfl) (by kernel_rfl) (by kernel_rfl) (fun _ _ _ h => h) (Or.inl ⟨by rfl, fun w1 hSw => by (dsimp only at hSw; go_simp)⟩) (by assumption) ?_
    simp only [List.getElem_toArray, List.getElem_cons_succ, List.getElem_cons_zero, Act.put, List.setIfInBounds_toArray, List.set_cons_zero, List.set_cons_succ]
    refine wpAnyH_take (i := 40) (v := .bool true) rfl (by kernel_rfl) (by kernel_rfl) (by kernel_rfl) (fun _ _ _ h => h) (Or.inl ⟨by rfl, fun w1 hSw => by (dsimp only at hSw; go_simp)⟩) (by assumption) ?_
    simp only [List.getElem_toArray, List.getElem_cons_succ, List.getElem_cons_zero, Act.put, List.setIfInBounds_toArray, List.set_cons_zero, List.set_cons_succ]
    refine wpAnyH_take (i := 41) (v := .bool true) rfl (by kernel_rfl) (by kernel_rfl) (by kernel_rfl) (fun _ _ _ h => h) (Or.inl ⟨by rfl, fun w1 hSw => by (dsimp only at hSw; go_simp)⟩) (by assumption) ?_
    simp only [List.getElem_toArray, List.getElem_cons_succ, List.getElem_cons_zero, Act.put, List.setIfInBounds_toArray, List.set_cons_zero, List.set_cons_succ]
    refine wpAnyH_take (i := 42) (v := .bool true) rfl (by kernel_rfl) (by kernel_rfl) (by kernel_rfl) (fun _ _ _ h => h) (Or.inl ⟨by rfl, fun w1 hSw => by (dsimp only at hSw; go_simp)⟩) (by assumption) ?_
    simp only [List.getElem_toArray, List.getElem_cons_succ, List.getElem_cons_zero, Act.put, List.setIfInBounds_toArray, List.set_cons_zero, List.set_cons_succ]
    refine wpAnyH_take (i := 43) (v := .pointer (some ⟨r2.heap.size, 1, none⟩)) rfl (by kernel_rfl) (by kernel_rfl) (by kernel_rfl) (fun _ _ _ h => h) (Or.inl ⟨by rfl, fun w1 hSw => by (dsimp only at hSw; go_simp)⟩) (by assumption) ?_
    simp only [List.getElem_toArray, List.getElem_cons_succ, List.getElem_cons_zero, Act.put, List.setIfInBounds_toArray, List.set_cons_zero, List.set_cons_succ]
    refine wpAnyH_take (i := 44) (v := .int .i64 vn2) rfl (by kernel_rfl) (by kernel_rfl) (by kernel_rfl) (fun _ _ _ h => h) (Or.inl ⟨by rfl, fun w1 hSw => by (dsimp only at hSw; go_simp)⟩) (by assumption) ?_
    simp only [List.getElem_toArray, List.getElem_cons_succ, List.getElem_cons_zero, Act.put, List.setIfInBounds_toArray, List.set_cons_zero, List.set_cons_succ]
    refine wpAnyH_take (i := 45) (v := .bool qe) rfl (by kernel_rfl) (by kernel_rfl) (by kernel_rfl) (fun _ _ _ h => h) (Or.inl ⟨by rfl, fun w1 hSw => by (dsimp only at hSw; go_simp)⟩) (by assumption) ?_
    simp only [List.getElem_toArray, List.getElem_cons_succ, List.getElem_cons_zero, Act.put, List.setIfInBounds_toArray, List.set_cons_zero, List.set_cons_succ]
    refine wpAnyH_take (i := 46) (v := .string s) rfl (by kernel_rfl) (by kernel_rfl) (by kernel_rfl) (fun _ _ _ h => h) (Or.inl ⟨by rfl, fun w1 hSw => by (dsimp only at hSw; go_simp)⟩) (by assumption) ?_
    simp only [List.getElem_toArray, List.getElem_cons_succ, List.getElem_cons_zero, Act.put, List.setIfInBounds_toArray, List.set_cons_zero, List.set_cons_succ]
    refine wpAnyH_take (i := 47) (v := .string t) rfl (by kernel_rfl) (by kernel_rfl) (by kernel_rfl) (fun _ _ _ h => h) (Or.inl ⟨by rfl, fun w1 hSw => by (dsimp only at hSw; go_simp)⟩) (by assumption) ?_
    simp only [List.getElem_toArray, List.getElem_cons_succ, List.getElem_cons_zero, Act.put, List.setIfInBounds_toArray, List.set_cons_zero, List.set_cons_succ]
    refine wpAnyH_take (i := 48) (v := .bool qe) rfl (by kernel_rfl) (by kernel_rfl) (by kernel_rfl) (fun _ _ _ h => h) (Or.inl ⟨by rfl, fun w1 hSw => by (dsimp only at hSw; go_simp)⟩) (by assumption) ?_
    simp only [List.getElem_toArray, List.getElem_cons_succ, List.getElem_cons_zero, Act.put, List.setIfInBounds_toArray, List.set_cons_zero, List.set_cons_succ]
    refine wpAnyH_take (i := 49) (v := .bool true) rfl (by kernel_rfl) (by kernel_rfl) (by kernel_rfl) (fun _ _ _ h => h) (Or.inl ⟨by rfl, fun w1 hSw => by (dsimp only at hSw; go_simp)⟩) (by assumption) ?_
    simp only [List.getElem_toArray, List.getElem_cons_succ, List.getElem_cons_zero, Act.put, List.setIfInBounds_toArray, List.set_cons_zero, List.set_cons_succ]
    refine wpAnyH_take (i := 50) (v := .bool true) rfl (by kernel_rfl) (by kernel_rfl) (by kernel_rfl) (fun _ _ _ h => h) (Or.inl ⟨by rfl, fun w1 hSw => by (dsimp only at hSw; go_simp)⟩) (by assumption) ?_
    simp only [List.getElem_toArray, List.getElem_cons_succ, List.getElem_cons_zero, Act.put, List.setIfInBounds_toArray, List.set_cons_zero, List.set_cons_succ]
    refine wpAnyH_take (i := 51) (v := .bool true) rfl (by kernel_rfl) (by kernel_rfl) (by kernel_rfl) (fun _ _ _ h => h) (Or.inl ⟨by rfl, fun w1 hSw => by (dsimp only at hSw; go_simp)⟩) (by assumption) ?_
    simp only [List.getElem_toArray, List.getElem_cons_succ, List.getElem_cons_zero, Act.put, List.setIfInBounds_toArray, List.set_cons_zero, List.set_cons_succ]
    refine wpAnyH_take (i := 52) (v := .pointer (some ⟨r3.heap.size, 1, none⟩)) rfl (by kernel_rfl) (by kernel_rfl) (by kernel_rfl) (fun _ _ _ h => h) (Or.inl ⟨by rfl, fun w1 hSw => by (dsimp only at hSw; go_simp)⟩) (by assumption) ?_
    simp only [List.getElem_toArray, List.getElem_cons_succ, List.getElem_cons_zero, Act.put, List.setIfInBounds_toArray, List.set_cons_zero, List.set_cons_succ]
    refine wpAnyH_take (i := 53) (v := .int .i64 vn3) rfl (by kernel_rfl) (by kernel_rfl) (by kernel_rfl) (fun _ _ _ h => h) (Or.inl ⟨by rfl, fun w1 hSw => by (dsimp only at hSw; go_simp)⟩) (by assumption) ?_
    simp only [List.getElem_toArray, List.getElem_cons_succ, List.getElem_cons_zero, Act.put, List.setIfInBounds_toArray, List.set_cons_zero, List.set_cons_succ]
    refine wpAnyH_take (i := 54) (v := .bool ql) rfl (by kernel_rfl) (by kernel_rfl) (by kernel_rfl) (fun _ _ _ h => h) (Or.inl ⟨by rfl, fun w1 hSw => by (dsimp only at hSw; go_simp)⟩) (by assumption) ?_
    simp only [List.getElem_toArray, List.getElem_cons_succ, List.getElem_cons_zero, Act.put, List.setIfInBounds_toArray, List.set_cons_zero, List.set_cons_succ]
    refine wpAnyH_take (i := 55) (v := .string s) rfl (by kernel_rfl) (by kernel_rfl) (by kernel_rfl) (fun _ _ _ h => h) (Or.inl ⟨by rfl, fun w1 hSw => by (dsimp only at hSw; go_simp)⟩) (by assumption) ?_
    simp only [List.getElem_toArray, List.getElem_cons_succ, List.getElem_cons_zero, Act.put, List.setIfInBounds_toArray, List.set_cons_zero, List.set_cons_succ]
    refine wpAnyH_take (i := 56) (v := .string t) rfl (by kernel_rfl) (by kernel_rfl) (by kernel_rfl) (fun _ _ _ h => h) (Or.inl ⟨by rfl, fun w1 hSw => by (dsimp only at hSw; go_simp)⟩) (by assumption) ?_
    simp only [List.getElem_toArray, List.getElem_cons_succ, List.getElem_cons_zero, Act.put, List.setIfInBounds_toArray, List.set_cons_zero, List.set_cons_succ]
    refine wpAnyH_take (i := 57) (v := .bool ql) rfl (by kernel_rfl) (by kernel_rfl) (by kernel_rfl) (fun _ _ _ h => h) (Or.inl ⟨by rfl, fun w1 hSw => by (dsimp only at hSw; go_simp)⟩) (by assumption) ?_
    simp only [List.getElem_toArray, List.getElem_cons_succ, List.getElem_cons_zero, Act.put, List.setIfInBounds_toArray, List.set_cons_zero, List.set_cons_succ]
    refine wpAnyH_take (i := 58) (v := .bool true) rfl (by kernel_rfl) (by kernel_rfl) (by kernel_rfl) (fun _ _ _ h => h) (Or.inl ⟨by rfl, fun w1 hSw => by (dsimp only at hSw; go_simp)⟩) (by assumption) ?_
    simp only [List.getElem_toArray, List.getElem_cons_succ, List.getElem_cons_zero, Act.put, List.setIfInBounds_toArray, List.set_cons_zero, List.set_cons_succ]
    refine wpAnyH_take (i := 59) (v := .bool true) rfl (by kernel_rfl) (by kernel_rfl) (by kernel_rfl) (fun _ _ _ h => h) (Or.inl ⟨by rfl, fun w1 hSw => by (dsimp only at hSw; go_simp)⟩) (by assumption) ?_
    simp only [List.getElem_toArray, List.getElem_cons_succ, List.getElem_cons_zero, Act.put, List.setIfInBounds_toArray, List.set_cons_zero, List.set_cons_succ]
    refine wpAnyH_take (i := 60) (v := .bool true) rfl (by kernel_rfl) (by kernel_rfl) (by kernel_rfl) (fun _ _ _ h => h) (Or.inl ⟨by rfl, fun w1 hSw => by (dsimp only at hSw; go_simp)⟩) (by assumption) ?_
    simp only [List.getElem_toArray, List.getElem_cons_succ, List.getElem_cons_zero, Act.put, List.setIfInBounds_toArray, List.set_cons_zero, List.set_cons_succ]
    refine wpAnyH_ready (rs := [61]) (by kernel_rfl) (by simp) ?_
    refine AllReadyH.cons rfl (fun K hK => ?_) AllReadyH.nil
    simp only [List.getElem_toArray, List.getElem_cons_succ, List.getElem_cons_zero]
    go_simp
    refine (hKn.out _ (Hid.out (by assumption))).mono ?_
    rintro e w' ⟨rfl, bA⟩
    have U61 := Lib.hid bA
    clear bA hKn hHeld
    go_wp2_with fail
    refine hK.out _ _ (HALL.out _ (Hid.out (by assumption))) (fun hHeld => ?_)
    clear hK K
    refine wpAnyH_take (i := 62) (v := .bool true) rfl (by kernel_rfl) (by kernel_rfl) (by kernel_rfl) (fun _ _ _ h => h) (Or.inl ⟨by rfl, fun w1 hSw => by (dsimp only at hSw; go_simp)⟩) (by assumption) ?_
    simp only [List.getElem_toArray, List.getElem_cons_succ, List.getElem_cons_zero, Act.put, List.setIfInBounds_toArray, List.set_cons_zero, List.set_cons_succ]
    refine wpAnyH_take (i := 63) (v := .bool true) rfl (by kernel_rfl) (by kernel_rfl) (by kernel_rfl) (fun _ _ _ h => h) (Or.inl ⟨by rfl, fun w1 hSw => by (dsimp only at hSw; go_simp)⟩) (by assumption) ?_
    simp only [List.getElem_toArray, List.getElem_cons_succ, List.getElem_cons_zero, Act.put, List.setIfInBounds_toArray, List.set_cons_zero, List.set_cons_succ]
    refine wpAnyH_done (by kernel_rfl) ?_ _
    go_wp2_with fail
    go_ret
    exact ⟨rfl, LW.out _ (Hid.out (by assumption))⟩
end Go.Proofs.Ytldleckgkgeclaa
