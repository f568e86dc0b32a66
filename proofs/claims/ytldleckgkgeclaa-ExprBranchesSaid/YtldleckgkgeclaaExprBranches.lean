/-
  ExprBranches: an if reckons one of its branches; and, or, not, eq, lt by their rules.
-/
import Derived.Test.YtldleckgkgeclaaExprBrOf
namespace Go.Proofs.Ytldleckgkgeclaa
open Go.RowKit
theorem vals {r : V × Int} {vk vn : Int} {vs : ByteArray} {ve : Int} (h : r = (⟨vk, vn, vs⟩, ve)) : vn = r.1.n ∧ ve = r.2 := by subst h; exact ⟨rfl, rfl⟩
theorem or00 : bits .or .i64 0 0 = 0 := by decide
theorem or01 : bits .or .i64 0 1 = 1 := by decide
theorem or10 : bits .or .i64 1 0 = 1 := by decide
theorem or11 : bits .or .i64 1 1 = 1 := by decide
theorem or_bool (a b : Bool) : bits .or .i64 (boolI a) (boolI b) = boolI (a || b) := by cases a <;> cases b <;> decide
theorem or_chain (a b c d e : Bool) : bits .or .i64 (bits .or .i64 (bits .or .i64 (bits .or .i64 (boolI a) (boolI b)) (boolI c)) (boolI d)) (boolI e) < 2 := by
  rw [or_bool, or_bool, or_bool, or_bool]
  generalize ((((a || b) || c) || d) || e) = q
  cases q <;> decide
theorem boolI_one (b : Bool) : (boolI b == 1) = b := by cases b <;> rfl
set_option maxRecDepth 100000 in
set_option maxHeartbeats 2000000 in
theorem exprBranches_any (a c : Int) (a1 : -9223372036854775808 ≤ a) (a2 : a ≤ 9223372036854775807) (c1 : -9223372036854775808 ≤ c) (c2 : c ≤ 9223372036854775807) (W : World) :
    Calls Try.prog 4 #[.int .i64 a, .int .i64 c] W fun e W' => e = .returned (.bool true) ∧ Below W.heap.size W W' := by
  have hn := Lib.hid (rowN_two a1 a2 c1 c2)
  have hov : overE.Fine := opE_fine _ _ (fun e he => by
    simp only [List.mem_cons, List.not_mem_nil, or_false] at he
    rcases he with rfl | rfl <;> exact numE_fine _ (by decide) (by decide)) (by decide)
  have HOV := Lib.hid hov
  clear hov
  go_enter Try.func4, Try.ntmps4
  go_wp2_with fail
  refine (nums_any W.heap.size 0 2 [a, c] 2 rfl (by omega) _ (by simp) ?_).mono ?_
  · intro k hk
    match k, hk with
    | 0, _ => simp
    | 1, _ => simp
  rintro e w1 ⟨v, rfl, hown, hb⟩
  obtain ⟨Ar, cr, rfl, _, hr, _⟩ := own_row (l := [a, c].map numV) hown
  have HB := Lib.hid (((Below.refl W.heap.size W).alloc (Nat.le_refl _) (.cells #[.int .i64 a, .int .i64 c] 2)).trans (hb.mono (by simp)))
  have HR := Lib.hid hr
  clear hb hown hr
  simp only [List.map_cons, List.map_nil, List.length_cons, List.length_nil, Nat.zero_add, Nat.reduceAdd] at HR ⊢
  go_wp2_with fail
  refine (keepU _).mono ?_
  rintro e w2 ⟨⟨U, cu, rfl, hc⟩, hb⟩
  replace HR := Lib.hid ((HR.out.below hb).more hb.size)
  replace HB := Lib.hid (HB.out.trans (hb.mono HB.out.size))
  have HU := Lib.hid hc
  clear hb hc
  go_wp2_with fail
  refine (of_any of_if1 _).mono ?_
  rintro e p0 ⟨⟨E0, ce0, rfl, hk⟩, hb⟩
  replace HR := Lib.hid ((HR.out.below hb).more hb.size)
  replace HU := Lib.hid ((HU.out.below hb).more hb.size)
  replace HB := Lib.hid (HB.out.trans (hb.mono HB.out.size))
  have hev := Lib.hid (evalTop_any uCols [numV a, numV c] (by decide) (by simp) hn.out (opE opIf [colE chA, colE chC, overE]) (opE_fine _ _ (fun e he => by
    simp only [List.mem_cons, List.not_mem_nil, or_false] at he
    rcases he with rfl | rfl | rfl
    all_goals first | exact colE_fine _ (by decide) | exact HOV.out) (by decide)) E0 U Ar ce0 cu cr p0 hk HU.out HR.out)
  rw [ev_if1] at hev
  generalize hgen : ((if a = 0 then (zeroV, 26) else (numV c, 0)) : V × Int) = v0 at hev
  have HV0 := Lib.hid hgen
  obtain ⟨⟨vk0, vn0, vs0⟩, ve0⟩ := v0
  simp only at hev
  clear hb hk hgen
  go_wp2_with fail
  refine (hev.out).mono ?_
  rintro e r0 ⟨rfl, hb⟩
  have hal : Below r0.heap.size r0 (r0.alloc (.cells #[.int .i64 vk0, .int .i64 vn0, .string vs0] 29)) := (Below.refl _ _).alloc (Nat.le_refl _) _
  have hb2 := hb.trans (hal.mono hb.size)
  replace HR := Lib.hid ((HR.out.below hb2).more hb2.size)
  replace HU := Lib.hid ((HU.out.below hb2).more hb2.size)
  replace HB := Lib.hid (HB.out.trans (hb2.mono HB.out.size))
  have HC0 : Hid ((r0.alloc (.cells #[.int .i64 vk0, .int .i64 vn0, .string vs0] 29)).cell? ⟨r0.heap.size, 1, none⟩ = some (.int .i64 vn0)) := Lib.hid (by simp)
  have HS0 : Hid (r0.heap.size < (r0.alloc (.cells #[.int .i64 vk0, .int .i64 vn0, .string vs0] 29)).heap.size) := Lib.hid (by simp)
  clear hb hb2 hal hev
  go_wp2_with fail
  refine (of_any of_if2 _).mono ?_
  rintro e p1 ⟨⟨E1, ce1, rfl, hk⟩, hb⟩
  replace HR := Lib.hid ((HR.out.below hb).more hb.size)
  replace HU := Lib.hid ((HU.out.below hb).more hb.size)
  replace HB := Lib.hid (HB.out.trans (hb.mono HB.out.size))
  replace HC0 := Lib.hid ((hb.cell (p := ⟨r0.heap.size, 1, none⟩) HS0.out).trans HC0.out)
  replace HS0 := Lib.hid (Nat.lt_of_lt_of_le HS0.out hb.size)
  have hev := Lib.hid (evalTop_any uCols [numV a, numV c] (by decide) (by simp) hn.out (opE opIf [colE chA, overE, colE chC]) (opE_fine _ _ (fun e he => by
    simp only [List.mem_cons, List.not_mem_nil, or_false] at he
    rcases he with rfl | rfl | rfl
    all_goals first | exact colE_fine _ (by decide) | exact HOV.out) (by decide)) E1 U Ar ce1 cu cr p1 hk HU.out HR.out)
  rw [ev_if2] at hev
  generalize hgen : ((if a = 0 then (numV c, 0) else (zeroV, 26)) : V × Int) = v1 at hev
  have HV1 := Lib.hid hgen
  obtain ⟨⟨vk1, vn1, vs1⟩, ve1⟩ := v1
  simp only at hev
  clear hb hk hgen
  go_wp2_with fail
  refine (hev.out).mono ?_
  rintro e r1 ⟨rfl, hb⟩
  have hal : Below r1.heap.size r1 (r1.alloc (.cells #[.int .i64 vk1, .int .i64 vn1, .string vs1] 29)) := (Below.refl _ _).alloc (Nat.le_refl _) _
  have hb2 := hb.trans (hal.mono hb.size)
  replace HR := Lib.hid ((HR.out.below hb2).more hb2.size)
  replace HU := Lib.hid ((HU.out.below hb2).more hb2.size)
  replace HB := Lib.hid (HB.out.trans (hb2.mono HB.out.size))
  replace HC0 := Lib.hid ((hb2.cell (p := ⟨r0.heap.size, 1, none⟩) HS0.out).trans HC0.out)
  replace HS0 := Lib.hid (Nat.lt_of_lt_of_le HS0.out hb2.size)
  have HC1 : Hid ((r1.alloc (.cells #[.int .i64 vk1, .int .i64 vn1, .string vs1] 29)).cell? ⟨r1.heap.size, 1, none⟩ = some (.int .i64 vn1)) := Lib.hid (by simp)
  have HS1 : Hid (r1.heap.size < (r1.alloc (.cells #[.int .i64 vk1, .int .i64 vn1, .string vs1] 29)).heap.size) := Lib.hid (by simp)
  clear hb hb2 hal hev
  go_wp2_with fail
  refine (of_any of_and _).mono ?_
  rintro e p2 ⟨⟨E2, ce2, rfl, hk⟩, hb⟩
  replace HR := Lib.hid ((HR.out.below hb).more hb.size)
  replace HU := Lib.hid ((HU.out.below hb).more hb.size)
  replace HB := Lib.hid (HB.out.trans (hb.mono HB.out.size))
  replace HC0 := Lib.hid ((hb.cell (p := ⟨r0.heap.size, 1, none⟩) HS0.out).trans HC0.out)
  replace HS0 := Lib.hid (Nat.lt_of_lt_of_le HS0.out hb.size)
  replace HC1 := Lib.hid ((hb.cell (p := ⟨r1.heap.size, 1, none⟩) HS1.out).trans HC1.out)
  replace HS1 := Lib.hid (Nat.lt_of_lt_of_le HS1.out hb.size)
  have hev := Lib.hid (evalTop_any uCols [numV a, numV c] (by decide) (by simp) hn.out (opE opAnd [colE chA, colE chC]) (opE_fine _ _ (fun e he => by
    simp only [List.mem_cons, List.not_mem_nil, or_false] at he
    rcases he with rfl | rfl | rfl
    all_goals first | exact colE_fine _ (by decide) | exact HOV.out) (by decide)) E2 U Ar ce2 cu cr p2 hk HU.out HR.out)
  rw [ev_and] at hev
  generalize hgen : ((numV (boolI (a != 0 && c != 0)), 0) : V × Int) = v2 at hev
  have HV2 := Lib.hid hgen
  obtain ⟨⟨vk2, vn2, vs2⟩, ve2⟩ := v2
  simp only at hev
  clear hb hk hgen
  go_wp2_with fail
  refine (hev.out).mono ?_
  rintro e r2 ⟨rfl, hb⟩
  have hal : Below r2.heap.size r2 (r2.alloc (.cells #[.int .i64 vk2, .int .i64 vn2, .string vs2] 29)) := (Below.refl _ _).alloc (Nat.le_refl _) _
  have hb2 := hb.trans (hal.mono hb.size)
  replace HR := Lib.hid ((HR.out.below hb2).more hb2.size)
  replace HU := Lib.hid ((HU.out.below hb2).more hb2.size)
  replace HB := Lib.hid (HB.out.trans (hb2.mono HB.out.size))
  replace HC0 := Lib.hid ((hb2.cell (p := ⟨r0.heap.size, 1, none⟩) HS0.out).trans HC0.out)
  replace HS0 := Lib.hid (Nat.lt_of_lt_of_le HS0.out hb2.size)
  replace HC1 := Lib.hid ((hb2.cell (p := ⟨r1.heap.size, 1, none⟩) HS1.out).trans HC1.out)
  replace HS1 := Lib.hid (Nat.lt_of_lt_of_le HS1.out hb2.size)
  have HC2 : Hid ((r2.alloc (.cells #[.int .i64 vk2, .int .i64 vn2, .string vs2] 29)).cell? ⟨r2.heap.size, 1, none⟩ = some (.int .i64 vn2)) := Lib.hid (by simp)
  have HS2 : Hid (r2.heap.size < (r2.alloc (.cells #[.int .i64 vk2, .int .i64 vn2, .string vs2] 29)).heap.size) := Lib.hid (by simp)
  clear hb hb2 hal hev
  go_wp2_with fail
  refine (of_any of_or _).mono ?_
  rintro e p3 ⟨⟨E3, ce3, rfl, hk⟩, hb⟩
  replace HR := Lib.hid ((HR.out.below hb).more hb.size)
  replace HU := Lib.hid ((HU.out.below hb).more hb.size)
  replace HB := Lib.hid (HB.out.trans (hb.mono HB.out.size))
  replace HC0 := Lib.hid ((hb.cell (p := ⟨r0.heap.size, 1, none⟩) HS0.out).trans HC0.out)
  replace HS0 := Lib.hid (Nat.lt_of_lt_of_le HS0.out hb.size)
  replace HC1 := Lib.hid ((hb.cell (p := ⟨r1.heap.size, 1, none⟩) HS1.out).trans HC1.out)
  replace HS1 := Lib.hid (Nat.lt_of_lt_of_le HS1.out hb.size)
  replace HC2 := Lib.hid ((hb.cell (p := ⟨r2.heap.size, 1, none⟩) HS2.out).trans HC2.out)
  replace HS2 := Lib.hid (Nat.lt_of_lt_of_le HS2.out hb.size)
  have hev := Lib.hid (evalTop_any uCols [numV a, numV c] (by decide) (by simp) hn.out (opE opOr [colE chA, colE chC]) (opE_fine _ _ (fun e he => by
    simp only [List.mem_cons, List.not_mem_nil, or_false] at he
    rcases he with rfl | rfl | rfl
    all_goals first | exact colE_fine _ (by decide) | exact HOV.out) (by decide)) E3 U Ar ce3 cu cr p3 hk HU.out HR.out)
  rw [ev_or] at hev
  generalize hgen : ((numV (boolI (a != 0 || c != 0)), 0) : V × Int) = v3 at hev
  have HV3 := Lib.hid hgen
  obtain ⟨⟨vk3, vn3, vs3⟩, ve3⟩ := v3
  simp only at hev
  clear hb hk hgen
  go_wp2_with fail
  refine (hev.out).mono ?_
  rintro e r3 ⟨rfl, hb⟩
  have hal : Below r3.heap.size r3 (r3.alloc (.cells #[.int .i64 vk3, .int .i64 vn3, .string vs3] 29)) := (Below.refl _ _).alloc (Nat.le_refl _) _
  have hb2 := hb.trans (hal.mono hb.size)
  replace HR := Lib.hid ((HR.out.below hb2).more hb2.size)
  replace HU := Lib.hid ((HU.out.below hb2).more hb2.size)
  replace HB := Lib.hid (HB.out.trans (hb2.mono HB.out.size))
  replace HC0 := Lib.hid ((hb2.cell (p := ⟨r0.heap.size, 1, none⟩) HS0.out).trans HC0.out)
  replace HS0 := Lib.hid (Nat.lt_of_lt_of_le HS0.out hb2.size)
  replace HC1 := Lib.hid ((hb2.cell (p := ⟨r1.heap.size, 1, none⟩) HS1.out).trans HC1.out)
  replace HS1 := Lib.hid (Nat.lt_of_lt_of_le HS1.out hb2.size)
  replace HC2 := Lib.hid ((hb2.cell (p := ⟨r2.heap.size, 1, none⟩) HS2.out).trans HC2.out)
  replace HS2 := Lib.hid (Nat.lt_of_lt_of_le HS2.out hb2.size)
  have HC3 : Hid ((r3.alloc (.cells #[.int .i64 vk3, .int .i64 vn3, .string vs3] 29)).cell? ⟨r3.heap.size, 1, none⟩ = some (.int .i64 vn3)) := Lib.hid (by simp)
  have HS3 : Hid (r3.heap.size < (r3.alloc (.cells #[.int .i64 vk3, .int .i64 vn3, .string vs3] 29)).heap.size) := Lib.hid (by simp)
  clear hb hb2 hal hev
  go_wp2_with fail
  refine (of_any of_not _).mono ?_
  rintro e p4 ⟨⟨E4, ce4, rfl, hk⟩, hb⟩
  replace HR := Lib.hid ((HR.out.below hb).more hb.size)
  replace HU := Lib.hid ((HU.out.below hb).more hb.size)
  replace HB := Lib.hid (HB.out.trans (hb.mono HB.out.size))
  replace HC0 := Lib.hid ((hb.cell (p := ⟨r0.heap.size, 1, none⟩) HS0.out).trans HC0.out)
  replace HS0 := Lib.hid (Nat.lt_of_lt_of_le HS0.out hb.size)
  replace HC1 := Lib.hid ((hb.cell (p := ⟨r1.heap.size, 1, none⟩) HS1.out).trans HC1.out)
  replace HS1 := Lib.hid (Nat.lt_of_lt_of_le HS1.out hb.size)
  replace HC2 := Lib.hid ((hb.cell (p := ⟨r2.heap.size, 1, none⟩) HS2.out).trans HC2.out)
  replace HS2 := Lib.hid (Nat.lt_of_lt_of_le HS2.out hb.size)
  replace HC3 := Lib.hid ((hb.cell (p := ⟨r3.heap.size, 1, none⟩) HS3.out).trans HC3.out)
  replace HS3 := Lib.hid (Nat.lt_of_lt_of_le HS3.out hb.size)
  have hev := Lib.hid (evalTop_any uCols [numV a, numV c] (by decide) (by simp) hn.out (opE opNot [colE chA]) (opE_fine _ _ (fun e he => by
    simp only [List.mem_cons, List.not_mem_nil, or_false] at he
    rcases he with rfl | rfl | rfl
    all_goals first | exact colE_fine _ (by decide) | exact HOV.out) (by decide)) E4 U Ar ce4 cu cr p4 hk HU.out HR.out)
  rw [ev_not] at hev
  generalize hgen : ((numV (boolI (a == 0)), 0) : V × Int) = v4 at hev
  have HV4 := Lib.hid hgen
  obtain ⟨⟨vk4, vn4, vs4⟩, ve4⟩ := v4
  simp only at hev
  clear hb hk hgen
  go_wp2_with fail
  refine (hev.out).mono ?_
  rintro e r4 ⟨rfl, hb⟩
  have hal : Below r4.heap.size r4 (r4.alloc (.cells #[.int .i64 vk4, .int .i64 vn4, .string vs4] 29)) := (Below.refl _ _).alloc (Nat.le_refl _) _
  have hb2 := hb.trans (hal.mono hb.size)
  replace HR := Lib.hid ((HR.out.below hb2).more hb2.size)
  replace HU := Lib.hid ((HU.out.below hb2).more hb2.size)
  replace HB := Lib.hid (HB.out.trans (hb2.mono HB.out.size))
  replace HC0 := Lib.hid ((hb2.cell (p := ⟨r0.heap.size, 1, none⟩) HS0.out).trans HC0.out)
  replace HS0 := Lib.hid (Nat.lt_of_lt_of_le HS0.out hb2.size)
  replace HC1 := Lib.hid ((hb2.cell (p := ⟨r1.heap.size, 1, none⟩) HS1.out).trans HC1.out)
  replace HS1 := Lib.hid (Nat.lt_of_lt_of_le HS1.out hb2.size)
  replace HC2 := Lib.hid ((hb2.cell (p := ⟨r2.heap.size, 1, none⟩) HS2.out).trans HC2.out)
  replace HS2 := Lib.hid (Nat.lt_of_lt_of_le HS2.out hb2.size)
  replace HC3 := Lib.hid ((hb2.cell (p := ⟨r3.heap.size, 1, none⟩) HS3.out).trans HC3.out)
  replace HS3 := Lib.hid (Nat.lt_of_lt_of_le HS3.out hb2.size)
  have HC4 : Hid ((r4.alloc (.cells #[.int .i64 vk4, .int .i64 vn4, .string vs4] 29)).cell? ⟨r4.heap.size, 1, none⟩ = some (.int .i64 vn4)) := Lib.hid (by simp)
  have HS4 : Hid (r4.heap.size < (r4.alloc (.cells #[.int .i64 vk4, .int .i64 vn4, .string vs4] 29)).heap.size) := Lib.hid (by simp)
  clear hb hb2 hal hev
  go_wp2_with fail
  refine (of_any of_eq _).mono ?_
  rintro e p5 ⟨⟨E5, ce5, rfl, hk⟩, hb⟩
  replace HR := Lib.hid ((HR.out.below hb).more hb.size)
  replace HU := Lib.hid ((HU.out.below hb).more hb.size)
  replace HB := Lib.hid (HB.out.trans (hb.mono HB.out.size))
  replace HC0 := Lib.hid ((hb.cell (p := ⟨r0.heap.size, 1, none⟩) HS0.out).trans HC0.out)
  replace HS0 := Lib.hid (Nat.lt_of_lt_of_le HS0.out hb.size)
  replace HC1 := Lib.hid ((hb.cell (p := ⟨r1.heap.size, 1, none⟩) HS1.out).trans HC1.out)
  replace HS1 := Lib.hid (Nat.lt_of_lt_of_le HS1.out hb.size)
  replace HC2 := Lib.hid ((hb.cell (p := ⟨r2.heap.size, 1, none⟩) HS2.out).trans HC2.out)
  replace HS2 := Lib.hid (Nat.lt_of_lt_of_le HS2.out hb.size)
  replace HC3 := Lib.hid ((hb.cell (p := ⟨r3.heap.size, 1, none⟩) HS3.out).trans HC3.out)
  replace HS3 := Lib.hid (Nat.lt_of_lt_of_le HS3.out hb.size)
  replace HC4 := Lib.hid ((hb.cell (p := ⟨r4.heap.size, 1, none⟩) HS4.out).trans HC4.out)
  replace HS4 := Lib.hid (Nat.lt_of_lt_of_le HS4.out hb.size)
  have hev := Lib.hid (evalTop_any uCols [numV a, numV c] (by decide) (by simp) hn.out (opE opEq [colE chA, colE chC]) (opE_fine _ _ (fun e he => by
    simp only [List.mem_cons, List.not_mem_nil, or_false] at he
    rcases he with rfl | rfl | rfl
    all_goals first | exact colE_fine _ (by decide) | exact HOV.out) (by decide)) E5 U Ar ce5 cu cr p5 hk HU.out HR.out)
  rw [ev_eq] at hev
  generalize hgen : ((numV (boolI (V.eqv (numV a) (numV c))), 0) : V × Int) = v5 at hev
  have HV5 := Lib.hid hgen
  obtain ⟨⟨vk5, vn5, vs5⟩, ve5⟩ := v5
  simp only at hev
  clear hb hk hgen
  go_wp2_with fail
  refine (hev.out).mono ?_
  rintro e r5 ⟨rfl, hb⟩
  have hal : Below r5.heap.size r5 (r5.alloc (.cells #[.int .i64 vk5, .int .i64 vn5, .string vs5] 29)) := (Below.refl _ _).alloc (Nat.le_refl _) _
  have hb2 := hb.trans (hal.mono hb.size)
  replace HR := Lib.hid ((HR.out.below hb2).more hb2.size)
  replace HU := Lib.hid ((HU.out.below hb2).more hb2.size)
  replace HB := Lib.hid (HB.out.trans (hb2.mono HB.out.size))
  replace HC0 := Lib.hid ((hb2.cell (p := ⟨r0.heap.size, 1, none⟩) HS0.out).trans HC0.out)
  replace HS0 := Lib.hid (Nat.lt_of_lt_of_le HS0.out hb2.size)
  replace HC1 := Lib.hid ((hb2.cell (p := ⟨r1.heap.size, 1, none⟩) HS1.out).trans HC1.out)
  replace HS1 := Lib.hid (Nat.lt_of_lt_of_le HS1.out hb2.size)
  replace HC2 := Lib.hid ((hb2.cell (p := ⟨r2.heap.size, 1, none⟩) HS2.out).trans HC2.out)
  replace HS2 := Lib.hid (Nat.lt_of_lt_of_le HS2.out hb2.size)
  replace HC3 := Lib.hid ((hb2.cell (p := ⟨r3.heap.size, 1, none⟩) HS3.out).trans HC3.out)
  replace HS3 := Lib.hid (Nat.lt_of_lt_of_le HS3.out hb2.size)
  replace HC4 := Lib.hid ((hb2.cell (p := ⟨r4.heap.size, 1, none⟩) HS4.out).trans HC4.out)
  replace HS4 := Lib.hid (Nat.lt_of_lt_of_le HS4.out hb2.size)
  have HC5 : Hid ((r5.alloc (.cells #[.int .i64 vk5, .int .i64 vn5, .string vs5] 29)).cell? ⟨r5.heap.size, 1, none⟩ = some (.int .i64 vn5)) := Lib.hid (by simp)
  have HS5 : Hid (r5.heap.size < (r5.alloc (.cells #[.int .i64 vk5, .int .i64 vn5, .string vs5] 29)).heap.size) := Lib.hid (by simp)
  clear hb hb2 hal hev
  go_wp2_with fail
  refine (of_any of_lt _).mono ?_
  rintro e p6 ⟨⟨E6, ce6, rfl, hk⟩, hb⟩
  replace HR := Lib.hid ((HR.out.below hb).more hb.size)
  replace HU := Lib.hid ((HU.out.below hb).more hb.size)
  replace HB := Lib.hid (HB.out.trans (hb.mono HB.out.size))
  replace HC0 := Lib.hid ((hb.cell (p := ⟨r0.heap.size, 1, none⟩) HS0.out).trans HC0.out)
  replace HS0 := Lib.hid (Nat.lt_of_lt_of_le HS0.out hb.size)
  replace HC1 := Lib.hid ((hb.cell (p := ⟨r1.heap.size, 1, none⟩) HS1.out).trans HC1.out)
  replace HS1 := Lib.hid (Nat.lt_of_lt_of_le HS1.out hb.size)
  replace HC2 := Lib.hid ((hb.cell (p := ⟨r2.heap.size, 1, none⟩) HS2.out).trans HC2.out)
  replace HS2 := Lib.hid (Nat.lt_of_lt_of_le HS2.out hb.size)
  replace HC3 := Lib.hid ((hb.cell (p := ⟨r3.heap.size, 1, none⟩) HS3.out).trans HC3.out)
  replace HS3 := Lib.hid (Nat.lt_of_lt_of_le HS3.out hb.size)
  replace HC4 := Lib.hid ((hb.cell (p := ⟨r4.heap.size, 1, none⟩) HS4.out).trans HC4.out)
  replace HS4 := Lib.hid (Nat.lt_of_lt_of_le HS4.out hb.size)
  replace HC5 := Lib.hid ((hb.cell (p := ⟨r5.heap.size, 1, none⟩) HS5.out).trans HC5.out)
  replace HS5 := Lib.hid (Nat.lt_of_lt_of_le HS5.out hb.size)
  have hev := Lib.hid (evalTop_any uCols [numV a, numV c] (by decide) (by simp) hn.out (opE opLt [colE chA, colE chC]) (opE_fine _ _ (fun e he => by
    simp only [List.mem_cons, List.not_mem_nil, or_false] at he
    rcases he with rfl | rfl | rfl
    all_goals first | exact colE_fine _ (by decide) | exact HOV.out) (by decide)) E6 U Ar ce6 cu cr p6 hk HU.out HR.out)
  rw [ev_lt] at hev
  generalize hgen : ((numV (boolI (V.lt (numV a) (numV c))), 0) : V × Int) = v6 at hev
  have HV6 := Lib.hid hgen
  obtain ⟨⟨vk6, vn6, vs6⟩, ve6⟩ := v6
  simp only at hev
  clear hb hk hgen
  go_wp2_with fail
  refine (hev.out).mono ?_
  rintro e r6 ⟨rfl, hb⟩
  have hal : Below r6.heap.size r6 (r6.alloc (.cells #[.int .i64 vk6, .int .i64 vn6, .string vs6] 29)) := (Below.refl _ _).alloc (Nat.le_refl _) _
  have hb2 := hb.trans (hal.mono hb.size)
  replace HR := Lib.hid ((HR.out.below hb2).more hb2.size)
  replace HU := Lib.hid ((HU.out.below hb2).more hb2.size)
  replace HB := Lib.hid (HB.out.trans (hb2.mono HB.out.size))
  replace HC0 := Lib.hid ((hb2.cell (p := ⟨r0.heap.size, 1, none⟩) HS0.out).trans HC0.out)
  replace HS0 := Lib.hid (Nat.lt_of_lt_of_le HS0.out hb2.size)
  replace HC1 := Lib.hid ((hb2.cell (p := ⟨r1.heap.size, 1, none⟩) HS1.out).trans HC1.out)
  replace HS1 := Lib.hid (Nat.lt_of_lt_of_le HS1.out hb2.size)
  replace HC2 := Lib.hid ((hb2.cell (p := ⟨r2.heap.size, 1, none⟩) HS2.out).trans HC2.out)
  replace HS2 := Lib.hid (Nat.lt_of_lt_of_le HS2.out hb2.size)
  replace HC3 := Lib.hid ((hb2.cell (p := ⟨r3.heap.size, 1, none⟩) HS3.out).trans HC3.out)
  replace HS3 := Lib.hid (Nat.lt_of_lt_of_le HS3.out hb2.size)
  replace HC4 := Lib.hid ((hb2.cell (p := ⟨r4.heap.size, 1, none⟩) HS4.out).trans HC4.out)
  replace HS4 := Lib.hid (Nat.lt_of_lt_of_le HS4.out hb2.size)
  replace HC5 := Lib.hid ((hb2.cell (p := ⟨r5.heap.size, 1, none⟩) HS5.out).trans HC5.out)
  replace HS5 := Lib.hid (Nat.lt_of_lt_of_le HS5.out hb2.size)
  have HC6 : Hid ((r6.alloc (.cells #[.int .i64 vk6, .int .i64 vn6, .string vs6] 29)).cell? ⟨r6.heap.size, 1, none⟩ = some (.int .i64 vn6)) := Lib.hid (by simp)
  have HS6 : Hid (r6.heap.size < (r6.alloc (.cells #[.int .i64 vk6, .int .i64 vn6, .string vs6] 29)).heap.size) := Lib.hid (by simp)
  clear hb hb2 hal hev
  rw [eqv_num] at HV5
  rw [lt_num] at HV6
  have hkn := Lib.hid (known8_any (r6.alloc (.cells #[.int .i64 vk6, .int .i64 vn6, .string vs6] 29)))
  have C0 := HC0.out
  have C1 := HC1.out
  have C2 := HC2.out
  have C3 := HC3.out
  have C4 := HC4.out
  have C5 := HC5.out
  have C6 := HC6.out
  have o1 := or00
  have o2 := or01
  have o3 := or10
  have o4 := or11
  clear HR HU HC0 HC1 HC2 HC3 HC4 HC5 HC6 HS0 HS1 HS2 HS3 HS4 HS5 HS6 hn HOV
  have H0 := vals HV0.out
  have H1 := vals HV1.out
  have H2 := vals HV2.out
  have H3 := vals HV3.out
  have H4 := vals HV4.out
  have H5 := vals HV5.out
  have H6 := vals HV6.out
  clear HV0 HV1 HV2 HV3 HV4 HV5 HV6
  have hv2 : vn2 = boolI (a != 0 && c != 0) := H2.1
  have hv3 : vn3 = boolI (a != 0 || c != 0) := H3.1
  have hv4 : vn4 = boolI (a == 0) := H4.1
  have hv5 : vn5 = boolI (a == c) := H5.1
  have hv6 : vn6 = boolI (decide (a < c)) := H6.1
  have hw : ve2 = 0 ∧ ve3 = 0 ∧ ve4 = 0 ∧ ve5 = 0 ∧ ve6 = 0 := ⟨H2.2, H3.2, H4.2, H5.2, H6.2⟩
  obtain ⟨rfl, rfl, rfl, rfl, rfl⟩ := hw
  have hch : Hid (bits .or .i64 (bits .or .i64 (bits .or .i64 (bits .or .i64 vn2 vn3) vn4) vn5) vn6 < 2) := Lib.hid (by
    rw [hv2, hv3, hv4, hv5, hv6]
    exact or_chain _ _ _ _ _)
  obtain ⟨nc, hnc⟩ : ∃ b, b = (c != 0) := ⟨_, rfl⟩
  obtain ⟨qe, hqe⟩ : ∃ b, b = (a == c) := ⟨_, rfl⟩
  obtain ⟨ql, hql⟩ : ∃ b, b = decide (a < c) := ⟨_, rfl⟩
  have b5 : (vn5 == 1) = qe := by rw [hv5, hqe, boolI_one]
  have b6 : (vn6 == 1) = ql := by rw [hv6, hql, boolI_one]
  have l5 := hqe.symm
  have l6 := hql.symm
  have lc := hnc.symm
  clear hqe hql hnc H2 H3 H4 H5 H6
  have hc3 := hch.out
  clear hch o1 o2 o3 o4
  by_cases ha : a = 0
  · have ba : (a == 0) = true := by simpa using ha
    have na : (a != 0) = false := by simpa using ha
    have b2 : (vn2 == 1) = false := by rw [hv2, boolI_one, na, Bool.false_and]
    have b3 : (vn3 == 1) = nc := by rw [hv3, boolI_one, na, Bool.false_or, lc]
    have b4 : (vn4 == 1) = true := by rw [hv4, boolI_one, ba]
    rw [if_pos ha] at H0 H1
    obtain ⟨n0, e0⟩ : vn0 = 0 ∧ ve0 = 26 := H0
    obtain ⟨n1, e1⟩ : vn1 = c ∧ ve1 = 0 := H1
    subst n0 e0 n1 e1
    clear ha hv2 hv3 hv4 hv5 hv6 a1 a2 c1 c2
    go_wp2_with fail
    refine (hkn.out).mono ?_
    rintro e w' ⟨rfl, hb⟩
    have HBZ := Lib.hid (HB.out.trans (hb.mono HB.out.size))
    clear hb hkn
    go_wp2_with fail
    go_ret
    exact ⟨rfl, HBZ.out⟩
  · have ba : (a == 0) = false := by simpa using ha
    have na : (a != 0) = true := by simpa using ha
    have b2 : (vn2 == 1) = nc := by rw [hv2, boolI_one, na, Bool.true_and, lc]
    have b3 : (vn3 == 1) = true := by rw [hv3, boolI_one, na, Bool.true_or]
    have b4 : (vn4 == 1) = false := by rw [hv4, boolI_one, ba]
    rw [if_neg ha] at H0 H1
    obtain ⟨n0, e0⟩ : vn0 = c ∧ ve0 = 0 := H0
    obtain ⟨n1, e1⟩ : vn1 = 0 ∧ ve1 = 26 := H1
    subst n0 e0 n1 e1
    clear ha hv2 hv3 hv4 hv5 hv6 a1 a2 c1 c2
    go_wp2_with fail
    refine (hkn.out).mono ?_
    rintro e w' ⟨rfl, hb⟩
    have HBZ := Lib.hid (HB.out.trans (hb.mono HB.out.size))
    clear hb hkn
    go_wp2_with fail
    go_ret
    exact ⟨rfl, HBZ.out⟩
end Go.Proofs.Ytldleckgkgeclaa
