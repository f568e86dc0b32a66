/-
  ExprSums: sums, differences and products of any numbers.
-/
import Derived.Test.YtldleckgkgeclaaExprOf
import Derived.Test.YtldleckgkgeclaaExprA
import Derived.Deep.DeepCutAuto
import Derived.Test.YtldleckgkgeclaaExprNum
namespace Go.Proofs.Ytldleckgkgeclaa
open Go.RowKit
def uCols : List C := [⟨bs chA, 1⟩, ⟨bs chC, 1⟩]
theorem keepU (w : World) : Calls Try.prog 12 #[] w fun e w' => (∃ A c, e = .returned (.slice A 2 c) ∧ CRow w' w'.heap.size A uCols) ∧ Below w.heap.size w w' := by
  go_enter Try.func12, Try.ntmps12
  go_wp2_with fail
  go_ret
  refine ⟨⟨some ⟨w.heap.size, 0, none⟩, 2, rfl, .inr ⟨w.heap.size, 0, rfl, by simp, ?_⟩⟩, (Below.refl _ _).alloc (Nat.le_refl _) _⟩
  intro i x hx
  match i, hx with
  | 0, hx => simp [uCols] at hx; subst hx; simp; rfl
  | 1, hx => simp [uCols] at hx; subst hx; simp; rfl
theorem ops_uCols (op : List UInt8) (a c : Int) (h : op = opAdd ∨ op = opSub ∨ op = opMul) : evalTop uCols [numV a, numV c] (opE op [colE chA, colE chC]) = operateL op (numV a) (numV c) := by
  rcases h with rfl | rfl | rfl <;> kernel_rfl
theorem opE_fine (op : List UInt8) (l : List E) (h : ∀ e ∈ l, e.Fine) (hs : op.length ≤ 1048576) : (opE op l).Fine := .mk _ _ _ _ (by decide) (by decide) hs h
theorem colE_fine (nm : List UInt8) (hs : nm.length ≤ 1048576) : (colE nm).Fine := .mk _ _ _ _ (by decide) (by decide) hs (fun e he => by cases he)
theorem numE_fine (n : Int) (h1 : -9223372036854775808 ≤ n) (h2 : n ≤ 9223372036854775807) : (numE n).Fine := .mk _ _ _ _ h1 h2 (by decide) (fun e he => by cases he)
theorem rowN_two {a c : Int} (a1 : -9223372036854775808 ≤ a) (a2 : a ≤ 9223372036854775807) (c1 : -9223372036854775808 ≤ c) (c2 : c ≤ 9223372036854775807) : rowN [numV a, numV c] := by
  intro v hv
  simp only [List.mem_cons, List.not_mem_nil, or_false] at hv
  rcases hv with rfl | rfl
  · exact ⟨a1, a2⟩
  · exact ⟨c1, c2⟩
theorem fits_u (a c : Int) : fitsB uCols [numV a, numV c] = true := by kernel_rfl
theorem lawSize_any (n : Int) (h1 : -9223372036854775808 ≤ n) (h2 : n ≤ 9223372036854775807) (w : World) :
    Calls Try.prog 15 #[.int .i64 n] w fun e w' => e = .returned (.int .u64 (n.natAbs : Nat)) ∧ w = w' := by
  by_cases h : n < 0
  · go_enter Try.func15, Try.ntmps15
    go_wp2
    go_ret
    refine ⟨congrArg (fun z => Ending.returned (.int .u64 z)) ?_, rfl⟩
    first | omega | (simp only [IntKind.wrap_u64]; omega)
  · go_enter Try.func15, Try.ntmps15
    go_wp2
    go_ret
    refine ⟨congrArg (fun z => Ending.returned (.int .u64 z)) ?_, rfl⟩
    first | omega | (simp only [IntKind.wrap_u64]; omega)
set_option maxRecDepth 100000 in
set_option maxHeartbeats 2000000 in
theorem exprSums_any (a c : Int) (a1 : -9223372036854775808 ≤ a) (a2 : a ≤ 9223372036854775807) (c1 : -9223372036854775808 ≤ c) (c2 : c ≤ 9223372036854775807) (W : World) :
    Calls Try.prog 3 #[.int .i64 a, .int .i64 c] W fun e W' => e = .returned (.bool true) ∧ Below W.heap.size W W' := by
  have hn := Lib.hid (rowN_two a1 a2 c1 c2)
  have hF : Hid (∀ op, op.length ≤ 1048576 → (opE op [colE chA, colE chC]).Fine) := Lib.hid fun op ho => opE_fine op _ (fun e he => by
    simp only [List.mem_cons, List.not_mem_nil, or_false] at he
    rcases he with rfl | rfl <;> exact colE_fine _ (by decide)) ho
  have hE := Lib.hid (ops_uCols opAdd a c (.inl rfl))
  have hE2 := Lib.hid (ops_uCols opSub a c (.inr (.inl rfl)))
  have hE3 := Lib.hid (ops_uCols opMul a c (.inr (.inr rfl)))
  go_enter Try.func3, Try.ntmps3
  go_wp2_with fail
  refine (nums_any W.heap.size 0 2 [a, c] 2 rfl (by omega) _ (by simp) ?_).mono ?_
  · intro k hk
    match k, hk with
    | 0, _ => simp
    | 1, _ => simp
  rintro e w1 ⟨v, rfl, hown, hb⟩
  obtain ⟨Ar, cr, rfl, _, hr, _⟩ := own_row (l := [a, c].map numV) hown
  have HB := Lib.hid (((Below.refl W.heap.size W).alloc (Nat.le_refl _) (.cells #[.int .i64 a, .int .i64 c] 2)).trans (hb.mono (by simp)))
  have HR := Lib.hid hr
  clear hb hown hr
  simp only [List.map_cons, List.map_nil, List.length_cons, List.length_nil, Nat.zero_add, Nat.reduceAdd] at HR ⊢
  go_wp2_with fail
  refine (keepU _).mono ?_
  rintro e w2 ⟨⟨A, cc, rfl, hc⟩, hb⟩
  have hfit := Lib.hid (fits_any A Ar cc cr uCols [numV a, numV c] (by decide) (by simp) w2 hc ((HR.out.below hb).more hb.size))
  have HR2 := Lib.hid ((HR.out.below hb).more hb.size)
  have HB2 := Lib.hid (HB.out.trans (hb.mono HB.out.size))
  rw [fits_u] at hfit
  clear hb hc HR HB
  go_wp2_with fail
  refine (hfit.out).mono ?_
  rintro e w3 ⟨rfl, hb⟩
  have HR := Lib.hid ((HR2.out.below hb).more hb.size)
  have HB := Lib.hid (HB2.out.trans (hb.mono HB2.out.size))
  clear hb HR2 HB2 hfit
  go_wp2_with fail
  refine (of_any of_add _).mono ?_
  rintro e p0 ⟨⟨E0, ce0, rfl, hk⟩, hb⟩
  replace HR := Lib.hid ((HR.out.below hb).more hb.size)
  replace HB := Lib.hid (HB.out.trans (hb.mono HB.out.size))
  have HK := Lib.hid hk
  clear hb hk
  go_wp2_with fail
  refine (keepU _).mono ?_
  rintro e q0 ⟨⟨U0, cu0, rfl, hc⟩, hb⟩
  replace HR := Lib.hid ((HR.out.below hb).more hb.size)
  replace HB := Lib.hid (HB.out.trans (hb.mono HB.out.size))
  replace HK := Lib.hid ((HK.out.low hb).more hb.size)
  have HU := Lib.hid hc
  have hev := Lib.hid (evalTop_any uCols [numV a, numV c] (by decide) (by simp) hn.out (opE opAdd [colE chA, colE chC]) (hF.out opAdd (by decide)) E0 U0 Ar ce0 cu0 cr q0 HK.out HU.out HR.out)
  rw [hE.out] at hev
  have hv0 : Hid (operateL opAdd (numV a) (numV c) = operateL opAdd (numV a) (numV c)) := Lib.hid rfl
  generalize hgen : operateL opAdd (numV a) (numV c) = v0 at hev
  have HV0 := Lib.hid hgen
  obtain ⟨⟨vk0, vn0, vs0⟩, ve0⟩ := v0
  simp only at hev
  clear hb hc HK HU hgen hv0
  go_wp2_with fail
  refine (hev.out).mono ?_
  rintro e r0 ⟨rfl, hb⟩
  have hal : Below r0.heap.size r0 (r0.alloc (.cells #[.int .i64 vk0, .int .i64 vn0, .string vs0] 29)) := (Below.refl _ _).alloc (Nat.le_refl _) _
  have hb2 := hb.trans (hal.mono hb.size)
  replace HR := Lib.hid ((HR.out.below hb2).more hb2.size)
  replace HB := Lib.hid (HB.out.trans (hb2.mono HB.out.size))
  have HC0 : Hid ((r0.alloc (.cells #[.int .i64 vk0, .int .i64 vn0, .string vs0] 29)).cell? ⟨r0.heap.size, 1, none⟩ = some (.int .i64 vn0)) := Lib.hid (by simp)
  have HS0 : Hid (r0.heap.size < (r0.alloc (.cells #[.int .i64 vk0, .int .i64 vn0, .string vs0] 29)).heap.size) := Lib.hid (by simp)
  clear hb hb2 hal hev
  go_wp2_with fail
  refine (of_any of_sub _).mono ?_
  rintro e p1 ⟨⟨E1, ce1, rfl, hk⟩, hb⟩
  replace HR := Lib.hid ((HR.out.below hb).more hb.size)
  replace HB := Lib.hid (HB.out.trans (hb.mono HB.out.size))
  have HK := Lib.hid hk
  replace HC0 := Lib.hid ((hb.cell (p := ⟨r0.heap.size, 1, none⟩) HS0.out).trans HC0.out)
  replace HS0 := Lib.hid (Nat.lt_of_lt_of_le HS0.out hb.size)
  clear hb hk
  go_wp2_with fail
  refine (keepU _).mono ?_
  rintro e q1 ⟨⟨U1, cu1, rfl, hc⟩, hb⟩
  replace HR := Lib.hid ((HR.out.below hb).more hb.size)
  replace HB := Lib.hid (HB.out.trans (hb.mono HB.out.size))
  replace HK := Lib.hid ((HK.out.low hb).more hb.size)
  have HU := Lib.hid hc
  replace HC0 := Lib.hid ((hb.cell (p := ⟨r0.heap.size, 1, none⟩) HS0.out).trans HC0.out)
  replace HS0 := Lib.hid (Nat.lt_of_lt_of_le HS0.out hb.size)
  have hev := Lib.hid (evalTop_any uCols [numV a, numV c] (by decide) (by simp) hn.out (opE opSub [colE chA, colE chC]) (hF.out opSub (by decide)) E1 U1 Ar ce1 cu1 cr q1 HK.out HU.out HR.out)
  rw [hE2.out] at hev
  have hv1 : Hid (operateL opSub (numV a) (numV c) = operateL opSub (numV a) (numV c)) := Lib.hid rfl
  generalize hgen : operateL opSub (numV a) (numV c) = v1 at hev
  have HV1 := Lib.hid hgen
  obtain ⟨⟨vk1, vn1, vs1⟩, ve1⟩ := v1
  simp only at hev
  clear hb hc HK HU hgen hv1
  go_wp2_with fail
  refine (hev.out).mono ?_
  rintro e r1 ⟨rfl, hb⟩
  have hal : Below r1.heap.size r1 (r1.alloc (.cells #[.int .i64 vk1, .int .i64 vn1, .string vs1] 29)) := (Below.refl _ _).alloc (Nat.le_refl _) _
  have hb2 := hb.trans (hal.mono hb.size)
  replace HR := Lib.hid ((HR.out.below hb2).more hb2.size)
  replace HB := Lib.hid (HB.out.trans (hb2.mono HB.out.size))
  replace HC0 := Lib.hid ((hb2.cell (p := ⟨r0.heap.size, 1, none⟩) HS0.out).trans HC0.out)
  replace HS0 := Lib.hid (Nat.lt_of_lt_of_le HS0.out hb2.size)
  have HC1 : Hid ((r1.alloc (.cells #[.int .i64 vk1, .int .i64 vn1, .string vs1] 29)).cell? ⟨r1.heap.size, 1, none⟩ = some (.int .i64 vn1)) := Lib.hid (by simp)
  have HS1 : Hid (r1.heap.size < (r1.alloc (.cells #[.int .i64 vk1, .int .i64 vn1, .string vs1] 29)).heap.size) := Lib.hid (by simp)
  clear hb hb2 hal hev
  go_wp2_with fail
  refine (of_any of_mul _).mono ?_
  rintro e p2 ⟨⟨E2, ce2, rfl, hk⟩, hb⟩
  replace HR := Lib.hid ((HR.out.below hb).more hb.size)
  replace HB := Lib.hid (HB.out.trans (hb.mono HB.out.size))
  have HK := Lib.hid hk
  replace HC0 := Lib.hid ((hb.cell (p := ⟨r0.heap.size, 1, none⟩) HS0.out).trans HC0.out)
  replace HS0 := Lib.hid (Nat.lt_of_lt_of_le HS0.out hb.size)
  replace HC1 := Lib.hid ((hb.cell (p := ⟨r1.heap.size, 1, none⟩) HS1.out).trans HC1.out)
  replace HS1 := Lib.hid (Nat.lt_of_lt_of_le HS1.out hb.size)
  clear hb hk
  go_wp2_with fail
  refine (keepU _).mono ?_
  rintro e q2 ⟨⟨U2, cu2, rfl, hc⟩, hb⟩
  replace HR := Lib.hid ((HR.out.below hb).more hb.size)
  replace HB := Lib.hid (HB.out.trans (hb.mono HB.out.size))
  replace HK := Lib.hid ((HK.out.low hb).more hb.size)
  have HU := Lib.hid hc
  replace HC0 := Lib.hid ((hb.cell (p := ⟨r0.heap.size, 1, none⟩) HS0.out).trans HC0.out)
  replace HS0 := Lib.hid (Nat.lt_of_lt_of_le HS0.out hb.size)
  replace HC1 := Lib.hid ((hb.cell (p := ⟨r1.heap.size, 1, none⟩) HS1.out).trans HC1.out)
  replace HS1 := Lib.hid (Nat.lt_of_lt_of_le HS1.out hb.size)
  have hev := Lib.hid (evalTop_any uCols [numV a, numV c] (by decide) (by simp) hn.out (opE opMul [colE chA, colE chC]) (hF.out opMul (by decide)) E2 U2 Ar ce2 cu2 cr q2 HK.out HU.out HR.out)
  rw [hE3.out] at hev
  have hv2 : Hid (operateL opMul (numV a) (numV c) = operateL opMul (numV a) (numV c)) := Lib.hid rfl
  generalize hgen : operateL opMul (numV a) (numV c) = v2 at hev
  have HV2 := Lib.hid hgen
  obtain ⟨⟨vk2, vn2, vs2⟩, ve2⟩ := v2
  simp only at hev
  clear hb hc HK HU hgen hv2
  go_wp2_with fail
  refine (hev.out).mono ?_
  rintro e r2 ⟨rfl, hb⟩
  have hal : Below r2.heap.size r2 (r2.alloc (.cells #[.int .i64 vk2, .int .i64 vn2, .string vs2] 29)) := (Below.refl _ _).alloc (Nat.le_refl _) _
  have hb2 := hb.trans (hal.mono hb.size)
  replace HR := Lib.hid ((HR.out.below hb2).more hb2.size)
  replace HB := Lib.hid (HB.out.trans (hb2.mono HB.out.size))
  replace HC0 := Lib.hid ((hb2.cell (p := ⟨r0.heap.size, 1, none⟩) HS0.out).trans HC0.out)
  replace HS0 := Lib.hid (Nat.lt_of_lt_of_le HS0.out hb2.size)
  replace HC1 := Lib.hid ((hb2.cell (p := ⟨r1.heap.size, 1, none⟩) HS1.out).trans HC1.out)
  replace HS1 := Lib.hid (Nat.lt_of_lt_of_le HS1.out hb2.size)
  have HC2 : Hid ((r2.alloc (.cells #[.int .i64 vk2, .int .i64 vn2, .string vs2] 29)).cell? ⟨r2.heap.size, 1, none⟩ = some (.int .i64 vn2)) := Lib.hid (by simp)
  have HS2 : Hid (r2.heap.size < (r2.alloc (.cells #[.int .i64 vk2, .int .i64 vn2, .string vs2] 29)).heap.size) := Lib.hid (by simp)
  clear hb hb2 hal hev
  generalize hwz : (r2.alloc (.cells #[.int .i64 vk2, .int .i64 vn2, .string vs2] 29)) = wz at *
  have HWZ := Lib.hid hwz
  clear hwz
  have C0 := HC0.out
  have C1 := HC1.out
  have C2 := HC2.out
  have hA := Lib.hid a1
  have hA2 := Lib.hid a2
  have hC := Lib.hid c1
  have hC2 := Lib.hid c2
  obtain ⟨fits, hfits⟩ : ∃ b : Bool, b = (decide (-9223372036854775808 ≤ a + c) && decide (a + c ≤ 9223372036854775807)) := ⟨_, rfl⟩
  obtain ⟨less, hless⟩ : ∃ b : Bool, b = (decide (-9223372036854775808 ≤ a - c) && decide (a - c ≤ 9223372036854775807)) := ⟨_, rfl⟩
  obtain ⟨small, hsmall⟩ : ∃ b : Bool, b = decide (a.natAbs * c.natAbs ≤ mostOf a c) := ⟨_, rfl⟩
  have HFI := Lib.hid hfits
  have HLE := Lib.hid hless
  have HSM := Lib.hid hsmall
  have hq1 : Hid (((ve0 == 0) = fits) ∧ (fits = true → vn0 = a + c)) := Lib.hid (by
    have e := HV0.out
    cases fits
    · rw [add_out a1 a2 c1 c2 (by intro h; rw [decide_eq_true h.1, decide_eq_true h.2] at hfits; cases hfits)] at e
      injection e with e1 e2
      subst e2
      exact ⟨rfl, fun h => by cases h⟩
    · have h := hfits.symm
      rw [Bool.and_eq_true, decide_eq_true_eq, decide_eq_true_eq] at h
      rw [add_in a1 a2 c1 c2 h.1 h.2] at e
      injection e with e1 e2
      subst e2
      exact ⟨rfl, fun _ => by injection e1 with _ e3 _; exact e3.symm⟩)
  have hq2 : Hid (((ve1 == 0) = less) ∧ (less = true → vn1 = a - c)) := Lib.hid (by
    have e := HV1.out
    cases less
    · rw [sub_out a1 a2 c1 c2 (by intro h; rw [decide_eq_true h.1, decide_eq_true h.2] at hless; cases hless)] at e
      injection e with e1 e2
      subst e2
      exact ⟨rfl, fun h => by cases h⟩
    · have h := hless.symm
      rw [Bool.and_eq_true, decide_eq_true_eq, decide_eq_true_eq] at h
      rw [sub_in a1 a2 c1 c2 h.1 h.2] at e
      injection e with e1 e2
      subst e2
      exact ⟨rfl, fun _ => by injection e1 with _ e3 _; exact e3.symm⟩)
  have hq3 : Hid (((ve2 == 0) = small) ∧ (small = true → vn2 = a * c ∧ -9223372036854775808 ≤ a * c ∧ a * c ≤ 9223372036854775807)) := Lib.hid (by
    have e := HV2.out
    cases small
    · rw [mul_out (by intro h; rw [decide_eq_true h] at hsmall; cases hsmall)] at e
      injection e with e1 e2
      subst e2
      exact ⟨rfl, fun h => by cases h⟩
    · have h := hsmall.symm
      rw [decide_eq_true_eq] at h
      obtain ⟨m1, m2, m3⟩ := mul_in h
      rw [m1] at e
      injection e with e1 e2
      subst e2
      exact ⟨rfl, fun _ => ⟨by injection e1 with _ e3 _; exact e3.symm, m2, m3⟩⟩)
  clear hfits hless hsmall HV0 HV1 HV2
  go_upto_region 7 with (fail)
  go_cut [12] (fun s12 wx => s12 = .int .i64 ((a + c) / 2) ∧ wx = wz)
  case first =>
    have hd := i64_and_and1 a c
    by_cases hp : a % 2 = 1 ∧ c % 2 = 1
    · rw [if_pos hp] at hd
      obtain ⟨hp1, hp2⟩ := hp
      have hx := Lib.hid (show a / 2 + c / 2 + 1 = (a + c) / 2 by omega)
      clear hp1 hp2
      go_wp2_with fail
      go_meet
      exact ⟨by rw [← hx.out], HWZ.out⟩
    · rw [if_neg hp] at hd
      have hx := Lib.hid (show a / 2 + c / 2 = (a + c) / 2 by omega)
      clear hp
      go_wp2_with fail
      go_meet
      exact ⟨by rw [← hx.out], HWZ.out⟩
  case rest =>
  obtain ⟨rfl, hwc⟩ := hcut
  obtain rfl : wz = wc := hwc.symm
  clear hwc
  go_upto_region 8 with (fail)
  go_cut [13] (fun s13 wx => s13 = .bool fits ∧ wx = wz)
  case first =>
    have hx := Lib.hid (show -4611686018427387904 ≤ (a + c) / 2 ↔ -9223372036854775808 ≤ a + c by omega)
    have hy := Lib.hid (show (a + c) / 2 < 4611686018427387904 ↔ a + c ≤ 9223372036854775807 by omega)
    by_cases h1 : -4611686018427387904 ≤ (a + c) / 2
    · have hf : Hid (fits = decide ((a + c) / 2 < 4611686018427387904)) := Lib.hid (by rw [HFI.out, decide_eq_true (hx.out.1 h1), Bool.true_and, decide_eq_decide]; exact hy.out.symm)
      go_wp2_with fail
      go_meet
      exact ⟨by rw [hf.out], rfl⟩
    · have hf : Hid (fits = false) := Lib.hid (by rw [HFI.out, decide_eq_false (fun h => h1 (hx.out.2 h)), Bool.false_and])
      go_wp2_with fail
      go_meet
      exact ⟨by rw [hf.out], rfl⟩
  case rest =>
  obtain ⟨rfl, hwc⟩ := hcut
  obtain rfl : wz = wc := hwc.symm
  clear hwc
  go_upto_region 9 with (fail)
  go_cut [14] (fun s14 wx => s14 = .int .i64 (a / 2 - c / 2) ∧ wx = wz)
  case first =>
    go_wp2_with fail
    go_meet
    exact ⟨rfl, rfl⟩
  case rest =>
  obtain ⟨rfl, hwc⟩ := hcut
  obtain rfl : wz = wc := hwc.symm
  clear hwc
  obtain ⟨pq, hpq⟩ : ∃ b : Bool, b = (decide (a % 2 = 0) && decide (c % 2 = 1)) := ⟨_, rfl⟩
  have HPQ := Lib.hid hpq
  clear hpq
  go_upto_region 10 with (fail)
  go_cut [75] (fun s75 wx => s75 = .bool pq ∧ wx = wz)
  case first =>
    have hb1 := i64_and1 a
    have hb2 := i64_and1 c
    rcases (show a % 2 = 0 ∨ a % 2 = 1 by omega) with h1 | h1
    · rw [h1] at hb1
      have hf : Hid (pq = (c % 2 == 1)) := Lib.hid (by
        rw [HPQ.out, h1]
        rcases (show c % 2 = 0 ∨ c % 2 = 1 by omega) with h2 | h2 <;> rw [h2] <;> rfl)
      have hz : Hid (bits .and .i64 c 1 = c % 2) := Lib.hid hb2
      clear h1 hb2
      go_wp2_with fail
      go_meet
      exact ⟨by rw [hf.out, ← hz.out], rfl⟩
    · rw [h1] at hb1
      have hf : Hid (pq = false) := Lib.hid (by rw [HPQ.out, h1]; rfl)
      clear h1 hb2
      go_wp2_with fail
      go_meet
      exact ⟨by rw [hf.out], rfl⟩
  case rest =>
  obtain ⟨rfl, hwc⟩ := hcut
  obtain rfl : wz = wc := hwc.symm
  clear hwc
  go_upto_if 75 with (fail)
  go_cut [14] (fun s14 wx => s14 = .int .i64 ((a - c) / 2) ∧ wx = wz)
  case first =>
    cases hpq : pq
    · rw [hpq] at HPQ
      have hx := Lib.hid (show a / 2 - c / 2 = (a - c) / 2 by
        have h := HPQ.out.symm
        rw [Bool.and_eq_false_iff, decide_eq_false_iff_not, decide_eq_false_iff_not] at h
        omega)
      go_wp2_with fail
      go_meet
      exact ⟨by rw [← hx.out], rfl⟩
    · rw [hpq] at HPQ
      have hx := Lib.hid (show a / 2 - c / 2 - 1 = (a - c) / 2 by
        have h := HPQ.out.symm
        rw [Bool.and_eq_true, decide_eq_true_eq, decide_eq_true_eq] at h
        omega)
      go_wp2_with fail
      go_meet
      exact ⟨by rw [← hx.out], rfl⟩
  case rest =>
  obtain ⟨rfl, hwc⟩ := hcut
  obtain rfl : wz = wc := hwc.symm
  clear hwc
  go_upto_region 12 with (fail)
  go_cut [15] (fun s15 wx => s15 = .bool less ∧ wx = wz)
  case first =>
    have hx := Lib.hid (show -4611686018427387904 ≤ (a - c) / 2 ↔ -9223372036854775808 ≤ a - c by omega)
    have hy := Lib.hid (show (a - c) / 2 < 4611686018427387904 ↔ a - c ≤ 9223372036854775807 by omega)
    by_cases h1 : -4611686018427387904 ≤ (a - c) / 2
    · have hf : Hid (less = decide ((a - c) / 2 < 4611686018427387904)) := Lib.hid (by rw [HLE.out, decide_eq_true (hx.out.1 h1), Bool.true_and, decide_eq_decide]; exact hy.out.symm)
      go_wp2_with fail
      go_meet
      exact ⟨by rw [hf.out], rfl⟩
    · have hf : Hid (less = false) := Lib.hid (by rw [HLE.out, decide_eq_false (fun h => h1 (hx.out.2 h)), Bool.false_and])
      go_wp2_with fail
      go_meet
      exact ⟨by rw [hf.out], rfl⟩
  case rest =>
  obtain ⟨rfl, hwc⟩ := hcut
  obtain rfl : wz = wc := hwc.symm
  clear hwc
  go_upto_region 13 with (fail)
  go_cut [13, 15, 115] (fun s13 s15 s115 wx => s13 = .bool fits ∧ s15 = .bool less ∧ s115 = .bool false ∧ wx = wz)
  case first =>
    cases hf : fits <;> cases hl : less
    all_goals
      rw [hf] at hq1 HFI
      rw [hl] at hq2 HLE
      have e1 := hq1.out.1
      have e2 := hq2.out.1
      first
        | (have e3 := hq1.out.2 rfl
           have b1 := HFI.out.symm
           rw [Bool.and_eq_true, decide_eq_true_eq, decide_eq_true_eq] at b1
           obtain ⟨b1, b2⟩ := b1
           subst e3)
        | skip
      first
        | (have e4 := hq2.out.2 rfl
           have b3 := HLE.out.symm
           rw [Bool.and_eq_true, decide_eq_true_eq, decide_eq_true_eq] at b3
           obtain ⟨b3, b4⟩ := b3
           subst e4)
        | skip
      go_wp2_with fail
      go_meet
      exact ⟨by first | rfl | rw [hf], by first | rfl | rw [hl], rfl, rfl⟩
  case rest =>
  obtain ⟨rfl, rfl, rfl, hwc⟩ := hcut
  obtain rfl : wz = wc := hwc.symm
  clear hwc
  clear hq1 hq2 HFI HLE
  obtain ⟨most, hmost⟩ : ∃ m : Nat, m = mostOf a c := ⟨_, rfl⟩
  have HMO := Lib.hid hmost
  clear hmost
  obtain ⟨sg, hsg⟩ : ∃ b : Bool, b = (decide (a < 0) != decide (c < 0)) := ⟨_, rfl⟩
  have HSG := Lib.hid hsg
  clear hsg
  go_upto_region 16 with (fail)
  go_cut [120] (fun s120 wx => s120 = .bool sg ∧ wx = wz)
  case first =>
    go_wp2_with fail
    go_meet
    exact ⟨by rw [HSG.out]; rfl, rfl⟩
  case rest =>
  obtain ⟨rfl, hwc⟩ := hcut
  obtain rfl : wz = wc := hwc.symm
  clear hwc
  go_upto_if 120 with (fail)
  go_cut [16] (fun s16 wx => s16 = .int .u64 (most : Int) ∧ wx = wz)
  case first =>
    cases hs : sg
    · have hm : Hid (most = 9223372036854775807) := Lib.hid (by rw [HMO.out]; unfold mostOf; rw [← HSG.out, hs]; rfl)
      go_wp2_with fail
      go_meet
      exact ⟨by rw [hm.out]; rfl, rfl⟩
    · have hm : Hid (most = 9223372036854775808) := Lib.hid (by rw [HMO.out]; unfold mostOf; rw [← HSG.out, hs]; rfl)
      go_wp2_with fail
      go_meet
      exact ⟨by rw [hm.out]; rfl, rfl⟩
  case rest =>
  obtain ⟨rfl, hwc⟩ := hcut
  obtain rfl : wz = wc := hwc.symm
  clear hwc
  have hmb : most ≤ 9223372036854775808 := by rw [HMO.out]; unfold mostOf; split <;> omega
  have HMB := Lib.hid hmb
  clear hmb
  have hsa := Lib.hid (lawSize_any a a1 a2)
  have hsc := Lib.hid (lawSize_any c c1 c2)
  go_upto_region 18 with (fail)
  go_cut [17] (fun s17 wx => s17 = .bool small ∧ wx = wz)
  case first =>
    by_cases ha : a = 0
    · subst ha
      have hf : Hid (small = true) := Lib.hid (by rw [HSM.out, decide_eq_true_eq]; simp)
      clear hsa hsc
      go_wp2_with fail
      go_meet
      exact ⟨by rw [hf.out], rfl⟩
    by_cases hc : c = 0
    · subst hc
      have ha' : (a == 0) = false := by simpa using ha
      have hf : Hid (small = true) := Lib.hid (by rw [HSM.out, decide_eq_true_eq]; simp)
      clear hsa hsc ha
      go_wp2_with fail
      go_meet
      exact ⟨by rw [hf.out], rfl⟩
    have ha' : (a == 0) = false := by simpa using ha
    have hc' : (c == 0) = false := by simpa using hc
    have hcn : 0 < c.natAbs := by omega
    have hf : Hid (small = decide (a.natAbs ≤ most / c.natAbs)) := Lib.hid (by
      rw [HSM.out, ← HMO.out, decide_eq_decide, Nat.le_div_iff_mul_le hcn])
    generalize a.natAbs = x at *
    generalize c.natAbs = y at *
    have hyz : (y : Int) ≠ 0 := by omega
    clear ha hc
    go_wp2_with fail
    refine (hsa.out _).mono ?_
    rintro e w' ⟨rfl, rfl⟩
    go_wp2_with fail
    refine (hsc.out _).mono ?_
    rintro e w' ⟨rfl, rfl⟩
    go_wp2_with fail
    go_meet
    have hdv : (most : Int) / (y : Int) = ((most / y : Nat) : Int) := (Int.natCast_ediv most y).symm
    have hle : most / y ≤ 9223372036854775808 := Nat.le_trans (Nat.div_le_self _ _) HMB.out
    exact ⟨by rw [hf.out, hdv, wrapN _ (by omega), show decide (x ≤ most / y) = decide ((x : Int) ≤ ((most / y : Nat) : Int)) by rw [decide_eq_decide]; omega], rfl⟩
  case rest =>
  obtain ⟨rfl, hwc⟩ := hcut
  obtain rfl : wz = wc := hwc.symm
  clear hwc
  have hkn := Lib.hid (known8_any wz)
  cases hs : small
  · rw [hs] at hq3
    have e1 := hq3.out.1
    go_wp2_with fail
    refine (hkn.out).mono ?_
    rintro e w' ⟨rfl, hb⟩
    have HBZ := Lib.hid (HB.out.trans (hb.mono HB.out.size))
    clear hb
    go_wp2_with fail
    go_ret
    exact ⟨rfl, HBZ.out⟩
  · rw [hs] at hq3
    have e1 := hq3.out.1
    obtain ⟨e3, b1, b2⟩ := hq3.out.2 rfl
    subst e3
    go_wp2_with fail
    refine (hkn.out).mono ?_
    rintro e w' ⟨rfl, hb⟩
    have HBZ := Lib.hid (HB.out.trans (hb.mono HB.out.size))
    clear hb
    go_wp2_with fail
    go_ret
    exact ⟨rfl, HBZ.out⟩
end Go.Proofs.Ytldleckgkgeclaa
