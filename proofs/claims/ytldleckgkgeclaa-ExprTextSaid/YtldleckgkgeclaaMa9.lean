/-
  The reference's eval: sums, orders.
-/
import Derived.Test.YtldleckgkgeclaaMa8
import Derived.Deep.DeepCutAuto
import Derived.BigQuiet
set_option linter.unusedVariables false
set_option linter.unusedSimpArgs false
namespace Go.Proofs.Ytldleckgkgeclaa
open Go.RowKit
set_option maxRecDepth 100000 in
set_option maxHeartbeats 2000000 in
theorem refEval_Add (cols : List C) (r : List V) (k : Int) (s : ByteArray) (n : Int) (x0 x1 : E) (h1 : k ≠ 1) (h2 : k ≠ 2) (h3 : k ≠ 3) (q0 q1 : V × Int)
    (H0 : ∀ (A' Ac Ar : Option Addr) (c' cc cr : Nat) (w' : World), EKids w' w'.heap.size A' x0.kids → CRow w' w'.heap.size Ac cols → VRow w' w'.heap.size Ar r → Calls Try.prog 53 #[x0.val A' c', .slice Ac cols.length cc, .slice Ar r.length cr] w' fun res w'' => res = .returned (.tuple #[.agg #[.int .i64 q0.1.k, .int .i64 q0.1.n, .string q0.1.s], .int .i64 q0.2]) ∧ Below w'.heap.size w' w'')
    (H1 : ∀ (A' Ac Ar : Option Addr) (c' cc cr : Nat) (w' : World), EKids w' w'.heap.size A' x1.kids → CRow w' w'.heap.size Ac cols → VRow w' w'.heap.size Ar r → Calls Try.prog 53 #[x1.val A' c', .slice Ac cols.length cc, .slice Ar r.length cr] w' fun res w'' => res = .returned (.tuple #[.agg #[.int .i64 q1.1.k, .int .i64 q1.1.n, .string q1.1.s], .int .i64 q1.2]) ∧ Below w'.heap.size w' w'')
    (Q : V × Int) (rk : Int × Bool) (hz0 : Q = if rk.2 then (numV rk.1, 0) else (zeroV, 26)) (hsum0 : ∀ w, Calls Try.prog 97 #[.string s, .int .i64 q0.1.n, .int .i64 q1.1.n] w (SumsEnd rk w)) (hae : q0.2 = 0) (hbe : q1.2 = 0) (hop : s.toList = [97, 100, 100])
    (A Ac Ar : Option Addr) (c cc cr : Nat) (w : World) (hA : EKids w w.heap.size A [x0, x1]) (hAc : CRow w w.heap.size Ac cols) (hAr : VRow w w.heap.size Ar r) :
    Calls Try.prog 53 #[(E.mk k s n [x0, x1]).val A c, .slice Ac cols.length cc, .slice Ar r.length cr] w fun res w' => res = .returned (.tuple #[.agg #[.int .i64 Q.1.k, .int .i64 Q.1.n, .string Q.1.s], .int .i64 Q.2]) ∧ Below w.heap.size w w' := by
  have hsi : s.toList ≠ opIf := by rw [hop]; decide
  simp only [E.val, E.k, E.s, E.n, E.kids, List.length_cons, List.length_nil, Nat.zero_add, Nat.reduceAdd] at hA ⊢
  obtain ⟨w1, ew1⟩ : ∃ w1, w1 = (w.alloc (.cells #[.int .i64 k, .string s, .int .i64 n, .slice A 2 c] 35)).alloc (.cells #[.int .i64 0, .int .i64 0, .string ⟨#[]⟩] 29) := ⟨_, rfl⟩
  have hb1 : Below w.heap.size w w1 := by rw [ew1]; exact ((Below.refl _ _).alloc (Nat.le_refl _) _).alloc (by simp) _
  have HB1 := Lib.hid hb1
  have hws : w1.heap.size = w.heap.size + 2 := by rw [ew1]; simp
  have hB : Hid (w1.heap[w.heap.size + 1]? = some (.cells #[.int .i64 0, .int .i64 0, .string ⟨#[]⟩] 29 (0, 0))) := Lib.hid (by
    rw [ew1]
    have := heap_alloc_new (w.alloc (.cells #[.int .i64 k, .string s, .int .i64 n, .slice A 2 c] 35)) (.cells #[.int .i64 0, .int .i64 0, .string ⟨#[]⟩] 29)
    simpa using this)
  have HE : Hid (w1.cell? ⟨w.heap.size, 0, none⟩ = some (.int .i64 k) ∧ w1.cell? ⟨w.heap.size, 1, none⟩ = some (.string s) ∧ w1.cell? ⟨w.heap.size, 2, none⟩ = some (.int .i64 n) ∧ w1.cell? ⟨w.heap.size, 3, none⟩ = some (.slice A 2 c)) := Lib.hid (by rw [ew1]; simp)
  have HW1 := Lib.hid ew1
  have HA := Lib.hid ((hA.low hb1).more hb1.size)
  have HC := Lib.hid ((hAc.below hb1).more hb1.size)
  have HR := Lib.hid ((hAr.below hb1).more hb1.size)
  have hz := Lib.hid hz0
  have hsum := Lib.hid hsum0
  have h1' : (k == 1) = false := by simpa using h1
  have h2' : (k == 2) = false := by simpa using h2
  have h3' : (k == 3) = false := by simpa using h3
  obtain ⟨mc, emc⟩ : ∃ m, m = cols.length := ⟨_, rfl⟩
  obtain ⟨mr, emr⟩ : ∃ m, m = r.length := ⟨_, rfl⟩
  have HMC := Lib.hid emc
  have HMR := Lib.hid emr
  rw [← emc, ← emr]
  obtain ⟨b, o, A0, e0, rfl, hlt, a0, a1, a2, a3, hK0⟩ := HA.out.get_ w1 (Below.refl _ _) 0 x0 rfl
  have hx0 : (0 : Int) < 2 := by omega
  have hx1 : (1 : Int) < 2 := by omega
  have H0c := Lib.hid (H0 A0 Ac Ar e0 cc cr w1 hK0 HC.out HR.out)
  obtain ⟨xk, xs, xn, xl⟩ := x0
  simp only [E.val, E.k, E.s, E.n, E.kids, Nat.zero_mul, Nat.add_zero] at a0 a1 a2 a3 H0c
  rw [← HMC.out, ← HMR.out] at H0c
  obtain ⟨⟨ak, an, az⟩, ae⟩ := q0
  generalize xl.length = xm at *
  clear hz0 hsum0 hA hAc hAr ew1 h1 h2 h3 H0 hK0 emc emr hb1
  simp only at hz hae hsum
  go_enter Try.func53, Try.ntmps53
  go_upto_region 1 with (fail)
  rw [← HW1.out]
  obtain ⟨t0, t1, t2, t3⟩ := HE.out
  go_wp2_with fail
  refine (H0c.out).mono ?_
  rintro e w4 ⟨rfl, hb4⟩
  clear t0 t1 t2 t3
  obtain ⟨HB5, HBW, hs5⟩ := boxed HB1 hB hb4 hws ak an az
  have HS4 : Hid (w4.cell? ⟨w.heap.size, 1, none⟩ = some (.string s) ∧ w4.cell? ⟨w.heap.size, 3, none⟩ = some (.slice (some ⟨b, o, none⟩) 2 c)) := Lib.hid ⟨(hb4.cell (p := ⟨w.heap.size, 1, none⟩) (show w.heap.size < _ by omega)).trans HE.out.2.1, (hb4.cell (p := ⟨w.heap.size, 3, none⟩) (show w.heap.size < _ by omega)).trans HE.out.2.2.2⟩
  have hy : (ae != 0) = false := by rw [hae]; rfl
  have hs' : (s.toList == [105, 102]) = false := by simpa [opIf] using hsi
  obtain ⟨d1, d3⟩ := HS4.out
  have d5 : (w4.alloc (.cells #[.int .i64 ak, .int .i64 an, .string az] 29)).cell? ⟨w.heap.size, 1, none⟩ = some (.string s) := (((Below.refl w4.heap.size w4).alloc (Nat.le_refl _) _).cell (p := ⟨w.heap.size, 1, none⟩) (show w.heap.size < _ by omega)).trans d1
  go_upto_region 17 with (fail)
  clear d5
  obtain ⟨w6, ew6⟩ : ∃ w6, w6 = (w4.alloc (.cells #[.int .i64 ak, .int .i64 an, .string az] 29)).alloc (.cells #[.int .i64 0, .int .i64 0, .string ⟨#[]⟩] 29) := ⟨_, rfl⟩
  rw [← ew6]
  have hb46 : Below w4.heap.size w4 w6 := by rw [ew6]; exact ((Below.refl _ _).alloc (Nat.le_refl _) _).alloc (by simp) _
  have hb6 : Below w1.heap.size w1 w6 := hb4.trans (hb46.mono hb4.size)
  have hs6 : w6.heap.size = w4.heap.size + 2 := by rw [ew6]; simp
  have HPA : Hid (w6.heap[w4.heap.size]? = some (.cells #[.int .i64 ak, .int .i64 an, .string az] 29 (0, 0))) := Lib.hid (by rw [ew6, Below.heap_alloc _ _ _ (by simp)]; exact heap_alloc_new w4 _)
  have HPB : Hid (w6.heap[w4.heap.size + 1]? = some (.cells #[.int .i64 0, .int .i64 0, .string ⟨#[]⟩] 29 (0, 0))) := Lib.hid (by
    rw [ew6]
    have := heap_alloc_new (w4.alloc (.cells #[.int .i64 ak, .int .i64 an, .string az] 29)) (.cells #[.int .i64 0, .int .i64 0, .string ⟨#[]⟩] 29)
    simpa using this)
  have HR6 : Hid (w6.heap[w.heap.size + 1]? = some (.cells #[.int .i64 0, .int .i64 0, .string ⟨#[]⟩] 29 (0, 0))) := Lib.hid (keep_ hb6 hB.out (by omega))
  have HBW6 := Lib.hid (HB1.out.trans (hb6.mono (by omega)))
  have e1 : w6.cell? ⟨w.heap.size, 1, none⟩ = some (.string s) := (hb46.cell (p := ⟨w.heap.size, 1, none⟩) (show w.heap.size < _ by omega)).trans d1
  have e3 : w6.cell? ⟨w.heap.size, 3, none⟩ = some (.slice (some ⟨b, o, none⟩) 2 c) := (hb46.cell (p := ⟨w.heap.size, 3, none⟩) (show w.heap.size < _ by omega)).trans d3
  obtain ⟨b', o', A1, e1', hb', _, y0, y1, y2, y3, hK1⟩ := HA.out.get_ _ hb6 1 x1 rfl
  injection hb' with hb'
  injection hb' with hbb hoo
  subst hbb hoo
  have H1c := Lib.hid (H1 A1 Ac Ar e1' cc cr w6 hK1 ((HC.out.below hb6).more hb6.size) ((HR.out.below hb6).more hb6.size))
  obtain ⟨yk, ys, yn, yl⟩ := x1
  simp only [E.val, E.k, E.s, E.n, E.kids, Nat.one_mul] at y0 y1 y2 y3 H1c
  rw [← HMC.out, ← HMR.out] at H1c
  generalize yl.length = ym at *
  obtain ⟨⟨bk, bn, bs⟩, be⟩ := q1
  have hs4 := hb4.size
  clear ew6 hb4 hb46 hb6 H0c d1 d3 a0 a1 a2 a3 hK1 H1 HS4 HB5 HBW
  go_wp2_with fail
  refine (H1c.out).mono ?_
  rintro e w7 ⟨rfl, hb7⟩
  have hs7 := hb7.size
  have HPB7 : Hid (w7.heap[w4.heap.size + 1]? = some (.cells #[.int .i64 0, .int .i64 0, .string ⟨#[]⟩] 29 (0, 0))) := Lib.hid (keep_ hb7 HPB.out (by omega))
  obtain ⟨⟨p0, p1, p2⟩, p3, p4, p5⟩ := cell3 HPB7.out
  clear y0 y1 y2 y3 H1c
  go_upto_region 19 with (fail)
  obtain ⟨w8, ew8⟩ : ∃ w8, w8 = put3 w7 (w4.heap.size + 1) (.int .i64 bk) (.int .i64 bn) (.string bs) := ⟨_, rfl⟩
  have hs8 : w8.heap.size = w7.heap.size := by rw [ew8]; simp [put3, World.setCell]
  have hb78 : ∀ p, p ≠ w4.heap.size + 1 → w8.heap[p]? = w7.heap[p]? := fun p hp => by
    rw [ew8]; unfold put3
    rw [Below.heap_setCell _ _ _ _ hp, Below.heap_setCell _ _ _ _ hp, Below.heap_setCell _ _ _ _ hp]
  have HPB8 : Hid (w8.heap[w4.heap.size + 1]? = some (.cells #[.int .i64 bk, .int .i64 bn, .string bs] 29 (0, 0))) := Lib.hid (by rw [ew8]; exact put3_block HPB7.out)
  have HPA8 : Hid (w8.heap[w4.heap.size]? = some (.cells #[.int .i64 ak, .int .i64 an, .string az] 29 (0, 0))) := Lib.hid ((hb78 _ (by omega)).trans (keep_ hb7 HPA.out (by omega)))
  have HR8 : Hid (w8.heap[w.heap.size + 1]? = some (.cells #[.int .i64 0, .int .i64 0, .string ⟨#[]⟩] 29 (0, 0))) := Lib.hid ((hb78 _ (by omega)).trans (keep_ hb7 HR6.out (by omega)))
  have HBW8 : Hid (Below w.heap.size w w8) := Lib.hid (by rw [ew8]; exact put3_below (HBW6.out.trans (hb7.mono (by omega))) (by omega))
  have e8 : w8.cell? ⟨w.heap.size, 1, none⟩ = some (.string s) := (World.cell?_of_block (hb78 _ (by show w.heap.size ≠ _; omega))).trans ((hb7.cell (p := ⟨w.heap.size, 1, none⟩) (show w.heap.size < _ by omega)).trans e1)
  unfold put3 at ew8
  rw [← ew8]
  clear ew8 hb78 hb7 e1 e3 p0 p1 p2 p3 p4 p5 HPB7 HPA HPB HR6 HBW6
  have hy2 : (be != 0) = false := by rw [hbe]; rfl
  obtain ⟨⟨p0, p1, p2⟩, p3, p4, p5⟩ := cell3 HPA8.out
  obtain ⟨⟨z0, z1, z2⟩, z3, z4, z5⟩ := cell3 HPB8.out
  obtain ⟨⟨k0, k1, k2⟩, f0, f1, f2⟩ := cell3 HR8.out
  clear hsi
  go_wp2_with fail
  refine (hsum.out _).mono ?_
  rintro e w9 ⟨⟨x, rfl, hx⟩, rfl⟩
  have HX := Lib.hid hx
  clear hx
  cases hq : rk.2
  · have hz2 : Hid (Q = (zeroV, 26)) := Lib.hid (by rw [hz.out, hq]; rfl)
    go_wp2_with fail
    refine bodyPost_ret (results_two rfl rfl rfl (put3_block HR8.out)) rfl ?_
    exact ⟨by rw [hz2.out]; rfl, put3_below HBW8.out (Nat.le_succ _)⟩
  · have hz2 : Hid (Q = (numV x, 0)) := Lib.hid (by rw [hz.out, if_pos hq, HX.out hq])
    go_wp2_with fail
    refine (ref_num x _).mono ?_
    rintro e wa ⟨rfl, hwa⟩
    have hba : Below w8.heap.size w8 wa := by rw [← hwa]; exact (Below.refl _ _).alloc (Nat.le_refl _) _
    clear hwa
    have hsa := hba.size
    have HRa := Lib.hid (keep_ hba HR8.out (by omega))
    have HBWa := Lib.hid (HBW8.out.trans (hba.mono (by omega)))
    clear hba
    obtain ⟨⟨k0, k1, k2⟩, f0, f1, f2⟩ := cell3 HRa.out
    go_wp2_with fail
    refine bodyPost_ret (results_two rfl rfl rfl (put3_block HRa.out)) rfl ?_
    exact ⟨by rw [hz2.out]; rfl, put3_below HBWa.out (Nat.le_succ _)⟩
set_option maxRecDepth 100000 in
set_option maxHeartbeats 2000000 in
theorem refEval_Sub (cols : List C) (r : List V) (k : Int) (s : ByteArray) (n : Int) (x0 x1 : E) (h1 : k ≠ 1) (h2 : k ≠ 2) (h3 : k ≠ 3) (q0 q1 : V × Int)
    (H0 : ∀ (A' Ac Ar : Option Addr) (c' cc cr : Nat) (w' : World), EKids w' w'.heap.size A' x0.kids → CRow w' w'.heap.size Ac cols → VRow w' w'.heap.size Ar r → Calls Try.prog 53 #[x0.val A' c', .slice Ac cols.length cc, .slice Ar r.length cr] w' fun res w'' => res = .returned (.tuple #[.agg #[.int .i64 q0.1.k, .int .i64 q0.1.n, .string q0.1.s], .int .i64 q0.2]) ∧ Below w'.heap.size w' w'')
    (H1 : ∀ (A' Ac Ar : Option Addr) (c' cc cr : Nat) (w' : World), EKids w' w'.heap.size A' x1.kids → CRow w' w'.heap.size Ac cols → VRow w' w'.heap.size Ar r → Calls Try.prog 53 #[x1.val A' c', .slice Ac cols.length cc, .slice Ar r.length cr] w' fun res w'' => res = .returned (.tuple #[.agg #[.int .i64 q1.1.k, .int .i64 q1.1.n, .string q1.1.s], .int .i64 q1.2]) ∧ Below w'.heap.size w' w'')
    (Q : V × Int) (rk : Int × Bool) (hz0 : Q = if rk.2 then (numV rk.1, 0) else (zeroV, 26)) (hsum0 : ∀ w, Calls Try.prog 97 #[.string s, .int .i64 q0.1.n, .int .i64 q1.1.n] w (SumsEnd rk w)) (hae : q0.2 = 0) (hbe : q1.2 = 0) (hop : s.toList = [115, 117, 98])
    (A Ac Ar : Option Addr) (c cc cr : Nat) (w : World) (hA : EKids w w.heap.size A [x0, x1]) (hAc : CRow w w.heap.size Ac cols) (hAr : VRow w w.heap.size Ar r) :
    Calls Try.prog 53 #[(E.mk k s n [x0, x1]).val A c, .slice Ac cols.length cc, .slice Ar r.length cr] w fun res w' => res = .returned (.tuple #[.agg #[.int .i64 Q.1.k, .int .i64 Q.1.n, .string Q.1.s], .int .i64 Q.2]) ∧ Below w.heap.size w w' := by
  have hsi : s.toList ≠ opIf := by rw [hop]; decide
  simp only [E.val, E.k, E.s, E.n, E.kids, List.length_cons, List.length_nil, Nat.zero_add, Nat.reduceAdd] at hA ⊢
  obtain ⟨w1, ew1⟩ : ∃ w1, w1 = (w.alloc (.cells #[.int .i64 k, .string s, .int .i64 n, .slice A 2 c] 35)).alloc (.cells #[.int .i64 0, .int .i64 0, .string ⟨#[]⟩] 29) := ⟨_, rfl⟩
  have hb1 : Below w.heap.size w w1 := by rw [ew1]; exact ((Below.refl _ _).alloc (Nat.le_refl _) _).alloc (by simp) _
  have HB1 := Lib.hid hb1
  have hws : w1.heap.size = w.heap.size + 2 := by rw [ew1]; simp
  have hB : Hid (w1.heap[w.heap.size + 1]? = some (.cells #[.int .i64 0, .int .i64 0, .string ⟨#[]⟩] 29 (0, 0))) := Lib.hid (by
    rw [ew1]
    have := heap_alloc_new (w.alloc (.cells #[.int .i64 k, .string s, .int .i64 n, .slice A 2 c] 35)) (.cells #[.int .i64 0, .int .i64 0, .string ⟨#[]⟩] 29)
    simpa using this)
  have HE : Hid (w1.cell? ⟨w.heap.size, 0, none⟩ = some (.int .i64 k) ∧ w1.cell? ⟨w.heap.size, 1, none⟩ = some (.string s) ∧ w1.cell? ⟨w.heap.size, 2, none⟩ = some (.int .i64 n) ∧ w1.cell? ⟨w.heap.size, 3, none⟩ = some (.slice A 2 c)) := Lib.hid (by rw [ew1]; simp)
  have HW1 := Lib.hid ew1
  have HA := Lib.hid ((hA.low hb1).more hb1.size)
  have HC := Lib.hid ((hAc.below hb1).more hb1.size)
  have HR := Lib.hid ((hAr.below hb1).more hb1.size)
  have hz := Lib.hid hz0
  have hsum := Lib.hid hsum0
  have h1' : (k == 1) = false := by simpa using h1
  have h2' : (k == 2) = false := by simpa using h2
  have h3' : (k == 3) = false := by simpa using h3
  obtain ⟨mc, emc⟩ : ∃ m, m = cols.length := ⟨_, rfl⟩
  obtain ⟨mr, emr⟩ : ∃ m, m = r.length := ⟨_, rfl⟩
  have HMC := Lib.hid emc
  have HMR := Lib.hid emr
  rw [← emc, ← emr]
  obtain ⟨b, o, A0, e0, rfl, hlt, a0, a1, a2, a3, hK0⟩ := HA.out.get_ w1 (Below.refl _ _) 0 x0 rfl
  have hx0 : (0 : Int) < 2 := by omega
  have hx1 : (1 : Int) < 2 := by omega
  have H0c := Lib.hid (H0 A0 Ac Ar e0 cc cr w1 hK0 HC.out HR.out)
  obtain ⟨xk, xs, xn, xl⟩ := x0
  simp only [E.val, E.k, E.s, E.n, E.kids, Nat.zero_mul, Nat.add_zero] at a0 a1 a2 a3 H0c
  rw [← HMC.out, ← HMR.out] at H0c
  obtain ⟨⟨ak, an, az⟩, ae⟩ := q0
  generalize xl.length = xm at *
  clear hz0 hsum0 hA hAc hAr ew1 h1 h2 h3 H0 hK0 emc emr hb1
  simp only at hz hae hsum
  go_enter Try.func53, Try.ntmps53
  go_upto_region 1 with (fail)
  rw [← HW1.out]
  obtain ⟨t0, t1, t2, t3⟩ := HE.out
  go_wp2_with fail
  refine (H0c.out).mono ?_
  rintro e w4 ⟨rfl, hb4⟩
  clear t0 t1 t2 t3
  obtain ⟨HB5, HBW, hs5⟩ := boxed HB1 hB hb4 hws ak an az
  have HS4 : Hid (w4.cell? ⟨w.heap.size, 1, none⟩ = some (.string s) ∧ w4.cell? ⟨w.heap.size, 3, none⟩ = some (.slice (some ⟨b, o, none⟩) 2 c)) := Lib.hid ⟨(hb4.cell (p := ⟨w.heap.size, 1, none⟩) (show w.heap.size < _ by omega)).trans HE.out.2.1, (hb4.cell (p := ⟨w.heap.size, 3, none⟩) (show w.heap.size < _ by omega)).trans HE.out.2.2.2⟩
  have hy : (ae != 0) = false := by rw [hae]; rfl
  have hs' : (s.toList == [105, 102]) = false := by simpa [opIf] using hsi
  obtain ⟨d1, d3⟩ := HS4.out
  have d5 : (w4.alloc (.cells #[.int .i64 ak, .int .i64 an, .string az] 29)).cell? ⟨w.heap.size, 1, none⟩ = some (.string s) := (((Below.refl w4.heap.size w4).alloc (Nat.le_refl _) _).cell (p := ⟨w.heap.size, 1, none⟩) (show w.heap.size < _ by omega)).trans d1
  go_upto_region 17 with (fail)
  clear d5
  obtain ⟨w6, ew6⟩ : ∃ w6, w6 = (w4.alloc (.cells #[.int .i64 ak, .int .i64 an, .string az] 29)).alloc (.cells #[.int .i64 0, .int .i64 0, .string ⟨#[]⟩] 29) := ⟨_, rfl⟩
  rw [← ew6]
  have hb46 : Below w4.heap.size w4 w6 := by rw [ew6]; exact ((Below.refl _ _).alloc (Nat.le_refl _) _).alloc (by simp) _
  have hb6 : Below w1.heap.size w1 w6 := hb4.trans (hb46.mono hb4.size)
  have hs6 : w6.heap.size = w4.heap.size + 2 := by rw [ew6]; simp
  have HPA : Hid (w6.heap[w4.heap.size]? = some (.cells #[.int .i64 ak, .int .i64 an, .string az] 29 (0, 0))) := Lib.hid (by rw [ew6, Below.heap_alloc _ _ _ (by simp)]; exact heap_alloc_new w4 _)
  have HPB : Hid (w6.heap[w4.heap.size + 1]? = some (.cells #[.int .i64 0, .int .i64 0, .string ⟨#[]⟩] 29 (0, 0))) := Lib.hid (by
    rw [ew6]
    have := heap_alloc_new (w4.alloc (.cells #[.int .i64 ak, .int .i64 an, .string az] 29)) (.cells #[.int .i64 0, .int .i64 0, .string ⟨#[]⟩] 29)
    simpa using this)
  have HR6 : Hid (w6.heap[w.heap.size + 1]? = some (.cells #[.int .i64 0, .int .i64 0, .string ⟨#[]⟩] 29 (0, 0))) := Lib.hid (keep_ hb6 hB.out (by omega))
  have HBW6 := Lib.hid (HB1.out.trans (hb6.mono (by omega)))
  have e1 : w6.cell? ⟨w.heap.size, 1, none⟩ = some (.string s) := (hb46.cell (p := ⟨w.heap.size, 1, none⟩) (show w.heap.size < _ by omega)).trans d1
  have e3 : w6.cell? ⟨w.heap.size, 3, none⟩ = some (.slice (some ⟨b, o, none⟩) 2 c) := (hb46.cell (p := ⟨w.heap.size, 3, none⟩) (show w.heap.size < _ by omega)).trans d3
  obtain ⟨b', o', A1, e1', hb', _, y0, y1, y2, y3, hK1⟩ := HA.out.get_ _ hb6 1 x1 rfl
  injection hb' with hb'
  injection hb' with hbb hoo
  subst hbb hoo
  have H1c := Lib.hid (H1 A1 Ac Ar e1' cc cr w6 hK1 ((HC.out.below hb6).more hb6.size) ((HR.out.below hb6).more hb6.size))
  obtain ⟨yk, ys, yn, yl⟩ := x1
  simp only [E.val, E.k, E.s, E.n, E.kids, Nat.one_mul] at y0 y1 y2 y3 H1c
  rw [← HMC.out, ← HMR.out] at H1c
  generalize yl.length = ym at *
  obtain ⟨⟨bk, bn, bs⟩, be⟩ := q1
  have hs4 := hb4.size
  clear ew6 hb4 hb46 hb6 H0c d1 d3 a0 a1 a2 a3 hK1 H1 HS4 HB5 HBW
  go_wp2_with fail
  refine (H1c.out).mono ?_
  rintro e w7 ⟨rfl, hb7⟩
  have hs7 := hb7.size
  have HPB7 : Hid (w7.heap[w4.heap.size + 1]? = some (.cells #[.int .i64 0, .int .i64 0, .string ⟨#[]⟩] 29 (0, 0))) := Lib.hid (keep_ hb7 HPB.out (by omega))
  obtain ⟨⟨p0, p1, p2⟩, p3, p4, p5⟩ := cell3 HPB7.out
  clear y0 y1 y2 y3 H1c
  go_upto_region 19 with (fail)
  obtain ⟨w8, ew8⟩ : ∃ w8, w8 = put3 w7 (w4.heap.size + 1) (.int .i64 bk) (.int .i64 bn) (.string bs) := ⟨_, rfl⟩
  have hs8 : w8.heap.size = w7.heap.size := by rw [ew8]; simp [put3, World.setCell]
  have hb78 : ∀ p, p ≠ w4.heap.size + 1 → w8.heap[p]? = w7.heap[p]? := fun p hp => by
    rw [ew8]; unfold put3
    rw [Below.heap_setCell _ _ _ _ hp, Below.heap_setCell _ _ _ _ hp, Below.heap_setCell _ _ _ _ hp]
  have HPB8 : Hid (w8.heap[w4.heap.size + 1]? = some (.cells #[.int .i64 bk, .int .i64 bn, .string bs] 29 (0, 0))) := Lib.hid (by rw [ew8]; exact put3_block HPB7.out)
  have HPA8 : Hid (w8.heap[w4.heap.size]? = some (.cells #[.int .i64 ak, .int .i64 an, .string az] 29 (0, 0))) := Lib.hid ((hb78 _ (by omega)).trans (keep_ hb7 HPA.out (by omega)))
  have HR8 : Hid (w8.heap[w.heap.size + 1]? = some (.cells #[.int .i64 0, .int .i64 0, .string ⟨#[]⟩] 29 (0, 0))) := Lib.hid ((hb78 _ (by omega)).trans (keep_ hb7 HR6.out (by omega)))
  have HBW8 : Hid (Below w.heap.size w w8) := Lib.hid (by rw [ew8]; exact put3_below (HBW6.out.trans (hb7.mono (by omega))) (by omega))
  have e8 : w8.cell? ⟨w.heap.size, 1, none⟩ = some (.string s) := (World.cell?_of_block (hb78 _ (by show w.heap.size ≠ _; omega))).trans ((hb7.cell (p := ⟨w.heap.size, 1, none⟩) (show w.heap.size < _ by omega)).trans e1)
  unfold put3 at ew8
  rw [← ew8]
  clear ew8 hb78 hb7 e1 e3 p0 p1 p2 p3 p4 p5 HPB7 HPA HPB HR6 HBW6
  have hy2 : (be != 0) = false := by rw [hbe]; rfl
  obtain ⟨⟨p0, p1, p2⟩, p3, p4, p5⟩ := cell3 HPA8.out
  obtain ⟨⟨z0, z1, z2⟩, z3, z4, z5⟩ := cell3 HPB8.out
  obtain ⟨⟨k0, k1, k2⟩, f0, f1, f2⟩ := cell3 HR8.out
  clear hsi
  go_wp2_with fail
  refine (hsum.out _).mono ?_
  rintro e w9 ⟨⟨x, rfl, hx⟩, rfl⟩
  have HX := Lib.hid hx
  clear hx
  cases hq : rk.2
  · have hz2 : Hid (Q = (zeroV, 26)) := Lib.hid (by rw [hz.out, hq]; rfl)
    go_wp2_with fail
    refine bodyPost_ret (results_two rfl rfl rfl (put3_block HR8.out)) rfl ?_
    exact ⟨by rw [hz2.out]; rfl, put3_below HBW8.out (Nat.le_succ _)⟩
  · have hz2 : Hid (Q = (numV x, 0)) := Lib.hid (by rw [hz.out, if_pos hq, HX.out hq])
    go_wp2_with fail
    refine (ref_num x _).mono ?_
    rintro e wa ⟨rfl, hwa⟩
    have hba : Below w8.heap.size w8 wa := by rw [← hwa]; exact (Below.refl _ _).alloc (Nat.le_refl _) _
    clear hwa
    have hsa := hba.size
    have HRa := Lib.hid (keep_ hba HR8.out (by omega))
    have HBWa := Lib.hid (HBW8.out.trans (hba.mono (by omega)))
    clear hba
    obtain ⟨⟨k0, k1, k2⟩, f0, f1, f2⟩ := cell3 HRa.out
    go_wp2_with fail
    refine bodyPost_ret (results_two rfl rfl rfl (put3_block HRa.out)) rfl ?_
    exact ⟨by rw [hz2.out]; rfl, put3_below HBWa.out (Nat.le_succ _)⟩
set_option maxRecDepth 100000 in
set_option maxHeartbeats 2000000 in
theorem refEval_Mul (cols : List C) (r : List V) (k : Int) (s : ByteArray) (n : Int) (x0 x1 : E) (h1 : k ≠ 1) (h2 : k ≠ 2) (h3 : k ≠ 3) (q0 q1 : V × Int)
    (H0 : ∀ (A' Ac Ar : Option Addr) (c' cc cr : Nat) (w' : World), EKids w' w'.heap.size A' x0.kids → CRow w' w'.heap.size Ac cols → VRow w' w'.heap.size Ar r → Calls Try.prog 53 #[x0.val A' c', .slice Ac cols.length cc, .slice Ar r.length cr] w' fun res w'' => res = .returned (.tuple #[.agg #[.int .i64 q0.1.k, .int .i64 q0.1.n, .string q0.1.s], .int .i64 q0.2]) ∧ Below w'.heap.size w' w'')
    (H1 : ∀ (A' Ac Ar : Option Addr) (c' cc cr : Nat) (w' : World), EKids w' w'.heap.size A' x1.kids → CRow w' w'.heap.size Ac cols → VRow w' w'.heap.size Ar r → Calls Try.prog 53 #[x1.val A' c', .slice Ac cols.length cc, .slice Ar r.length cr] w' fun res w'' => res = .returned (.tuple #[.agg #[.int .i64 q1.1.k, .int .i64 q1.1.n, .string q1.1.s], .int .i64 q1.2]) ∧ Below w'.heap.size w' w'')
    (Q : V × Int) (rk : Int × Bool) (hz0 : Q = if rk.2 then (numV rk.1, 0) else (zeroV, 26)) (hsum0 : ∀ w, Calls Try.prog 97 #[.string s, .int .i64 q0.1.n, .int .i64 q1.1.n] w (SumsEnd rk w)) (hae : q0.2 = 0) (hbe : q1.2 = 0) (hop : s.toList = [109, 117, 108])
    (A Ac Ar : Option Addr) (c cc cr : Nat) (w : World) (hA : EKids w w.heap.size A [x0, x1]) (hAc : CRow w w.heap.size Ac cols) (hAr : VRow w w.heap.size Ar r) :
    Calls Try.prog 53 #[(E.mk k s n [x0, x1]).val A c, .slice Ac cols.length cc, .slice Ar r.length cr] w fun res w' => res = .returned (.tuple #[.agg #[.int .i64 Q.1.k, .int .i64 Q.1.n, .string Q.1.s], .int .i64 Q.2]) ∧ Below w.heap.size w w' := by
  have hsi : s.toList ≠ opIf := by rw [hop]; decide
  simp only [E.val, E.k, E.s, E.n, E.kids, List.length_cons, List.length_nil, Nat.zero_add, Nat.reduceAdd] at hA ⊢
  obtain ⟨w1, ew1⟩ : ∃ w1, w1 = (w.alloc (.cells #[.int .i64 k, .string s, .int .i64 n, .slice A 2 c] 35)).alloc (.cells #[.int .i64 0, .int .i64 0, .string ⟨#[]⟩] 29) := ⟨_, rfl⟩
  have hb1 : Below w.heap.size w w1 := by rw [ew1]; exact ((Below.refl _ _).alloc (Nat.le_refl _) _).alloc (by simp) _
  have HB1 := Lib.hid hb1
  have hws : w1.heap.size = w.heap.size + 2 := by rw [ew1]; simp
  have hB : Hid (w1.heap[w.heap.size + 1]? = some (.cells #[.int .i64 0, .int .i64 0, .string ⟨#[]⟩] 29 (0, 0))) := Lib.hid (by
    rw [ew1]
    have := heap_alloc_new (w.alloc (.cells #[.int .i64 k, .string s, .int .i64 n, .slice A 2 c] 35)) (.cells #[.int .i64 0, .int .i64 0, .string ⟨#[]⟩] 29)
    simpa using this)
  have HE : Hid (w1.cell? ⟨w.heap.size, 0, none⟩ = some (.int .i64 k) ∧ w1.cell? ⟨w.heap.size, 1, none⟩ = some (.string s) ∧ w1.cell? ⟨w.heap.size, 2, none⟩ = some (.int .i64 n) ∧ w1.cell? ⟨w.heap.size, 3, none⟩ = some (.slice A 2 c)) := Lib.hid (by rw [ew1]; simp)
  have HW1 := Lib.hid ew1
  have HA := Lib.hid ((hA.low hb1).more hb1.size)
  have HC := Lib.hid ((hAc.below hb1).more hb1.size)
  have HR := Lib.hid ((hAr.below hb1).more hb1.size)
  have hz := Lib.hid hz0
  have hsum := Lib.hid hsum0
  have h1' : (k == 1) = false := by simpa using h1
  have h2' : (k == 2) = false := by simpa using h2
  have h3' : (k == 3) = false := by simpa using h3
  obtain ⟨mc, emc⟩ : ∃ m, m = cols.length := ⟨_, rfl⟩
  obtain ⟨mr, emr⟩ : ∃ m, m = r.length := ⟨_, rfl⟩
  have HMC := Lib.hid emc
  have HMR := Lib.hid emr
  rw [← emc, ← emr]
  obtain ⟨b, o, A0, e0, rfl, hlt, a0, a1, a2, a3, hK0⟩ := HA.out.get_ w1 (Below.refl _ _) 0 x0 rfl
  have hx0 : (0 : Int) < 2 := by omega
  have hx1 : (1 : Int) < 2 := by omega
  have H0c := Lib.hid (H0 A0 Ac Ar e0 cc cr w1 hK0 HC.out HR.out)
  obtain ⟨xk, xs, xn, xl⟩ := x0
  simp only [E.val, E.k, E.s, E.n, E.kids, Nat.zero_mul, Nat.add_zero] at a0 a1 a2 a3 H0c
  rw [← HMC.out, ← HMR.out] at H0c
  obtain ⟨⟨ak, an, az⟩, ae⟩ := q0
  generalize xl.length = xm at *
  clear hz0 hsum0 hA hAc hAr ew1 h1 h2 h3 H0 hK0 emc emr hb1
  simp only at hz hae hsum
  go_enter Try.func53, Try.ntmps53
  go_upto_region 1 with (fail)
  rw [← HW1.out]
  obtain ⟨t0, t1, t2, t3⟩ := HE.out
  go_wp2_with fail
  refine (H0c.out).mono ?_
  rintro e w4 ⟨rfl, hb4⟩
  clear t0 t1 t2 t3
  obtain ⟨HB5, HBW, hs5⟩ := boxed HB1 hB hb4 hws ak an az
  have HS4 : Hid (w4.cell? ⟨w.heap.size, 1, none⟩ = some (.string s) ∧ w4.cell? ⟨w.heap.size, 3, none⟩ = some (.slice (some ⟨b, o, none⟩) 2 c)) := Lib.hid ⟨(hb4.cell (p := ⟨w.heap.size, 1, none⟩) (show w.heap.size < _ by omega)).trans HE.out.2.1, (hb4.cell (p := ⟨w.heap.size, 3, none⟩) (show w.heap.size < _ by omega)).trans HE.out.2.2.2⟩
  have hy : (ae != 0) = false := by rw [hae]; rfl
  have hs' : (s.toList == [105, 102]) = false := by simpa [opIf] using hsi
  obtain ⟨d1, d3⟩ := HS4.out
  have d5 : (w4.alloc (.cells #[.int .i64 ak, .int .i64 an, .string az] 29)).cell? ⟨w.heap.size, 1, none⟩ = some (.string s) := (((Below.refl w4.heap.size w4).alloc (Nat.le_refl _) _).cell (p := ⟨w.heap.size, 1, none⟩) (show w.heap.size < _ by omega)).trans d1
  go_upto_region 17 with (fail)
  clear d5
  obtain ⟨w6, ew6⟩ : ∃ w6, w6 = (w4.alloc (.cells #[.int .i64 ak, .int .i64 an, .string az] 29)).alloc (.cells #[.int .i64 0, .int .i64 0, .string ⟨#[]⟩] 29) := ⟨_, rfl⟩
  rw [← ew6]
  have hb46 : Below w4.heap.size w4 w6 := by rw [ew6]; exact ((Below.refl _ _).alloc (Nat.le_refl _) _).alloc (by simp) _
  have hb6 : Below w1.heap.size w1 w6 := hb4.trans (hb46.mono hb4.size)
  have hs6 : w6.heap.size = w4.heap.size + 2 := by rw [ew6]; simp
  have HPA : Hid (w6.heap[w4.heap.size]? = some (.cells #[.int .i64 ak, .int .i64 an, .string az] 29 (0, 0))) := Lib.hid (by rw [ew6, Below.heap_alloc _ _ _ (by simp)]; exact heap_alloc_new w4 _)
  have HPB : Hid (w6.heap[w4.heap.size + 1]? = some (.cells #[.int .i64 0, .int .i64 0, .string ⟨#[]⟩] 29 (0, 0))) := Lib.hid (by
    rw [ew6]
    have := heap_alloc_new (w4.alloc (.cells #[.int .i64 ak, .int .i64 an, .string az] 29)) (.cells #[.int .i64 0, .int .i64 0, .string ⟨#[]⟩] 29)
    simpa using this)
  have HR6 : Hid (w6.heap[w.heap.size + 1]? = some (.cells #[.int .i64 0, .int .i64 0, .string ⟨#[]⟩] 29 (0, 0))) := Lib.hid (keep_ hb6 hB.out (by omega))
  have HBW6 := Lib.hid (HB1.out.trans (hb6.mono (by omega)))
  have e1 : w6.cell? ⟨w.heap.size, 1, none⟩ = some (.string s) := (hb46.cell (p := ⟨w.heap.size, 1, none⟩) (show w.heap.size < _ by omega)).trans d1
  have e3 : w6.cell? ⟨w.heap.size, 3, none⟩ = some (.slice (some ⟨b, o, none⟩) 2 c) := (hb46.cell (p := ⟨w.heap.size, 3, none⟩) (show w.heap.size < _ by omega)).trans d3
  obtain ⟨b', o', A1, e1', hb', _, y0, y1, y2, y3, hK1⟩ := HA.out.get_ _ hb6 1 x1 rfl
  injection hb' with hb'
  injection hb' with hbb hoo
  subst hbb hoo
  have H1c := Lib.hid (H1 A1 Ac Ar e1' cc cr w6 hK1 ((HC.out.below hb6).more hb6.size) ((HR.out.below hb6).more hb6.size))
  obtain ⟨yk, ys, yn, yl⟩ := x1
  simp only [E.val, E.k, E.s, E.n, E.kids, Nat.one_mul] at y0 y1 y2 y3 H1c
  rw [← HMC.out, ← HMR.out] at H1c
  generalize yl.length = ym at *
  obtain ⟨⟨bk, bn, bs⟩, be⟩ := q1
  have hs4 := hb4.size
  clear ew6 hb4 hb46 hb6 H0c d1 d3 a0 a1 a2 a3 hK1 H1 HS4 HB5 HBW
  go_wp2_with fail
  refine (H1c.out).mono ?_
  rintro e w7 ⟨rfl, hb7⟩
  have hs7 := hb7.size
  have HPB7 : Hid (w7.heap[w4.heap.size + 1]? = some (.cells #[.int .i64 0, .int .i64 0, .string ⟨#[]⟩] 29 (0, 0))) := Lib.hid (keep_ hb7 HPB.out (by omega))
  obtain ⟨⟨p0, p1, p2⟩, p3, p4, p5⟩ := cell3 HPB7.out
  clear y0 y1 y2 y3 H1c
  go_upto_region 19 with (fail)
  obtain ⟨w8, ew8⟩ : ∃ w8, w8 = put3 w7 (w4.heap.size + 1) (.int .i64 bk) (.int .i64 bn) (.string bs) := ⟨_, rfl⟩
  have hs8 : w8.heap.size = w7.heap.size := by rw [ew8]; simp [put3, World.setCell]
  have hb78 : ∀ p, p ≠ w4.heap.size + 1 → w8.heap[p]? = w7.heap[p]? := fun p hp => by
    rw [ew8]; unfold put3
    rw [Below.heap_setCell _ _ _ _ hp, Below.heap_setCell _ _ _ _ hp, Below.heap_setCell _ _ _ _ hp]
  have HPB8 : Hid (w8.heap[w4.heap.size + 1]? = some (.cells #[.int .i64 bk, .int .i64 bn, .string bs] 29 (0, 0))) := Lib.hid (by rw [ew8]; exact put3_block HPB7.out)
  have HPA8 : Hid (w8.heap[w4.heap.size]? = some (.cells #[.int .i64 ak, .int .i64 an, .string az] 29 (0, 0))) := Lib.hid ((hb78 _ (by omega)).trans (keep_ hb7 HPA.out (by omega)))
  have HR8 : Hid (w8.heap[w.heap.size + 1]? = some (.cells #[.int .i64 0, .int .i64 0, .string ⟨#[]⟩] 29 (0, 0))) := Lib.hid ((hb78 _ (by omega)).trans (keep_ hb7 HR6.out (by omega)))
  have HBW8 : Hid (Below w.heap.size w w8) := Lib.hid (by rw [ew8]; exact put3_below (HBW6.out.trans (hb7.mono (by omega))) (by omega))
  have e8 : w8.cell? ⟨w.heap.size, 1, none⟩ = some (.string s) := (World.cell?_of_block (hb78 _ (by show w.heap.size ≠ _; omega))).trans ((hb7.cell (p := ⟨w.heap.size, 1, none⟩) (show w.heap.size < _ by omega)).trans e1)
  unfold put3 at ew8
  rw [← ew8]
  clear ew8 hb78 hb7 e1 e3 p0 p1 p2 p3 p4 p5 HPB7 HPA HPB HR6 HBW6
  have hy2 : (be != 0) = false := by rw [hbe]; rfl
  obtain ⟨⟨p0, p1, p2⟩, p3, p4, p5⟩ := cell3 HPA8.out
  obtain ⟨⟨z0, z1, z2⟩, z3, z4, z5⟩ := cell3 HPB8.out
  obtain ⟨⟨k0, k1, k2⟩, f0, f1, f2⟩ := cell3 HR8.out
  clear hsi
  go_wp2_with fail
  refine (hsum.out _).mono ?_
  rintro e w9 ⟨⟨x, rfl, hx⟩, rfl⟩
  have HX := Lib.hid hx
  clear hx
  cases hq : rk.2
  · have hz2 : Hid (Q = (zeroV, 26)) := Lib.hid (by rw [hz.out, hq]; rfl)
    go_wp2_with fail
    refine bodyPost_ret (results_two rfl rfl rfl (put3_block HR8.out)) rfl ?_
    exact ⟨by rw [hz2.out]; rfl, put3_below HBW8.out (Nat.le_succ _)⟩
  · have hz2 : Hid (Q = (numV x, 0)) := Lib.hid (by rw [hz.out, if_pos hq, HX.out hq])
    go_wp2_with fail
    refine (ref_num x _).mono ?_
    rintro e wa ⟨rfl, hwa⟩
    have hba : Below w8.heap.size w8 wa := by rw [← hwa]; exact (Below.refl _ _).alloc (Nat.le_refl _) _
    clear hwa
    have hsa := hba.size
    have HRa := Lib.hid (keep_ hba HR8.out (by omega))
    have HBWa := Lib.hid (HBW8.out.trans (hba.mono (by omega)))
    clear hba
    obtain ⟨⟨k0, k1, k2⟩, f0, f1, f2⟩ := cell3 HRa.out
    go_wp2_with fail
    refine bodyPost_ret (results_two rfl rfl rfl (put3_block HRa.out)) rfl ?_
    exact ⟨by rw [hz2.out]; rfl, put3_below HBWa.out (Nat.le_succ _)⟩
set_option maxRecDepth 100000 in
set_option maxHeartbeats 2000000 in
theorem refEval_Eq (cols : List C) (r : List V) (k : Int) (s : ByteArray) (n : Int) (x0 x1 : E) (h1 : k ≠ 1) (h2 : k ≠ 2) (h3 : k ≠ 3) (q0 q1 : V × Int)
    (H0 : ∀ (A' Ac Ar : Option Addr) (c' cc cr : Nat) (w' : World), EKids w' w'.heap.size A' x0.kids → CRow w' w'.heap.size Ac cols → VRow w' w'.heap.size Ar r → Calls Try.prog 53 #[x0.val A' c', .slice Ac cols.length cc, .slice Ar r.length cr] w' fun res w'' => res = .returned (.tuple #[.agg #[.int .i64 q0.1.k, .int .i64 q0.1.n, .string q0.1.s], .int .i64 q0.2]) ∧ Below w'.heap.size w' w'')
    (H1 : ∀ (A' Ac Ar : Option Addr) (c' cc cr : Nat) (w' : World), EKids w' w'.heap.size A' x1.kids → CRow w' w'.heap.size Ac cols → VRow w' w'.heap.size Ar r → Calls Try.prog 53 #[x1.val A' c', .slice Ac cols.length cc, .slice Ar r.length cr] w' fun res w'' => res = .returned (.tuple #[.agg #[.int .i64 q1.1.k, .int .i64 q1.1.n, .string q1.1.s], .int .i64 q1.2]) ∧ Below w'.heap.size w' w'')
    (Q : V × Int) (hz0 : Q = (truthV (V.eqv ⟨q0.1.k, q0.1.n, q0.1.s⟩ ⟨q1.1.k, q1.1.n, q1.1.s⟩), 0)) (HEQ0 : (!V.lt ⟨q0.1.k, q0.1.n, q0.1.s⟩ ⟨q1.1.k, q1.1.n, q1.1.s⟩ && !V.lt ⟨q1.1.k, q1.1.n, q1.1.s⟩ ⟨q0.1.k, q0.1.n, q0.1.s⟩) = V.eqv ⟨q0.1.k, q0.1.n, q0.1.s⟩ ⟨q1.1.k, q1.1.n, q1.1.s⟩) (hae : q0.2 = 0) (hbe : q1.2 = 0) (hop : s.toList = [101, 113])
    (A Ac Ar : Option Addr) (c cc cr : Nat) (w : World) (hA : EKids w w.heap.size A [x0, x1]) (hAc : CRow w w.heap.size Ac cols) (hAr : VRow w w.heap.size Ar r) :
    Calls Try.prog 53 #[(E.mk k s n [x0, x1]).val A c, .slice Ac cols.length cc, .slice Ar r.length cr] w fun res w' => res = .returned (.tuple #[.agg #[.int .i64 Q.1.k, .int .i64 Q.1.n, .string Q.1.s], .int .i64 Q.2]) ∧ Below w.heap.size w w' := by
  have hsi : s.toList ≠ opIf := by rw [hop]; decide
  simp only [E.val, E.k, E.s, E.n, E.kids, List.length_cons, List.length_nil, Nat.zero_add, Nat.reduceAdd] at hA ⊢
  obtain ⟨w1, ew1⟩ : ∃ w1, w1 = (w.alloc (.cells #[.int .i64 k, .string s, .int .i64 n, .slice A 2 c] 35)).alloc (.cells #[.int .i64 0, .int .i64 0, .string ⟨#[]⟩] 29) := ⟨_, rfl⟩
  have hb1 : Below w.heap.size w w1 := by rw [ew1]; exact ((Below.refl _ _).alloc (Nat.le_refl _) _).alloc (by simp) _
  have HB1 := Lib.hid hb1
  have hws : w1.heap.size = w.heap.size + 2 := by rw [ew1]; simp
  have hB : Hid (w1.heap[w.heap.size + 1]? = some (.cells #[.int .i64 0, .int .i64 0, .string ⟨#[]⟩] 29 (0, 0))) := Lib.hid (by
    rw [ew1]
    have := heap_alloc_new (w.alloc (.cells #[.int .i64 k, .string s, .int .i64 n, .slice A 2 c] 35)) (.cells #[.int .i64 0, .int .i64 0, .string ⟨#[]⟩] 29)
    simpa using this)
  have HE : Hid (w1.cell? ⟨w.heap.size, 0, none⟩ = some (.int .i64 k) ∧ w1.cell? ⟨w.heap.size, 1, none⟩ = some (.string s) ∧ w1.cell? ⟨w.heap.size, 2, none⟩ = some (.int .i64 n) ∧ w1.cell? ⟨w.heap.size, 3, none⟩ = some (.slice A 2 c)) := Lib.hid (by rw [ew1]; simp)
  have HW1 := Lib.hid ew1
  have HA := Lib.hid ((hA.low hb1).more hb1.size)
  have HC := Lib.hid ((hAc.below hb1).more hb1.size)
  have HR := Lib.hid ((hAr.below hb1).more hb1.size)
  have hz := Lib.hid hz0
  have HEQ := Lib.hid HEQ0
  have h1' : (k == 1) = false := by simpa using h1
  have h2' : (k == 2) = false := by simpa using h2
  have h3' : (k == 3) = false := by simpa using h3
  obtain ⟨mc, emc⟩ : ∃ m, m = cols.length := ⟨_, rfl⟩
  obtain ⟨mr, emr⟩ : ∃ m, m = r.length := ⟨_, rfl⟩
  have HMC := Lib.hid emc
  have HMR := Lib.hid emr
  rw [← emc, ← emr]
  obtain ⟨b, o, A0, e0, rfl, hlt, a0, a1, a2, a3, hK0⟩ := HA.out.get_ w1 (Below.refl _ _) 0 x0 rfl
  have hx0 : (0 : Int) < 2 := by omega
  have hx1 : (1 : Int) < 2 := by omega
  have H0c := Lib.hid (H0 A0 Ac Ar e0 cc cr w1 hK0 HC.out HR.out)
  obtain ⟨xk, xs, xn, xl⟩ := x0
  simp only [E.val, E.k, E.s, E.n, E.kids, Nat.zero_mul, Nat.add_zero] at a0 a1 a2 a3 H0c
  rw [← HMC.out, ← HMR.out] at H0c
  obtain ⟨⟨ak, an, az⟩, ae⟩ := q0
  generalize xl.length = xm at *
  clear hz0 HEQ0 hA hAc hAr ew1 h1 h2 h3 H0 hK0 emc emr hb1
  simp only at hz hae HEQ
  go_enter Try.func53, Try.ntmps53
  go_upto_region 1 with (fail)
  rw [← HW1.out]
  obtain ⟨t0, t1, t2, t3⟩ := HE.out
  go_wp2_with fail
  refine (H0c.out).mono ?_
  rintro e w4 ⟨rfl, hb4⟩
  clear t0 t1 t2 t3
  obtain ⟨HB5, HBW, hs5⟩ := boxed HB1 hB hb4 hws ak an az
  have HS4 : Hid (w4.cell? ⟨w.heap.size, 1, none⟩ = some (.string s) ∧ w4.cell? ⟨w.heap.size, 3, none⟩ = some (.slice (some ⟨b, o, none⟩) 2 c)) := Lib.hid ⟨(hb4.cell (p := ⟨w.heap.size, 1, none⟩) (show w.heap.size < _ by omega)).trans HE.out.2.1, (hb4.cell (p := ⟨w.heap.size, 3, none⟩) (show w.heap.size < _ by omega)).trans HE.out.2.2.2⟩
  have hy : (ae != 0) = false := by rw [hae]; rfl
  have hs' : (s.toList == [105, 102]) = false := by simpa [opIf] using hsi
  obtain ⟨d1, d3⟩ := HS4.out
  have d5 : (w4.alloc (.cells #[.int .i64 ak, .int .i64 an, .string az] 29)).cell? ⟨w.heap.size, 1, none⟩ = some (.string s) := (((Below.refl w4.heap.size w4).alloc (Nat.le_refl _) _).cell (p := ⟨w.heap.size, 1, none⟩) (show w.heap.size < _ by omega)).trans d1
  go_upto_region 17 with (fail)
  clear d5
  obtain ⟨w6, ew6⟩ : ∃ w6, w6 = (w4.alloc (.cells #[.int .i64 ak, .int .i64 an, .string az] 29)).alloc (.cells #[.int .i64 0, .int .i64 0, .string ⟨#[]⟩] 29) := ⟨_, rfl⟩
  rw [← ew6]
  have hb46 : Below w4.heap.size w4 w6 := by rw [ew6]; exact ((Below.refl _ _).alloc (Nat.le_refl _) _).alloc (by simp) _
  have hb6 : Below w1.heap.size w1 w6 := hb4.trans (hb46.mono hb4.size)
  have hs6 : w6.heap.size = w4.heap.size + 2 := by rw [ew6]; simp
  have HPA : Hid (w6.heap[w4.heap.size]? = some (.cells #[.int .i64 ak, .int .i64 an, .string az] 29 (0, 0))) := Lib.hid (by rw [ew6, Below.heap_alloc _ _ _ (by simp)]; exact heap_alloc_new w4 _)
  have HPB : Hid (w6.heap[w4.heap.size + 1]? = some (.cells #[.int .i64 0, .int .i64 0, .string ⟨#[]⟩] 29 (0, 0))) := Lib.hid (by
    rw [ew6]
    have := heap_alloc_new (w4.alloc (.cells #[.int .i64 ak, .int .i64 an, .string az] 29)) (.cells #[.int .i64 0, .int .i64 0, .string ⟨#[]⟩] 29)
    simpa using this)
  have HR6 : Hid (w6.heap[w.heap.size + 1]? = some (.cells #[.int .i64 0, .int .i64 0, .string ⟨#[]⟩] 29 (0, 0))) := Lib.hid (keep_ hb6 hB.out (by omega))
  have HBW6 := Lib.hid (HB1.out.trans (hb6.mono (by omega)))
  have e1 : w6.cell? ⟨w.heap.size, 1, none⟩ = some (.string s) := (hb46.cell (p := ⟨w.heap.size, 1, none⟩) (show w.heap.size < _ by omega)).trans d1
  have e3 : w6.cell? ⟨w.heap.size, 3, none⟩ = some (.slice (some ⟨b, o, none⟩) 2 c) := (hb46.cell (p := ⟨w.heap.size, 3, none⟩) (show w.heap.size < _ by omega)).trans d3
  obtain ⟨b', o', A1, e1', hb', _, y0, y1, y2, y3, hK1⟩ := HA.out.get_ _ hb6 1 x1 rfl
  injection hb' with hb'
  injection hb' with hbb hoo
  subst hbb hoo
  have H1c := Lib.hid (H1 A1 Ac Ar e1' cc cr w6 hK1 ((HC.out.below hb6).more hb6.size) ((HR.out.below hb6).more hb6.size))
  obtain ⟨yk, ys, yn, yl⟩ := x1
  simp only [E.val, E.k, E.s, E.n, E.kids, Nat.one_mul] at y0 y1 y2 y3 H1c
  rw [← HMC.out, ← HMR.out] at H1c
  generalize yl.length = ym at *
  obtain ⟨⟨bk, bn, bs⟩, be⟩ := q1
  have hs4 := hb4.size
  clear ew6 hb4 hb46 hb6 H0c d1 d3 a0 a1 a2 a3 hK1 H1 HS4 HB5 HBW
  go_wp2_with fail
  refine (H1c.out).mono ?_
  rintro e w7 ⟨rfl, hb7⟩
  have hs7 := hb7.size
  have HPB7 : Hid (w7.heap[w4.heap.size + 1]? = some (.cells #[.int .i64 0, .int .i64 0, .string ⟨#[]⟩] 29 (0, 0))) := Lib.hid (keep_ hb7 HPB.out (by omega))
  obtain ⟨⟨p0, p1, p2⟩, p3, p4, p5⟩ := cell3 HPB7.out
  clear y0 y1 y2 y3 H1c
  go_upto_region 19 with (fail)
  obtain ⟨w8, ew8⟩ : ∃ w8, w8 = put3 w7 (w4.heap.size + 1) (.int .i64 bk) (.int .i64 bn) (.string bs) := ⟨_, rfl⟩
  have hs8 : w8.heap.size = w7.heap.size := by rw [ew8]; simp [put3, World.setCell]
  have hb78 : ∀ p, p ≠ w4.heap.size + 1 → w8.heap[p]? = w7.heap[p]? := fun p hp => by
    rw [ew8]; unfold put3
    rw [Below.heap_setCell _ _ _ _ hp, Below.heap_setCell _ _ _ _ hp, Below.heap_setCell _ _ _ _ hp]
  have HPB8 : Hid (w8.heap[w4.heap.size + 1]? = some (.cells #[.int .i64 bk, .int .i64 bn, .string bs] 29 (0, 0))) := Lib.hid (by rw [ew8]; exact put3_block HPB7.out)
  have HPA8 : Hid (w8.heap[w4.heap.size]? = some (.cells #[.int .i64 ak, .int .i64 an, .string az] 29 (0, 0))) := Lib.hid ((hb78 _ (by omega)).trans (keep_ hb7 HPA.out (by omega)))
  have HR8 : Hid (w8.heap[w.heap.size + 1]? = some (.cells #[.int .i64 0, .int .i64 0, .string ⟨#[]⟩] 29 (0, 0))) := Lib.hid ((hb78 _ (by omega)).trans (keep_ hb7 HR6.out (by omega)))
  have HBW8 : Hid (Below w.heap.size w w8) := Lib.hid (by rw [ew8]; exact put3_below (HBW6.out.trans (hb7.mono (by omega))) (by omega))
  have e8 : w8.cell? ⟨w.heap.size, 1, none⟩ = some (.string s) := (World.cell?_of_block (hb78 _ (by show w.heap.size ≠ _; omega))).trans ((hb7.cell (p := ⟨w.heap.size, 1, none⟩) (show w.heap.size < _ by omega)).trans e1)
  unfold put3 at ew8
  rw [← ew8]
  clear ew8 hb78 hb7 e1 e3 p0 p1 p2 p3 p4 p5 HPB7 HPA HPB HR6 HBW6
  have hy2 : (be != 0) = false := by rw [hbe]; rfl
  obtain ⟨⟨p0, p1, p2⟩, p3, p4, p5⟩ := cell3 HPA8.out
  obtain ⟨⟨z0, z1, z2⟩, z3, z4, z5⟩ := cell3 HPB8.out
  obtain ⟨⟨k0, k1, k2⟩, f0, f1, f2⟩ := cell3 HR8.out
  clear hsi
  go_wp2_with fail
  refine (ref4_less ak an az bk bn bs _).mono ?_
  rintro e w9 ⟨rfl, hb9⟩
  have hs9 := hb9.size
  have HPA9 := Lib.hid (keep_ hb9 HPA8.out (by omega))
  have HPB9 := Lib.hid (keep_ hb9 HPB8.out (by omega))
  have HR9 := Lib.hid (keep_ hb9 HR8.out (by omega))
  have HBW9 := Lib.hid (HBW8.out.trans (hb9.mono (by omega)))
  obtain ⟨⟨r0, r1, r2⟩, r3, r4, r5⟩ := cell3 HPA9.out
  obtain ⟨⟨s0, s1, s2⟩, s3, s4, s5⟩ := cell3 HPB9.out
  clear hb9 k0 k1 k2 f0 f1 f2
  cases hq : V.lt ⟨ak, an, az⟩ ⟨bk, bn, bs⟩
  · go_wp2_with fail
    refine (ref4_less bk bn bs ak an az _).mono ?_
    rintro e wa ⟨rfl, hba⟩
    have hsa := hba.size
    have HRa := Lib.hid (keep_ hba HR9.out (by omega))
    have HBWa := Lib.hid (HBW9.out.trans (hba.mono (by omega)))
    clear hba
    go_wp2_with fail
    refine (ref_truth (!V.lt ⟨bk, bn, bs⟩ ⟨ak, an, az⟩) _).mono ?_
    rintro e wb ⟨rfl, hbb⟩
    have hsb := hbb.size
    have HRb := Lib.hid (keep_ hbb HRa.out (by omega))
    have HBWb := Lib.hid (HBWa.out.trans (hbb.mono (by omega)))
    clear hbb
    have hz2 : Hid (Q = (truthV (!V.lt ⟨bk, bn, bs⟩ ⟨ak, an, az⟩), 0)) := Lib.hid (by rw [hz.out, ← HEQ.out, hq]; rfl)
    obtain ⟨⟨k0, k1, k2⟩, f0, f1, f2⟩ := cell3 HRb.out
    go_wp2_with fail
    refine bodyPost_ret (results_two rfl rfl rfl (put3_block HRb.out)) rfl ?_
    exact ⟨by rw [hz2.out]; rfl, put3_below HBWb.out (Nat.le_succ _)⟩
  · go_wp2_with fail
    refine (ref_truth false _).mono ?_
    rintro e wb ⟨rfl, hbb⟩
    have hsb := hbb.size
    have HRb := Lib.hid (keep_ hbb HR9.out (by omega))
    have HBWb := Lib.hid (HBW9.out.trans (hbb.mono (by omega)))
    clear hbb
    have hz2 : Hid (Q = (truthV false, 0)) := Lib.hid (by rw [hz.out, ← HEQ.out, hq]; rfl)
    obtain ⟨⟨k0, k1, k2⟩, f0, f1, f2⟩ := cell3 HRb.out
    go_wp2_with fail
    refine bodyPost_ret (results_two rfl rfl rfl (put3_block HRb.out)) rfl ?_
    exact ⟨by rw [hz2.out]; rfl, put3_below HBWb.out (Nat.le_succ _)⟩
end Go.Proofs.Ytldleckgkgeclaa
/-
  The reference's eval: other operations of two.
-/
namespace Go.Proofs.Ytldleckgkgeclaa
open Go.RowKit
set_option maxRecDepth 100000 in
set_option maxHeartbeats 2000000 in
theorem refEval_Lt (cols : List C) (r : List V) (k : Int) (s : ByteArray) (n : Int) (x0 x1 : E) (h1 : k ≠ 1) (h2 : k ≠ 2) (h3 : k ≠ 3) (q0 q1 : V × Int)
    (H0 : ∀ (A' Ac Ar : Option Addr) (c' cc cr : Nat) (w' : World), EKids w' w'.heap.size A' x0.kids → CRow w' w'.heap.size Ac cols → VRow w' w'.heap.size Ar r → Calls Try.prog 53 #[x0.val A' c', .slice Ac cols.length cc, .slice Ar r.length cr] w' fun res w'' => res = .returned (.tuple #[.agg #[.int .i64 q0.1.k, .int .i64 q0.1.n, .string q0.1.s], .int .i64 q0.2]) ∧ Below w'.heap.size w' w'')
    (H1 : ∀ (A' Ac Ar : Option Addr) (c' cc cr : Nat) (w' : World), EKids w' w'.heap.size A' x1.kids → CRow w' w'.heap.size Ac cols → VRow w' w'.heap.size Ar r → Calls Try.prog 53 #[x1.val A' c', .slice Ac cols.length cc, .slice Ar r.length cr] w' fun res w'' => res = .returned (.tuple #[.agg #[.int .i64 q1.1.k, .int .i64 q1.1.n, .string q1.1.s], .int .i64 q1.2]) ∧ Below w'.heap.size w' w'')
    (Q : V × Int) (hz0 : Q = (truthV (V.lt ⟨q0.1.k, q0.1.n, q0.1.s⟩ ⟨q1.1.k, q1.1.n, q1.1.s⟩), 0)) (hae : q0.2 = 0) (hbe : q1.2 = 0) (hop : s.toList = [108, 116])
    (A Ac Ar : Option Addr) (c cc cr : Nat) (w : World) (hA : EKids w w.heap.size A [x0, x1]) (hAc : CRow w w.heap.size Ac cols) (hAr : VRow w w.heap.size Ar r) :
    Calls Try.prog 53 #[(E.mk k s n [x0, x1]).val A c, .slice Ac cols.length cc, .slice Ar r.length cr] w fun res w' => res = .returned (.tuple #[.agg #[.int .i64 Q.1.k, .int .i64 Q.1.n, .string Q.1.s], .int .i64 Q.2]) ∧ Below w.heap.size w w' := by
  have hsi : s.toList ≠ opIf := by rw [hop]; decide
  simp only [E.val, E.k, E.s, E.n, E.kids, List.length_cons, List.length_nil, Nat.zero_add, Nat.reduceAdd] at hA ⊢
  obtain ⟨w1, ew1⟩ : ∃ w1, w1 = (w.alloc (.cells #[.int .i64 k, .string s, .int .i64 n, .slice A 2 c] 35)).alloc (.cells #[.int .i64 0, .int .i64 0, .string ⟨#[]⟩] 29) := ⟨_, rfl⟩
  have hb1 : Below w.heap.size w w1 := by rw [ew1]; exact ((Below.refl _ _).alloc (Nat.le_refl _) _).alloc (by simp) _
  have HB1 := Lib.hid hb1
  have hws : w1.heap.size = w.heap.size + 2 := by rw [ew1]; simp
  have hB : Hid (w1.heap[w.heap.size + 1]? = some (.cells #[.int .i64 0, .int .i64 0, .string ⟨#[]⟩] 29 (0, 0))) := Lib.hid (by
    rw [ew1]
    have := heap_alloc_new (w.alloc (.cells #[.int .i64 k, .string s, .int .i64 n, .slice A 2 c] 35)) (.cells #[.int .i64 0, .int .i64 0, .string ⟨#[]⟩] 29)
    simpa using this)
  have HE : Hid (w1.cell? ⟨w.heap.size, 0, none⟩ = some (.int .i64 k) ∧ w1.cell? ⟨w.heap.size, 1, none⟩ = some (.string s) ∧ w1.cell? ⟨w.heap.size, 2, none⟩ = some (.int .i64 n) ∧ w1.cell? ⟨w.heap.size, 3, none⟩ = some (.slice A 2 c)) := Lib.hid (by rw [ew1]; simp)
  have HW1 := Lib.hid ew1
  have HA := Lib.hid ((hA.low hb1).more hb1.size)
  have HC := Lib.hid ((hAc.below hb1).more hb1.size)
  have HR := Lib.hid ((hAr.below hb1).more hb1.size)
  have hz := Lib.hid hz0
  have h1' : (k == 1) = false := by simpa using h1
  have h2' : (k == 2) = false := by simpa using h2
  have h3' : (k == 3) = false := by simpa using h3
  obtain ⟨mc, emc⟩ : ∃ m, m = cols.length := ⟨_, rfl⟩
  obtain ⟨mr, emr⟩ : ∃ m, m = r.length := ⟨_, rfl⟩
  have HMC := Lib.hid emc
  have HMR := Lib.hid emr
  rw [← emc, ← emr]
  obtain ⟨b, o, A0, e0, rfl, hlt, a0, a1, a2, a3, hK0⟩ := HA.out.get_ w1 (Below.refl _ _) 0 x0 rfl
  have hx0 : (0 : Int) < 2 := by omega
  have hx1 : (1 : Int) < 2 := by omega
  have H0c := Lib.hid (H0 A0 Ac Ar e0 cc cr w1 hK0 HC.out HR.out)
  obtain ⟨xk, xs, xn, xl⟩ := x0
  simp only [E.val, E.k, E.s, E.n, E.kids, Nat.zero_mul, Nat.add_zero] at a0 a1 a2 a3 H0c
  rw [← HMC.out, ← HMR.out] at H0c
  obtain ⟨⟨ak, an, az⟩, ae⟩ := q0
  generalize xl.length = xm at *
  clear hz0 hA hAc hAr ew1 h1 h2 h3 H0 hK0 emc emr hb1
  simp only at hz hae
  go_enter Try.func53, Try.ntmps53
  go_upto_region 1 with (fail)
  rw [← HW1.out]
  obtain ⟨t0, t1, t2, t3⟩ := HE.out
  go_wp2_with fail
  refine (H0c.out).mono ?_
  rintro e w4 ⟨rfl, hb4⟩
  clear t0 t1 t2 t3
  obtain ⟨HB5, HBW, hs5⟩ := boxed HB1 hB hb4 hws ak an az
  have HS4 : Hid (w4.cell? ⟨w.heap.size, 1, none⟩ = some (.string s) ∧ w4.cell? ⟨w.heap.size, 3, none⟩ = some (.slice (some ⟨b, o, none⟩) 2 c)) := Lib.hid ⟨(hb4.cell (p := ⟨w.heap.size, 1, none⟩) (show w.heap.size < _ by omega)).trans HE.out.2.1, (hb4.cell (p := ⟨w.heap.size, 3, none⟩) (show w.heap.size < _ by omega)).trans HE.out.2.2.2⟩
  have hy : (ae != 0) = false := by rw [hae]; rfl
  have hs' : (s.toList == [105, 102]) = false := by simpa [opIf] using hsi
  obtain ⟨d1, d3⟩ := HS4.out
  have d5 : (w4.alloc (.cells #[.int .i64 ak, .int .i64 an, .string az] 29)).cell? ⟨w.heap.size, 1, none⟩ = some (.string s) := (((Below.refl w4.heap.size w4).alloc (Nat.le_refl _) _).cell (p := ⟨w.heap.size, 1, none⟩) (show w.heap.size < _ by omega)).trans d1
  go_upto_region 17 with (fail)
  clear d5
  obtain ⟨w6, ew6⟩ : ∃ w6, w6 = (w4.alloc (.cells #[.int .i64 ak, .int .i64 an, .string az] 29)).alloc (.cells #[.int .i64 0, .int .i64 0, .string ⟨#[]⟩] 29) := ⟨_, rfl⟩
  rw [← ew6]
  have hb46 : Below w4.heap.size w4 w6 := by rw [ew6]; exact ((Below.refl _ _).alloc (Nat.le_refl _) _).alloc (by simp) _
  have hb6 : Below w1.heap.size w1 w6 := hb4.trans (hb46.mono hb4.size)
  have hs6 : w6.heap.size = w4.heap.size + 2 := by rw [ew6]; simp
  have HPA : Hid (w6.heap[w4.heap.size]? = some (.cells #[.int .i64 ak, .int .i64 an, .string az] 29 (0, 0))) := Lib.hid (by rw [ew6, Below.heap_alloc _ _ _ (by simp)]; exact heap_alloc_new w4 _)
  have HPB : Hid (w6.heap[w4.heap.size + 1]? = some (.cells #[.int .i64 0, .int .i64 0, .string ⟨#[]⟩] 29 (0, 0))) := Lib.hid (by
    rw [ew6]
    have := heap_alloc_new (w4.alloc (.cells #[.int .i64 ak, .int .i64 an, .string az] 29)) (.cells #[.int .i64 0, .int .i64 0, .string ⟨#[]⟩] 29)
    simpa using this)
  have HR6 : Hid (w6.heap[w.heap.size + 1]? = some (.cells #[.int .i64 0, .int .i64 0, .string ⟨#[]⟩] 29 (0, 0))) := Lib.hid (keep_ hb6 hB.out (by omega))
  have HBW6 := Lib.hid (HB1.out.trans (hb6.mono (by omega)))
  have e1 : w6.cell? ⟨w.heap.size, 1, none⟩ = some (.string s) := (hb46.cell (p := ⟨w.heap.size, 1, none⟩) (show w.heap.size < _ by omega)).trans d1
  have e3 : w6.cell? ⟨w.heap.size, 3, none⟩ = some (.slice (some ⟨b, o, none⟩) 2 c) := (hb46.cell (p := ⟨w.heap.size, 3, none⟩) (show w.heap.size < _ by omega)).trans d3
  obtain ⟨b', o', A1, e1', hb', _, y0, y1, y2, y3, hK1⟩ := HA.out.get_ _ hb6 1 x1 rfl
  injection hb' with hb'
  injection hb' with hbb hoo
  subst hbb hoo
  have H1c := Lib.hid (H1 A1 Ac Ar e1' cc cr w6 hK1 ((HC.out.below hb6).more hb6.size) ((HR.out.below hb6).more hb6.size))
  obtain ⟨yk, ys, yn, yl⟩ := x1
  simp only [E.val, E.k, E.s, E.n, E.kids, Nat.one_mul] at y0 y1 y2 y3 H1c
  rw [← HMC.out, ← HMR.out] at H1c
  generalize yl.length = ym at *
  obtain ⟨⟨bk, bn, bs⟩, be⟩ := q1
  have hs4 := hb4.size
  clear ew6 hb4 hb46 hb6 H0c d1 d3 a0 a1 a2 a3 hK1 H1 HS4 HB5 HBW
  go_wp2_with fail
  refine (H1c.out).mono ?_
  rintro e w7 ⟨rfl, hb7⟩
  have hs7 := hb7.size
  have HPB7 : Hid (w7.heap[w4.heap.size + 1]? = some (.cells #[.int .i64 0, .int .i64 0, .string ⟨#[]⟩] 29 (0, 0))) := Lib.hid (keep_ hb7 HPB.out (by omega))
  obtain ⟨⟨p0, p1, p2⟩, p3, p4, p5⟩ := cell3 HPB7.out
  clear y0 y1 y2 y3 H1c
  go_upto_region 19 with (fail)
  obtain ⟨w8, ew8⟩ : ∃ w8, w8 = put3 w7 (w4.heap.size + 1) (.int .i64 bk) (.int .i64 bn) (.string bs) := ⟨_, rfl⟩
  have hs8 : w8.heap.size = w7.heap.size := by rw [ew8]; simp [put3, World.setCell]
  have hb78 : ∀ p, p ≠ w4.heap.size + 1 → w8.heap[p]? = w7.heap[p]? := fun p hp => by
    rw [ew8]; unfold put3
    rw [Below.heap_setCell _ _ _ _ hp, Below.heap_setCell _ _ _ _ hp, Below.heap_setCell _ _ _ _ hp]
  have HPB8 : Hid (w8.heap[w4.heap.size + 1]? = some (.cells #[.int .i64 bk, .int .i64 bn, .string bs] 29 (0, 0))) := Lib.hid (by rw [ew8]; exact put3_block HPB7.out)
  have HPA8 : Hid (w8.heap[w4.heap.size]? = some (.cells #[.int .i64 ak, .int .i64 an, .string az] 29 (0, 0))) := Lib.hid ((hb78 _ (by omega)).trans (keep_ hb7 HPA.out (by omega)))
  have HR8 : Hid (w8.heap[w.heap.size + 1]? = some (.cells #[.int .i64 0, .int .i64 0, .string ⟨#[]⟩] 29 (0, 0))) := Lib.hid ((hb78 _ (by omega)).trans (keep_ hb7 HR6.out (by omega)))
  have HBW8 : Hid (Below w.heap.size w w8) := Lib.hid (by rw [ew8]; exact put3_below (HBW6.out.trans (hb7.mono (by omega))) (by omega))
  have e8 : w8.cell? ⟨w.heap.size, 1, none⟩ = some (.string s) := (World.cell?_of_block (hb78 _ (by show w.heap.size ≠ _; omega))).trans ((hb7.cell (p := ⟨w.heap.size, 1, none⟩) (show w.heap.size < _ by omega)).trans e1)
  unfold put3 at ew8
  rw [← ew8]
  clear ew8 hb78 hb7 e1 e3 p0 p1 p2 p3 p4 p5 HPB7 HPA HPB HR6 HBW6
  have hy2 : (be != 0) = false := by rw [hbe]; rfl
  obtain ⟨⟨p0, p1, p2⟩, p3, p4, p5⟩ := cell3 HPA8.out
  obtain ⟨⟨z0, z1, z2⟩, z3, z4, z5⟩ := cell3 HPB8.out
  obtain ⟨⟨k0, k1, k2⟩, f0, f1, f2⟩ := cell3 HR8.out
  clear hsi
  go_wp2_with fail
  refine (ref4_less ak an az bk bn bs _).mono ?_
  rintro e w9 ⟨rfl, hb9⟩
  have hs9 := hb9.size
  have HR9 := Lib.hid (keep_ hb9 HR8.out (by omega))
  have HBW9 := Lib.hid (HBW8.out.trans (hb9.mono (by omega)))
  clear hb9
  go_wp2_with fail
  refine (ref_truth (V.lt ⟨ak, an, az⟩ ⟨bk, bn, bs⟩) _).mono ?_
  rintro e wb ⟨rfl, hbb⟩
  have hsb := hbb.size
  have HRb := Lib.hid (keep_ hbb HR9.out (by omega))
  have HBWb := Lib.hid (HBW9.out.trans (hbb.mono (by omega)))
  clear hbb
  obtain ⟨⟨k0, k1, k2⟩, f0, f1, f2⟩ := cell3 HRb.out
  go_wp2_with fail
  refine bodyPost_ret (results_two rfl rfl rfl (put3_block HRb.out)) rfl ?_
  exact ⟨by rw [hz.out]; rfl, put3_below HBWb.out (Nat.le_succ _)⟩
set_option maxRecDepth 100000 in
set_option maxHeartbeats 2000000 in
theorem refEval_And (cols : List C) (r : List V) (k : Int) (s : ByteArray) (n : Int) (x0 x1 : E) (h1 : k ≠ 1) (h2 : k ≠ 2) (h3 : k ≠ 3) (q0 q1 : V × Int)
    (H0 : ∀ (A' Ac Ar : Option Addr) (c' cc cr : Nat) (w' : World), EKids w' w'.heap.size A' x0.kids → CRow w' w'.heap.size Ac cols → VRow w' w'.heap.size Ar r → Calls Try.prog 53 #[x0.val A' c', .slice Ac cols.length cc, .slice Ar r.length cr] w' fun res w'' => res = .returned (.tuple #[.agg #[.int .i64 q0.1.k, .int .i64 q0.1.n, .string q0.1.s], .int .i64 q0.2]) ∧ Below w'.heap.size w' w'')
    (H1 : ∀ (A' Ac Ar : Option Addr) (c' cc cr : Nat) (w' : World), EKids w' w'.heap.size A' x1.kids → CRow w' w'.heap.size Ac cols → VRow w' w'.heap.size Ar r → Calls Try.prog 53 #[x1.val A' c', .slice Ac cols.length cc, .slice Ar r.length cr] w' fun res w'' => res = .returned (.tuple #[.agg #[.int .i64 q1.1.k, .int .i64 q1.1.n, .string q1.1.s], .int .i64 q1.2]) ∧ Below w'.heap.size w' w'')
    (Q : V × Int) (hz0 : Q = (truthV (q0.1.n != 0 && q1.1.n != 0), 0)) (hae : q0.2 = 0) (hbe : q1.2 = 0) (hop : s.toList = [97, 110, 100])
    (A Ac Ar : Option Addr) (c cc cr : Nat) (w : World) (hA : EKids w w.heap.size A [x0, x1]) (hAc : CRow w w.heap.size Ac cols) (hAr : VRow w w.heap.size Ar r) :
    Calls Try.prog 53 #[(E.mk k s n [x0, x1]).val A c, .slice Ac cols.length cc, .slice Ar r.length cr] w fun res w' => res = .returned (.tuple #[.agg #[.int .i64 Q.1.k, .int .i64 Q.1.n, .string Q.1.s], .int .i64 Q.2]) ∧ Below w.heap.size w w' := by
  have hsi : s.toList ≠ opIf := by rw [hop]; decide
  simp only [E.val, E.k, E.s, E.n, E.kids, List.length_cons, List.length_nil, Nat.zero_add, Nat.reduceAdd] at hA ⊢
  obtain ⟨w1, ew1⟩ : ∃ w1, w1 = (w.alloc (.cells #[.int .i64 k, .string s, .int .i64 n, .slice A 2 c] 35)).alloc (.cells #[.int .i64 0, .int .i64 0, .string ⟨#[]⟩] 29) := ⟨_, rfl⟩
  have hb1 : Below w.heap.size w w1 := by rw [ew1]; exact ((Below.refl _ _).alloc (Nat.le_refl _) _).alloc (by simp) _
  have HB1 := Lib.hid hb1
  have hws : w1.heap.size = w.heap.size + 2 := by rw [ew1]; simp
  have hB : Hid (w1.heap[w.heap.size + 1]? = some (.cells #[.int .i64 0, .int .i64 0, .string ⟨#[]⟩] 29 (0, 0))) := Lib.hid (by
    rw [ew1]
    have := heap_alloc_new (w.alloc (.cells #[.int .i64 k, .string s, .int .i64 n, .slice A 2 c] 35)) (.cells #[.int .i64 0, .int .i64 0, .string ⟨#[]⟩] 29)
    simpa using this)
  have HE : Hid (w1.cell? ⟨w.heap.size, 0, none⟩ = some (.int .i64 k) ∧ w1.cell? ⟨w.heap.size, 1, none⟩ = some (.string s) ∧ w1.cell? ⟨w.heap.size, 2, none⟩ = some (.int .i64 n) ∧ w1.cell? ⟨w.heap.size, 3, none⟩ = some (.slice A 2 c)) := Lib.hid (by rw [ew1]; simp)
  have HW1 := Lib.hid ew1
  have HA := Lib.hid ((hA.low hb1).more hb1.size)
  have HC := Lib.hid ((hAc.below hb1).more hb1.size)
  have HR := Lib.hid ((hAr.below hb1).more hb1.size)
  have hz := Lib.hid hz0
  have h1' : (k == 1) = false := by simpa using h1
  have h2' : (k == 2) = false := by simpa using h2
  have h3' : (k == 3) = false := by simpa using h3
  obtain ⟨mc, emc⟩ : ∃ m, m = cols.length := ⟨_, rfl⟩
  obtain ⟨mr, emr⟩ : ∃ m, m = r.length := ⟨_, rfl⟩
  have HMC := Lib.hid emc
  have HMR := Lib.hid emr
  rw [← emc, ← emr]
  obtain ⟨b, o, A0, e0, rfl, hlt, a0, a1, a2, a3, hK0⟩ := HA.out.get_ w1 (Below.refl _ _) 0 x0 rfl
  have hx0 : (0 : Int) < 2 := by omega
  have hx1 : (1 : Int) < 2 := by omega
  have H0c := Lib.hid (H0 A0 Ac Ar e0 cc cr w1 hK0 HC.out HR.out)
  obtain ⟨xk, xs, xn, xl⟩ := x0
  simp only [E.val, E.k, E.s, E.n, E.kids, Nat.zero_mul, Nat.add_zero] at a0 a1 a2 a3 H0c
  rw [← HMC.out, ← HMR.out] at H0c
  obtain ⟨⟨ak, an, az⟩, ae⟩ := q0
  generalize xl.length = xm at *
  clear hz0 hA hAc hAr ew1 h1 h2 h3 H0 hK0 emc emr hb1
  simp only at hz hae
  go_enter Try.func53, Try.ntmps53
  go_upto_region 1 with (fail)
  rw [← HW1.out]
  obtain ⟨t0, t1, t2, t3⟩ := HE.out
  go_wp2_with fail
  refine (H0c.out).mono ?_
  rintro e w4 ⟨rfl, hb4⟩
  clear t0 t1 t2 t3
  obtain ⟨HB5, HBW, hs5⟩ := boxed HB1 hB hb4 hws ak an az
  have HS4 : Hid (w4.cell? ⟨w.heap.size, 1, none⟩ = some (.string s) ∧ w4.cell? ⟨w.heap.size, 3, none⟩ = some (.slice (some ⟨b, o, none⟩) 2 c)) := Lib.hid ⟨(hb4.cell (p := ⟨w.heap.size, 1, none⟩) (show w.heap.size < _ by omega)).trans HE.out.2.1, (hb4.cell (p := ⟨w.heap.size, 3, none⟩) (show w.heap.size < _ by omega)).trans HE.out.2.2.2⟩
  have hy : (ae != 0) = false := by rw [hae]; rfl
  have hs' : (s.toList == [105, 102]) = false := by simpa [opIf] using hsi
  obtain ⟨d1, d3⟩ := HS4.out
  have d5 : (w4.alloc (.cells #[.int .i64 ak, .int .i64 an, .string az] 29)).cell? ⟨w.heap.size, 1, none⟩ = some (.string s) := (((Below.refl w4.heap.size w4).alloc (Nat.le_refl _) _).cell (p := ⟨w.heap.size, 1, none⟩) (show w.heap.size < _ by omega)).trans d1
  go_upto_region 17 with (fail)
  clear d5
  obtain ⟨w6, ew6⟩ : ∃ w6, w6 = (w4.alloc (.cells #[.int .i64 ak, .int .i64 an, .string az] 29)).alloc (.cells #[.int .i64 0, .int .i64 0, .string ⟨#[]⟩] 29) := ⟨_, rfl⟩
  rw [← ew6]
  have hb46 : Below w4.heap.size w4 w6 := by rw [ew6]; exact ((Below.refl _ _).alloc (Nat.le_refl _) _).alloc (by simp) _
  have hb6 : Below w1.heap.size w1 w6 := hb4.trans (hb46.mono hb4.size)
  have hs6 : w6.heap.size = w4.heap.size + 2 := by rw [ew6]; simp
  have HPA : Hid (w6.heap[w4.heap.size]? = some (.cells #[.int .i64 ak, .int .i64 an, .string az] 29 (0, 0))) := Lib.hid (by rw [ew6, Below.heap_alloc _ _ _ (by simp)]; exact heap_alloc_new w4 _)
  have HPB : Hid (w6.heap[w4.heap.size + 1]? = some (.cells #[.int .i64 0, .int .i64 0, .string ⟨#[]⟩] 29 (0, 0))) := Lib.hid (by
    rw [ew6]
    have := heap_alloc_new (w4.alloc (.cells #[.int .i64 ak, .int .i64 an, .string az] 29)) (.cells #[.int .i64 0, .int .i64 0, .string ⟨#[]⟩] 29)
    simpa using this)
  have HR6 : Hid (w6.heap[w.heap.size + 1]? = some (.cells #[.int .i64 0, .int .i64 0, .string ⟨#[]⟩] 29 (0, 0))) := Lib.hid (keep_ hb6 hB.out (by omega))
  have HBW6 := Lib.hid (HB1.out.trans (hb6.mono (by omega)))
  have e1 : w6.cell? ⟨w.heap.size, 1, none⟩ = some (.string s) := (hb46.cell (p := ⟨w.heap.size, 1, none⟩) (show w.heap.size < _ by omega)).trans d1
  have e3 : w6.cell? ⟨w.heap.size, 3, none⟩ = some (.slice (some ⟨b, o, none⟩) 2 c) := (hb46.cell (p := ⟨w.heap.size, 3, none⟩) (show w.heap.size < _ by omega)).trans d3
  obtain ⟨b', o', A1, e1', hb', _, y0, y1, y2, y3, hK1⟩ := HA.out.get_ _ hb6 1 x1 rfl
  injection hb' with hb'
  injection hb' with hbb hoo
  subst hbb hoo
  have H1c := Lib.hid (H1 A1 Ac Ar e1' cc cr w6 hK1 ((HC.out.below hb6).more hb6.size) ((HR.out.below hb6).more hb6.size))
  obtain ⟨yk, ys, yn, yl⟩ := x1
  simp only [E.val, E.k, E.s, E.n, E.kids, Nat.one_mul] at y0 y1 y2 y3 H1c
  rw [← HMC.out, ← HMR.out] at H1c
  generalize yl.length = ym at *
  obtain ⟨⟨bk, bn, bs⟩, be⟩ := q1
  have hs4 := hb4.size
  clear ew6 hb4 hb46 hb6 H0c d1 d3 a0 a1 a2 a3 hK1 H1 HS4 HB5 HBW
  go_wp2_with fail
  refine (H1c.out).mono ?_
  rintro e w7 ⟨rfl, hb7⟩
  have hs7 := hb7.size
  have HPB7 : Hid (w7.heap[w4.heap.size + 1]? = some (.cells #[.int .i64 0, .int .i64 0, .string ⟨#[]⟩] 29 (0, 0))) := Lib.hid (keep_ hb7 HPB.out (by omega))
  obtain ⟨⟨p0, p1, p2⟩, p3, p4, p5⟩ := cell3 HPB7.out
  clear y0 y1 y2 y3 H1c
  go_upto_region 19 with (fail)
  obtain ⟨w8, ew8⟩ : ∃ w8, w8 = put3 w7 (w4.heap.size + 1) (.int .i64 bk) (.int .i64 bn) (.string bs) := ⟨_, rfl⟩
  have hs8 : w8.heap.size = w7.heap.size := by rw [ew8]; simp [put3, World.setCell]
  have hb78 : ∀ p, p ≠ w4.heap.size + 1 → w8.heap[p]? = w7.heap[p]? := fun p hp => by
    rw [ew8]; unfold put3
    rw [Below.heap_setCell _ _ _ _ hp, Below.heap_setCell _ _ _ _ hp, Below.heap_setCell _ _ _ _ hp]
  have HPB8 : Hid (w8.heap[w4.heap.size + 1]? = some (.cells #[.int .i64 bk, .int .i64 bn, .string bs] 29 (0, 0))) := Lib.hid (by rw [ew8]; exact put3_block HPB7.out)
  have HPA8 : Hid (w8.heap[w4.heap.size]? = some (.cells #[.int .i64 ak, .int .i64 an, .string az] 29 (0, 0))) := Lib.hid ((hb78 _ (by omega)).trans (keep_ hb7 HPA.out (by omega)))
  have HR8 : Hid (w8.heap[w.heap.size + 1]? = some (.cells #[.int .i64 0, .int .i64 0, .string ⟨#[]⟩] 29 (0, 0))) := Lib.hid ((hb78 _ (by omega)).trans (keep_ hb7 HR6.out (by omega)))
  have HBW8 : Hid (Below w.heap.size w w8) := Lib.hid (by rw [ew8]; exact put3_below (HBW6.out.trans (hb7.mono (by omega))) (by omega))
  have e8 : w8.cell? ⟨w.heap.size, 1, none⟩ = some (.string s) := (World.cell?_of_block (hb78 _ (by show w.heap.size ≠ _; omega))).trans ((hb7.cell (p := ⟨w.heap.size, 1, none⟩) (show w.heap.size < _ by omega)).trans e1)
  unfold put3 at ew8
  rw [← ew8]
  clear ew8 hb78 hb7 e1 e3 p0 p1 p2 p3 p4 p5 HPB7 HPA HPB HR6 HBW6
  have hy2 : (be != 0) = false := by rw [hbe]; rfl
  obtain ⟨⟨p0, p1, p2⟩, p3, p4, p5⟩ := cell3 HPA8.out
  obtain ⟨⟨z0, z1, z2⟩, z3, z4, z5⟩ := cell3 HPB8.out
  obtain ⟨⟨k0, k1, k2⟩, f0, f1, f2⟩ := cell3 HR8.out
  clear hsi
  cases hq : (an != 0)
  · go_wp2_with fail
    refine (ref_truth false _).mono ?_
    rintro e wb ⟨rfl, hbb⟩
    have hsb := hbb.size
    have HRb := Lib.hid (keep_ hbb HR8.out (by omega))
    have HBWb := Lib.hid (HBW8.out.trans (hbb.mono (by omega)))
    clear hbb
    have hz2 : Hid (Q = (truthV false, 0)) := Lib.hid (by rw [hz.out, hq]; rfl)
    obtain ⟨⟨k0, k1, k2⟩, f0, f1, f2⟩ := cell3 HRb.out
    go_wp2_with fail
    refine bodyPost_ret (results_two rfl rfl rfl (put3_block HRb.out)) rfl ?_
    exact ⟨by rw [hz2.out]; rfl, put3_below HBWb.out (Nat.le_succ _)⟩
  · go_wp2_with fail
    refine (ref_truth (bn != 0) _).mono ?_
    rintro e wb ⟨rfl, hbb⟩
    have hsb := hbb.size
    have HRb := Lib.hid (keep_ hbb HR8.out (by omega))
    have HBWb := Lib.hid (HBW8.out.trans (hbb.mono (by omega)))
    clear hbb
    have hz2 : Hid (Q = (truthV (bn != 0), 0)) := Lib.hid (by rw [hz.out, hq]; rfl)
    obtain ⟨⟨k0, k1, k2⟩, f0, f1, f2⟩ := cell3 HRb.out
    go_wp2_with fail
    refine bodyPost_ret (results_two rfl rfl rfl (put3_block HRb.out)) rfl ?_
    exact ⟨by rw [hz2.out]; rfl, put3_below HBWb.out (Nat.le_succ _)⟩
set_option maxRecDepth 100000 in
set_option maxHeartbeats 2000000 in
theorem refEval_Or (cols : List C) (r : List V) (k : Int) (s : ByteArray) (n : Int) (x0 x1 : E) (h1 : k ≠ 1) (h2 : k ≠ 2) (h3 : k ≠ 3) (q0 q1 : V × Int)
    (H0 : ∀ (A' Ac Ar : Option Addr) (c' cc cr : Nat) (w' : World), EKids w' w'.heap.size A' x0.kids → CRow w' w'.heap.size Ac cols → VRow w' w'.heap.size Ar r → Calls Try.prog 53 #[x0.val A' c', .slice Ac cols.length cc, .slice Ar r.length cr] w' fun res w'' => res = .returned (.tuple #[.agg #[.int .i64 q0.1.k, .int .i64 q0.1.n, .string q0.1.s], .int .i64 q0.2]) ∧ Below w'.heap.size w' w'')
    (H1 : ∀ (A' Ac Ar : Option Addr) (c' cc cr : Nat) (w' : World), EKids w' w'.heap.size A' x1.kids → CRow w' w'.heap.size Ac cols → VRow w' w'.heap.size Ar r → Calls Try.prog 53 #[x1.val A' c', .slice Ac cols.length cc, .slice Ar r.length cr] w' fun res w'' => res = .returned (.tuple #[.agg #[.int .i64 q1.1.k, .int .i64 q1.1.n, .string q1.1.s], .int .i64 q1.2]) ∧ Below w'.heap.size w' w'')
    (Q : V × Int) (hz0 : Q = (truthV (q0.1.n != 0 || q1.1.n != 0), 0)) (hae : q0.2 = 0) (hbe : q1.2 = 0) (hop : s.toList = [111, 114])
    (A Ac Ar : Option Addr) (c cc cr : Nat) (w : World) (hA : EKids w w.heap.size A [x0, x1]) (hAc : CRow w w.heap.size Ac cols) (hAr : VRow w w.heap.size Ar r) :
    Calls Try.prog 53 #[(E.mk k s n [x0, x1]).val A c, .slice Ac cols.length cc, .slice Ar r.length cr] w fun res w' => res = .returned (.tuple #[.agg #[.int .i64 Q.1.k, .int .i64 Q.1.n, .string Q.1.s], .int .i64 Q.2]) ∧ Below w.heap.size w w' := by
  have hsi : s.toList ≠ opIf := by rw [hop]; decide
  simp only [E.val, E.k, E.s, E.n, E.kids, List.length_cons, List.length_nil, Nat.zero_add, Nat.reduceAdd] at hA ⊢
  obtain ⟨w1, ew1⟩ : ∃ w1, w1 = (w.alloc (.cells #[.int .i64 k, .string s, .int .i64 n, .slice A 2 c] 35)).alloc (.cells #[.int .i64 0, .int .i64 0, .string ⟨#[]⟩] 29) := ⟨_, rfl⟩
  have hb1 : Below w.heap.size w w1 := by rw [ew1]; exact ((Below.refl _ _).alloc (Nat.le_refl _) _).alloc (by simp) _
  have HB1 := Lib.hid hb1
  have hws : w1.heap.size = w.heap.size + 2 := by rw [ew1]; simp
  have hB : Hid (w1.heap[w.heap.size + 1]? = some (.cells #[.int .i64 0, .int .i64 0, .string ⟨#[]⟩] 29 (0, 0))) := Lib.hid (by
    rw [ew1]
    have := heap_alloc_new (w.alloc (.cells #[.int .i64 k, .string s, .int .i64 n, .slice A 2 c] 35)) (.cells #[.int .i64 0, .int .i64 0, .string ⟨#[]⟩] 29)
    simpa using this)
  have HE : Hid (w1.cell? ⟨w.heap.size, 0, none⟩ = some (.int .i64 k) ∧ w1.cell? ⟨w.heap.size, 1, none⟩ = some (.string s) ∧ w1.cell? ⟨w.heap.size, 2, none⟩ = some (.int .i64 n) ∧ w1.cell? ⟨w.heap.size, 3, none⟩ = some (.slice A 2 c)) := Lib.hid (by rw [ew1]; simp)
  have HW1 := Lib.hid ew1
  have HA := Lib.hid ((hA.low hb1).more hb1.size)
  have HC := Lib.hid ((hAc.below hb1).more hb1.size)
  have HR := Lib.hid ((hAr.below hb1).more hb1.size)
  have hz := Lib.hid hz0
  have h1' : (k == 1) = false := by simpa using h1
  have h2' : (k == 2) = false := by simpa using h2
  have h3' : (k == 3) = false := by simpa using h3
  obtain ⟨mc, emc⟩ : ∃ m, m = cols.length := ⟨_, rfl⟩
  obtain ⟨mr, emr⟩ : ∃ m, m = r.length := ⟨_, rfl⟩
  have HMC := Lib.hid emc
  have HMR := Lib.hid emr
  rw [← emc, ← emr]
  obtain ⟨b, o, A0, e0, rfl, hlt, a0, a1, a2, a3, hK0⟩ := HA.out.get_ w1 (Below.refl _ _) 0 x0 rfl
  have hx0 : (0 : Int) < 2 := by omega
  have hx1 : (1 : Int) < 2 := by omega
  have H0c := Lib.hid (H0 A0 Ac Ar e0 cc cr w1 hK0 HC.out HR.out)
  obtain ⟨xk, xs, xn, xl⟩ := x0
  simp only [E.val, E.k, E.s, E.n, E.kids, Nat.zero_mul, Nat.add_zero] at a0 a1 a2 a3 H0c
  rw [← HMC.out, ← HMR.out] at H0c
  obtain ⟨⟨ak, an, az⟩, ae⟩ := q0
  generalize xl.length = xm at *
  clear hz0 hA hAc hAr ew1 h1 h2 h3 H0 hK0 emc emr hb1
  simp only at hz hae
  go_enter Try.func53, Try.ntmps53
  go_upto_region 1 with (fail)
  rw [← HW1.out]
  obtain ⟨t0, t1, t2, t3⟩ := HE.out
  go_wp2_with fail
  refine (H0c.out).mono ?_
  rintro e w4 ⟨rfl, hb4⟩
  clear t0 t1 t2 t3
  obtain ⟨HB5, HBW, hs5⟩ := boxed HB1 hB hb4 hws ak an az
  have HS4 : Hid (w4.cell? ⟨w.heap.size, 1, none⟩ = some (.string s) ∧ w4.cell? ⟨w.heap.size, 3, none⟩ = some (.slice (some ⟨b, o, none⟩) 2 c)) := Lib.hid ⟨(hb4.cell (p := ⟨w.heap.size, 1, none⟩) (show w.heap.size < _ by omega)).trans HE.out.2.1, (hb4.cell (p := ⟨w.heap.size, 3, none⟩) (show w.heap.size < _ by omega)).trans HE.out.2.2.2⟩
  have hy : (ae != 0) = false := by rw [hae]; rfl
  have hs' : (s.toList == [105, 102]) = false := by simpa [opIf] using hsi
  obtain ⟨d1, d3⟩ := HS4.out
  have d5 : (w4.alloc (.cells #[.int .i64 ak, .int .i64 an, .string az] 29)).cell? ⟨w.heap.size, 1, none⟩ = some (.string s) := (((Below.refl w4.heap.size w4).alloc (Nat.le_refl _) _).cell (p := ⟨w.heap.size, 1, none⟩) (show w.heap.size < _ by omega)).trans d1
  go_upto_region 17 with (fail)
  clear d5
  obtain ⟨w6, ew6⟩ : ∃ w6, w6 = (w4.alloc (.cells #[.int .i64 ak, .int .i64 an, .string az] 29)).alloc (.cells #[.int .i64 0, .int .i64 0, .string ⟨#[]⟩] 29) := ⟨_, rfl⟩
  rw [← ew6]
  have hb46 : Below w4.heap.size w4 w6 := by rw [ew6]; exact ((Below.refl _ _).alloc (Nat.le_refl _) _).alloc (by simp) _
  have hb6 : Below w1.heap.size w1 w6 := hb4.trans (hb46.mono hb4.size)
  have hs6 : w6.heap.size = w4.heap.size + 2 := by rw [ew6]; simp
  have HPA : Hid (w6.heap[w4.heap.size]? = some (.cells #[.int .i64 ak, .int .i64 an, .string az] 29 (0, 0))) := Lib.hid (by rw [ew6, Below.heap_alloc _ _ _ (by simp)]; exact heap_alloc_new w4 _)
  have HPB : Hid (w6.heap[w4.heap.size + 1]? = some (.cells #[.int .i64 0, .int .i64 0, .string ⟨#[]⟩] 29 (0, 0))) := Lib.hid (by
    rw [ew6]
    have := heap_alloc_new (w4.alloc (.cells #[.int .i64 ak, .int .i64 an, .string az] 29)) (.cells #[.int .i64 0, .int .i64 0, .string ⟨#[]⟩] 29)
    simpa using this)
  have HR6 : Hid (w6.heap[w.heap.size + 1]? = some (.cells #[.int .i64 0, .int .i64 0, .string ⟨#[]⟩] 29 (0, 0))) := Lib.hid (keep_ hb6 hB.out (by omega))
  have HBW6 := Lib.hid (HB1.out.trans (hb6.mono (by omega)))
  have e1 : w6.cell? ⟨w.heap.size, 1, none⟩ = some (.string s) := (hb46.cell (p := ⟨w.heap.size, 1, none⟩) (show w.heap.size < _ by omega)).trans d1
  have e3 : w6.cell? ⟨w.heap.size, 3, none⟩ = some (.slice (some ⟨b, o, none⟩) 2 c) := (hb46.cell (p := ⟨w.heap.size, 3, none⟩) (show w.heap.size < _ by omega)).trans d3
  obtain ⟨b', o', A1, e1', hb', _, y0, y1, y2, y3, hK1⟩ := HA.out.get_ _ hb6 1 x1 rfl
  injection hb' with hb'
  injection hb' with hbb hoo
  subst hbb hoo
  have H1c := Lib.hid (H1 A1 Ac Ar e1' cc cr w6 hK1 ((HC.out.below hb6).more hb6.size) ((HR.out.below hb6).more hb6.size))
  obtain ⟨yk, ys, yn, yl⟩ := x1
  simp only [E.val, E.k, E.s, E.n, E.kids, Nat.one_mul] at y0 y1 y2 y3 H1c
  rw [← HMC.out, ← HMR.out] at H1c
  generalize yl.length = ym at *
  obtain ⟨⟨bk, bn, bs⟩, be⟩ := q1
  have hs4 := hb4.size
  clear ew6 hb4 hb46 hb6 H0c d1 d3 a0 a1 a2 a3 hK1 H1 HS4 HB5 HBW
  go_wp2_with fail
  refine (H1c.out).mono ?_
  rintro e w7 ⟨rfl, hb7⟩
  have hs7 := hb7.size
  have HPB7 : Hid (w7.heap[w4.heap.size + 1]? = some (.cells #[.int .i64 0, .int .i64 0, .string ⟨#[]⟩] 29 (0, 0))) := Lib.hid (keep_ hb7 HPB.out (by omega))
  obtain ⟨⟨p0, p1, p2⟩, p3, p4, p5⟩ := cell3 HPB7.out
  clear y0 y1 y2 y3 H1c
  go_upto_region 19 with (fail)
  obtain ⟨w8, ew8⟩ : ∃ w8, w8 = put3 w7 (w4.heap.size + 1) (.int .i64 bk) (.int .i64 bn) (.string bs) := ⟨_, rfl⟩
  have hs8 : w8.heap.size = w7.heap.size := by rw [ew8]; simp [put3, World.setCell]
  have hb78 : ∀ p, p ≠ w4.heap.size + 1 → w8.heap[p]? = w7.heap[p]? := fun p hp => by
    rw [ew8]; unfold put3
    rw [Below.heap_setCell _ _ _ _ hp, Below.heap_setCell _ _ _ _ hp, Below.heap_setCell _ _ _ _ hp]
  have HPB8 : Hid (w8.heap[w4.heap.size + 1]? = some (.cells #[.int .i64 bk, .int .i64 bn, .string bs] 29 (0, 0))) := Lib.hid (by rw [ew8]; exact put3_block HPB7.out)
  have HPA8 : Hid (w8.heap[w4.heap.size]? = some (.cells #[.int .i64 ak, .int .i64 an, .string az] 29 (0, 0))) := Lib.hid ((hb78 _ (by omega)).trans (keep_ hb7 HPA.out (by omega)))
  have HR8 : Hid (w8.heap[w.heap.size + 1]? = some (.cells #[.int .i64 0, .int .i64 0, .string ⟨#[]⟩] 29 (0, 0))) := Lib.hid ((hb78 _ (by omega)).trans (keep_ hb7 HR6.out (by omega)))
  have HBW8 : Hid (Below w.heap.size w w8) := Lib.hid (by rw [ew8]; exact put3_below (HBW6.out.trans (hb7.mono (by omega))) (by omega))
  have e8 : w8.cell? ⟨w.heap.size, 1, none⟩ = some (.string s) := (World.cell?_of_block (hb78 _ (by show w.heap.size ≠ _; omega))).trans ((hb7.cell (p := ⟨w.heap.size, 1, none⟩) (show w.heap.size < _ by omega)).trans e1)
  unfold put3 at ew8
  rw [← ew8]
  clear ew8 hb78 hb7 e1 e3 p0 p1 p2 p3 p4 p5 HPB7 HPA HPB HR6 HBW6
  have hy2 : (be != 0) = false := by rw [hbe]; rfl
  obtain ⟨⟨p0, p1, p2⟩, p3, p4, p5⟩ := cell3 HPA8.out
  obtain ⟨⟨z0, z1, z2⟩, z3, z4, z5⟩ := cell3 HPB8.out
  obtain ⟨⟨k0, k1, k2⟩, f0, f1, f2⟩ := cell3 HR8.out
  clear hsi
  cases hq : (an != 0)
  · go_wp2_with fail
    refine (ref_truth (bn != 0) _).mono ?_
    rintro e wb ⟨rfl, hbb⟩
    have hsb := hbb.size
    have HRb := Lib.hid (keep_ hbb HR8.out (by omega))
    have HBWb := Lib.hid (HBW8.out.trans (hbb.mono (by omega)))
    clear hbb
    have hz2 : Hid (Q = (truthV (bn != 0), 0)) := Lib.hid (by rw [hz.out, hq]; rfl)
    obtain ⟨⟨k0, k1, k2⟩, f0, f1, f2⟩ := cell3 HRb.out
    go_wp2_with fail
    refine bodyPost_ret (results_two rfl rfl rfl (put3_block HRb.out)) rfl ?_
    exact ⟨by rw [hz2.out]; rfl, put3_below HBWb.out (Nat.le_succ _)⟩
  · go_wp2_with fail
    refine (ref_truth true _).mono ?_
    rintro e wb ⟨rfl, hbb⟩
    have hsb := hbb.size
    have HRb := Lib.hid (keep_ hbb HR8.out (by omega))
    have HBWb := Lib.hid (HBW8.out.trans (hbb.mono (by omega)))
    clear hbb
    have hz2 : Hid (Q = (truthV true, 0)) := Lib.hid (by rw [hz.out, hq]; rfl)
    obtain ⟨⟨k0, k1, k2⟩, f0, f1, f2⟩ := cell3 HRb.out
    go_wp2_with fail
    refine bodyPost_ret (results_two rfl rfl rfl (put3_block HRb.out)) rfl ?_
    exact ⟨by rw [hz2.out]; rfl, put3_below HBWb.out (Nat.le_succ _)⟩
set_option maxRecDepth 100000 in
set_option maxHeartbeats 2000000 in
theorem refEval_Cat (cols : List C) (r : List V) (k : Int) (s : ByteArray) (n : Int) (x0 x1 : E) (h1 : k ≠ 1) (h2 : k ≠ 2) (h3 : k ≠ 3) (q0 q1 : V × Int)
    (H0 : ∀ (A' Ac Ar : Option Addr) (c' cc cr : Nat) (w' : World), EKids w' w'.heap.size A' x0.kids → CRow w' w'.heap.size Ac cols → VRow w' w'.heap.size Ar r → Calls Try.prog 53 #[x0.val A' c', .slice Ac cols.length cc, .slice Ar r.length cr] w' fun res w'' => res = .returned (.tuple #[.agg #[.int .i64 q0.1.k, .int .i64 q0.1.n, .string q0.1.s], .int .i64 q0.2]) ∧ Below w'.heap.size w' w'')
    (H1 : ∀ (A' Ac Ar : Option Addr) (c' cc cr : Nat) (w' : World), EKids w' w'.heap.size A' x1.kids → CRow w' w'.heap.size Ac cols → VRow w' w'.heap.size Ar r → Calls Try.prog 53 #[x1.val A' c', .slice Ac cols.length cc, .slice Ar r.length cr] w' fun res w'' => res = .returned (.tuple #[.agg #[.int .i64 q1.1.k, .int .i64 q1.1.n, .string q1.1.s], .int .i64 q1.2]) ∧ Below w'.heap.size w' w'')
    (Q : V × Int) (hz0 : Q = if 40 < q0.1.s.size + q1.1.s.size then (zeroV, 3) else (strV (q0.1.s ++ q1.1.s), 0)) (hsz : q0.1.s.size ≤ 1048576 ∧ q1.1.s.size ≤ 1048576) (hae : q0.2 = 0) (hbe : q1.2 = 0) (hop : s.toList = [99, 97, 116])
    (A Ac Ar : Option Addr) (c cc cr : Nat) (w : World) (hA : EKids w w.heap.size A [x0, x1]) (hAc : CRow w w.heap.size Ac cols) (hAr : VRow w w.heap.size Ar r) :
    Calls Try.prog 53 #[(E.mk k s n [x0, x1]).val A c, .slice Ac cols.length cc, .slice Ar r.length cr] w fun res w' => res = .returned (.tuple #[.agg #[.int .i64 Q.1.k, .int .i64 Q.1.n, .string Q.1.s], .int .i64 Q.2]) ∧ Below w.heap.size w w' := by
  have hsi : s.toList ≠ opIf := by rw [hop]; decide
  simp only [E.val, E.k, E.s, E.n, E.kids, List.length_cons, List.length_nil, Nat.zero_add, Nat.reduceAdd] at hA ⊢
  obtain ⟨w1, ew1⟩ : ∃ w1, w1 = (w.alloc (.cells #[.int .i64 k, .string s, .int .i64 n, .slice A 2 c] 35)).alloc (.cells #[.int .i64 0, .int .i64 0, .string ⟨#[]⟩] 29) := ⟨_, rfl⟩
  have hb1 : Below w.heap.size w w1 := by rw [ew1]; exact ((Below.refl _ _).alloc (Nat.le_refl _) _).alloc (by simp) _
  have HB1 := Lib.hid hb1
  have hws : w1.heap.size = w.heap.size + 2 := by rw [ew1]; simp
  have hB : Hid (w1.heap[w.heap.size + 1]? = some (.cells #[.int .i64 0, .int .i64 0, .string ⟨#[]⟩] 29 (0, 0))) := Lib.hid (by
    rw [ew1]
    have := heap_alloc_new (w.alloc (.cells #[.int .i64 k, .string s, .int .i64 n, .slice A 2 c] 35)) (.cells #[.int .i64 0, .int .i64 0, .string ⟨#[]⟩] 29)
    simpa using this)
  have HE : Hid (w1.cell? ⟨w.heap.size, 0, none⟩ = some (.int .i64 k) ∧ w1.cell? ⟨w.heap.size, 1, none⟩ = some (.string s) ∧ w1.cell? ⟨w.heap.size, 2, none⟩ = some (.int .i64 n) ∧ w1.cell? ⟨w.heap.size, 3, none⟩ = some (.slice A 2 c)) := Lib.hid (by rw [ew1]; simp)
  have HW1 := Lib.hid ew1
  have HA := Lib.hid ((hA.low hb1).more hb1.size)
  have HC := Lib.hid ((hAc.below hb1).more hb1.size)
  have HR := Lib.hid ((hAr.below hb1).more hb1.size)
  have hz := Lib.hid hz0
  have h1' : (k == 1) = false := by simpa using h1
  have h2' : (k == 2) = false := by simpa using h2
  have h3' : (k == 3) = false := by simpa using h3
  obtain ⟨mc, emc⟩ : ∃ m, m = cols.length := ⟨_, rfl⟩
  obtain ⟨mr, emr⟩ : ∃ m, m = r.length := ⟨_, rfl⟩
  have HMC := Lib.hid emc
  have HMR := Lib.hid emr
  rw [← emc, ← emr]
  obtain ⟨b, o, A0, e0, rfl, hlt, a0, a1, a2, a3, hK0⟩ := HA.out.get_ w1 (Below.refl _ _) 0 x0 rfl
  have hx0 : (0 : Int) < 2 := by omega
  have hx1 : (1 : Int) < 2 := by omega
  have H0c := Lib.hid (H0 A0 Ac Ar e0 cc cr w1 hK0 HC.out HR.out)
  obtain ⟨xk, xs, xn, xl⟩ := x0
  simp only [E.val, E.k, E.s, E.n, E.kids, Nat.zero_mul, Nat.add_zero] at a0 a1 a2 a3 H0c
  rw [← HMC.out, ← HMR.out] at H0c
  obtain ⟨⟨ak, an, az⟩, ae⟩ := q0
  generalize xl.length = xm at *
  clear hz0 hA hAc hAr ew1 h1 h2 h3 H0 hK0 emc emr hb1
  simp only at hz hae hsz
  go_enter Try.func53, Try.ntmps53
  go_upto_region 1 with (fail)
  rw [← HW1.out]
  obtain ⟨t0, t1, t2, t3⟩ := HE.out
  go_wp2_with fail
  refine (H0c.out).mono ?_
  rintro e w4 ⟨rfl, hb4⟩
  clear t0 t1 t2 t3
  obtain ⟨HB5, HBW, hs5⟩ := boxed HB1 hB hb4 hws ak an az
  have HS4 : Hid (w4.cell? ⟨w.heap.size, 1, none⟩ = some (.string s) ∧ w4.cell? ⟨w.heap.size, 3, none⟩ = some (.slice (some ⟨b, o, none⟩) 2 c)) := Lib.hid ⟨(hb4.cell (p := ⟨w.heap.size, 1, none⟩) (show w.heap.size < _ by omega)).trans HE.out.2.1, (hb4.cell (p := ⟨w.heap.size, 3, none⟩) (show w.heap.size < _ by omega)).trans HE.out.2.2.2⟩
  have hy : (ae != 0) = false := by rw [hae]; rfl
  have hs' : (s.toList == [105, 102]) = false := by simpa [opIf] using hsi
  obtain ⟨d1, d3⟩ := HS4.out
  have d5 : (w4.alloc (.cells #[.int .i64 ak, .int .i64 an, .string az] 29)).cell? ⟨w.heap.size, 1, none⟩ = some (.string s) := (((Below.refl w4.heap.size w4).alloc (Nat.le_refl _) _).cell (p := ⟨w.heap.size, 1, none⟩) (show w.heap.size < _ by omega)).trans d1
  go_upto_region 17 with (fail)
  clear d5
  obtain ⟨w6, ew6⟩ : ∃ w6, w6 = (w4.alloc (.cells #[.int .i64 ak, .int .i64 an, .string az] 29)).alloc (.cells #[.int .i64 0, .int .i64 0, .string ⟨#[]⟩] 29) := ⟨_, rfl⟩
  rw [← ew6]
  have hb46 : Below w4.heap.size w4 w6 := by rw [ew6]; exact ((Below.refl _ _).alloc (Nat.le_refl _) _).alloc (by simp) _
  have hb6 : Below w1.heap.size w1 w6 := hb4.trans (hb46.mono hb4.size)
  have hs6 : w6.heap.size = w4.heap.size + 2 := by rw [ew6]; simp
  have HPA : Hid (w6.heap[w4.heap.size]? = some (.cells #[.int .i64 ak, .int .i64 an, .string az] 29 (0, 0))) := Lib.hid (by rw [ew6, Below.heap_alloc _ _ _ (by simp)]; exact heap_alloc_new w4 _)
  have HPB : Hid (w6.heap[w4.heap.size + 1]? = some (.cells #[.int .i64 0, .int .i64 0, .string ⟨#[]⟩] 29 (0, 0))) := Lib.hid (by
    rw [ew6]
    have := heap_alloc_new (w4.alloc (.cells #[.int .i64 ak, .int .i64 an, .string az] 29)) (.cells #[.int .i64 0, .int .i64 0, .string ⟨#[]⟩] 29)
    simpa using this)
  have HR6 : Hid (w6.heap[w.heap.size + 1]? = some (.cells #[.int .i64 0, .int .i64 0, .string ⟨#[]⟩] 29 (0, 0))) := Lib.hid (keep_ hb6 hB.out (by omega))
  have HBW6 := Lib.hid (HB1.out.trans (hb6.mono (by omega)))
  have e1 : w6.cell? ⟨w.heap.size, 1, none⟩ = some (.string s) := (hb46.cell (p := ⟨w.heap.size, 1, none⟩) (show w.heap.size < _ by omega)).trans d1
  have e3 : w6.cell? ⟨w.heap.size, 3, none⟩ = some (.slice (some ⟨b, o, none⟩) 2 c) := (hb46.cell (p := ⟨w.heap.size, 3, none⟩) (show w.heap.size < _ by omega)).trans d3
  obtain ⟨b', o', A1, e1', hb', _, y0, y1, y2, y3, hK1⟩ := HA.out.get_ _ hb6 1 x1 rfl
  injection hb' with hb'
  injection hb' with hbb hoo
  subst hbb hoo
  have H1c := Lib.hid (H1 A1 Ac Ar e1' cc cr w6 hK1 ((HC.out.below hb6).more hb6.size) ((HR.out.below hb6).more hb6.size))
  obtain ⟨yk, ys, yn, yl⟩ := x1
  simp only [E.val, E.k, E.s, E.n, E.kids, Nat.one_mul] at y0 y1 y2 y3 H1c
  rw [← HMC.out, ← HMR.out] at H1c
  generalize yl.length = ym at *
  obtain ⟨⟨bk, bn, bs⟩, be⟩ := q1
  have hs4 := hb4.size
  clear ew6 hb4 hb46 hb6 H0c d1 d3 a0 a1 a2 a3 hK1 H1 HS4 HB5 HBW
  go_wp2_with fail
  refine (H1c.out).mono ?_
  rintro e w7 ⟨rfl, hb7⟩
  have hs7 := hb7.size
  have HPB7 : Hid (w7.heap[w4.heap.size + 1]? = some (.cells #[.int .i64 0, .int .i64 0, .string ⟨#[]⟩] 29 (0, 0))) := Lib.hid (keep_ hb7 HPB.out (by omega))
  obtain ⟨⟨p0, p1, p2⟩, p3, p4, p5⟩ := cell3 HPB7.out
  clear y0 y1 y2 y3 H1c
  go_upto_region 19 with (fail)
  obtain ⟨w8, ew8⟩ : ∃ w8, w8 = put3 w7 (w4.heap.size + 1) (.int .i64 bk) (.int .i64 bn) (.string bs) := ⟨_, rfl⟩
  have hs8 : w8.heap.size = w7.heap.size := by rw [ew8]; simp [put3, World.setCell]
  have hb78 : ∀ p, p ≠ w4.heap.size + 1 → w8.heap[p]? = w7.heap[p]? := fun p hp => by
    rw [ew8]; unfold put3
    rw [Below.heap_setCell _ _ _ _ hp, Below.heap_setCell _ _ _ _ hp, Below.heap_setCell _ _ _ _ hp]
  have HPB8 : Hid (w8.heap[w4.heap.size + 1]? = some (.cells #[.int .i64 bk, .int .i64 bn, .string bs] 29 (0, 0))) := Lib.hid (by rw [ew8]; exact put3_block HPB7.out)
  have HPA8 : Hid (w8.heap[w4.heap.size]? = some (.cells #[.int .i64 ak, .int .i64 an, .string az] 29 (0, 0))) := Lib.hid ((hb78 _ (by omega)).trans (keep_ hb7 HPA.out (by omega)))
  have HR8 : Hid (w8.heap[w.heap.size + 1]? = some (.cells #[.int .i64 0, .int .i64 0, .string ⟨#[]⟩] 29 (0, 0))) := Lib.hid ((hb78 _ (by omega)).trans (keep_ hb7 HR6.out (by omega)))
  have HBW8 : Hid (Below w.heap.size w w8) := Lib.hid (by rw [ew8]; exact put3_below (HBW6.out.trans (hb7.mono (by omega))) (by omega))
  have e8 : w8.cell? ⟨w.heap.size, 1, none⟩ = some (.string s) := (World.cell?_of_block (hb78 _ (by show w.heap.size ≠ _; omega))).trans ((hb7.cell (p := ⟨w.heap.size, 1, none⟩) (show w.heap.size < _ by omega)).trans e1)
  unfold put3 at ew8
  rw [← ew8]
  clear ew8 hb78 hb7 e1 e3 p0 p1 p2 p3 p4 p5 HPB7 HPA HPB HR6 HBW6
  have hy2 : (be != 0) = false := by rw [hbe]; rfl
  obtain ⟨⟨p0, p1, p2⟩, p3, p4, p5⟩ := cell3 HPA8.out
  obtain ⟨⟨z0, z1, z2⟩, z3, z4, z5⟩ := cell3 HPB8.out
  obtain ⟨⟨k0, k1, k2⟩, f0, f1, f2⟩ := cell3 HR8.out
  clear hsi
  by_cases hlen : 40 < az.size + bs.size
  · have hd : decide (40 < (az.size : Int) + (bs.size : Int)) = true := by simp; omega
    have hz2 : Hid (Q = (zeroV, 3)) := Lib.hid (by rw [hz.out, if_pos hlen])
    go_wp2_with fail
    refine bodyPost_ret (results_two rfl rfl rfl (put3_block HR8.out)) rfl ?_
    exact ⟨by rw [hz2.out]; rfl, put3_below HBW8.out (Nat.le_succ _)⟩
  · have hd : decide (40 < (az.size : Int) + (bs.size : Int)) = false := by simp; omega
    have hz2 : Hid (Q = (strV (az ++ bs), 0)) := Lib.hid (by rw [hz.out, if_neg hlen])
    go_wp2_with fail
    refine bodyPost_ret (results_two rfl rfl rfl (put3_block HR8.out)) rfl ?_
    exact ⟨by rw [hz2.out]; rfl, put3_below HBW8.out (Nat.le_succ _)⟩
end Go.Proofs.Ytldleckgkgeclaa
