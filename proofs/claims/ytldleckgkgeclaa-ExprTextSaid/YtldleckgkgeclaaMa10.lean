/-
  The reference's eval: operations of one.
-/
import Derived.Test.YtldleckgkgeclaaMa8
import Derived.Deep.DeepCutAuto
import Derived.BigQuiet
import Derived.Test.YtldleckgkgeclaaMa9
import Derived.Test.YtldleckgkgeclaaMa0
set_option linter.unusedVariables false
set_option linter.unusedSimpArgs false
namespace Go.Proofs.Ytldleckgkgeclaa
open Go.RowKit
set_option maxRecDepth 100000 in
set_option maxHeartbeats 2000000 in
theorem refEval_Neg (cols : List C) (r : List V) (k : Int) (s : ByteArray) (n : Int) (x0 : E) (h1 : k ≠ 1) (h2 : k ≠ 2) (h3 : k ≠ 3) (q0 : V × Int)
    (H0 : ∀ (A' Ac Ar : Option Addr) (c' cc cr : Nat) (w' : World), EKids w' w'.heap.size A' x0.kids → CRow w' w'.heap.size Ac cols → VRow w' w'.heap.size Ar r → Calls Try.prog 53 #[x0.val A' c', .slice Ac cols.length cc, .slice Ar r.length cr] w' fun res w'' => res = .returned (.tuple #[.agg #[.int .i64 q0.1.k, .int .i64 q0.1.n, .string q0.1.s], .int .i64 q0.2]) ∧ Below w'.heap.size w' w'')
    (Q : V × Int) (rk : Int × Bool) (hz0 : Q = if rk.2 then (numV rk.1, 0) else (zeroV, 26)) (hsum0 : ∀ w, Calls Try.prog 97 #[.string s, .int .i64 q0.1.n, .int .i64 0] w (SumsEnd rk w)) (hae : q0.2 = 0) (hop : s.toList = [110, 101, 103])
    (A Ac Ar : Option Addr) (c cc cr : Nat) (w : World) (hA : EKids w w.heap.size A [x0]) (hAc : CRow w w.heap.size Ac cols) (hAr : VRow w w.heap.size Ar r) :
    Calls Try.prog 53 #[(E.mk k s n [x0]).val A c, .slice Ac cols.length cc, .slice Ar r.length cr] w fun res w' => res = .returned (.tuple #[.agg #[.int .i64 Q.1.k, .int .i64 Q.1.n, .string Q.1.s], .int .i64 Q.2]) ∧ Below w.heap.size w w' := by
  have hsi : s.toList ≠ opIf := by rw [hop]; decide
  simp only [E.val, E.k, E.s, E.n, E.kids, List.length_cons, List.length_nil, Nat.zero_add, Nat.reduceAdd] at hA ⊢
  obtain ⟨w1, ew1⟩ : ∃ w1, w1 = (w.alloc (.cells #[.int .i64 k, .string s, .int .i64 n, .slice A 1 c] 35)).alloc (.cells #[.int .i64 0, .int .i64 0, .string ⟨#[]⟩] 29) := ⟨_, rfl⟩
  have hb1 : Below w.heap.size w w1 := by rw [ew1]; exact ((Below.refl _ _).alloc (Nat.le_refl _) _).alloc (by simp) _
  have HB1 := Lib.hid hb1
  have hws : w1.heap.size = w.heap.size + 2 := by rw [ew1]; simp
  have hB : Hid (w1.heap[w.heap.size + 1]? = some (.cells #[.int .i64 0, .int .i64 0, .string ⟨#[]⟩] 29 (0, 0))) := Lib.hid (by
    rw [ew1]
    have := heap_alloc_new (w.alloc (.cells #[.int .i64 k, .string s, .int .i64 n, .slice A 1 c] 35)) (.cells #[.int .i64 0, .int .i64 0, .string ⟨#[]⟩] 29)
    simpa using this)
  have HE : Hid (w1.cell? ⟨w.heap.size, 0, none⟩ = some (.int .i64 k) ∧ w1.cell? ⟨w.heap.size, 1, none⟩ = some (.string s) ∧ w1.cell? ⟨w.heap.size, 2, none⟩ = some (.int .i64 n) ∧ w1.cell? ⟨w.heap.size, 3, none⟩ = some (.slice A 1 c)) := Lib.hid (by rw [ew1]; simp)
  have HW1 := Lib.hid ew1
  have HA := Lib.hid ((hA.low hb1).more hb1.size)
  have HC := Lib.hid ((hAc.below hb1).more hb1.size)
  have HR := Lib.hid ((hAr.below hb1).more hb1.size)
  have hz := Lib.hid hz0
  have hsum := Lib.hid hsum0
  have h1' : (k == 1) = false := by simpa using h1
  have h2' : (k == 2) = false := by simpa using h2
  have h3' : (k == 3) = false := by simpa using h3
  obtain ⟨mc, emc⟩ : ∃ m, m = cols.length := ⟨_, rfl⟩
  obtain ⟨mr, emr⟩ : ∃ m, m = r.length := ⟨_, rfl⟩
  have HMC := Lib.hid emc
  have HMR := Lib.hid emr
  rw [← emc, ← emr]
  obtain ⟨b, o, A0, e0, rfl, hlt, a0, a1, a2, a3, hK0⟩ := HA.out.get_ w1 (Below.refl _ _) 0 x0 rfl
  have hx0 : (0 : Int) < 1 := by omega
  have H0c := Lib.hid (H0 A0 Ac Ar e0 cc cr w1 hK0 HC.out HR.out)
  obtain ⟨xk, xs, xn, xl⟩ := x0
  simp only [E.val, E.k, E.s, E.n, E.kids, Nat.zero_mul, Nat.add_zero] at a0 a1 a2 a3 H0c
  rw [← HMC.out, ← HMR.out] at H0c
  obtain ⟨⟨ak, an, az⟩, ae⟩ := q0
  generalize xl.length = xm at *
  clear hz0 hsum0 hA hAc hAr ew1 h1 h2 h3 H0 hK0 emc emr hb1
  simp only at hz hae hsum
  go_enter Try.func53, Try.ntmps53
  go_upto_region 1 with (fail)
  rw [← HW1.out]
  obtain ⟨t0, t1, t2, t3⟩ := HE.out
  go_wp2_with fail
  refine (H0c.out).mono ?_
  rintro e w4 ⟨rfl, hb4⟩
  clear t0 t1 t2 t3
  obtain ⟨HB5, HBW, hs5⟩ := boxed HB1 hB hb4 hws ak an az
  have HS4 : Hid (w4.cell? ⟨w.heap.size, 1, none⟩ = some (.string s) ∧ w4.cell? ⟨w.heap.size, 3, none⟩ = some (.slice (some ⟨b, o, none⟩) 1 c)) := Lib.hid ⟨(hb4.cell (p := ⟨w.heap.size, 1, none⟩) (show w.heap.size < _ by omega)).trans HE.out.2.1, (hb4.cell (p := ⟨w.heap.size, 3, none⟩) (show w.heap.size < _ by omega)).trans HE.out.2.2.2⟩
  have hy : (ae != 0) = false := by rw [hae]; rfl
  have hs' : (s.toList == [105, 102]) = false := by simpa [opIf] using hsi
  obtain ⟨d1, d3⟩ := HS4.out
  have d5 : (w4.alloc (.cells #[.int .i64 ak, .int .i64 an, .string az] 29)).cell? ⟨w.heap.size, 1, none⟩ = some (.string s) := (((Below.refl w4.heap.size w4).alloc (Nat.le_refl _) _).cell (p := ⟨w.heap.size, 1, none⟩) (show w.heap.size < _ by omega)).trans d1
  go_upto_region 17 with (fail)
  clear d5
  obtain ⟨w8, ew8⟩ : ∃ w8, w8 = (w4.alloc (.cells #[.int .i64 ak, .int .i64 an, .string az] 29)).alloc (.cells #[.int .i64 0, .int .i64 0, .string ⟨#[]⟩] 29) := ⟨_, rfl⟩
  rw [← ew8]
  have hb48 : Below w4.heap.size w4 w8 := by rw [ew8]; exact ((Below.refl _ _).alloc (Nat.le_refl _) _).alloc (by simp) _
  have hb8 : Below w1.heap.size w1 w8 := hb4.trans (hb48.mono hb4.size)
  have hs8 : w8.heap.size = w4.heap.size + 2 := by rw [ew8]; simp
  have HPA8 : Hid (w8.heap[w4.heap.size]? = some (.cells #[.int .i64 ak, .int .i64 an, .string az] 29 (0, 0))) := Lib.hid (by rw [ew8, Below.heap_alloc _ _ _ (by simp)]; exact heap_alloc_new w4 _)
  have HPB8 : Hid (w8.heap[w4.heap.size + 1]? = some (.cells #[.int .i64 0, .int .i64 0, .string ⟨#[]⟩] 29 (0, 0))) := Lib.hid (by
    rw [ew8]
    have := heap_alloc_new (w4.alloc (.cells #[.int .i64 ak, .int .i64 an, .string az] 29)) (.cells #[.int .i64 0, .int .i64 0, .string ⟨#[]⟩] 29)
    simpa using this)
  have HR8 : Hid (w8.heap[w.heap.size + 1]? = some (.cells #[.int .i64 0, .int .i64 0, .string ⟨#[]⟩] 29 (0, 0))) := Lib.hid (keep_ hb8 hB.out (by omega))
  have HBW8 := Lib.hid (HB1.out.trans (hb8.mono (by omega)))
  have e1 : w8.cell? ⟨w.heap.size, 1, none⟩ = some (.string s) := (hb48.cell (p := ⟨w.heap.size, 1, none⟩) (show w.heap.size < _ by omega)).trans d1
  have e3 : w8.cell? ⟨w.heap.size, 3, none⟩ = some (.slice (some ⟨b, o, none⟩) 1 c) := (hb48.cell (p := ⟨w.heap.size, 3, none⟩) (show w.heap.size < _ by omega)).trans d3
  have hs4 := hb4.size
  clear ew8 hb4 hb48 hb8 H0c d1 d3 a0 a1 a2 a3 HS4 HB5 HBW hsi
  obtain ⟨⟨p0, p1, p2⟩, p3, p4, p5⟩ := cell3 HPA8.out
  obtain ⟨⟨z0, z1, z2⟩, z3, z4, z5⟩ := cell3 HPB8.out
  obtain ⟨⟨k0, k1, k2⟩, f0, f1, f2⟩ := cell3 HR8.out
  go_wp2_with fail
  refine (hsum.out _).mono ?_
  rintro e w9 ⟨⟨x, rfl, hx⟩, rfl⟩
  have HX := Lib.hid hx
  clear hx
  cases hq : rk.2
  · have hz2 : Hid (Q = (zeroV, 26)) := Lib.hid (by rw [hz.out, hq]; rfl)
    go_wp2_with fail
    refine bodyPost_ret (results_two rfl rfl rfl (put3_block HR8.out)) rfl ?_
    exact ⟨by rw [hz2.out]; rfl, put3_below HBW8.out (Nat.le_succ _)⟩
  · have hz2 : Hid (Q = (numV x, 0)) := Lib.hid (by rw [hz.out, if_pos hq, HX.out hq])
    go_wp2_with fail
    refine (ref_num x _).mono ?_
    rintro e wa ⟨rfl, hwa⟩
    have hba : Below w8.heap.size w8 wa := by rw [← hwa]; exact (Below.refl _ _).alloc (Nat.le_refl _) _
    clear hwa
    have hsa := hba.size
    have HRa := Lib.hid (keep_ hba HR8.out (by omega))
    have HBWa := Lib.hid (HBW8.out.trans (hba.mono (by omega)))
    clear hba
    obtain ⟨⟨k0, k1, k2⟩, f0, f1, f2⟩ := cell3 HRa.out
    go_wp2_with fail
    refine bodyPost_ret (results_two rfl rfl rfl (put3_block HRa.out)) rfl ?_
    exact ⟨by rw [hz2.out]; rfl, put3_below HBWa.out (Nat.le_succ _)⟩
set_option maxRecDepth 100000 in
set_option maxHeartbeats 2000000 in
theorem refEval_Not (cols : List C) (r : List V) (k : Int) (s : ByteArray) (n : Int) (x0 : E) (h1 : k ≠ 1) (h2 : k ≠ 2) (h3 : k ≠ 3) (q0 : V × Int)
    (H0 : ∀ (A' Ac Ar : Option Addr) (c' cc cr : Nat) (w' : World), EKids w' w'.heap.size A' x0.kids → CRow w' w'.heap.size Ac cols → VRow w' w'.heap.size Ar r → Calls Try.prog 53 #[x0.val A' c', .slice Ac cols.length cc, .slice Ar r.length cr] w' fun res w'' => res = .returned (.tuple #[.agg #[.int .i64 q0.1.k, .int .i64 q0.1.n, .string q0.1.s], .int .i64 q0.2]) ∧ Below w'.heap.size w' w'')
    (Q : V × Int) (hz0 : Q = (truthV (q0.1.n == 0), 0)) (hae : q0.2 = 0) (hop : s.toList = [110, 111, 116])
    (A Ac Ar : Option Addr) (c cc cr : Nat) (w : World) (hA : EKids w w.heap.size A [x0]) (hAc : CRow w w.heap.size Ac cols) (hAr : VRow w w.heap.size Ar r) :
    Calls Try.prog 53 #[(E.mk k s n [x0]).val A c, .slice Ac cols.length cc, .slice Ar r.length cr] w fun res w' => res = .returned (.tuple #[.agg #[.int .i64 Q.1.k, .int .i64 Q.1.n, .string Q.1.s], .int .i64 Q.2]) ∧ Below w.heap.size w w' := by
  have hsi : s.toList ≠ opIf := by rw [hop]; decide
  simp only [E.val, E.k, E.s, E.n, E.kids, List.length_cons, List.length_nil, Nat.zero_add, Nat.reduceAdd] at hA ⊢
  obtain ⟨w1, ew1⟩ : ∃ w1, w1 = (w.alloc (.cells #[.int .i64 k, .string s, .int .i64 n, .slice A 1 c] 35)).alloc (.cells #[.int .i64 0, .int .i64 0, .string ⟨#[]⟩] 29) := ⟨_, rfl⟩
  have hb1 : Below w.heap.size w w1 := by rw [ew1]; exact ((Below.refl _ _).alloc (Nat.le_refl _) _).alloc (by simp) _
  have HB1 := Lib.hid hb1
  have hws : w1.heap.size = w.heap.size + 2 := by rw [ew1]; simp
  have hB : Hid (w1.heap[w.heap.size + 1]? = some (.cells #[.int .i64 0, .int .i64 0, .string ⟨#[]⟩] 29 (0, 0))) := Lib.hid (by
    rw [ew1]
    have := heap_alloc_new (w.alloc (.cells #[.int .i64 k, .string s, .int .i64 n, .slice A 1 c] 35)) (.cells #[.int .i64 0, .int .i64 0, .string ⟨#[]⟩] 29)
    simpa using this)
  have HE : Hid (w1.cell? ⟨w.heap.size, 0, none⟩ = some (.int .i64 k) ∧ w1.cell? ⟨w.heap.size, 1, none⟩ = some (.string s) ∧ w1.cell? ⟨w.heap.size, 2, none⟩ = some (.int .i64 n) ∧ w1.cell? ⟨w.heap.size, 3, none⟩ = some (.slice A 1 c)) := Lib.hid (by rw [ew1]; simp)
  have HW1 := Lib.hid ew1
  have HA := Lib.hid ((hA.low hb1).more hb1.size)
  have HC := Lib.hid ((hAc.below hb1).more hb1.size)
  have HR := Lib.hid ((hAr.below hb1).more hb1.size)
  have hz := Lib.hid hz0
  have h1' : (k == 1) = false := by simpa using h1
  have h2' : (k == 2) = false := by simpa using h2
  have h3' : (k == 3) = false := by simpa using h3
  obtain ⟨mc, emc⟩ : ∃ m, m = cols.length := ⟨_, rfl⟩
  obtain ⟨mr, emr⟩ : ∃ m, m = r.length := ⟨_, rfl⟩
  have HMC := Lib.hid emc
  have HMR := Lib.hid emr
  rw [← emc, ← emr]
  obtain ⟨b, o, A0, e0, rfl, hlt, a0, a1, a2, a3, hK0⟩ := HA.out.get_ w1 (Below.refl _ _) 0 x0 rfl
  have hx0 : (0 : Int) < 1 := by omega
  have H0c := Lib.hid (H0 A0 Ac Ar e0 cc cr w1 hK0 HC.out HR.out)
  obtain ⟨xk, xs, xn, xl⟩ := x0
  simp only [E.val, E.k, E.s, E.n, E.kids, Nat.zero_mul, Nat.add_zero] at a0 a1 a2 a3 H0c
  rw [← HMC.out, ← HMR.out] at H0c
  obtain ⟨⟨ak, an, az⟩, ae⟩ := q0
  generalize xl.length = xm at *
  clear hz0 hA hAc hAr ew1 h1 h2 h3 H0 hK0 emc emr hb1
  simp only at hz hae
  go_enter Try.func53, Try.ntmps53
  go_upto_region 1 with (fail)
  rw [← HW1.out]
  obtain ⟨t0, t1, t2, t3⟩ := HE.out
  go_wp2_with fail
  refine (H0c.out).mono ?_
  rintro e w4 ⟨rfl, hb4⟩
  clear t0 t1 t2 t3
  obtain ⟨HB5, HBW, hs5⟩ := boxed HB1 hB hb4 hws ak an az
  have HS4 : Hid (w4.cell? ⟨w.heap.size, 1, none⟩ = some (.string s) ∧ w4.cell? ⟨w.heap.size, 3, none⟩ = some (.slice (some ⟨b, o, none⟩) 1 c)) := Lib.hid ⟨(hb4.cell (p := ⟨w.heap.size, 1, none⟩) (show w.heap.size < _ by omega)).trans HE.out.2.1, (hb4.cell (p := ⟨w.heap.size, 3, none⟩) (show w.heap.size < _ by omega)).trans HE.out.2.2.2⟩
  have hy : (ae != 0) = false := by rw [hae]; rfl
  have hs' : (s.toList == [105, 102]) = false := by simpa [opIf] using hsi
  obtain ⟨d1, d3⟩ := HS4.out
  have d5 : (w4.alloc (.cells #[.int .i64 ak, .int .i64 an, .string az] 29)).cell? ⟨w.heap.size, 1, none⟩ = some (.string s) := (((Below.refl w4.heap.size w4).alloc (Nat.le_refl _) _).cell (p := ⟨w.heap.size, 1, none⟩) (show w.heap.size < _ by omega)).trans d1
  go_upto_region 17 with (fail)
  clear d5
  obtain ⟨w8, ew8⟩ : ∃ w8, w8 = (w4.alloc (.cells #[.int .i64 ak, .int .i64 an, .string az] 29)).alloc (.cells #[.int .i64 0, .int .i64 0, .string ⟨#[]⟩] 29) := ⟨_, rfl⟩
  rw [← ew8]
  have hb48 : Below w4.heap.size w4 w8 := by rw [ew8]; exact ((Below.refl _ _).alloc (Nat.le_refl _) _).alloc (by simp) _
  have hb8 : Below w1.heap.size w1 w8 := hb4.trans (hb48.mono hb4.size)
  have hs8 : w8.heap.size = w4.heap.size + 2 := by rw [ew8]; simp
  have HPA8 : Hid (w8.heap[w4.heap.size]? = some (.cells #[.int .i64 ak, .int .i64 an, .string az] 29 (0, 0))) := Lib.hid (by rw [ew8, Below.heap_alloc _ _ _ (by simp)]; exact heap_alloc_new w4 _)
  have HPB8 : Hid (w8.heap[w4.heap.size + 1]? = some (.cells #[.int .i64 0, .int .i64 0, .string ⟨#[]⟩] 29 (0, 0))) := Lib.hid (by
    rw [ew8]
    have := heap_alloc_new (w4.alloc (.cells #[.int .i64 ak, .int .i64 an, .string az] 29)) (.cells #[.int .i64 0, .int .i64 0, .string ⟨#[]⟩] 29)
    simpa using this)
  have HR8 : Hid (w8.heap[w.heap.size + 1]? = some (.cells #[.int .i64 0, .int .i64 0, .string ⟨#[]⟩] 29 (0, 0))) := Lib.hid (keep_ hb8 hB.out (by omega))
  have HBW8 := Lib.hid (HB1.out.trans (hb8.mono (by omega)))
  have e1 : w8.cell? ⟨w.heap.size, 1, none⟩ = some (.string s) := (hb48.cell (p := ⟨w.heap.size, 1, none⟩) (show w.heap.size < _ by omega)).trans d1
  have e3 : w8.cell? ⟨w.heap.size, 3, none⟩ = some (.slice (some ⟨b, o, none⟩) 1 c) := (hb48.cell (p := ⟨w.heap.size, 3, none⟩) (show w.heap.size < _ by omega)).trans d3
  have hs4 := hb4.size
  clear ew8 hb4 hb48 hb8 H0c d1 d3 a0 a1 a2 a3 HS4 HB5 HBW hsi
  obtain ⟨⟨p0, p1, p2⟩, p3, p4, p5⟩ := cell3 HPA8.out
  obtain ⟨⟨z0, z1, z2⟩, z3, z4, z5⟩ := cell3 HPB8.out
  obtain ⟨⟨k0, k1, k2⟩, f0, f1, f2⟩ := cell3 HR8.out
  go_wp2_with fail
  refine (ref_truth (an == 0) _).mono ?_
  rintro e wb ⟨rfl, hbb⟩
  have hsb := hbb.size
  have HRb := Lib.hid (keep_ hbb HR8.out (by omega))
  have HBWb := Lib.hid (HBW8.out.trans (hbb.mono (by omega)))
  clear hbb
  obtain ⟨⟨k0, k1, k2⟩, f0, f1, f2⟩ := cell3 HRb.out
  go_wp2_with fail
  refine bodyPost_ret (results_two rfl rfl rfl (put3_block HRb.out)) rfl ?_
  exact ⟨by rw [hz.out]; rfl, put3_below HBWb.out (Nat.le_succ _)⟩
set_option maxRecDepth 100000 in
set_option maxHeartbeats 2000000 in
theorem refEval_Len (cols : List C) (r : List V) (k : Int) (s : ByteArray) (n : Int) (x0 : E) (h1 : k ≠ 1) (h2 : k ≠ 2) (h3 : k ≠ 3) (q0 : V × Int)
    (H0 : ∀ (A' Ac Ar : Option Addr) (c' cc cr : Nat) (w' : World), EKids w' w'.heap.size A' x0.kids → CRow w' w'.heap.size Ac cols → VRow w' w'.heap.size Ar r → Calls Try.prog 53 #[x0.val A' c', .slice Ac cols.length cc, .slice Ar r.length cr] w' fun res w'' => res = .returned (.tuple #[.agg #[.int .i64 q0.1.k, .int .i64 q0.1.n, .string q0.1.s], .int .i64 q0.2]) ∧ Below w'.heap.size w' w'')
    (Q : V × Int) (hz0 : Q = (numV (q0.1.s.size : Int), 0)) (hsz : q0.1.s.size ≤ 1048576) (hae : q0.2 = 0) (hop : s.toList = [108, 101, 110])
    (A Ac Ar : Option Addr) (c cc cr : Nat) (w : World) (hA : EKids w w.heap.size A [x0]) (hAc : CRow w w.heap.size Ac cols) (hAr : VRow w w.heap.size Ar r) :
    Calls Try.prog 53 #[(E.mk k s n [x0]).val A c, .slice Ac cols.length cc, .slice Ar r.length cr] w fun res w' => res = .returned (.tuple #[.agg #[.int .i64 Q.1.k, .int .i64 Q.1.n, .string Q.1.s], .int .i64 Q.2]) ∧ Below w.heap.size w w' := by
  have hsi : s.toList ≠ opIf := by rw [hop]; decide
  simp only [E.val, E.k, E.s, E.n, E.kids, List.length_cons, List.length_nil, Nat.zero_add, Nat.reduceAdd] at hA ⊢
  obtain ⟨w1, ew1⟩ : ∃ w1, w1 = (w.alloc (.cells #[.int .i64 k, .string s, .int .i64 n, .slice A 1 c] 35)).alloc (.cells #[.int .i64 0, .int .i64 0, .string ⟨#[]⟩] 29) := ⟨_, rfl⟩
  have hb1 : Below w.heap.size w w1 := by rw [ew1]; exact ((Below.refl _ _).alloc (Nat.le_refl _) _).alloc (by simp) _
  have HB1 := Lib.hid hb1
  have hws : w1.heap.size = w.heap.size + 2 := by rw [ew1]; simp
  have hB : Hid (w1.heap[w.heap.size + 1]? = some (.cells #[.int .i64 0, .int .i64 0, .string ⟨#[]⟩] 29 (0, 0))) := Lib.hid (by
    rw [ew1]
    have := heap_alloc_new (w.alloc (.cells #[.int .i64 k, .string s, .int .i64 n, .slice A 1 c] 35)) (.cells #[.int .i64 0, .int .i64 0, .string ⟨#[]⟩] 29)
    simpa using this)
  have HE : Hid (w1.cell? ⟨w.heap.size, 0, none⟩ = some (.int .i64 k) ∧ w1.cell? ⟨w.heap.size, 1, none⟩ = some (.string s) ∧ w1.cell? ⟨w.heap.size, 2, none⟩ = some (.int .i64 n) ∧ w1.cell? ⟨w.heap.size, 3, none⟩ = some (.slice A 1 c)) := Lib.hid (by rw [ew1]; simp)
  have HW1 := Lib.hid ew1
  have HA := Lib.hid ((hA.low hb1).more hb1.size)
  have HC := Lib.hid ((hAc.below hb1).more hb1.size)
  have HR := Lib.hid ((hAr.below hb1).more hb1.size)
  have hz := Lib.hid hz0
  have h1' : (k == 1) = false := by simpa using h1
  have h2' : (k == 2) = false := by simpa using h2
  have h3' : (k == 3) = false := by simpa using h3
  obtain ⟨mc, emc⟩ : ∃ m, m = cols.length := ⟨_, rfl⟩
  obtain ⟨mr, emr⟩ : ∃ m, m = r.length := ⟨_, rfl⟩
  have HMC := Lib.hid emc
  have HMR := Lib.hid emr
  rw [← emc, ← emr]
  obtain ⟨b, o, A0, e0, rfl, hlt, a0, a1, a2, a3, hK0⟩ := HA.out.get_ w1 (Below.refl _ _) 0 x0 rfl
  have hx0 : (0 : Int) < 1 := by omega
  have H0c := Lib.hid (H0 A0 Ac Ar e0 cc cr w1 hK0 HC.out HR.out)
  obtain ⟨xk, xs, xn, xl⟩ := x0
  simp only [E.val, E.k, E.s, E.n, E.kids, Nat.zero_mul, Nat.add_zero] at a0 a1 a2 a3 H0c
  rw [← HMC.out, ← HMR.out] at H0c
  obtain ⟨⟨ak, an, az⟩, ae⟩ := q0
  generalize xl.length = xm at *
  clear hz0 hA hAc hAr ew1 h1 h2 h3 H0 hK0 emc emr hb1
  simp only at hz hae hsz
  go_enter Try.func53, Try.ntmps53
  go_upto_region 1 with (fail)
  rw [← HW1.out]
  obtain ⟨t0, t1, t2, t3⟩ := HE.out
  go_wp2_with fail
  refine (H0c.out).mono ?_
  rintro e w4 ⟨rfl, hb4⟩
  clear t0 t1 t2 t3
  obtain ⟨HB5, HBW, hs5⟩ := boxed HB1 hB hb4 hws ak an az
  have HS4 : Hid (w4.cell? ⟨w.heap.size, 1, none⟩ = some (.string s) ∧ w4.cell? ⟨w.heap.size, 3, none⟩ = some (.slice (some ⟨b, o, none⟩) 1 c)) := Lib.hid ⟨(hb4.cell (p := ⟨w.heap.size, 1, none⟩) (show w.heap.size < _ by omega)).trans HE.out.2.1, (hb4.cell (p := ⟨w.heap.size, 3, none⟩) (show w.heap.size < _ by omega)).trans HE.out.2.2.2⟩
  have hy : (ae != 0) = false := by rw [hae]; rfl
  have hs' : (s.toList == [105, 102]) = false := by simpa [opIf] using hsi
  obtain ⟨d1, d3⟩ := HS4.out
  have d5 : (w4.alloc (.cells #[.int .i64 ak, .int .i64 an, .string az] 29)).cell? ⟨w.heap.size, 1, none⟩ = some (.string s) := (((Below.refl w4.heap.size w4).alloc (Nat.le_refl _) _).cell (p := ⟨w.heap.size, 1, none⟩) (show w.heap.size < _ by omega)).trans d1
  go_upto_region 17 with (fail)
  clear d5
  obtain ⟨w8, ew8⟩ : ∃ w8, w8 = (w4.alloc (.cells #[.int .i64 ak, .int .i64 an, .string az] 29)).alloc (.cells #[.int .i64 0, .int .i64 0, .string ⟨#[]⟩] 29) := ⟨_, rfl⟩
  rw [← ew8]
  have hb48 : Below w4.heap.size w4 w8 := by rw [ew8]; exact ((Below.refl _ _).alloc (Nat.le_refl _) _).alloc (by simp) _
  have hb8 : Below w1.heap.size w1 w8 := hb4.trans (hb48.mono hb4.size)
  have hs8 : w8.heap.size = w4.heap.size + 2 := by rw [ew8]; simp
  have HPA8 : Hid (w8.heap[w4.heap.size]? = some (.cells #[.int .i64 ak, .int .i64 an, .string az] 29 (0, 0))) := Lib.hid (by rw [ew8, Below.heap_alloc _ _ _ (by simp)]; exact heap_alloc_new w4 _)
  have HPB8 : Hid (w8.heap[w4.heap.size + 1]? = some (.cells #[.int .i64 0, .int .i64 0, .string ⟨#[]⟩] 29 (0, 0))) := Lib.hid (by
    rw [ew8]
    have := heap_alloc_new (w4.alloc (.cells #[.int .i64 ak, .int .i64 an, .string az] 29)) (.cells #[.int .i64 0, .int .i64 0, .string ⟨#[]⟩] 29)
    simpa using this)
  have HR8 : Hid (w8.heap[w.heap.size + 1]? = some (.cells #[.int .i64 0, .int .i64 0, .string ⟨#[]⟩] 29 (0, 0))) := Lib.hid (keep_ hb8 hB.out (by omega))
  have HBW8 := Lib.hid (HB1.out.trans (hb8.mono (by omega)))
  have e1 : w8.cell? ⟨w.heap.size, 1, none⟩ = some (.string s) := (hb48.cell (p := ⟨w.heap.size, 1, none⟩) (show w.heap.size < _ by omega)).trans d1
  have e3 : w8.cell? ⟨w.heap.size, 3, none⟩ = some (.slice (some ⟨b, o, none⟩) 1 c) := (hb48.cell (p := ⟨w.heap.size, 3, none⟩) (show w.heap.size < _ by omega)).trans d3
  have hs4 := hb4.size
  clear ew8 hb4 hb48 hb8 H0c d1 d3 a0 a1 a2 a3 HS4 HB5 HBW hsi
  obtain ⟨⟨p0, p1, p2⟩, p3, p4, p5⟩ := cell3 HPA8.out
  obtain ⟨⟨z0, z1, z2⟩, z3, z4, z5⟩ := cell3 HPB8.out
  obtain ⟨⟨k0, k1, k2⟩, f0, f1, f2⟩ := cell3 HR8.out
  go_wp2_with fail
  refine (ref_num (az.size : Int) _).mono ?_
  rintro e wa ⟨rfl, hwa⟩
  have hba : Below w8.heap.size w8 wa := by rw [← hwa]; exact (Below.refl _ _).alloc (Nat.le_refl _) _
  clear hwa
  have hsa := hba.size
  have HRa := Lib.hid (keep_ hba HR8.out (by omega))
  have HBWa := Lib.hid (HBW8.out.trans (hba.mono (by omega)))
  clear hba
  obtain ⟨⟨k0, k1, k2⟩, f0, f1, f2⟩ := cell3 HRa.out
  go_wp2_with fail
  refine bodyPost_ret (results_two rfl rfl rfl (put3_block HRa.out)) rfl ?_
  exact ⟨by rw [hz.out]; rfl, put3_below HBWa.out (Nat.le_succ _)⟩
end Go.Proofs.Ytldleckgkgeclaa
/-
  The reference's eval, whole.
-/
namespace Go.Proofs.Ytldleckgkgeclaa
open Go.RowKit
set_option maxRecDepth 100000 in
set_option maxHeartbeats 2000000 in
theorem refEval_if (cols : List C) (r : List V) (k : Int) (s : ByteArray) (n : Int) (x0 x1 x2 : E) (h1 : k ≠ 1) (h2 : k ≠ 2) (h3 : k ≠ 3) (q0 q1 q2 : V × Int)
    (H0 : ∀ (A' Ac Ar : Option Addr) (c' cc cr : Nat) (w' : World), EKids w' w'.heap.size A' x0.kids → CRow w' w'.heap.size Ac cols → VRow w' w'.heap.size Ar r → Calls Try.prog 53 #[x0.val A' c', .slice Ac cols.length cc, .slice Ar r.length cr] w' fun res w'' => res = .returned (.tuple #[.agg #[.int .i64 q0.1.k, .int .i64 q0.1.n, .string q0.1.s], .int .i64 q0.2]) ∧ Below w'.heap.size w' w'')
    (H1 : ∀ (A' Ac Ar : Option Addr) (c' cc cr : Nat) (w' : World), EKids w' w'.heap.size A' x1.kids → CRow w' w'.heap.size Ac cols → VRow w' w'.heap.size Ar r → Calls Try.prog 53 #[x1.val A' c', .slice Ac cols.length cc, .slice Ar r.length cr] w' fun res w'' => res = .returned (.tuple #[.agg #[.int .i64 q1.1.k, .int .i64 q1.1.n, .string q1.1.s], .int .i64 q1.2]) ∧ Below w'.heap.size w' w'')
    (H2 : ∀ (A' Ac Ar : Option Addr) (c' cc cr : Nat) (w' : World), EKids w' w'.heap.size A' x2.kids → CRow w' w'.heap.size Ac cols → VRow w' w'.heap.size Ar r → Calls Try.prog 53 #[x2.val A' c', .slice Ac cols.length cc, .slice Ar r.length cr] w' fun res w'' => res = .returned (.tuple #[.agg #[.int .i64 q2.1.k, .int .i64 q2.1.n, .string q2.1.s], .int .i64 q2.2]) ∧ Below w'.heap.size w' w'')
    (Q : V × Int) (hz0 : Q = if q0.1.n = 0 then q2 else q1) (hae : q0.2 = 0) (hop : s.toList = [105, 102])
    (A Ac Ar : Option Addr) (c cc cr : Nat) (w : World) (hA : EKids w w.heap.size A [x0, x1, x2]) (hAc : CRow w w.heap.size Ac cols) (hAr : VRow w w.heap.size Ar r) :
    Calls Try.prog 53 #[(E.mk k s n [x0, x1, x2]).val A c, .slice Ac cols.length cc, .slice Ar r.length cr] w fun res w' => res = .returned (.tuple #[.agg #[.int .i64 Q.1.k, .int .i64 Q.1.n, .string Q.1.s], .int .i64 Q.2]) ∧ Below w.heap.size w w' := by
  simp only [E.val, E.k, E.s, E.n, E.kids, List.length_cons, List.length_nil, Nat.zero_add, Nat.reduceAdd] at hA ⊢
  obtain ⟨w1, ew1⟩ : ∃ w1, w1 = (w.alloc (.cells #[.int .i64 k, .string s, .int .i64 n, .slice A 3 c] 35)).alloc (.cells #[.int .i64 0, .int .i64 0, .string ⟨#[]⟩] 29) := ⟨_, rfl⟩
  have hb1 : Below w.heap.size w w1 := by rw [ew1]; exact ((Below.refl _ _).alloc (Nat.le_refl _) _).alloc (by simp) _
  have HB1 := Lib.hid hb1
  have hws : w1.heap.size = w.heap.size + 2 := by rw [ew1]; simp
  have hB : Hid (w1.heap[w.heap.size + 1]? = some (.cells #[.int .i64 0, .int .i64 0, .string ⟨#[]⟩] 29 (0, 0))) := Lib.hid (by
    rw [ew1]
    have := heap_alloc_new (w.alloc (.cells #[.int .i64 k, .string s, .int .i64 n, .slice A 3 c] 35)) (.cells #[.int .i64 0, .int .i64 0, .string ⟨#[]⟩] 29)
    simpa using this)
  have HE : Hid (w1.cell? ⟨w.heap.size, 0, none⟩ = some (.int .i64 k) ∧ w1.cell? ⟨w.heap.size, 1, none⟩ = some (.string s) ∧ w1.cell? ⟨w.heap.size, 2, none⟩ = some (.int .i64 n) ∧ w1.cell? ⟨w.heap.size, 3, none⟩ = some (.slice A 3 c)) := Lib.hid (by rw [ew1]; simp)
  have HW1 := Lib.hid ew1
  have HA := Lib.hid ((hA.low hb1).more hb1.size)
  have HC := Lib.hid ((hAc.below hb1).more hb1.size)
  have HR := Lib.hid ((hAr.below hb1).more hb1.size)
  have hz := Lib.hid hz0
  have h1' : (k == 1) = false := by simpa using h1
  have h2' : (k == 2) = false := by simpa using h2
  have h3' : (k == 3) = false := by simpa using h3
  obtain ⟨mc, emc⟩ : ∃ m, m = cols.length := ⟨_, rfl⟩
  obtain ⟨mr, emr⟩ : ∃ m, m = r.length := ⟨_, rfl⟩
  have HMC := Lib.hid emc
  have HMR := Lib.hid emr
  rw [← emc, ← emr]
  obtain ⟨b, o, A0, e0, rfl, hlt, a0, a1, a2, a3, hK0⟩ := HA.out.get_ w1 (Below.refl _ _) 0 x0 rfl
  have hx0 : (0 : Int) < 3 := by omega
  have hx1 : (1 : Int) < 3 := by omega
  have hx2 : (2 : Int) < 3 := by omega
  have H0c := Lib.hid (H0 A0 Ac Ar e0 cc cr w1 hK0 HC.out HR.out)
  obtain ⟨xk, xs, xn, xl⟩ := x0
  simp only [E.val, E.k, E.s, E.n, E.kids, Nat.zero_mul, Nat.add_zero] at a0 a1 a2 a3 H0c
  rw [← HMC.out, ← HMR.out] at H0c
  obtain ⟨⟨ak, an, az⟩, ae⟩ := q0
  generalize xl.length = xm at *
  clear hz0 hA hAc hAr ew1 h1 h2 h3 H0 hK0 emc emr hb1
  simp only at hz hae
  go_enter Try.func53, Try.ntmps53
  go_upto_region 1 with (fail)
  rw [← HW1.out]
  obtain ⟨t0, t1, t2, t3⟩ := HE.out
  go_wp2_with fail
  refine (H0c.out).mono ?_
  rintro e w4 ⟨rfl, hb4⟩
  clear t0 t1 t2 t3
  obtain ⟨HB5, HBW, hs5⟩ := boxed HB1 hB hb4 hws ak an az
  have HS4 : Hid (w4.cell? ⟨w.heap.size, 1, none⟩ = some (.string s) ∧ w4.cell? ⟨w.heap.size, 3, none⟩ = some (.slice (some ⟨b, o, none⟩) 3 c)) := Lib.hid ⟨(hb4.cell (p := ⟨w.heap.size, 1, none⟩) (show w.heap.size < _ by omega)).trans HE.out.2.1, (hb4.cell (p := ⟨w.heap.size, 3, none⟩) (show w.heap.size < _ by omega)).trans HE.out.2.2.2⟩
  have hy : (ae != 0) = false := by rw [hae]; rfl
  obtain ⟨d1, d3⟩ := HS4.out
  have hb45 : Below w4.heap.size w4 (w4.alloc (.cells #[.int .i64 ak, .int .i64 an, .string az] 29)) := (Below.refl w4.heap.size w4).alloc (Nat.le_refl _) _
  have d5 : (w4.alloc (.cells #[.int .i64 ak, .int .i64 an, .string az] 29)).cell? ⟨w.heap.size, 1, none⟩ = some (.string s) := (hb45.cell (p := ⟨w.heap.size, 1, none⟩) (show w.heap.size < _ by omega)).trans d1
  have d6 : (w4.alloc (.cells #[.int .i64 ak, .int .i64 an, .string az] 29)).cell? ⟨w.heap.size, 3, none⟩ = some (.slice (some ⟨b, o, none⟩) 3 c) := (hb45.cell (p := ⟨w.heap.size, 3, none⟩) (show w.heap.size < _ by omega)).trans d3
  have hb5 : Below w1.heap.size w1 (w4.alloc (.cells #[.int .i64 ak, .int .i64 an, .string az] 29)) := hb4.alloc hb4.size _
  have hs4 := hb4.size
  clear hb4 hb45 d1 d3 HS4 H0c a0 a1 a2 a3
  by_cases hvn : an = 0
  · have hz2 : Hid (Q = q2) := Lib.hid (by rw [hz.out, if_pos hvn])
    subst hvn
    obtain ⟨b', o', A2, e2, hb', _, y0, y1, y2, y3, hK2⟩ := HA.out.get_ _ hb5 2 x2 rfl
    injection hb' with hb'
    injection hb' with hbb hoo
    subst hbb hoo
    have H2c := Lib.hid (H2 A2 Ac Ar e2 cc cr _ hK2 ((HC.out.below hb5).more hb5.size) ((HR.out.below hb5).more hb5.size))
    obtain ⟨yk, ys, yn, yl⟩ := x2
    simp only [E.val, E.k, E.s, E.n, E.kids, Nat.one_mul] at y0 y1 y2 y3 H2c
    rw [← HMC.out, ← HMR.out] at H2c
    generalize yl.length = ym at *
    obtain ⟨⟨bk, bn, bs⟩, be⟩ := q2
    clear hK2 H1 H2 hb5
    go_wp2_with fail
    refine (H2c.out).mono ?_
    rintro e w6 ⟨rfl, hb6⟩
    have hs6 := hb6.size
    have HR6 := Lib.hid (keep_ hb6 HB5.out (by simp; omega))
    have HBW6 := Lib.hid (HBW.out.trans (hb6.mono (by simp; omega)))
    obtain ⟨⟨k0, k1, k2⟩, f0, f1, f2⟩ := cell3 HR6.out
    clear hb6 H2c
    go_wp2_with fail
    refine bodyPost_ret (results_two rfl rfl rfl (put3_block HR6.out)) rfl ?_
    exact ⟨by rw [hz2.out]; rfl, put3_below HBW6.out (Nat.le_succ _)⟩
  · have hz2 : Hid (Q = q1) := Lib.hid (by rw [hz.out, if_neg hvn])
    have hn0 : (an != 0) = true := by simpa using hvn
    obtain ⟨b', o', A2, e2, hb', _, y0, y1, y2, y3, hK2⟩ := HA.out.get_ _ hb5 1 x1 rfl
    injection hb' with hb'
    injection hb' with hbb hoo
    subst hbb hoo
    have H2c := Lib.hid (H1 A2 Ac Ar e2 cc cr _ hK2 ((HC.out.below hb5).more hb5.size) ((HR.out.below hb5).more hb5.size))
    obtain ⟨yk, ys, yn, yl⟩ := x1
    simp only [E.val, E.k, E.s, E.n, E.kids, Nat.one_mul] at y0 y1 y2 y3 H2c
    rw [← HMC.out, ← HMR.out] at H2c
    generalize yl.length = ym at *
    obtain ⟨⟨bk, bn, bs⟩, be⟩ := q1
    clear hK2 H1 H2 hb5
    go_wp2_with fail
    refine (H2c.out).mono ?_
    rintro e w6 ⟨rfl, hb6⟩
    have hs6 := hb6.size
    have HR6 := Lib.hid (keep_ hb6 HB5.out (by simp; omega))
    have HBW6 := Lib.hid (HBW.out.trans (hb6.mono (by simp; omega)))
    obtain ⟨⟨k0, k1, k2⟩, f0, f1, f2⟩ := cell3 HR6.out
    clear hb6 H2c
    go_wp2_with fail
    refine bodyPost_ret (results_two rfl rfl rfl (put3_block HR6.out)) rfl ?_
    exact ⟨by rw [hz2.out]; rfl, put3_below HBW6.out (Nat.le_succ _)⟩
theorem cnt_none {l : List UInt8} (h : ∀ x ∈ opsL, (l == x) = false) : cntL l = 0 := by
  simp only [opsL, List.mem_cons, List.not_mem_nil, or_false, forall_eq_or_imp, forall_eq, beq_eq_false_iff_ne, ne_eq] at h
  obtain ⟨h1, h2, h3, h4, h5, h6, h7, h8, h9, h10, h11, h12⟩ := h
  unfold cntL
  rw [if_neg (by simp [h1, h2, h3, h4, h5, h6, h7, h8]), if_neg (by simp [h9, h10, h11]), if_neg h12]
theorem op_sum {op : List UInt8} (h : op = opAdd ∨ op = opSub ∨ op = opMul ∨ op = opNeg) (a b : V) : operateL op a b = if (reckonL op a.n b.n).2 = true then (numV (reckonL op a.n b.n).1, 0) else (zeroV, 26) := by
  unfold operateL
  rw [if_neg, if_neg, if_neg, if_neg, if_neg, if_neg, if_neg]
  all_goals (rcases h with rfl | rfl | rfl | rfl <;> decide)
theorem neg_one (a b : Int) : reckonL opNeg a b = reckonL opNeg a 0 := by
  unfold reckonL
  rw [if_neg (show ¬ opNeg = opAdd by decide), if_neg (show ¬ opNeg = opSub by decide), if_pos (Eq.refl opNeg), if_neg (show ¬ opNeg = opAdd by decide), if_neg (show ¬ opNeg = opSub by decide), if_pos (Eq.refl opNeg)]
set_option maxRecDepth 100000 in
set_option maxHeartbeats 2000000 in
theorem refEval_any (cols : List C) (r : List V) (hcl : cols.length ≤ 9223372036854775807) (hrl : r.length = cols.length) (hrf : ∀ v ∈ r, v.fine) (hfit : fitsB cols r = true) : ∀ e, RefEvalExp cols r e := by
  refine E.ind fun k s n l ih => ?_
  by_cases h1 : k = 1
  · exact refEval_leaf cols r hcl hrl k s n l (.inl h1)
  by_cases h2 : k = 2
  · exact refEval_leaf cols r hcl hrl k s n l (.inr (.inl h2))
  by_cases h3 : k = 3
  · exact refEval_leaf cols r hcl hrl k s n l (.inr (.inr h3))
  intro hmade htype hfine htexts A Ac Ar c cc cr w hA hAc hAr
  obtain ⟨hl0, hlc, hmk⟩ := made_kids h1 h2 h3 hmade
  have htk := type_kids h1 h2 h3 htype
  obtain ⟨hpos, _⟩ := type_apply h1 h2 h3 htype
  obtain ⟨_, _, _, _, _, _, _, hfk⟩ := hfine
  obtain ⟨_, _, _, _, _, hxk⟩ := htexts
  have HK := fun e he => ih e he (hmk e he) (htk e he) (hfk e he) (hxk e he)
  have HF : ∀ e ∈ l, (evalE cols r e).1.fine := fun e he => eval_fine cols hrf e (hfk e he)
  have HS := fun e he => eval_sound cols r hfit e (hmk e he) (hxk e he) (htk e he)
  simp only [E.kids] at hA
  by_cases hs : s.toList = opIf
  · rw [hs] at hlc
    obtain ⟨x0, x1, x2, rfl⟩ := list3 (show l.length = 3 from hlc)
    have e0 : evalE cols r (.mk k s n [x0, x1, x2]) = if (evalE cols r x0).2 = 0 then (if (evalE cols r x0).1.n = 0 then evalE cols r x2 else evalE cols r x1) else (zeroV, (evalE cols r x0).2) := by
      rw [evalE, if_neg h1, if_neg h2, if_neg h3, if_pos hs]; rfl
    by_cases hae : (evalE cols r x0).2 = 0
    · exact refEval_if cols r k s n x0 x1 x2 h1 h2 h3 _ _ _ (HK x0 (by simp)) (HK x1 (by simp)) (HK x2 (by simp)) _ (by rw [e0, if_pos hae]) hae hs A Ac Ar c cc cr w hA hAc hAr
    · exact refEval_fail3 cols r k s n x0 x1 x2 h1 h2 h3 _ _ _ (HK x0 (by simp)) (HK x1 (by simp)) (HK x2 (by simp)) _ (by rw [e0, if_neg hae]) hae A Ac Ar c cc cr w hA hAc hAr
  have hop : s.toList ∈ opsL := by
    rcases op_cases s.toList with h | h
    · exact h
    · rw [cnt_none h] at hlc; omega
  by_cases hc1 : cntL s.toList = 1
  · obtain ⟨x0, rfl⟩ := list1 (hlc.trans hc1)
    have e0 := evalE_one (cols := cols) (r := r) (n := n) (x0 := x0) h1 h2 h3 hs
    by_cases hae : (evalE cols r x0).2 = 0
    · rw [if_pos hae] at e0
      rcases cnt_one hc1 with ho | ho | ho
      · rw [ho] at e0
        exact refEval_Not cols r k s n x0 h1 h2 h3 _ (HK x0 (by simp)) _ (e0.trans (by unfold operateL; simp [opEq, opLt, opAnd, opOr, opNot, opLen])) hae ho A Ac Ar c cc cr w hA hAc hAr
      · rw [ho] at e0
        exact refEval_Len cols r k s n x0 h1 h2 h3 _ (HK x0 (by simp)) _ (e0.trans (by unfold operateL; simp [opEq, opLt, opAnd, opOr, opNot, opLen])) (HF x0 (by simp)).2.2 hae ho A Ac Ar c cc cr w hA hAc hAr
      · have hsum := fun w => sums_any s (evalE cols r x0).1.n 0 (HF x0 (by simp)).1 (HF x0 (by simp)).2.1 (by omega) (by omega) w
        rw [ho] at e0 hsum
        exact refEval_Neg cols r k s n x0 h1 h2 h3 _ (HK x0 (by simp)) _ (reckonL opNeg (evalE cols r x0).1.n 0) (e0.trans (by rw [op_sum (by simp), neg_one])) hsum hae ho A Ac Ar c cc cr w hA hAc hAr
    · exact refEval_fail1 cols r k s n x0 h1 h2 h3 _ (HK x0 (by simp)) _ (by rw [e0, if_neg hae]) hae A Ac Ar c cc cr w hA hAc hAr
  · obtain ⟨x0, x1, rfl⟩ := list2 (hlc.trans (cnt_two hc1 (by omega) hs))
    have e0 := evalE_two (cols := cols) (r := r) (n := n) (x0 := x0) (x1 := x1) h1 h2 h3 hs
    by_cases hae : (evalE cols r x0).2 = 0
    · rw [if_pos hae] at e0
      by_cases hbe : (evalE cols r x1).2 = 0
      · rw [if_pos hbe] at e0
        simp only [opsL, List.mem_cons, List.not_mem_nil, or_false] at hop
        rcases hop with ho | ho | ho | ho | ho | ho | ho | ho | ho | ho | ho | ho
        · have hsum := fun w => sums_any s (evalE cols r x0).1.n (evalE cols r x1).1.n (HF x0 (by simp)).1 (HF x0 (by simp)).2.1 (HF x1 (by simp)).1 (HF x1 (by simp)).2.1 w
          rw [ho] at e0 hsum
          exact refEval_Add cols r k s n x0 x1 h1 h2 h3 _ _ (HK x0 (by simp)) (HK x1 (by simp)) _ _ (e0.trans (op_sum (by simp) _ _)) hsum hae hbe ho A Ac Ar c cc cr w hA hAc hAr
        · have hsum := fun w => sums_any s (evalE cols r x0).1.n (evalE cols r x1).1.n (HF x0 (by simp)).1 (HF x0 (by simp)).2.1 (HF x1 (by simp)).1 (HF x1 (by simp)).2.1 w
          rw [ho] at e0 hsum
          exact refEval_Sub cols r k s n x0 x1 h1 h2 h3 _ _ (HK x0 (by simp)) (HK x1 (by simp)) _ _ (e0.trans (op_sum (by simp) _ _)) hsum hae hbe ho A Ac Ar c cc cr w hA hAc hAr
        · have hsum := fun w => sums_any s (evalE cols r x0).1.n (evalE cols r x1).1.n (HF x0 (by simp)).1 (HF x0 (by simp)).2.1 (HF x1 (by simp)).1 (HF x1 (by simp)).2.1 w
          rw [ho] at e0 hsum
          exact refEval_Mul cols r k s n x0 x1 h1 h2 h3 _ _ (HK x0 (by simp)) (HK x1 (by simp)) _ _ (e0.trans (op_sum (by simp) _ _)) hsum hae hbe ho A Ac Ar c cc cr w hA hAc hAr
        · rw [ho] at e0 hpos
          have hk : (typeE cols x0).1 = (typeE cols x1).1 := by
            have hr : resultL opEq ([x0, x1].map fun e => (typeE cols e).1) = if (typeE cols x0).1 = (typeE cols x1).1 then 1 else 0 := rfl
            rw [hr] at hpos
            split at hpos
            · assumption
            · omega
          have s0 : V.okB (evalE cols r x0).1 = true ∧ (evalE cols r x0).1.k = (typeE cols x0).1 := by
            rcases HS x0 (by simp) with h | h
            · exact h.2
            · omega
          have s1 : V.okB (evalE cols r x1).1 = true ∧ (evalE cols r x1).1.k = (typeE cols x1).1 := by
            rcases HS x1 (by simp) with h | h
            · exact h.2
            · omega
          exact refEval_Eq cols r k s n x0 x1 h1 h2 h3 _ _ (HK x0 (by simp)) (HK x1 (by simp)) _ (e0.trans (by unfold operateL; simp [opEq, opLt, opAnd, opOr])) (eqv_less s0.1 s1.1 (by rw [s0.2, s1.2, hk])) hae hbe ho A Ac Ar c cc cr w hA hAc hAr
        · rw [ho] at e0
          exact refEval_Lt cols r k s n x0 x1 h1 h2 h3 _ _ (HK x0 (by simp)) (HK x1 (by simp)) _ (e0.trans (by unfold operateL; simp [opEq, opLt, opAnd, opOr])) hae hbe ho A Ac Ar c cc cr w hA hAc hAr
        · rw [ho] at e0
          exact refEval_And cols r k s n x0 x1 h1 h2 h3 _ _ (HK x0 (by simp)) (HK x1 (by simp)) _ (e0.trans (by unfold operateL; simp [opEq, opLt, opAnd, opOr])) hae hbe ho A Ac Ar c cc cr w hA hAc hAr
        · rw [ho] at e0
          exact refEval_Or cols r k s n x0 x1 h1 h2 h3 _ _ (HK x0 (by simp)) (HK x1 (by simp)) _ (e0.trans (by unfold operateL; simp [opEq, opLt, opAnd, opOr])) hae hbe ho A Ac Ar c cc cr w hA hAc hAr
        · rw [ho] at e0
          exact refEval_Cat cols r k s n x0 x1 h1 h2 h3 _ _ (HK x0 (by simp)) (HK x1 (by simp)) _ (e0.trans (by unfold operateL; simp [opEq, opLt, opAnd, opOr, opNot, opLen, opCat])) ⟨(HF x0 (by simp)).2.2, (HF x1 (by simp)).2.2⟩ hae hbe ho A Ac Ar c cc cr w hA hAc hAr
        · exact absurd (by rw [ho]; rfl) hc1
        · exact absurd (by rw [ho]; rfl) hc1
        · exact absurd (by rw [ho]; rfl) hc1
        · exact absurd ho hs
      · exact refEval_second cols r k s n x0 x1 h1 h2 h3 _ _ (HK x0 (by simp)) (HK x1 (by simp)) _ (by rw [e0, if_neg hbe]) hae hbe hs A Ac Ar c cc cr w hA hAc hAr
    · exact refEval_fail2 cols r k s n x0 x1 h1 h2 h3 _ _ (HK x0 (by simp)) (HK x1 (by simp)) _ (by rw [e0, if_neg hae]) hae A Ac Ar c cc cr w hA hAc hAr
end Go.Proofs.Ytldleckgkgeclaa
/-
  Package confluenceref5's Name.
-/
namespace Go.Proofs.Ytldleckgkgeclaa
open Go.RowKit
def wordsV : List Value := reservedL.map fun l => .string ⟨l.toArray⟩
theorem toList_mk (l : List UInt8) : (ByteArray.mk l.toArray).toList = l := by rw [ByteArray.toList_eq]
theorem words_at (k : Nat) (h : k < 23) : ∃ x : ByteArray, wordsV[k]? = some (.string x) ∧ reservedL[k]? = some x.toList := by
  have hl : reservedL.length = 23 := rfl
  have e : reservedL[k]? = some (reservedL[k]'(by omega)) := List.getElem?_eq_getElem (by omega)
  refine ⟨⟨(reservedL[k]'(by omega)).toArray⟩, ?_, ?_⟩
  · rw [wordsV, List.getElem?_map, e]; rfl
  · rw [toList_mk]; exact e
def resR (s : ByteArray) (l : List (List UInt8)) : Bool := l.any fun x => s.toList == x
theorem resR_step (s : ByteArray) (k : Nat) (x : List UInt8) (h : reservedL[k]? = some x) : resR s (reservedL.drop k) = ((s.toList == x) || resR s (reservedL.drop (k + 1))) := by
  have hlt := (List.getElem?_eq_some_iff.1 h).1
  have hx := (List.getElem?_eq_some_iff.1 h).2
  rw [List.drop_eq_getElem_cons hlt, hx]
  rfl
def refNameB (s : ByteArray) : Bool := if resB s then false else if lowL s.data.toList then (decide (1 ≤ (s.size : Int)) && decide ((s.size : Int) ≤ 12)) else false
theorem refNameB_eq (s : ByteArray) : refNameB s = nameB s := by
  have h1 : s.toList.isEmpty = !decide (1 ≤ (s.size : Int)) := by
    have : s.toList.length = s.size := by rw [ByteArray.toList_eq]; rfl
    cases h : s.toList with
    | nil => rw [h] at this; simp at this; simp [← this]
    | cons a l => rw [h] at this; simp at this; simp; omega
  unfold refNameB nameB
  rw [h1]
  cases resB s <;> cases lowL s.data.toList <;> simp
  by_cases h2 : s.size ≤ 12
  · have : (s.size : Int) ≤ 12 := by omega
    simp [h2, this]
  · have : ¬ (s.size : Int) ≤ 12 := by omega
    simp [h2, this]

set_option maxRecDepth 100000 in
set_option maxHeartbeats 4000000 in
theorem refName_any (s : ByteArray) (hs : s.size ≤ 9223372036854775807) (w : World) : Calls Try.prog 46 #[.string s] w fun e w' => e = .returned (.bool (nameB s)) ∧ Below w.heap.size w w' := by
  rw [← refNameB_eq]
  obtain ⟨W1, hW1⟩ : ∃ W1, W1 = w.alloc (.cells wordsV.toArray 9) := ⟨_, rfl⟩
  have HW : Hid (W1 = w.alloc (.cells wordsV.toArray 9)) := Lib.hid hW1
  have HB : Hid (Below w.heap.size w W1) := Lib.hid (by rw [hW1]; exact (Below.refl _ _).alloc (Nat.le_refl _) _)
  have hcell : Hid (∀ k x, wordsV[k]? = some x → W1.cell? ⟨w.heap.size, k, none⟩ = some x) := Lib.hid fun k x hx => by
    have hh : W1.heap[w.heap.size]? = some (.cells wordsV.toArray 9) := by rw [hW1]; exact heap_alloc_new w _
    simp only [World.cell?, hh]
    simpa using hx
  clear hW1
  go_enter Try.func46, Try.ntmps46
  go_wp2_with fail
  go_loopw [4] (fun i wr => ∃ k : Nat, k ≤ 23 ∧ i = .int .i64 k ∧ wr = W1 ∧ Hid (resB s = resR s (reservedL.drop k))) (fun i _ => 23 - (intOf i).toNat)
  case atStart => exact ⟨0, Nat.zero_le _, rfl, by rw [HW.out]; rfl, rfl⟩
  case round =>
    obtain ⟨k, hk, rfl, rfl, hz⟩ := hrel
    by_cases hlt : k < 23
    · obtain ⟨x, hx1, hx2⟩ := words_at k hlt
      have hc := hcell.out k _ hx1
      have hi0 : (0 : Int) ≤ (k : Int) := by omega
      have hi1 : (k : Int) < 23 := by omega
      have hst : Hid (resB s = ((s.toList == x.toList) || resR s (reservedL.drop (k + 1)))) := Lib.hid (by rw [hz.out, resR_step s k _ hx2])
      clear hz hx1 hx2
      by_cases he : (x.toList == s.toList) = true
      · have he2 : (s.toList == x.toList) = true := by
          have : x.toList = s.toList := by simpa using he
          simp [this]
        have hf : Hid (refNameB s = false) := Lib.hid (by unfold refNameB; rw [hst.out, he2]; rfl)
        clear hst he2
        go_wp2_with fail
        go_ret
        exact ⟨by rw [hf.out]; rfl, HB.out⟩
      · have he' : (x.toList == s.toList) = false := by simpa using he
        have he2 : (s.toList == x.toList) = false := by
          cases h : (s.toList == x.toList)
          · rfl
          · have : s.toList = x.toList := by simpa using h
            rw [this] at he'
            simp at he'
        have hst2 : Hid (resB s = resR s (reservedL.drop (k + 1))) := Lib.hid (by rw [hst.out, he2, Bool.false_or])
        clear hst he2 he
        go_wp2_with fail
        go_roundw
        case rel => exact ⟨k + 1, by omega, by go_num, trivial, hst2⟩
        case measure => simp [intOf]; omega
    · have hr : Hid (resB s = false) := Lib.hid (by rw [hz.out, List.drop_of_length_le (by show 23 ≤ k; omega)]; rfl)
      clear hz
      go_wp2_with fail
      go_loop [5] (fun i => ∃ k : Nat, k ≤ s.size ∧ i = .int .i64 k ∧ Hid (lowL s.data.toList = lowL (s.data.toList.drop k))) (fun i => s.size - (intOf i).toNat)
      case atStart => exact ⟨0, Nat.zero_le _, rfl, rfl⟩
      case round =>
        obtain ⟨k, hk, rfl, hz⟩ := hrel
        by_cases hlt : k < s.size
        · have hst := Lib.hid (hz.out.trans (lowL_step s k hlt))
          clear hz
          by_cases a1 : 97 ≤ (s[k].toNat : Int)
          · by_cases a2 : (s[k].toNat : Int) ≤ 122
            · rw [decide_eq_true a1, decide_eq_true a2] at hst
              have hst' : Hid (lowL s.data.toList = lowL (s.data.toList.drop (k + 1))) := by
                have := hst.out; rwa [Bool.and_self, Bool.true_and] at this
              clear hst
              go_wp2_with fail
              go_round
              case rel => exact ⟨k + 1, by omega, by go_num, hst'⟩
              case measure => simp [intOf]; omega
            · have hst' : Hid (refNameB s = false) := by
                have := hst.out
                rw [decide_eq_false a2, Bool.and_false, Bool.false_and] at this
                exact Lib.hid (by unfold refNameB; rw [hr.out, this]; rfl)
              clear hst
              go_wp2_with fail
              go_ret
              exact ⟨by rw [hst'.out]; rfl, HB.out⟩
          · have hst' : Hid (refNameB s = false) := by
              have := hst.out
              rw [decide_eq_false a1, Bool.false_and, Bool.false_and] at this
              exact Lib.hid (by unfold refNameB; rw [hr.out, this]; rfl)
            clear hst
            go_wp2_with fail
            go_ret
            exact ⟨by rw [hst'.out]; rfl, HB.out⟩
        · have e : k = s.size := by omega
          subst e
          have hf : Hid (refNameB s = (decide (1 ≤ (s.size : Int)) && decide ((s.size : Int) ≤ 12))) := Lib.hid (by
            have := hz.out
            rw [List.drop_of_length_le (by simp)] at this
            unfold refNameB
            rw [hr.out, this]
            rfl)
          clear hz
          by_cases h1 : 1 ≤ (s.size : Int)
          · have d1 : decide (1 ≤ (s.size : Int)) = true := decide_eq_true h1
            rw [d1, Bool.true_and] at hf
            go_wp2_with fail
            go_ret
            exact ⟨by rw [hf.out]; rfl, HB.out⟩
          · have d1 : decide (1 ≤ (s.size : Int)) = false := decide_eq_false h1
            rw [d1, Bool.false_and] at hf
            go_wp2_with fail
            go_ret
            exact ⟨by rw [hf.out]; rfl, HB.out⟩
end Go.Proofs.Ytldleckgkgeclaa
