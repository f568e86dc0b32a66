/-
  Package expr's contracts: eval, Eval.
-/
import Derived.Test.YtldleckgkgeclaaExpr7
import Derived.Test.YtldleckgkgeclaaMem2
namespace Go.Proofs.Ytldleckgkgeclaa
open Go.RowKit
def V.fine (v : V) : Prop := -9223372036854775808 ≤ v.n ∧ v.n ≤ 9223372036854775807 ∧ v.s.size ≤ 1048576
inductive E.Fine : E → Prop
  | mk (k : Int) (s : ByteArray) (n : Int) (l : List E) (h1 : -9223372036854775808 ≤ n) (h2 : n ≤ 9223372036854775807) (h3 : s.size ≤ 1048576) (h : ∀ e ∈ l, E.Fine e) : E.Fine (.mk k s n l)
theorem typeL_ok (cols : List C) : ∀ {l : List E}, (typeL cols l).2 = 0 → ∀ e ∈ l, (typeE cols e).2 = 0
  | [], _, e, he => by cases he
  | x :: l, h, e, he => by
    rw [typeL] at h
    by_cases hx : (typeE cols x).2 = 0
    · rw [if_pos hx] at h
      rcases List.mem_cons.1 he with rfl | he
      · exact hx
      · exact typeL_ok cols h e he
    · rw [if_neg hx] at h
      exact absurd h hx
theorem type_kids {cols : List C} {k : Int} {s : ByteArray} {n : Int} {l : List E} (h1 : k ≠ 1) (h2 : k ≠ 2) (h3 : k ≠ 3) (h : (typeE cols (.mk k s n l)).2 = 0) : ∀ e ∈ l, (typeE cols e).2 = 0 := by
  rw [typeE, if_neg h1, if_neg h2, if_neg h3] at h
  by_cases hx : (typeL cols l).2 = 0
  · exact typeL_ok cols hx
  · rw [if_neg hx] at h
    exact absurd h hx
theorem wrap_fine (n : Int) : -9223372036854775808 ≤ wrap64 n ∧ wrap64 n ≤ 9223372036854775807 := by unfold wrap64; omega
theorem reckon_fine (op : List UInt8) (a b : Int) : -9223372036854775808 ≤ (reckonL op a b).1 ∧ (reckonL op a b).1 ≤ 9223372036854775807 := by
  unfold reckonL
  repeat (first | exact wrap_fine _ | split)
theorem boolI_fine (b : Bool) : -9223372036854775808 ≤ boolI b ∧ boolI b ≤ 9223372036854775807 := by cases b <;> decide
theorem numV_fine {n : Int} (h : -9223372036854775808 ≤ n ∧ n ≤ 9223372036854775807) : (numV n).fine := ⟨h.1, h.2, Nat.zero_le _⟩
theorem zeroV_fine : zeroV.fine := by unfold V.fine zeroV; decide
theorem operate_fine (op : List UInt8) {a b : V} (ha : a.fine) (hb : b.fine) : (operateL op a b).1.fine := by
  unfold operateL truthV
  have hs := ha.2.2
  by_cases q0 : op = opEq
  · rw [if_pos q0]; exact numV_fine (boolI_fine _)
  rw [if_neg q0]
  by_cases q1 : op = opLt
  · rw [if_pos q1]; exact numV_fine (boolI_fine _)
  rw [if_neg q1]
  by_cases q2 : op = opAnd
  · rw [if_pos q2]; exact numV_fine (boolI_fine _)
  rw [if_neg q2]
  by_cases q3 : op = opOr
  · rw [if_pos q3]; exact numV_fine (boolI_fine _)
  rw [if_neg q3]
  by_cases q4 : op = opNot
  · rw [if_pos q4]; exact numV_fine (boolI_fine _)
  rw [if_neg q4]
  by_cases q5 : op = opLen
  · rw [if_pos q5]; exact numV_fine ⟨by omega, by omega⟩
  rw [if_neg q5]
  by_cases q6 : op = opCat
  · rw [if_pos q6]
    by_cases h40 : 40 < a.s.size + b.s.size
    · rw [if_pos h40]; exact zeroV_fine
    · rw [if_neg h40]
      refine ⟨by show (_ : Int) ≤ 0; decide, by show (0 : Int) ≤ _; decide, ?_⟩
      show (a.s ++ b.s).size ≤ 1048576
      rw [ByteArray.size_append]; omega
  rw [if_neg q6]
  split
  · exact numV_fine (reckon_fine _ _ _)
  · exact zeroV_fine
theorem gather_fine : ∀ {l : List (V × Int)}, (∀ x ∈ l, x.1.fine) → ∀ v ∈ (gather l).1, v.fine
  | [], _, v, hv => by cases hv
  | x :: l, h, v, hv => by
    rw [gather] at hv
    by_cases hx : x.2 = 0
    · rw [if_pos hx] at hv
      rcases List.mem_cons.1 hv with rfl | hv
      · exact h x List.mem_cons_self
      · exact gather_fine (fun y hy => h y (List.mem_cons_of_mem _ hy)) v hv
    · rw [if_neg hx] at hv
      cases hv
theorem getD_fine {l : List V} (h : ∀ v ∈ l, v.fine) (i : Nat) : (l.getD i zeroV).fine := by
  rw [List.getD_eq_getElem?_getD]
  cases e : l[i]? with
  | none => exact zeroV_fine
  | some v => exact h v (List.mem_of_getElem? e)
theorem getD_fine2 {l : List (V × Int)} (h : ∀ v ∈ l, v.1.fine) (i : Nat) : (l.getD i (zeroV, 0)).1.fine := by
  rw [List.getD_eq_getElem?_getD]
  cases e : l[i]? with
  | none => exact zeroV_fine
  | some v => exact h v (List.mem_of_getElem? e)
theorem eval_fine (cols : List C) {r : List V} (hr : ∀ v ∈ r, v.fine) : ∀ e : E, e.Fine → (evalE cols r e).1.fine := by
  refine E.ind fun k s n l ih hf => ?_
  obtain ⟨_, _, _, _, f1, f2, f3, f4⟩ := hf
  have hl : ∀ x ∈ evalL cols r l, x.1.fine := by
    rw [evalL_map]
    intro x hx
    obtain ⟨e, he, rfl⟩ := List.mem_map.1 hx
    exact ih e he (f4 e he)
  rw [evalE]
  by_cases h1 : k = 1
  · rw [if_pos h1]; exact getD_fine hr _
  rw [if_neg h1]
  by_cases h2 : k = 2
  · rw [if_pos h2]; exact numV_fine ⟨f1, f2⟩
  rw [if_neg h2]
  by_cases h3 : k = 3
  · rw [if_pos h3]
    exact ⟨by show (_ : Int) ≤ 0; decide, by show (0 : Int) ≤ _; decide, f3⟩
  rw [if_neg h3]
  split
  · split
    · split <;> exact getD_fine2 hl _
    · exact zeroV_fine
  · split
    · exact operate_fine _ (getD_fine (gather_fine hl) _) (getD_fine (gather_fine hl) _)
    · exact zeroV_fine
theorem gather_step {l : List (V × Int)} {k : Nat} {x : V × Int} (hx : l[k]? = some x) :
    gather (l.drop k) = if x.2 = 0 then (x.1 :: (gather (l.drop (k + 1))).1, (gather (l.drop (k + 1))).2) else ([], x.2) := by
  obtain ⟨h1, e1⟩ := List.getElem?_eq_some_iff.1 hx
  rw [List.drop_eq_getElem_cons h1, e1, gather]
theorem VRow.cells_ {w : World} {A : Option Addr} {l : List V} (h : VRow w w.heap.size A l) {k : Nat} {v : V} (hv : l[k]? = some v) : ∃ b o, A = some ⟨b, o, none⟩ ∧ b < w.heap.size ∧
    w.cell? ⟨b, o + k * 3, none⟩ = some (.int .i64 v.k) ∧ w.cell? ⟨b, o + k * 3 + 1, none⟩ = some (.int .i64 v.n) ∧ w.cell? ⟨b, o + k * 3 + 2, none⟩ = some (.string v.s) := by
  rcases h with rfl | ⟨b, o, rfl, hlt, hA⟩
  · simp at hv
  · obtain ⟨h1, h2, h3⟩ := hA k v hv
    exact ⟨b, o, rfl, hlt, h1, h2, h3⟩

def EvalExp (cols : List C) (r : List V) (e : E) : Prop := madeE e = true → (typeE cols e).2 = 0 → e.Fine → ∀ (A Ac Ar : Option Addr) (c cc cr : Nat) (w : World), EKids w w.heap.size A e.kids → CRow w w.heap.size Ac cols → VRow w w.heap.size Ar r →
  Calls Try.prog 40 #[e.val A c, .slice Ac cols.length cc, .slice Ar r.length cr] w fun res w' =>
    res = .returned (.tuple #[.agg #[.int .i64 (evalE cols r e).1.k, .int .i64 (evalE cols r e).1.n, .string (evalE cols r e).1.s], .int .i64 (evalE cols r e).2]) ∧ Below w.heap.size w w'

set_option maxRecDepth 100000 in
set_option maxHeartbeats 1000000 in
theorem eval_leaf (cols : List C) (r : List V) (hcl : cols.length ≤ 9223372036854775807) (hrl : r.length = cols.length) (k : Int) (s : ByteArray) (n : Int) (l : List E) (hk : k = 1 ∨ k = 2 ∨ k = 3) : EvalExp cols r (.mk k s n l) := by
  intro hmade htype hfine A Ac Ar c cc cr w hA hAc hAr
  simp only [E.val, E.k, E.s, E.n, E.kids] at hA ⊢
  obtain ⟨w1, ew1⟩ : ∃ w1, w1 = (w.alloc (.cells #[.int .i64 k, .string s, .int .i64 n, .slice A l.length c] 35)).alloc (.cells #[.int .i64 0, .int .i64 0, .string ⟨#[]⟩] 29) := ⟨_, rfl⟩
  have hb1 : Below w.heap.size w w1 := by rw [ew1]; exact ((Below.refl _ _).alloc (Nat.le_refl _) _).alloc (by simp) _
  have HB1 := Lib.hid hb1
  have hws : w1.heap.size = w.heap.size + 2 := by rw [ew1]; simp
  have hB : Hid (w1.heap[w.heap.size + 1]? = some (.cells #[.int .i64 0, .int .i64 0, .string ⟨#[]⟩] 29 (0, 0))) := Lib.hid (by
    rw [ew1]
    have := heap_alloc_new (w.alloc (.cells #[.int .i64 k, .string s, .int .i64 n, .slice A l.length c] 35)) (.cells #[.int .i64 0, .int .i64 0, .string ⟨#[]⟩] 29)
    simpa using this)
  have HW1 := Lib.hid ew1
  rcases hk with rfl | rfl | rfl
  · have hfb : findB cols s = true := by
      cases h : findB cols s
      · rw [typeE, if_pos rfl, h] at htype; simp at htype
      · rfl
    obtain ⟨j, x, ej, hx⟩ := find_at hfb
    have hj : j < cols.length := (List.getElem?_eq_some_iff.1 hx).1
    obtain ⟨v, hv⟩ : ∃ v, r[j]? = some v := ⟨_, List.getElem?_eq_getElem (by omega)⟩
    have hz : Hid (evalE cols r (.mk 1 s n l) = (v, 0)) := Lib.hid (by rw [evalE, if_pos rfl, ej, Int.toNat_natCast, List.getD_eq_getElem?_getD, hv]; rfl)
    obtain ⟨b, o, rfl, hlt, c1, c2, c3⟩ := hAr.cells_ hv
    have hf := Lib.hid (find_any Ac cc cols hcl s w1 ((hAc.below hb1).more hb1.size))
    rw [hfb, ej] at hf
    rw [hrl]
    obtain ⟨vk, vn, vs⟩ := v
    simp only at c1 c2 c3
    generalize evalE cols r (.mk 1 s n l) = q at *
    generalize cols.length = m at *
    clear hA hAc hAr hmade htype hfine hx hfb ej hv ew1 hrl
    generalize l.length = ln at *
    go_enter Try.func40, Try.ntmps40
    go_wp2_with fail
    rw [← HW1.out]
    refine (hf.out).mono ?_
    rintro e w4 ⟨rfl, hb4⟩
    have hs4 := hb4.size
    have d1 := ((hb1.trans (hb4.mono (by omega))).cell hlt).trans c1
    have d2 := ((hb1.trans (hb4.mono (by omega))).cell hlt).trans c2
    have d3 := ((hb1.trans (hb4.mono (by omega))).cell hlt).trans c3
    have HB4 : Hid (w4.heap[w.heap.size + 1]? = some (.cells #[.int .i64 0, .int .i64 0, .string ⟨#[]⟩] 29 (0, 0))) := Lib.hid ((hb4.block _ (by omega)).trans hB.out)
    have HBW := Lib.hid (HB1.out.trans (hb4.mono (by omega)))
    obtain ⟨⟨k0, k1, k2⟩, f0, f1, f2⟩ := cell3 HB4.out
    clear hb4 hf hb1 c1 c2 c3
    go_wp2_with fail
    refine bodyPost_ret (results_two rfl rfl rfl (put3_block HB4.out)) rfl ?_
    exact ⟨by rw [hz.out]; rfl, put3_below HBW.out (Nat.le_succ _)⟩
  · have hz : Hid (evalE cols r (.mk 2 s n l) = (numV n, 0)) := Lib.hid (by rw [evalE, if_neg (by decide), if_pos rfl])
    have ht := Lib.hid (value_num n w1)
    generalize evalE cols r (.mk 2 s n l) = q at *
    clear hA hAc hAr hmade htype hfine ew1
    generalize l.length = ln at *
    go_enter Try.func40, Try.ntmps40
    go_wp2_with fail
    rw [← HW1.out]
    refine (ht.out).mono ?_
    rintro e w4 ⟨rfl, hw4⟩
    have hb4 : Below w1.heap.size w1 w4 := by rw [← hw4]; exact (Below.refl _ _).alloc (Nat.le_refl _) _
    clear hw4
    have hs4 := hb4.size
    have HB4 : Hid (w4.heap[w.heap.size + 1]? = some (.cells #[.int .i64 0, .int .i64 0, .string ⟨#[]⟩] 29 (0, 0))) := Lib.hid ((hb4.block _ (by omega)).trans hB.out)
    have HBW := Lib.hid (HB1.out.trans (hb4.mono (by omega)))
    obtain ⟨⟨k0, k1, k2⟩, f0, f1, f2⟩ := cell3 HB4.out
    clear hb4 ht hb1
    go_wp2_with fail
    refine bodyPost_ret (results_two rfl rfl rfl (put3_block HB4.out)) rfl ?_
    exact ⟨by rw [hz.out]; rfl, put3_below HBW.out (Nat.le_succ _)⟩
  · have hz : Hid (evalE cols r (.mk 3 s n l) = (strV s, 0)) := Lib.hid (by rw [evalE, if_neg (by decide), if_neg (by decide), if_pos rfl])
    have ht := Lib.hid (value_str s w1)
    generalize evalE cols r (.mk 3 s n l) = q at *
    clear hA hAc hAr hmade htype hfine ew1
    generalize l.length = ln at *
    go_enter Try.func40, Try.ntmps40
    go_wp2_with fail
    rw [← HW1.out]
    refine (ht.out).mono ?_
    rintro e w4 ⟨rfl, hw4⟩
    have hb4 : Below w1.heap.size w1 w4 := by rw [← hw4]; exact (Below.refl _ _).alloc (Nat.le_refl _) _
    clear hw4
    have hs4 := hb4.size
    have HB4 : Hid (w4.heap[w.heap.size + 1]? = some (.cells #[.int .i64 0, .int .i64 0, .string ⟨#[]⟩] 29 (0, 0))) := Lib.hid ((hb4.block _ (by omega)).trans hB.out)
    have HBW := Lib.hid (HB1.out.trans (hb4.mono (by omega)))
    obtain ⟨⟨k0, k1, k2⟩, f0, f1, f2⟩ := cell3 HB4.out
    clear hb4 ht hb1
    go_wp2_with fail
    refine bodyPost_ret (results_two rfl rfl rfl (put3_block HB4.out)) rfl ?_
    exact ⟨by rw [hz.out]; rfl, put3_below HBW.out (Nat.le_succ _)⟩

/-- behind a call, and a value put into a box: the result's own box is as it was -/
theorem boxed {w w1 w4 : World} (HB1 : Hid (Below w.heap.size w w1)) (hB : Hid (w1.heap[w.heap.size + 1]? = some (.cells #[.int .i64 0, .int .i64 0, .string ⟨#[]⟩] 29 (0, 0)))) (hb4 : Below w1.heap.size w1 w4)
    (hws : w1.heap.size = w.heap.size + 2) (vk vn : Int) (vs : ByteArray) :
    Hid ((w4.alloc (.cells #[.int .i64 vk, .int .i64 vn, .string vs] 29)).heap[w.heap.size + 1]? = some (.cells #[.int .i64 0, .int .i64 0, .string ⟨#[]⟩] 29 (0, 0))) ∧
    Hid (Below w.heap.size w (w4.alloc (.cells #[.int .i64 vk, .int .i64 vn, .string vs] 29))) ∧ w.heap.size + 2 ≤ w4.heap.size := by
  have hs4 := hb4.size
  refine ⟨Lib.hid ?_, Lib.hid ?_, by omega⟩
  · rw [Below.heap_alloc _ _ _ (by omega)]
    exact (hb4.block _ (by omega)).trans hB.out
  · exact (HB1.out.trans (hb4.mono (by omega))).alloc (by omega) _
theorem list3 {α : Type} {l : List α} (h : l.length = 3) : ∃ a b c, l = [a, b, c] := by
  match l, h with
  | [a, b, c], _ => exact ⟨a, b, c, rfl⟩
set_option maxRecDepth 100000 in
set_option maxHeartbeats 1000000 in
theorem eval_if (cols : List C) (r : List V) (k : Int) (s : ByteArray) (n : Int) (l : List E) (hM : ∀ e ∈ l, EvalExp cols r e) (h1 : k ≠ 1) (h2 : k ≠ 2) (h3 : k ≠ 3) (hs : s.toList = opIf) : EvalExp cols r (.mk k s n l) := by
  intro hmade htype hfine A Ac Ar c cc cr w hA hAc hAr
  obtain ⟨_, hlc, hmk⟩ := made_kids h1 h2 h3 hmade
  have htk := type_kids h1 h2 h3 htype
  obtain ⟨_, _, _, _, _, _, _, hfk⟩ := hfine
  rw [hs] at hlc
  obtain ⟨x0, x1, x2, rfl⟩ := list3 (show l.length = 3 from hlc)
  simp only [E.val, E.k, E.s, E.n, E.kids, List.length_cons, List.length_nil, Nat.zero_add, Nat.reduceAdd] at hA ⊢
  obtain ⟨w1, ew1⟩ : ∃ w1, w1 = (w.alloc (.cells #[.int .i64 k, .string s, .int .i64 n, .slice A 3 c] 35)).alloc (.cells #[.int .i64 0, .int .i64 0, .string ⟨#[]⟩] 29) := ⟨_, rfl⟩
  have hb1 : Below w.heap.size w w1 := by rw [ew1]; exact ((Below.refl _ _).alloc (Nat.le_refl _) _).alloc (by simp) _
  have HB1 := Lib.hid hb1
  have hws : w1.heap.size = w.heap.size + 2 := by rw [ew1]; simp
  have hB : Hid (w1.heap[w.heap.size + 1]? = some (.cells #[.int .i64 0, .int .i64 0, .string ⟨#[]⟩] 29 (0, 0))) := Lib.hid (by
    rw [ew1]
    have := heap_alloc_new (w.alloc (.cells #[.int .i64 k, .string s, .int .i64 n, .slice A 3 c] 35)) (.cells #[.int .i64 0, .int .i64 0, .string ⟨#[]⟩] 29)
    simpa using this)
  have HW1 := Lib.hid ew1
  have H0 := Lib.hid (hM x0 (by simp) (hmk x0 (by simp)) (htk x0 (by simp)) (hfk x0 (by simp)))
  have H1 := Lib.hid (hM x1 (by simp) (hmk x1 (by simp)) (htk x1 (by simp)) (hfk x1 (by simp)))
  have H2 := Lib.hid (hM x2 (by simp) (hmk x2 (by simp)) (htk x2 (by simp)) (hfk x2 (by simp)))
  have hz : Hid (evalE cols r (.mk k s n [x0, x1, x2]) = if (evalE cols r x0).2 = 0 then (if (evalE cols r x0).1.n = 0 then evalE cols r x2 else evalE cols r x1) else (zeroV, (evalE cols r x0).2)) := Lib.hid (by
    rw [evalE, if_neg h1, if_neg h2, if_neg h3, if_pos hs]; rfl)
  have HA := Lib.hid ((hA.low hb1).more hb1.size)
  have HC := Lib.hid ((hAc.below hb1).more hb1.size)
  have HR := Lib.hid ((hAr.below hb1).more hb1.size)
  generalize evalE cols r (.mk k s n [x0, x1, x2]) = q at *
  have h1' : (k == 1) = false := by simpa using h1
  have h2' : (k == 2) = false := by simpa using h2
  have h3' : (k == 3) = false := by simpa using h3
  simp only [opIf] at hs
  obtain ⟨mc, emc⟩ : ∃ m, m = cols.length := ⟨_, rfl⟩
  obtain ⟨mr, emr⟩ : ∃ m, m = r.length := ⟨_, rfl⟩
  have HMC := Lib.hid emc
  have HMR := Lib.hid emr
  rw [← emc, ← emr]
  obtain ⟨b, o, A0, e0, rfl, hlt, a0, a1, a2, a3, hK0⟩ := HA.out.get_ w1 (Below.refl _ _) 0 x0 rfl
  have hx0 : (0 : Int) < 3 := by omega
  have hx1 : (1 : Int) < 3 := by omega
  have hx2 : (2 : Int) < 3 := by omega
  have H0c := Lib.hid (H0.out A0 Ac Ar e0 cc cr w1 hK0 HC.out HR.out)
  obtain ⟨xk, xs, xn, xl⟩ := x0
  simp only [E.val, E.k, E.s, E.n, E.kids, Nat.zero_mul, Nat.add_zero] at a0 a1 a2 a3 H0c
  rw [← HMC.out, ← HMR.out] at H0c
  generalize hq0 : evalE cols r (.mk xk xs xn xl) = q0 at *
  obtain ⟨⟨vk, vn, vs⟩, ve⟩ := q0
  simp only at H0c hz
  generalize xl.length = xm at *
  clear hA hAc hAr hmade htype hmk htk hfk hM ew1 h1 h2 h3 hlc H0 hK0 emc emr hq0
  rw [HW1.out] at a0 a1 a2 a3
  by_cases hve : ve = 0
  · subst hve
    have hz1 : Hid (q = if vn = 0 then evalE cols r x2 else evalE cols r x1) := Lib.hid (by rw [hz.out, if_pos rfl])
    clear hz
    obtain ⟨q1, hq1⟩ : ∃ q1, q1 = evalE cols r x1 := ⟨_, rfl⟩
    obtain ⟨q2, hq2⟩ : ∃ q2, q2 = evalE cols r x2 := ⟨_, rfl⟩
    rw [← hq1, ← hq2] at hz1
    by_cases hvn : vn = 0
    · subst hvn
      have hz2 : Hid (q = q2) := Lib.hid (by rw [hz1.out, if_pos rfl])
      clear hz1
      have HQ := Lib.hid hq2
      clear hq1 hq2
      go_enter Try.func40, Try.ntmps40
      go_wp2_with fail
      rw [← HW1.out]
      refine (H0c.out).mono ?_
      rintro e w4 ⟨rfl, hb4⟩
      obtain ⟨HB5, HBW, hs5⟩ := boxed HB1 hB hb4 hws vk 0 vs
      have hb5 : Below w1.heap.size w1 (w4.alloc (.cells #[.int .i64 vk, .int .i64 0, .string vs] 29)) := hb4.alloc hb4.size _
      obtain ⟨b', o', A2, e2, hb', _, a0, a1, a2, a3, hK2⟩ := HA.out.get_ _ hb5 2 x2 rfl
      injection hb' with hb'
      injection hb' with hbb hoo
      subst hbb hoo
      have H2c := Lib.hid (H2.out A2 Ac Ar e2 cc cr _ hK2 ((HC.out.below hb5).more hb5.size) ((HR.out.below hb5).more hb5.size))
      obtain ⟨yk, ys, yn, yl⟩ := x2
      simp only [E.val, E.k, E.s, E.n, E.kids] at a0 a1 a2 a3 H2c
      rw [← HMC.out, ← HMR.out, ← HQ.out] at H2c
      generalize yl.length = ym at *
      obtain ⟨⟨uk, un, us⟩, ue⟩ := q2
      simp only at H2c
      clear hb4 hb5 H0c hb1 hK2
      go_wp2_with fail
      refine (H2c.out).mono ?_
      rintro e w6 ⟨rfl, hb6⟩
      have HB6 : Hid (w6.heap[w.heap.size + 1]? = some (.cells #[.int .i64 0, .int .i64 0, .string ⟨#[]⟩] 29 (0, 0))) := Lib.hid ((hb6.block _ (by simp; omega)).trans HB5.out)
      have HBX := Lib.hid (HBW.out.trans (hb6.mono (by simp; omega)))
      obtain ⟨⟨k0, k1, k2⟩, f0, f1, f2⟩ := cell3 HB6.out
      clear hb6 H2c
      go_wp2_with fail
      refine bodyPost_ret (results_two rfl rfl rfl (put3_block HB6.out)) rfl ?_
      exact ⟨by rw [hz2.out]; rfl, put3_below HBX.out (Nat.le_succ _)⟩
    · have hvn' : (vn != 0) = true := by simpa using hvn
      have hz2 : Hid (q = q1) := Lib.hid (by rw [hz1.out, if_neg hvn])
      clear hz1
      have HQ := Lib.hid hq1
      clear hq1 hq2
      go_enter Try.func40, Try.ntmps40
      go_wp2_with fail
      rw [← HW1.out]
      refine (H0c.out).mono ?_
      rintro e w4 ⟨rfl, hb4⟩
      obtain ⟨HB5, HBW, hs5⟩ := boxed HB1 hB hb4 hws vk vn vs
      have hb5 : Below w1.heap.size w1 (w4.alloc (.cells #[.int .i64 vk, .int .i64 vn, .string vs] 29)) := hb4.alloc hb4.size _
      obtain ⟨b', o', A2, e2, hb', _, a0, a1, a2, a3, hK2⟩ := HA.out.get_ _ hb5 1 x1 rfl
      injection hb' with hb'
      injection hb' with hbb hoo
      subst hbb hoo
      have H2c := Lib.hid (H1.out A2 Ac Ar e2 cc cr _ hK2 ((HC.out.below hb5).more hb5.size) ((HR.out.below hb5).more hb5.size))
      obtain ⟨yk, ys, yn, yl⟩ := x1
      simp only [E.val, E.k, E.s, E.n, E.kids, Nat.one_mul] at a0 a1 a2 a3 H2c
      rw [← HMC.out, ← HMR.out, ← HQ.out] at H2c
      generalize yl.length = ym at *
      obtain ⟨⟨uk, un, us⟩, ue⟩ := q1
      simp only at H2c
      clear hb4 hb5 H0c hb1 hK2
      go_wp2_with fail
      refine (H2c.out).mono ?_
      rintro e w6 ⟨rfl, hb6⟩
      have HB6 : Hid (w6.heap[w.heap.size + 1]? = some (.cells #[.int .i64 0, .int .i64 0, .string ⟨#[]⟩] 29 (0, 0))) := Lib.hid ((hb6.block _ (by simp; omega)).trans HB5.out)
      have HBX := Lib.hid (HBW.out.trans (hb6.mono (by simp; omega)))
      obtain ⟨⟨k0, k1, k2⟩, f0, f1, f2⟩ := cell3 HB6.out
      clear hb6 H2c
      go_wp2_with fail
      refine bodyPost_ret (results_two rfl rfl rfl (put3_block HB6.out)) rfl ?_
      exact ⟨by rw [hz2.out]; rfl, put3_below HBX.out (Nat.le_succ _)⟩
  · have hve' : (ve != 0) = true := by simpa using hve
    have hz2 : Hid (q = (zeroV, ve)) := Lib.hid (by rw [hz.out, if_neg hve])
    clear hz
    go_enter Try.func40, Try.ntmps40
    go_wp2_with fail
    rw [← HW1.out]
    refine (H0c.out).mono ?_
    rintro e w4 ⟨rfl, hb4⟩
    obtain ⟨HB5, HBW, hs5⟩ := boxed HB1 hB hb4 hws vk vn vs
    obtain ⟨⟨k0, k1, k2⟩, f0, f1, f2⟩ := cell3 HB5.out
    clear hb4 H0c hb1
    go_wp2_with fail
    refine bodyPost_ret (results_two rfl rfl rfl (put3_block HB5.out)) rfl ?_
    exact ⟨by rw [hz2.out]; rfl, put3_below HBW.out (Nat.le_succ _)⟩
end Go.Proofs.Ytldleckgkgeclaa
