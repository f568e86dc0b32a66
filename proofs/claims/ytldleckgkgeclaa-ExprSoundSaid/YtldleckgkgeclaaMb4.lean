/-
  Package expr's contracts: eval, Eval.
-/
import Derived.Test.YtldleckgkgeclaaMb3
import Derived.RegionTactic
import Derived.ChangeAlike
import Derived.Deep.DeepCutAuto
import Derived.BigQuiet
set_option linter.unusedVariables false
set_option linter.unusedSimpArgs false
namespace Go.Proofs.Ytldleckgkgeclaa
open Go.RowKit
def V.fine (v : V) : Prop := -9223372036854775808 ≤ v.n ∧ v.n ≤ 9223372036854775807 ∧ v.s.size ≤ 1048576
inductive E.Fine : E → Prop
  | mk (k : Int) (s : ByteArray) (n : Int) (l : List E) (h1 : -9223372036854775808 ≤ n) (h2 : n ≤ 9223372036854775807) (h3 : s.size ≤ 1048576) (h : ∀ e ∈ l, E.Fine e) : E.Fine (.mk k s n l)
theorem typeL_ok (cols : List C) : ∀ {l : List E}, (typeL cols l).2 = 0 → ∀ e ∈ l, (typeE cols e).2 = 0
  | [], _, e, he => by cases he
  | x :: l, h, e, he => by
    rw [typeL] at h
    by_cases hx : (typeE cols x).2 = 0
    · rw [if_pos hx] at h
      rcases List.mem_cons.1 he with rfl | he
      · exact hx
      · exact typeL_ok cols h e he
    · rw [if_neg hx] at h
      exact absurd h hx
theorem type_kids {cols : List C} {k : Int} {s : ByteArray} {n : Int} {l : List E} (h1 : k ≠ 1) (h2 : k ≠ 2) (h3 : k ≠ 3) (h : (typeE cols (.mk k s n l)).2 = 0) : ∀ e ∈ l, (typeE cols e).2 = 0 := by
  rw [typeE, if_neg h1, if_neg h2, if_neg h3] at h
  by_cases hx : (typeL cols l).2 = 0
  · exact typeL_ok cols hx
  · rw [if_neg hx] at h
    exact absurd h hx
theorem wrap_fine (n : Int) : -9223372036854775808 ≤ wrap64 n ∧ wrap64 n ≤ 9223372036854775807 := by unfold wrap64; omega
theorem reckon_fine (op : List UInt8) (a b : Int) : -9223372036854775808 ≤ (reckonL op a b).1 ∧ (reckonL op a b).1 ≤ 9223372036854775807 := by
  unfold reckonL
  repeat (first | exact wrap_fine _ | split)
theorem boolI_fine (b : Bool) : -9223372036854775808 ≤ boolI b ∧ boolI b ≤ 9223372036854775807 := by cases b <;> decide
theorem numV_fine {n : Int} (h : -9223372036854775808 ≤ n ∧ n ≤ 9223372036854775807) : (numV n).fine := ⟨h.1, h.2, Nat.zero_le _⟩
theorem zeroV_fine : zeroV.fine := by unfold V.fine zeroV; decide
theorem operate_fine (op : List UInt8) {a b : V} (ha : a.fine) (hb : b.fine) : (operateL op a b).1.fine := by
  unfold operateL truthV
  have hs := ha.2.2
  by_cases q0 : op = opEq
  · rw [if_pos q0]; exact numV_fine (boolI_fine _)
  rw [if_neg q0]
  by_cases q1 : op = opLt
  · rw [if_pos q1]; exact numV_fine (boolI_fine _)
  rw [if_neg q1]
  by_cases q2 : op = opAnd
  · rw [if_pos q2]; exact numV_fine (boolI_fine _)
  rw [if_neg q2]
  by_cases q3 : op = opOr
  · rw [if_pos q3]; exact numV_fine (boolI_fine _)
  rw [if_neg q3]
  by_cases q4 : op = opNot
  · rw [if_pos q4]; exact numV_fine (boolI_fine _)
  rw [if_neg q4]
  by_cases q5 : op = opLen
  · rw [if_pos q5]; exact numV_fine ⟨by omega, by omega⟩
  rw [if_neg q5]
  by_cases q6 : op = opCat
  · rw [if_pos q6]
    by_cases h40 : 40 < a.s.size + b.s.size
    · rw [if_pos h40]; exact zeroV_fine
    · rw [if_neg h40]
      refine ⟨by show (_ : Int) ≤ 0; decide, by show (0 : Int) ≤ _; decide, ?_⟩
      show (a.s ++ b.s).size ≤ 1048576
      rw [ByteArray.size_append]; omega
  rw [if_neg q6]
  split
  · exact numV_fine (reckon_fine _ _ _)
  · exact zeroV_fine
theorem gather_fine : ∀ {l : List (V × Int)}, (∀ x ∈ l, x.1.fine) → ∀ v ∈ (gather l).1, v.fine
  | [], _, v, hv => by cases hv
  | x :: l, h, v, hv => by
    rw [gather] at hv
    by_cases hx : x.2 = 0
    · rw [if_pos hx] at hv
      rcases List.mem_cons.1 hv with rfl | hv
      · exact h x List.mem_cons_self
      · exact gather_fine (fun y hy => h y (List.mem_cons_of_mem _ hy)) v hv
    · rw [if_neg hx] at hv
      cases hv
theorem getD_fine {l : List V} (h : ∀ v ∈ l, v.fine) (i : Nat) : (l.getD i zeroV).fine := by
  rw [List.getD_eq_getElem?_getD]
  cases e : l[i]? with
  | none => exact zeroV_fine
  | some v => exact h v (List.mem_of_getElem? e)
theorem getD_fine2 {l : List (V × Int)} (h : ∀ v ∈ l, v.1.fine) (i : Nat) : (l.getD i (zeroV, 0)).1.fine := by
  rw [List.getD_eq_getElem?_getD]
  cases e : l[i]? with
  | none => exact zeroV_fine
  | some v => exact h v (List.mem_of_getElem? e)
theorem eval_fine (cols : List C) {r : List V} (hr : ∀ v ∈ r, v.fine) : ∀ e : E, e.Fine → (evalE cols r e).1.fine := by
  refine E.ind fun k s n l ih hf => ?_
  obtain ⟨_, _, _, _, f1, f2, f3, f4⟩ := hf
  have hl : ∀ x ∈ evalL cols r l, x.1.fine := by
    rw [evalL_map]
    intro x hx
    obtain ⟨e, he, rfl⟩ := List.mem_map.1 hx
    exact ih e he (f4 e he)
  rw [evalE]
  by_cases h1 : k = 1
  · rw [if_pos h1]; exact getD_fine hr _
  rw [if_neg h1]
  by_cases h2 : k = 2
  · rw [if_pos h2]; exact numV_fine ⟨f1, f2⟩
  rw [if_neg h2]
  by_cases h3 : k = 3
  · rw [if_pos h3]
    exact ⟨by show (_ : Int) ≤ 0; decide, by show (0 : Int) ≤ _; decide, f3⟩
  rw [if_neg h3]
  split
  · split
    · split <;> exact getD_fine2 hl _
    · exact zeroV_fine
  · split
    · exact operate_fine _ (getD_fine (gather_fine hl) _) (getD_fine (gather_fine hl) _)
    · exact zeroV_fine
theorem gather_step {l : List (V × Int)} {k : Nat} {x : V × Int} (hx : l[k]? = some x) :
    gather (l.drop k) = if x.2 = 0 then (x.1 :: (gather (l.drop (k + 1))).1, (gather (l.drop (k + 1))).2) else ([], x.2) := by
  obtain ⟨h1, e1⟩ := List.getElem?_eq_some_iff.1 hx
  rw [List.drop_eq_getElem_cons h1, e1, gather]
theorem VRow.cells_ {w : World} {A : Option Addr} {l : List V} (h : VRow w w.heap.size A l) {k : Nat} {v : V} (hv : l[k]? = some v) : ∃ b o, A = some ⟨b, o, none⟩ ∧ b < w.heap.size ∧
    w.cell? ⟨b, o + k * 3, none⟩ = some (.int .i64 v.k) ∧ w.cell? ⟨b, o + k * 3 + 1, none⟩ = some (.int .i64 v.n) ∧ w.cell? ⟨b, o + k * 3 + 2, none⟩ = some (.string v.s) := by
  rcases h with rfl | ⟨b, o, rfl, hlt, hA⟩
  · simp at hv
  · obtain ⟨h1, h2, h3⟩ := hA k v hv
    exact ⟨b, o, rfl, hlt, h1, h2, h3⟩

def EvalExp (cols : List C) (r : List V) (e : E) : Prop := madeE e = true → (typeE cols e).2 = 0 → e.Fine → ∀ (A Ac Ar : Option Addr) (c cc cr : Nat) (w : World), EKids w w.heap.size A e.kids → CRow w w.heap.size Ac cols → VRow w w.heap.size Ar r →
  Calls Try.prog 40 #[e.val A c, .slice Ac cols.length cc, .slice Ar r.length cr] w fun res w' =>
    res = .returned (.tuple #[.agg #[.int .i64 (evalE cols r e).1.k, .int .i64 (evalE cols r e).1.n, .string (evalE cols r e).1.s], .int .i64 (evalE cols r e).2]) ∧ Below w.heap.size w w'

set_option maxRecDepth 100000 in
set_option maxHeartbeats 1000000 in
theorem eval_leaf (cols : List C) (r : List V) (hcl : cols.length ≤ 9223372036854775807) (hrl : r.length = cols.length) (k : Int) (s : ByteArray) (n : Int) (l : List E) (hk : k = 1 ∨ k = 2 ∨ k = 3) : EvalExp cols r (.mk k s n l) := by
  intro hmade htype hfine A Ac Ar c cc cr w hA hAc hAr
  simp only [E.val, E.k, E.s, E.n, E.kids] at hA ⊢
  obtain ⟨w1, ew1⟩ : ∃ w1, w1 = (w.alloc (.cells #[.int .i64 k, .string s, .int .i64 n, .slice A l.length c] 35)).alloc (.cells #[.int .i64 0, .int .i64 0, .string ⟨#[]⟩] 29) := ⟨_, rfl⟩
  have hb1 : Below w.heap.size w w1 := by rw [ew1]; exact ((Below.refl _ _).alloc (Nat.le_refl _) _).alloc (by simp) _
  have HB1 := Lib.hid hb1
  have hws : w1.heap.size = w.heap.size + 2 := by rw [ew1]; simp
  have hB : Hid (w1.heap[w.heap.size + 1]? = some (.cells #[.int .i64 0, .int .i64 0, .string ⟨#[]⟩] 29 (0, 0))) := Lib.hid (by
    rw [ew1]
    have := heap_alloc_new (w.alloc (.cells #[.int .i64 k, .string s, .int .i64 n, .slice A l.length c] 35)) (.cells #[.int .i64 0, .int .i64 0, .string ⟨#[]⟩] 29)
    simpa using this)
  have HW1 := Lib.hid ew1
  rcases hk with rfl | rfl | rfl
  · have hfb : findB cols s = true := by
      cases h : findB cols s
      · rw [typeE, if_pos rfl, h] at htype; simp at htype
      · rfl
    obtain ⟨j, x, ej, hx⟩ := find_at hfb
    have hj : j < cols.length := (List.getElem?_eq_some_iff.1 hx).1
    obtain ⟨v, hv⟩ : ∃ v, r[j]? = some v := ⟨_, List.getElem?_eq_getElem (by omega)⟩
    have hz : Hid (evalE cols r (.mk 1 s n l) = (v, 0)) := Lib.hid (by rw [evalE, if_pos rfl, ej, Int.toNat_natCast, List.getD_eq_getElem?_getD, hv]; rfl)
    obtain ⟨b, o, rfl, hlt, c1, c2, c3⟩ := hAr.cells_ hv
    have hf := Lib.hid (find_any Ac cc cols hcl s w1 ((hAc.below hb1).more hb1.size))
    rw [hfb, ej] at hf
    rw [hrl]
    obtain ⟨vk, vn, vs⟩ := v
    simp only at c1 c2 c3
    generalize evalE cols r (.mk 1 s n l) = q at *
    generalize cols.length = m at *
    clear hA hAc hAr hmade htype hfine hx hfb ej hv ew1 hrl
    generalize l.length = ln at *
    go_enter Try.func40, Try.ntmps40
    go_wp2_with fail
    rw [← HW1.out]
    refine (hf.out).mono ?_
    rintro e w4 ⟨rfl, hb4⟩
    have hs4 := hb4.size
    have d1 := ((hb1.trans (hb4.mono (by omega))).cell hlt).trans c1
    have d2 := ((hb1.trans (hb4.mono (by omega))).cell hlt).trans c2
    have d3 := ((hb1.trans (hb4.mono (by omega))).cell hlt).trans c3
    have HB4 : Hid (w4.heap[w.heap.size + 1]? = some (.cells #[.int .i64 0, .int .i64 0, .string ⟨#[]⟩] 29 (0, 0))) := Lib.hid ((hb4.block _ (by omega)).trans hB.out)
    have HBW := Lib.hid (HB1.out.trans (hb4.mono (by omega)))
    obtain ⟨⟨k0, k1, k2⟩, f0, f1, f2⟩ := cell3 HB4.out
    clear hb4 hf hb1 c1 c2 c3
    go_wp2_with fail
    refine bodyPost_ret (results_two rfl rfl rfl (put3_block HB4.out)) rfl ?_
    exact ⟨by rw [hz.out]; rfl, put3_below HBW.out (Nat.le_succ _)⟩
  · have hz : Hid (evalE cols r (.mk 2 s n l) = (numV n, 0)) := Lib.hid (by rw [evalE, if_neg (by decide), if_pos rfl])
    have ht := Lib.hid (value_num n w1)
    generalize evalE cols r (.mk 2 s n l) = q at *
    clear hA hAc hAr hmade htype hfine ew1
    generalize l.length = ln at *
    go_enter Try.func40, Try.ntmps40
    go_wp2_with fail
    rw [← HW1.out]
    refine (ht.out).mono ?_
    rintro e w4 ⟨rfl, hw4⟩
    have hb4 : Below w1.heap.size w1 w4 := by rw [← hw4]; exact (Below.refl _ _).alloc (Nat.le_refl _) _
    clear hw4
    have hs4 := hb4.size
    have HB4 : Hid (w4.heap[w.heap.size + 1]? = some (.cells #[.int .i64 0, .int .i64 0, .string ⟨#[]⟩] 29 (0, 0))) := Lib.hid ((hb4.block _ (by omega)).trans hB.out)
    have HBW := Lib.hid (HB1.out.trans (hb4.mono (by omega)))
    obtain ⟨⟨k0, k1, k2⟩, f0, f1, f2⟩ := cell3 HB4.out
    clear hb4 ht hb1
    go_wp2_with fail
    refine bodyPost_ret (results_two rfl rfl rfl (put3_block HB4.out)) rfl ?_
    exact ⟨by rw [hz.out]; rfl, put3_below HBW.out (Nat.le_succ _)⟩
  · have hz : Hid (evalE cols r (.mk 3 s n l) = (strV s, 0)) := Lib.hid (by rw [evalE, if_neg (by decide), if_neg (by decide), if_pos rfl])
    have ht := Lib.hid (value_str s w1)
    generalize evalE cols r (.mk 3 s n l) = q at *
    clear hA hAc hAr hmade htype hfine ew1
    generalize l.length = ln at *
    go_enter Try.func40, Try.ntmps40
    go_wp2_with fail
    rw [← HW1.out]
    refine (ht.out).mono ?_
    rintro e w4 ⟨rfl, hw4⟩
    have hb4 : Below w1.heap.size w1 w4 := by rw [← hw4]; exact (Below.refl _ _).alloc (Nat.le_refl _) _
    clear hw4
    have hs4 := hb4.size
    have HB4 : Hid (w4.heap[w.heap.size + 1]? = some (.cells #[.int .i64 0, .int .i64 0, .string ⟨#[]⟩] 29 (0, 0))) := Lib.hid ((hb4.block _ (by omega)).trans hB.out)
    have HBW := Lib.hid (HB1.out.trans (hb4.mono (by omega)))
    obtain ⟨⟨k0, k1, k2⟩, f0, f1, f2⟩ := cell3 HB4.out
    clear hb4 ht hb1
    go_wp2_with fail
    refine bodyPost_ret (results_two rfl rfl rfl (put3_block HB4.out)) rfl ?_
    exact ⟨by rw [hz.out]; rfl, put3_below HBW.out (Nat.le_succ _)⟩

/-- behind a call, and a value put into a box: the result's own box is as it was -/
theorem boxed {w w1 w4 : World} (HB1 : Hid (Below w.heap.size w w1)) (hB : Hid (w1.heap[w.heap.size + 1]? = some (.cells #[.int .i64 0, .int .i64 0, .string ⟨#[]⟩] 29 (0, 0)))) (hb4 : Below w1.heap.size w1 w4)
    (hws : w1.heap.size = w.heap.size + 2) (vk vn : Int) (vs : ByteArray) :
    Hid ((w4.alloc (.cells #[.int .i64 vk, .int .i64 vn, .string vs] 29)).heap[w.heap.size + 1]? = some (.cells #[.int .i64 0, .int .i64 0, .string ⟨#[]⟩] 29 (0, 0))) ∧
    Hid (Below w.heap.size w (w4.alloc (.cells #[.int .i64 vk, .int .i64 vn, .string vs] 29))) ∧ w.heap.size + 2 ≤ w4.heap.size := by
  have hs4 := hb4.size
  refine ⟨Lib.hid ?_, Lib.hid ?_, by omega⟩
  · rw [Below.heap_alloc _ _ _ (by omega)]
    exact (hb4.block _ (by omega)).trans hB.out
  · exact (HB1.out.trans (hb4.mono (by omega))).alloc (by omega) _
theorem list3 {α : Type} {l : List α} (h : l.length = 3) : ∃ a b c, l = [a, b, c] := by
  match l, h with
  | [a, b, c], _ => exact ⟨a, b, c, rfl⟩
set_option maxRecDepth 100000 in
set_option maxHeartbeats 1000000 in
theorem eval_if (cols : List C) (r : List V) (k : Int) (s : ByteArray) (n : Int) (l : List E) (hM : ∀ e ∈ l, EvalExp cols r e) (h1 : k ≠ 1) (h2 : k ≠ 2) (h3 : k ≠ 3) (hs : s.toList = opIf) : EvalExp cols r (.mk k s n l) := by
  intro hmade htype hfine A Ac Ar c cc cr w hA hAc hAr
  obtain ⟨_, hlc, hmk⟩ := made_kids h1 h2 h3 hmade
  have htk := type_kids h1 h2 h3 htype
  obtain ⟨_, _, _, _, _, _, _, hfk⟩ := hfine
  rw [hs] at hlc
  obtain ⟨x0, x1, x2, rfl⟩ := list3 (show l.length = 3 from hlc)
  simp only [E.val, E.k, E.s, E.n, E.kids, List.length_cons, List.length_nil, Nat.zero_add, Nat.reduceAdd] at hA ⊢
  obtain ⟨w1, ew1⟩ : ∃ w1, w1 = (w.alloc (.cells #[.int .i64 k, .string s, .int .i64 n, .slice A 3 c] 35)).alloc (.cells #[.int .i64 0, .int .i64 0, .string ⟨#[]⟩] 29) := ⟨_, rfl⟩
  have hb1 : Below w.heap.size w w1 := by rw [ew1]; exact ((Below.refl _ _).alloc (Nat.le_refl _) _).alloc (by simp) _
  have HB1 := Lib.hid hb1
  have hws : w1.heap.size = w.heap.size + 2 := by rw [ew1]; simp
  have hB : Hid (w1.heap[w.heap.size + 1]? = some (.cells #[.int .i64 0, .int .i64 0, .string ⟨#[]⟩] 29 (0, 0))) := Lib.hid (by
    rw [ew1]
    have := heap_alloc_new (w.alloc (.cells #[.int .i64 k, .string s, .int .i64 n, .slice A 3 c] 35)) (.cells #[.int .i64 0, .int .i64 0, .string ⟨#[]⟩] 29)
    simpa using this)
  have HW1 := Lib.hid ew1
  have H0 := Lib.hid (hM x0 (by simp) (hmk x0 (by simp)) (htk x0 (by simp)) (hfk x0 (by simp)))
  have H1 := Lib.hid (hM x1 (by simp) (hmk x1 (by simp)) (htk x1 (by simp)) (hfk x1 (by simp)))
  have H2 := Lib.hid (hM x2 (by simp) (hmk x2 (by simp)) (htk x2 (by simp)) (hfk x2 (by simp)))
  have hz : Hid (evalE cols r (.mk k s n [x0, x1, x2]) = if (evalE cols r x0).2 = 0 then (if (evalE cols r x0).1.n = 0 then evalE cols r x2 else evalE cols r x1) else (zeroV, (evalE cols r x0).2)) := Lib.hid (by
    rw [evalE, if_neg h1, if_neg h2, if_neg h3, if_pos hs]; rfl)
  have HA := Lib.hid ((hA.low hb1).more hb1.size)
  have HC := Lib.hid ((hAc.below hb1).more hb1.size)
  have HR := Lib.hid ((hAr.below hb1).more hb1.size)
  generalize evalE cols r (.mk k s n [x0, x1, x2]) = q at *
  have h1' : (k == 1) = false := by simpa using h1
  have h2' : (k == 2) = false := by simpa using h2
  have h3' : (k == 3) = false := by simpa using h3
  simp only [opIf] at hs
  obtain ⟨mc, emc⟩ : ∃ m, m = cols.length := ⟨_, rfl⟩
  obtain ⟨mr, emr⟩ : ∃ m, m = r.length := ⟨_, rfl⟩
  have HMC := Lib.hid emc
  have HMR := Lib.hid emr
  rw [← emc, ← emr]
  obtain ⟨b, o, A0, e0, rfl, hlt, a0, a1, a2, a3, hK0⟩ := HA.out.get_ w1 (Below.refl _ _) 0 x0 rfl
  have hx0 : (0 : Int) < 3 := by omega
  have hx1 : (1 : Int) < 3 := by omega
  have hx2 : (2 : Int) < 3 := by omega
  have H0c := Lib.hid (H0.out A0 Ac Ar e0 cc cr w1 hK0 HC.out HR.out)
  obtain ⟨xk, xs, xn, xl⟩ := x0
  simp only [E.val, E.k, E.s, E.n, E.kids, Nat.zero_mul, Nat.add_zero] at a0 a1 a2 a3 H0c
  rw [← HMC.out, ← HMR.out] at H0c
  generalize hq0 : evalE cols r (.mk xk xs xn xl) = q0 at *
  obtain ⟨⟨vk, vn, vs⟩, ve⟩ := q0
  simp only at H0c hz
  generalize xl.length = xm at *
  clear hA hAc hAr hmade htype hmk htk hfk hM ew1 h1 h2 h3 hlc H0 hK0 emc emr hq0
  rw [HW1.out] at a0 a1 a2 a3
  by_cases hve : ve = 0
  · subst hve
    have hz1 : Hid (q = if vn = 0 then evalE cols r x2 else evalE cols r x1) := Lib.hid (by rw [hz.out, if_pos rfl])
    clear hz
    obtain ⟨q1, hq1⟩ : ∃ q1, q1 = evalE cols r x1 := ⟨_, rfl⟩
    obtain ⟨q2, hq2⟩ : ∃ q2, q2 = evalE cols r x2 := ⟨_, rfl⟩
    rw [← hq1, ← hq2] at hz1
    by_cases hvn : vn = 0
    · subst hvn
      have hz2 : Hid (q = q2) := Lib.hid (by rw [hz1.out, if_pos rfl])
      clear hz1
      have HQ := Lib.hid hq2
      clear hq1 hq2
      go_enter Try.func40, Try.ntmps40
      go_wp2_with fail
      rw [← HW1.out]
      refine (H0c.out).mono ?_
      rintro e w4 ⟨rfl, hb4⟩
      obtain ⟨HB5, HBW, hs5⟩ := boxed HB1 hB hb4 hws vk 0 vs
      have hb5 : Below w1.heap.size w1 (w4.alloc (.cells #[.int .i64 vk, .int .i64 0, .string vs] 29)) := hb4.alloc hb4.size _
      obtain ⟨b', o', A2, e2, hb', _, a0, a1, a2, a3, hK2⟩ := HA.out.get_ _ hb5 2 x2 rfl
      injection hb' with hb'
      injection hb' with hbb hoo
      subst hbb hoo
      have H2c := Lib.hid (H2.out A2 Ac Ar e2 cc cr _ hK2 ((HC.out.below hb5).more hb5.size) ((HR.out.below hb5).more hb5.size))
      obtain ⟨yk, ys, yn, yl⟩ := x2
      simp only [E.val, E.k, E.s, E.n, E.kids] at a0 a1 a2 a3 H2c
      rw [← HMC.out, ← HMR.out, ← HQ.out] at H2c
      generalize yl.length = ym at *
      obtain ⟨⟨uk, un, us⟩, ue⟩ := q2
      simp only at H2c
      clear hb4 hb5 H0c hb1 hK2
      go_wp2_with fail
      refine (H2c.out).mono ?_
      rintro e w6 ⟨rfl, hb6⟩
      have HB6 : Hid (w6.heap[w.heap.size + 1]? = some (.cells #[.int .i64 0, .int .i64 0, .string ⟨#[]⟩] 29 (0, 0))) := Lib.hid ((hb6.block _ (by simp; omega)).trans HB5.out)
      have HBX := Lib.hid (HBW.out.trans (hb6.mono (by simp; omega)))
      obtain ⟨⟨k0, k1, k2⟩, f0, f1, f2⟩ := cell3 HB6.out
      clear hb6 H2c
      go_wp2_with fail
      refine bodyPost_ret (results_two rfl rfl rfl (put3_block HB6.out)) rfl ?_
      exact ⟨by rw [hz2.out]; rfl, put3_below HBX.out (Nat.le_succ _)⟩
    · have hvn' : (vn != 0) = true := by simpa using hvn
      have hz2 : Hid (q = q1) := Lib.hid (by rw [hz1.out, if_neg hvn])
      clear hz1
      have HQ := Lib.hid hq1
      clear hq1 hq2
      go_enter Try.func40, Try.ntmps40
      go_wp2_with fail
      rw [← HW1.out]
      refine (H0c.out).mono ?_
      rintro e w4 ⟨rfl, hb4⟩
      obtain ⟨HB5, HBW, hs5⟩ := boxed HB1 hB hb4 hws vk vn vs
      have hb5 : Below w1.heap.size w1 (w4.alloc (.cells #[.int .i64 vk, .int .i64 vn, .string vs] 29)) := hb4.alloc hb4.size _
      obtain ⟨b', o', A2, e2, hb', _, a0, a1, a2, a3, hK2⟩ := HA.out.get_ _ hb5 1 x1 rfl
      injection hb' with hb'
      injection hb' with hbb hoo
      subst hbb hoo
      have H2c := Lib.hid (H1.out A2 Ac Ar e2 cc cr _ hK2 ((HC.out.below hb5).more hb5.size) ((HR.out.below hb5).more hb5.size))
      obtain ⟨yk, ys, yn, yl⟩ := x1
      simp only [E.val, E.k, E.s, E.n, E.kids, Nat.one_mul] at a0 a1 a2 a3 H2c
      rw [← HMC.out, ← HMR.out, ← HQ.out] at H2c
      generalize yl.length = ym at *
      obtain ⟨⟨uk, un, us⟩, ue⟩ := q1
      simp only at H2c
      clear hb4 hb5 H0c hb1 hK2
      go_wp2_with fail
      refine (H2c.out).mono ?_
      rintro e w6 ⟨rfl, hb6⟩
      have HB6 : Hid (w6.heap[w.heap.size + 1]? = some (.cells #[.int .i64 0, .int .i64 0, .string ⟨#[]⟩] 29 (0, 0))) := Lib.hid ((hb6.block _ (by simp; omega)).trans HB5.out)
      have HBX := Lib.hid (HBW.out.trans (hb6.mono (by simp; omega)))
      obtain ⟨⟨k0, k1, k2⟩, f0, f1, f2⟩ := cell3 HB6.out
      clear hb6 H2c
      go_wp2_with fail
      refine bodyPost_ret (results_two rfl rfl rfl (put3_block HB6.out)) rfl ?_
      exact ⟨by rw [hz2.out]; rfl, put3_below HBX.out (Nat.le_succ _)⟩
  · have hve' : (ve != 0) = true := by simpa using hve
    have hz2 : Hid (q = (zeroV, ve)) := Lib.hid (by rw [hz.out, if_neg hve])
    clear hz
    go_enter Try.func40, Try.ntmps40
    go_wp2_with fail
    rw [← HW1.out]
    refine (H0c.out).mono ?_
    rintro e w4 ⟨rfl, hb4⟩
    obtain ⟨HB5, HBW, hs5⟩ := boxed HB1 hB hb4 hws vk vn vs
    obtain ⟨⟨k0, k1, k2⟩, f0, f1, f2⟩ := cell3 HB5.out
    clear hb4 H0c hb1
    go_wp2_with fail
    refine bodyPost_ret (results_two rfl rfl rfl (put3_block HB5.out)) rfl ?_
    exact ⟨by rw [hz2.out]; rfl, put3_below HBW.out (Nat.le_succ _)⟩
end Go.Proofs.Ytldleckgkgeclaa
/-
  Trees of brackets as plain trees, and as they lie in memory; expressions that the call itself makes. No program in sight.
-/
namespace Go.Proofs.Ytldleckgkgeclaa
open Go.RowKit

inductive T where
  | mk (k : Int) (s : ByteArray) (n : Int) (kids : List T) (at_ : Int)
def T.k : T → Int | .mk k _ _ _ _ => k
def T.s : T → ByteArray | .mk _ s _ _ _ => s
def T.n : T → Int | .mk _ _ n _ _ => n
def T.kids : T → List T | .mk _ _ _ l _ => l
def T.at_ : T → Int | .mk _ _ _ _ a => a
theorem T.ind {P : T → Prop} (h : ∀ k s n l a, (∀ e ∈ l, P e) → P (.mk k s n l a)) : ∀ e, P e := by
  intro e
  exact T.rec (motive_1 := P) (motive_2 := fun l => ∀ e ∈ l, P e) (fun k s n l a ih => h k s n l a ih) (fun e he => by cases he) (fun e l h1 h2 x hx => by
    rcases List.mem_cons.1 hx with rfl | hx
    · exact h1
    · exact h2 x hx) e
/-- a slice at address A holds the trees l, below block B, and so on downwards -/
inductive TKids (w : World) (B : Nat) : Option Addr → List T → Prop
  | nil (A : Option Addr) : TKids w B A []
  | mk (b off : Nat) (l : List T) (hn : l.length ≤ 9223372036854775807) (hb : b < B) (A : Nat → Option Addr) (c : Nat → Nat)
      (h : ∀ i e, l[i]? = some e → w.cell? ⟨b, off + i * 5, none⟩ = some (.int .i64 e.k) ∧ w.cell? ⟨b, off + i * 5 + 1, none⟩ = some (.string e.s) ∧
        w.cell? ⟨b, off + i * 5 + 2, none⟩ = some (.int .i64 e.n) ∧ w.cell? ⟨b, off + i * 5 + 3, none⟩ = some (.slice (A i) e.kids.length (c i)) ∧ w.cell? ⟨b, off + i * 5 + 4, none⟩ = some (.int .i64 e.at_) ∧ e.kids.length ≤ c i)
      (hk : ∀ i e, l[i]? = some e → TKids w B (A i) e.kids) : TKids w B (some ⟨b, off, none⟩) l
theorem TKids.low {w w' : World} {B : Nat} {A : Option Addr} {l : List T} (h : TKids w B A l) (hb : Below B w w') : TKids w' B A l := by
  induction h with
  | nil A => exact .nil A
  | mk b off l hn hlt A c h hk ih =>
    refine .mk b off l hn hlt A c (fun i e he => ?_) (fun i e he => ih i e he)
    obtain ⟨h1, h2, h3, h4, h5, h6⟩ := h i e he
    exact ⟨(hb.cell hlt).trans h1, (hb.cell hlt).trans h2, (hb.cell hlt).trans h3, (hb.cell hlt).trans h4, (hb.cell hlt).trans h5, h6⟩
theorem TKids.more {w : World} {B B' : Nat} {A : Option Addr} {l : List T} (h : TKids w B A l) (hB : B ≤ B') : TKids w B' A l := by
  induction h with
  | nil A => exact .nil A
  | mk b off l hn hlt A c h hk ih => exact .mk b off l hn (by omega) A c h (fun i e he => ih i e he)
theorem TKids.len {w : World} {B : Nat} {A : Option Addr} {l : List T} (h : TKids w B A l) : l.length ≤ 9223372036854775807 := by
  cases h with
  | nil A => simp
  | mk b off l hn hlt A c h hk => exact hn
theorem TKids.get_ {w : World} {A : Option Addr} {l : List T} (h : TKids w w.heap.size A l) : ∀ w1, Below w.heap.size w w1 → ∀ i e, l[i]? = some e →
    ∃ b o A' c', A = some ⟨b, o, none⟩ ∧ b < w.heap.size ∧ w1.cell? ⟨b, o + i * 5, none⟩ = some (.int .i64 e.k) ∧ w1.cell? ⟨b, o + i * 5 + 1, none⟩ = some (.string e.s) ∧
      w1.cell? ⟨b, o + i * 5 + 2, none⟩ = some (.int .i64 e.n) ∧ w1.cell? ⟨b, o + i * 5 + 3, none⟩ = some (.slice A' e.kids.length c') ∧ w1.cell? ⟨b, o + i * 5 + 4, none⟩ = some (.int .i64 e.at_) ∧ e.kids.length ≤ c' ∧ TKids w1 w1.heap.size A' e.kids := by
  intro w1 hb i e he
  cases h with
  | nil A => simp at he
  | mk b off l hn hlt A c h hk =>
    obtain ⟨h1, h2, h3, h4, h5, h6⟩ := h i e he
    exact ⟨b, off, A i, c i, rfl, hlt, (hb.cell hlt).trans h1, (hb.cell hlt).trans h2, (hb.cell hlt).trans h3, (hb.cell hlt).trans h4, (hb.cell hlt).trans h5, h6, ((hk i e he).low hb).more hb.size⟩
/-- a tree's value -/
def T.val (e : T) (A : Option Addr) (c : Nat) : Value := .agg #[.int .i64 e.k, .string e.s, .int .i64 e.n, .slice A e.kids.length c, .int .i64 e.at_]

/-! ### what expr.Read gives -/
def zeroE : E := .mk 0 ⟨#[]⟩ 0 []
mutual
def readT : T → E × Int × Int
  | .mk k s n l a => if k = 2 then (if nameB s then (.mk 1 s 0 [], 0, 0) else (zeroE, 20, a))
    else if k = 3 then (.mk 2 ⟨#[]⟩ n [], 0, 0) else if k = 4 then (.mk 3 s 0 [], 0, 0)
    else if k = 1 then
      (match l with
        | [] => (zeroE, 12, a)
        | x :: ks => if x.k = 2 ∧ cntL x.s.toList ≠ 0 then
            (if ks.length = cntL x.s.toList then (if (readL ks).2.1 = 0 then (.mk 4 x.s 0 (readL ks).1, 0, 0) else (zeroE, (readL ks).2.1, (readL ks).2.2)) else (zeroE, 23, a))
          else (zeroE, 12, a))
    else (zeroE, 12, a)
def readL : List T → List E × Int × Int
  | [] => ([], 0, 0)
  | x :: l => if (readT x).2.1 = 0 then ((readT x).1 :: (readL l).1, (readL l).2.1, (readL l).2.2) else ([], (readT x).2.1, (readT x).2.2)
end

/-! ### expressions in a row that the call itself has made -/
abbrev EP := E × Option Addr × Nat
def EP.cs (x : EP) : List Value := [.int .i64 x.1.k, .string x.1.s, .int .i64 x.1.n, .slice x.2.1 x.1.kids.length x.2.2]
def flatP (l : List EP) : List Value := l.flatMap EP.cs
theorem flatP_len (l : List EP) : (flatP l).length = l.length * 4 := by
  induction l with
  | nil => rfl
  | cons v l ih => show ((EP.cs v) ++ flatP l).length = _; simp [ih, EP.cs]; omega
theorem flatP_get (l : List EP) : ∀ (i : Nat) (v : EP), l[i]? = some v → (flatP l)[i * 4]? = some (.int .i64 v.1.k) ∧ (flatP l)[i * 4 + 1]? = some (.string v.1.s) ∧ (flatP l)[i * 4 + 2]? = some (.int .i64 v.1.n) ∧ (flatP l)[i * 4 + 3]? = some (.slice v.2.1 v.1.kids.length v.2.2) := by
  induction l with
  | nil => intro i v h; simp at h
  | cons x l ih =>
    intro i v h
    have e : flatP (x :: l) = EP.cs x ++ flatP l := rfl
    rw [e]
    cases i with
    | zero =>
      obtain rfl : x = v := by simpa using h
      exact ⟨rfl, rfl, rfl, rfl⟩
    | succ i =>
      have := ih i v (by simpa using h)
      have hl : (EP.cs x).length = 4 := rfl
      rw [List.getElem?_append_right (by omega), List.getElem?_append_right (by omega), List.getElem?_append_right (by omega), List.getElem?_append_right (by omega), hl]
      rw [show (i + 1) * 4 - 4 = i * 4 from by omega, show (i + 1) * 4 + 1 - 4 = i * 4 + 1 from by omega, show (i + 1) * 4 + 2 - 4 = i * 4 + 2 from by omega, show (i + 1) * 4 + 3 - 4 = i * 4 + 3 from by omega]
      exact this
theorem flatP_one (v : EP) : flatP [v] = EP.cs v := by simp [flatP]
theorem flatP_append (a b : List EP) : flatP (a ++ b) = flatP a ++ flatP b := by simp [flatP]
theorem flatP_ones (l : List EP) : ∀ u ∈ flatP l, u.oneCell' = true := by
  intro u hu
  obtain ⟨v, _, hv⟩ := List.mem_flatMap.1 hu
  simp only [EP.cs, List.mem_cons, List.not_mem_nil, or_false] at hv
  rcases hv with rfl | rfl | rfl | rfl <;> rfl
/-- the same as EKids, with all its blocks in S -/
inductive XKids (w : World) (S : Nat → Prop) : Option Addr → List E → Prop
  | nil (A : Option Addr) : XKids w S A []
  | mk (b off : Nat) (l : List E) (hn : l.length ≤ 9223372036854775807) (hb : S b) (A : Nat → Option Addr) (c : Nat → Nat)
      (h : ∀ i e, l[i]? = some e → w.cell? ⟨b, off + i * 4, none⟩ = some (.int .i64 e.k) ∧ w.cell? ⟨b, off + i * 4 + 1, none⟩ = some (.string e.s) ∧
        w.cell? ⟨b, off + i * 4 + 2, none⟩ = some (.int .i64 e.n) ∧ w.cell? ⟨b, off + i * 4 + 3, none⟩ = some (.slice (A i) e.kids.length (c i)))
      (hk : ∀ i e, l[i]? = some e → XKids w S (A i) e.kids) : XKids w S (some ⟨b, off, none⟩) l
theorem XKids.kept {w w' : World} {S : Nat → Prop} {A : Option Addr} {l : List E} (h : XKids w S A l) (hw : ∀ k, S k → w'.heap[k]? = w.heap[k]?) : XKids w' S A l := by
  induction h with
  | nil A => exact .nil A
  | mk b off l hn hlt A c h hk ih =>
    refine .mk b off l hn hlt A c (fun i e he => ?_) (fun i e he => ih i e he)
    have hc : ∀ o, w'.cell? ⟨b, o, none⟩ = w.cell? ⟨b, o, none⟩ := fun o => World.cell?_of_block (hw b hlt)
    obtain ⟨h1, h2, h3, h4⟩ := h i e he
    exact ⟨(hc _).trans h1, (hc _).trans h2, (hc _).trans h3, (hc _).trans h4⟩
theorem XKids.mono {w : World} {S S' : Nat → Prop} {A : Option Addr} {l : List E} (h : XKids w S A l) (hS : ∀ k, S k → S' k) : XKids w S' A l := by
  induction h with
  | nil A => exact .nil A
  | mk b off l hn hlt A c h hk ih => exact .mk b off l hn (hS b hlt) A c h (fun i e he => ih i e he)
theorem XKids.to {w : World} {S : Nat → Prop} {B : Nat} {A : Option Addr} {l : List E} (h : XKids w S A l) (hS : ∀ k, S k → k < B) : EKids w B A l := by
  induction h with
  | nil A => exact .nil A
  | mk b off l hn hlt A c h hk ih => exact .mk b off l hn (hS b hlt) A c h (fun i e he => ih i e he)
/-- what is owned is a row of expressions -/
theorem own_exprs {w : World} {base : Nat} {e : TypeId} {v : Value} {l : List EP} (h : w.ownsRow base e 4 v l.length (flatP l)) (hn : l.length ≤ 9223372036854775807) {S : Nat → Prop} (hS : ∀ g, base ≤ g → g < w.heap.size → S g) (hk : ∀ x ∈ l, XKids w S x.2.1 x.1.kids) :
    ∃ A c, v = .slice A (l.map Prod.fst).length c ∧ XKids w S A (l.map Prod.fst) := by
  obtain ⟨_, hcase⟩ := id h
  rcases hcase with ⟨rfl, h0⟩ | ⟨g, cap, cur, rfl, hg, hh, hc, hcap, hsz, htake⟩
  · have e0 : l = [] := List.eq_nil_of_length_eq_zero h0
    subst e0
    exact ⟨none, 0, rfl, .nil _⟩
  · refine ⟨some ⟨g, 0, none⟩, cap, by rw [List.length_map], .mk g 0 _ (by rw [List.length_map]; exact hn) ?_ (fun i => ((l[i]?).map fun x => x.2.1).getD none) (fun i => ((l[i]?).map fun x => x.2.2).getD 0) (fun i x hx => ?_) (fun i x hx => ?_)⟩
    · refine hS g hg ?_
      rcases Nat.lt_or_ge g w.heap.size with hlt | hge
      · exact hlt
      · rw [Array.getElem?_eq_none hge] at hh; cases hh
    · rw [List.getElem?_map] at hx
      cases hl : l[i]? with
      | none => rw [hl] at hx; cases hx
      | some y =>
        rw [hl] at hx
        obtain rfl : y.1 = x := by simpa using hx
        obtain ⟨f1, f2, f3, f4⟩ := flatP_get l i y hl
        have hi : i < l.length := (List.getElem?_eq_some_iff.1 hl).1
        rw [Nat.zero_add, h.cellAt _ (by omega), h.cellAt _ (by omega), h.cellAt _ (by omega), h.cellAt _ (by omega)]
        exact ⟨f1, f2, f3, f4⟩
    · rw [List.getElem?_map] at hx
      cases hl : l[i]? with
      | none => rw [hl] at hx; cases hx
      | some y =>
        rw [hl] at hx
        obtain rfl : y.1 = x := by simpa using hx
        exact hk y (List.mem_of_getElem? hl)
end Go.Proofs.Ytldleckgkgeclaa
/-
  Package expr's Read: leaves.
-/
namespace Go.Proofs.Ytldleckgkgeclaa
open Go.RowKit
theorem set4c {w : World} {g k : Nat} {a b c d u : Value} {t : TypeId} (h : w.heap[g]? = some (.cells #[a, b, c, d] t (0, 0))) : (w.setCell ⟨g, k, none⟩ u).heap[g]? = some (.cells (#[a, b, c, d].set! k u) t (0, 0)) := by
  show (w.heap.modify g _)[g]? = _
  rw [Array.getElem?_modify]
  simp [h]
/-- an expression stored into a box of the call's own -/
def put4 (w : World) (p : Nat) (x0 x1 x2 x3 : Value) : World := (((w.setCell ⟨p, 0, none⟩ x0).setCell ⟨p, 1, none⟩ x1).setCell ⟨p, 2, none⟩ x2).setCell ⟨p, 3, none⟩ x3
theorem put4_block {w : World} {p : Nat} {a b c d x0 x1 x2 x3 : Value} {t : TypeId} (h : w.heap[p]? = some (.cells #[a, b, c, d] t (0, 0))) : (put4 w p x0 x1 x2 x3).heap[p]? = some (.cells #[x0, x1, x2, x3] t (0, 0)) :=
  set4c (k := 3) (set4c (k := 2) (set4c (k := 1) (set4c (k := 0) h)))
theorem put4_below {w a : World} {p B : Nat} {x0 x1 x2 x3 : Value} (h : Below B a w) (hp : B ≤ p) : Below B a (put4 w p x0 x1 x2 x3) :=
  (((h.setCell (p := ⟨p, 0, none⟩) hp x0).setCell (p := ⟨p, 1, none⟩) hp x1).setCell (p := ⟨p, 2, none⟩) hp x2).setCell (p := ⟨p, 3, none⟩) hp x3
theorem cell4 {w : World} {g : Nat} {a b c d : Value} {t : TypeId} (h : w.heap[g]? = some (.cells #[a, b, c, d] t (0, 0))) :
    (w.cell? ⟨g, 0, none⟩ = some a ∧ w.cell? ⟨g, 1, none⟩ = some b ∧ w.cell? ⟨g, 2, none⟩ = some c ∧ w.cell? ⟨g, 3, none⟩ = some d) ∧ w.frozen? ⟨g, 0, none⟩ = false ∧ w.frozen? ⟨g, 1, none⟩ = false ∧ w.frozen? ⟨g, 2, none⟩ = false ∧ w.frozen? ⟨g, 3, none⟩ = false := by
  simp [World.cell?, World.frozen?, h]
/-- an expression in a cell, and two numbers: what is returned -/
theorem results_three {fn : Func} {p q r : Tmp} (h : fn.results = #[.cell p 35, .tmp q, .tmp r]) {tmps : Array Value} {w : World} {g : Nat} {x0 x1 x2 x3 u v : Value} {t : TypeId}
    (hp : tmps.getD p undef = .pointer (some ⟨g, 0, none⟩)) (hq : tmps.getD q undef = u) (hr : tmps.getD r undef = v) (hg : w.heap[g]? = some (.cells #[x0, x1, x2, x3] t (0, 0))) : (results fn tmps).run Try.prog w = .ok (.tuple #[.agg #[x0, x1, x2, x3], u, v]) w := by
  have hp' : tmps[p]?.getD undef = .pointer (some ⟨g, 0, none⟩) := by simpa using hp
  have hq' : tmps[q]?.getD undef = u := by simpa using hq
  have hr' : tmps[r]?.getD undef = v := by simpa using hr
  have hl := run_loadVar_row (P := Try.prog) w g t 35 #[x0, x1, x2, x3] (0, 0) _ hg Try.underlying35 rfl (by show _ = some 4; kernel_rfl)
  simp [results, h, hp', hq', hr', asAddr, hl]
inductive T.Fine : T → Prop
  | mk (k : Int) (s : ByteArray) (n : Int) (l : List T) (a : Int) (h1 : -9223372036854775808 ≤ n) (h2 : n ≤ 9223372036854775807) (h3 : s.size ≤ 1048576) (h : ∀ e ∈ l, T.Fine e) : T.Fine (.mk k s n l a)
def ReadExp (t : T) : Prop := ∀ (A : Option Addr) (c : Nat) (w : World), t.kids.length ≤ c → TKids w w.heap.size A t.kids →
  Calls Try.prog 20 #[t.val A c] w fun r w' => (∃ A' c', r = .returned (.tuple #[(readT t).1.val A' c', .int .i64 (readT t).2.1, .int .i64 (readT t).2.2]) ∧ XKids w' (fun k => w.heap.size ≤ k ∧ k < w'.heap.size) A' (readT t).1.kids) ∧ Below w.heap.size w w'
set_option maxRecDepth 100000 in
set_option maxHeartbeats 1000000 in
theorem read_leaf (k : Int) (s : ByteArray) (n : Int) (l : List T) (a : Int) (hk1 : k ≠ 1) : ReadExp (.mk k s n l a) := by
  intro A c w _ hA
  simp only [T.val, T.k, T.s, T.n, T.kids, T.at_] at hA ⊢
  have hz : Hid (readT (.mk k s n l a) = if k = 2 then (if nameB s then (.mk 1 s 0 [], 0, 0) else (zeroE, 20, a)) else if k = 3 then (.mk 2 ⟨#[]⟩ n [], 0, 0) else if k = 4 then (.mk 3 s 0 [], 0, 0) else (zeroE, 12, a)) := Lib.hid (by
    rw [readT.eq_def]
    simp only [if_neg hk1])
  obtain ⟨w1, ew1⟩ : ∃ w1, w1 = (w.alloc (.cells #[.int .i64 k, .string s, .int .i64 n, .slice A l.length c, .int .i64 a] 56)).alloc (.cells #[.int .i64 0, .string ⟨#[]⟩, .int .i64 0, .slice none 0 0] 35) := ⟨_, rfl⟩
  have hb1 : Below w.heap.size w w1 := by rw [ew1]; exact ((Below.refl _ _).alloc (Nat.le_refl _) _).alloc (by simp) _
  have HB1 := Lib.hid hb1
  have hB : Hid (w1.heap[w.heap.size + 1]? = some (.cells #[.int .i64 0, .string ⟨#[]⟩, .int .i64 0, .slice none 0 0] 35 (0, 0))) := Lib.hid (by
    rw [ew1]
    have := heap_alloc_new (w.alloc (.cells #[.int .i64 k, .string s, .int .i64 n, .slice A l.length c, .int .i64 a] 56)) (.cells #[.int .i64 0, .string ⟨#[]⟩, .int .i64 0, .slice none 0 0] 35)
    simpa using this)
  have HDD : Hid (w1.cell? ⟨w.heap.size, 0, none⟩ = some (.int .i64 k) ∧ w1.cell? ⟨w.heap.size, 1, none⟩ = some (.string s) ∧ w1.cell? ⟨w.heap.size, 2, none⟩ = some (.int .i64 n) ∧ w1.cell? ⟨w.heap.size, 3, none⟩ = some (.slice A l.length c)) := Lib.hid (by rw [ew1]; simp)
  have HD : Hid (w1.cell? ⟨w.heap.size, 4, none⟩ = some (.int .i64 a)) := Lib.hid (by rw [ew1]; simp)
  have HW1 := Lib.hid ew1
  have hN := Lib.hid (name_any s w1)
  generalize readT (.mk k s n l a) = q at *
  generalize l.length = ln at *
  clear hA ew1 hb1
  have hk1' : (k == 1) = false := by simpa using hk1
  by_cases h2 : k = 2
  · subst h2
    cases hnb : nameB s
    · have hq : Hid (q = (zeroE, 20, a)) := Lib.hid (by rw [hz.out, if_pos rfl, hnb]; rfl)
      rw [hnb] at hN
      clear hz
      go_enter Try.func20, Try.ntmps20
      go_wp2_with fail
      rw [← HW1.out]
      refine (hN.out).mono ?_
      rintro e w2 ⟨rfl, rfl⟩
      obtain ⟨⟨k0, k1, k2, k3⟩, f0, f1, f2, f3⟩ := cell4 hB.out
      have d4 := HD.out
      go_wp2_with fail
      go_region
      go_wp2_with fail
      refine bodyPost_ret (results_three rfl rfl rfl rfl (show ((put4 w1 (w.heap.size + 1) _ _ _ _).drew).heap[w.heap.size + 1]? = _ from put4_block hB.out)) rfl ?_
      exact ⟨⟨none, 0, by rw [hq.out]; rfl, by rw [hq.out]; exact .nil _⟩, (put4_below HB1.out (Nat.le_succ _)).drew⟩
    · have hq : Hid (q = (.mk 1 s 0 [], 0, 0)) := Lib.hid (by rw [hz.out, if_pos rfl, hnb]; rfl)
      rw [hnb] at hN
      clear hz
      go_enter Try.func20, Try.ntmps20
      go_wp2_with fail
      rw [← HW1.out]
      refine (hN.out).mono ?_
      rintro e w2 ⟨rfl, rfl⟩
      obtain ⟨⟨k0, k1, k2, k3⟩, f0, f1, f2, f3⟩ := cell4 hB.out
      obtain ⟨d0, d1, d2, d3⟩ := HDD.out
      go_wp2_with fail
      refine bodyPost_ret (results_three rfl rfl rfl rfl (put4_block hB.out)) rfl ?_
      exact ⟨⟨none, 0, by rw [hq.out]; rfl, by rw [hq.out]; exact .nil _⟩, put4_below HB1.out (Nat.le_succ _)⟩
  have h2' : (k == 2) = false := by simpa using h2
  by_cases h3 : k = 3
  · subst h3
    have hq : Hid (q = (.mk 2 ⟨#[]⟩ n [], 0, 0)) := Lib.hid (by rw [hz.out, if_neg (by decide), if_pos rfl])
    clear hz hN
    go_enter Try.func20, Try.ntmps20
    go_upto_if 7 with (fail)
    rw [← HW1.out]
    obtain ⟨⟨k0, k1, k2, k3⟩, f0, f1, f2, f3⟩ := cell4 hB.out
    obtain ⟨d0, d1, d2, d3⟩ := HDD.out
    go_wp2_with fail
    refine bodyPost_ret (results_three rfl rfl rfl rfl (put4_block hB.out)) rfl ?_
    exact ⟨⟨none, 0, by rw [hq.out]; rfl, by rw [hq.out]; exact .nil _⟩, put4_below HB1.out (Nat.le_succ _)⟩
  have h3' : (k == 3) = false := by simpa using h3
  by_cases h4 : k = 4
  · subst h4
    have hq : Hid (q = (.mk 3 s 0 [], 0, 0)) := Lib.hid (by rw [hz.out, if_neg (by decide), if_neg (by decide), if_pos rfl])
    clear hz hN
    go_enter Try.func20, Try.ntmps20
    go_upto_if 7 with (fail)
    rw [← HW1.out]
    obtain ⟨⟨k0, k1, k2, k3⟩, f0, f1, f2, f3⟩ := cell4 hB.out
    obtain ⟨d0, d1, d2, d3⟩ := HDD.out
    go_wp2_with fail
    refine bodyPost_ret (results_three rfl rfl rfl rfl (put4_block hB.out)) rfl ?_
    exact ⟨⟨none, 0, by rw [hq.out]; rfl, by rw [hq.out]; exact .nil _⟩, put4_below HB1.out (Nat.le_succ _)⟩
  have h4' : (k == 4) = false := by simpa using h4
  have hq : Hid (q = (zeroE, 12, a)) := Lib.hid (by rw [hz.out, if_neg h2, if_neg h3, if_neg h4])
  clear hz hN
  go_enter Try.func20, Try.ntmps20
  go_upto_if 7 with (fail)
  rw [← HW1.out]
  obtain ⟨⟨k0, k1, k2, k3⟩, f0, f1, f2, f3⟩ := cell4 hB.out
  obtain ⟨d0, d1, d2, d3⟩ := HDD.out
  have d4 := HD.out
  go_wp2_with fail
  go_region
  go_wp2_with fail
  refine bodyPost_ret (results_three rfl rfl rfl rfl (show ((put4 w1 (w.heap.size + 1) _ _ _ _).drew).heap[w.heap.size + 1]? = _ from put4_block hB.out)) rfl ?_
  exact ⟨⟨none, 0, by rw [hq.out]; rfl, by rw [hq.out]; exact .nil _⟩, (put4_below HB1.out (Nat.le_succ _)).drew⟩
end Go.Proofs.Ytldleckgkgeclaa
/-
  Package expr's apply: the refusals.
-/
namespace Go.Proofs.Ytldleckgkgeclaa
open Go.RowKit
/-- what apply gives -/
def ApplyEnd (q : E × Int × Int) (w : World) (r : Ending) (w' : World) : Prop := (∃ A' c', r = .returned (.tuple #[q.1.val A' c', .int .i64 q.2.1, .int .i64 q.2.2]) ∧ XKids w' (fun k => w.heap.size ≤ k ∧ k < w'.heap.size) A' q.1.kids) ∧ Below w.heap.size w w'
set_option maxRecDepth 100000 in
set_option maxHeartbeats 1000000 in
theorem apply_bad (s : ByteArray) (n : Int) (l : List T) (a : Int) (hbad : l = [] ∨ ∃ x ks, l = x :: ks ∧ (x.k ≠ 2 ∨ cntL x.s.toList = 0)) (A : Option Addr) (c : Nat) (w : World) (hA : TKids w w.heap.size A l) :
    Calls Try.prog 45 #[.agg #[.int .i64 1, .string s, .int .i64 n, .slice A l.length c, .int .i64 a]] w (ApplyEnd (zeroE, 12, a) w) := by
  obtain ⟨w1, ew1⟩ : ∃ w1, w1 = (w.alloc (.cells #[.int .i64 1, .string s, .int .i64 n, .slice A l.length c, .int .i64 a] 56)).alloc (.cells #[.int .i64 0, .string ⟨#[]⟩, .int .i64 0, .slice none 0 0] 35) := ⟨_, rfl⟩
  have hb1 : Below w.heap.size w w1 := by rw [ew1]; exact ((Below.refl _ _).alloc (Nat.le_refl _) _).alloc (by simp) _
  have HB1 := Lib.hid hb1
  have hB : Hid (w1.heap[w.heap.size + 1]? = some (.cells #[.int .i64 0, .string ⟨#[]⟩, .int .i64 0, .slice none 0 0] 35 (0, 0))) := Lib.hid (by
    rw [ew1]
    have := heap_alloc_new (w.alloc (.cells #[.int .i64 1, .string s, .int .i64 n, .slice A l.length c, .int .i64 a] 56)) (.cells #[.int .i64 0, .string ⟨#[]⟩, .int .i64 0, .slice none 0 0] 35)
    simpa using this)
  have HDD : Hid (w1.cell? ⟨w.heap.size, 3, none⟩ = some (.slice A l.length c) ∧ w1.cell? ⟨w.heap.size, 4, none⟩ = some (.int .i64 a)) := Lib.hid (by rw [ew1]; simp)
  have HW1 := Lib.hid ew1
  have HA := Lib.hid ((hA.low hb1).more hb1.size)
  clear ew1 hb1 hA
  rcases hbad with rfl | ⟨x, ks, rfl, hx⟩
  · simp only [List.length_nil] at HDD HW1 ⊢
    go_enter Try.func45, Try.ntmps45
    go_upto_region 1 with (fail)
    rw [← HW1.out]
    obtain ⟨⟨k0, k1, k2, k3⟩, f0, f1, f2, f3⟩ := cell4 hB.out
    obtain ⟨d3, d4⟩ := HDD.out
    go_wp2_with fail
    go_region
    go_wp2_with fail
    refine bodyPost_ret (results_three rfl rfl rfl rfl (show ((put4 w1 (w.heap.size + 1) _ _ _ _).drew).heap[w.heap.size + 1]? = _ from put4_block hB.out)) rfl ?_
    exact ⟨⟨none, 0, rfl, .nil _⟩, (put4_below HB1.out (Nat.le_succ _)).drew⟩
  · obtain ⟨b, o, A', c', rfl, hlt, x0, x1, _, _, _, _, _⟩ := HA.out.get_ w1 (Below.refl _ _) 0 x rfl
    rw [Nat.zero_mul, Nat.add_zero] at x0 x1
    have hlen : (x :: ks).length ≤ 9223372036854775807 := HA.out.len
    obtain ⟨m, em⟩ : ∃ m, m = ks.length := ⟨_, rfl⟩
    simp only [List.length_cons, ← em] at HDD HW1 hlen ⊢
    have hm0 : (0 : Int) < ((m + 1 : Nat) : Int) := by omega
    have hm1 : (((m + 1 : Nat) : Int) == 0) = false := by simp; omega
    obtain ⟨xk, xs, xn, xl, xa⟩ := x
    simp only [T.k, T.s] at x0 x1 hx
    have hC := Lib.hid (count_any xs w1)
    clear HA em
    by_cases hk : xk = 2
    · subst hk
      have hc0 : cntL xs.toList = 0 := by
        rcases hx with hx | hx
        · exact absurd rfl hx
        · exact hx
      rw [hc0] at hC
      clear hx hc0
      go_enter Try.func45, Try.ntmps45
      go_upto_region 1 with (fail)
      rw [← HW1.out]
      obtain ⟨⟨k0, k1, k2, k3⟩, f0, f1, f2, f3⟩ := cell4 hB.out
      obtain ⟨d3, d4⟩ := HDD.out
      go_wp2_with fail
      refine hC.out.mono ?_
      rintro e w2 ⟨rfl, rfl⟩
      go_wp2_with fail
      go_region
      go_wp2_with fail
      refine bodyPost_ret (results_three rfl rfl rfl rfl (show ((put4 w1 (w.heap.size + 1) _ _ _ _).drew).heap[w.heap.size + 1]? = _ from put4_block hB.out)) rfl ?_
      exact ⟨⟨none, 0, rfl, .nil _⟩, (put4_below HB1.out (Nat.le_succ _)).drew⟩
    · have hk' : (xk != 2) = true := by simpa using hk
      clear hx hC
      go_enter Try.func45, Try.ntmps45
      go_upto_region 1 with (fail)
      rw [← HW1.out]
      obtain ⟨⟨k0, k1, k2, k3⟩, f0, f1, f2, f3⟩ := cell4 hB.out
      obtain ⟨d3, d4⟩ := HDD.out
      go_wp2_with fail
      go_region
      go_wp2_with fail
      refine bodyPost_ret (results_three rfl rfl rfl rfl (show ((put4 w1 (w.heap.size + 1) _ _ _ _).drew).heap[w.heap.size + 1]? = _ from put4_block hB.out)) rfl ?_
      exact ⟨⟨none, 0, rfl, .nil _⟩, (put4_below HB1.out (Nat.le_succ _)).drew⟩
end Go.Proofs.Ytldleckgkgeclaa
/-
  Package expr's apply: another number of kids.
-/
namespace Go.Proofs.Ytldleckgkgeclaa
open Go.RowKit
set_option maxRecDepth 100000 in
set_option maxHeartbeats 1000000 in
theorem apply_count (s : ByteArray) (n : Int) (x : T) (ks : List T) (a : Int) (hk2 : x.k = 2) (hc0 : cntL x.s.toList ≠ 0) (hne : ks.length ≠ cntL x.s.toList) (A : Option Addr) (c : Nat) (w : World) (hA : TKids w w.heap.size A (x :: ks)) :
    Calls Try.prog 45 #[.agg #[.int .i64 1, .string s, .int .i64 n, .slice A (x :: ks).length c, .int .i64 a]] w (ApplyEnd (zeroE, 23, a) w) := by
  obtain ⟨m, em⟩ : ∃ m, m = ks.length := ⟨_, rfl⟩
  have hlen : (x :: ks).length ≤ 9223372036854775807 := hA.len
  rw [← em] at hne
  simp only [List.length_cons, ← em] at hlen ⊢
  obtain ⟨w1, ew1⟩ : ∃ w1, w1 = (w.alloc (.cells #[.int .i64 1, .string s, .int .i64 n, .slice A (m + 1) c, .int .i64 a] 56)).alloc (.cells #[.int .i64 0, .string ⟨#[]⟩, .int .i64 0, .slice none 0 0] 35) := ⟨_, rfl⟩
  have hb1 : Below w.heap.size w w1 := by rw [ew1]; exact ((Below.refl _ _).alloc (Nat.le_refl _) _).alloc (by simp) _
  have hws : w1.heap.size = w.heap.size + 2 := by rw [ew1]; simp
  have HB1 := Lib.hid hb1
  have hB : Hid (w1.heap[w.heap.size + 1]? = some (.cells #[.int .i64 0, .string ⟨#[]⟩, .int .i64 0, .slice none 0 0] 35 (0, 0))) := Lib.hid (by
    rw [ew1]
    have := heap_alloc_new (w.alloc (.cells #[.int .i64 1, .string s, .int .i64 n, .slice A (m + 1) c, .int .i64 a] 56)) (.cells #[.int .i64 0, .string ⟨#[]⟩, .int .i64 0, .slice none 0 0] 35)
    simpa using this)
  have HDD : Hid (w1.cell? ⟨w.heap.size, 3, none⟩ = some (.slice A (m + 1) c) ∧ w1.cell? ⟨w.heap.size, 4, none⟩ = some (.int .i64 a)) := Lib.hid (by rw [ew1]; simp)
  have HW1 := Lib.hid ew1
  obtain ⟨b, o, A', c', rfl, hlt, x0, x1, _, _, _, _, _⟩ := ((hA.low hb1).more hb1.size).get_ w1 (Below.refl _ _) 0 x rfl
  rw [Nat.zero_mul, Nat.add_zero] at x0 x1
  have hm0 : (0 : Int) < ((m + 1 : Nat) : Int) := by omega
  have hm1 : (((m + 1 : Nat) : Int) == 0) = false := by simp; omega
  obtain ⟨xk, xs, xn, xl, xa⟩ := x
  simp only [T.k, T.s] at x0 x1 hk2 hc0 hne
  subst hk2
  have hC := Lib.hid (count_any xs)
  generalize cntL xs.toList = cn at *
  have hcz : ((cn : Int) == 0) = false := by simp; omega
  have hn1 : ((m : Int) != (cn : Int)) = true := by simp; omega
  clear hA em ew1 hb1 hc0 hne
  -- the box of what is read
  have hb2 : Below w1.heap.size w1 (w1.alloc (.cells #[.int .i64 4, .string xs, .int .i64 0, .slice none 0 0] 35)) := (Below.refl _ _).alloc (Nat.le_refl _) _
  have hB2 : Hid ((w1.alloc (.cells #[.int .i64 4, .string xs, .int .i64 0, .slice none 0 0] 35)).heap[w.heap.size + 1]? = some (.cells #[.int .i64 0, .string ⟨#[]⟩, .int .i64 0, .slice none 0 0] 35 (0, 0))) := Lib.hid ((hb2.block _ (by omega)).trans hB.out)
  have HD2 : Hid ((w1.alloc (.cells #[.int .i64 4, .string xs, .int .i64 0, .slice none 0 0] 35)).cell? ⟨w.heap.size, 3, none⟩ = some (.slice (some ⟨b, o, none⟩) (m + 1) c) ∧ (w1.alloc (.cells #[.int .i64 4, .string xs, .int .i64 0, .slice none 0 0] 35)).cell? ⟨w.heap.size, 4, none⟩ = some (.int .i64 a)) :=
    Lib.hid ⟨(hb2.cell (p := ⟨w.heap.size, 3, none⟩) (show w.heap.size < _ by omega)).trans HDD.out.1, (hb2.cell (p := ⟨w.heap.size, 4, none⟩) (show w.heap.size < _ by omega)).trans HDD.out.2⟩
  have HE2 : Hid ((w1.alloc (.cells #[.int .i64 4, .string xs, .int .i64 0, .slice none 0 0] 35)).cell? ⟨w.heap.size + 2, 1, none⟩ = some (.string xs)) := Lib.hid (by rw [← hws]; simp)
  have HB2 := Lib.hid (HB1.out.trans (hb2.mono (by omega)))
  clear hb2
  go_enter Try.func45, Try.ntmps45
  go_upto_region 1 with (fail)
  rw [← HW1.out]
  obtain ⟨d3, d4⟩ := HDD.out
  go_wp2_with fail
  refine (hC.out _).mono ?_
  rintro e w2 ⟨rfl, rfl⟩
  go_upto_region 4 with (fail)
  generalize (w1.alloc (.cells #[.int .i64 4, .string xs, .int .i64 0, .slice none 0 0] 35)) = w2 at *
  obtain ⟨y3, y4⟩ := HD2.out
  have y1 := HE2.out
  obtain ⟨⟨k0, k1, k2, k3⟩, f0, f1, f2, f3⟩ := cell4 hB2.out
  clear x0 x1 hlt d3 d4
  go_quiet ((go_at_call 88; exact Calls.quiet_of_same ((hC.out _).mono fun e w' ⟨h1, h2⟩ => ⟨h1, h2.symm⟩)))
  go_wp2_with fail
  go_region
  go_wp2_with fail
  refine bodyPost_ret (results_three rfl rfl rfl rfl (show (put4 (w2.drewN _) (w.heap.size + 1) _ _ _ _).heap[w.heap.size + 1]? = _ from put4_block (show (w2.drewN _).heap[w.heap.size + 1]? = _ from hB2.out))) rfl ?_
  exact ⟨⟨none, 0, rfl, .nil _⟩, put4_below (below_drewN HB2.out _) (Nat.le_succ _)⟩
end Go.Proofs.Ytldleckgkgeclaa
