/-
  Package expr's contracts: all, result.
-/
import Derived.Test.YtldleckgkgeclaaDoorMb1
import Derived.Lib.Mul64
import Derived.Laws.Bits64b
set_option linter.unusedVariables false
set_option linter.unusedSimpArgs false
namespace Go.Proofs.YtldleckgkgeclaaDoor
open Go.RowKit
/-- a slice of ints -/
def IRow (w : World) (B : Nat) (A : Option Addr) (l : List Int) : Prop := l = [] ∨ ∃ b off, A = some ⟨b, off, none⟩ ∧ b < B ∧ ∀ i z, l[i]? = some z → w.cell? ⟨b, off + i, none⟩ = some (.int .i64 z)
def ints (l : List Int) : List Value := l.map fun z => .int .i64 z
theorem IRow.below {w w' : World} {B : Nat} {A : Option Addr} {l : List Int} (h : IRow w B A l) (hb : Below B w w') : IRow w' B A l := by
  rcases h with h | ⟨b, o, hA, hB, h⟩
  · exact .inl h
  · exact .inr ⟨b, o, hA, hB, fun i z hz => (hb.cell hB).trans (h i z hz)⟩
theorem IRow.more {w : World} {B B' : Nat} {A : Option Addr} {l : List Int} (h : IRow w B A l) (hB : B ≤ B') : IRow w B' A l := by
  rcases h with h | ⟨b, o, hA, hb, h⟩
  · exact .inl h
  · exact .inr ⟨b, o, hA, by omega, h⟩
theorem own_below {w w' : World} {B n : Nat} {e : TypeId} {z : Nat} {v : Value} {xs : List Value} (h : w.ownsRow B e z v n xs) (hb : Below w.heap.size w w') : w'.ownsRow B e z v n xs := by
  refine ⟨h.1, ?_⟩
  rcases h.2 with hn | ⟨g, cap, cur, rfl, hg, hgg, rest⟩
  · exact .inl hn
  · exact .inr ⟨g, cap, cur, rfl, hg, by rw [hb.block g (Array.getElem?_eq_some_iff.1 hgg).1]; exact hgg, rest⟩
theorem own_ints {w : World} {base : Nat} {e : TypeId} {v : Value} {l : List Int} (h : w.ownsRow base e 1 v l.length (ints l)) : ∃ A c, v = .slice A l.length c ∧ l.length ≤ c ∧ IRow w w.heap.size A l := by
  obtain ⟨_, hcase⟩ := id h
  rcases hcase with ⟨rfl, h0⟩ | ⟨g, cap, cur, rfl, hg, hh, hn, hcap, hsz, htake⟩
  · exact ⟨none, 0, by rw [h0], by omega, .inl (List.eq_nil_of_length_eq_zero h0)⟩
  · refine ⟨some ⟨g, 0, none⟩, cap, rfl, hn, .inr ⟨g, 0, rfl, ?_, ?_⟩⟩
    · rcases Nat.lt_or_ge g w.heap.size with hlt | hge
      · exact hlt
      · rw [Array.getElem?_eq_none hge] at hh; cases hh
    · intro i z hz
      have hi : i < l.length := (List.getElem?_eq_some_iff.1 hz).1
      rw [Nat.zero_add, h.cellAt _ (by omega), ints, List.getElem?_map, hz]
      rfl

theorem all_closure (z k : Int) (b o : Nat) (w : World) (h0 : w.cell? ⟨b, o, none⟩ = some (.int .i64 k)) :
    Calls Tryd.prog 104 #[.int .i64 z, .pointer (some ⟨b, o, none⟩)] w fun e w' => e = .returned (.bool (z != k)) ∧ w = w' := by
  have hp := block_lt_of_cell h0
  go_enter Tryd.func104, Tryd.ntmps104
  go_wp2
  go_ret
  exact ⟨rfl, rfl⟩

set_option maxHeartbeats 400000 in
theorem indexFunc_ints (A : Option Addr) (c : Nat) (l : List Int) (hn : l.length ≤ 9223372036854775807) (k0 : Int) (pb po : Nat) (w : World) (hA : IRow w w.heap.size A l) (h0 : w.cell? ⟨pb, po, none⟩ = some (.int .i64 k0)) :
    Calls Tryd.prog 113 #[.slice A l.length c, .func (.func 104) #[] #[.pointer (some ⟨pb, po, none⟩)]] w fun e w' =>
      e = .returned (.int .i64 (idx (fun z => z != k0) l 0)) ∧ w = w' := by
  have HL := Lib.hid hA
  obtain ⟨n, en⟩ : ∃ n, n = l.length := ⟨_, rfl⟩
  have Hl := Lib.hid en
  have hcl := Lib.hid (fun z => all_closure z k0 pb po w h0)
  rw [← en] at hn ⊢
  clear hA en h0
  go_enter Tryd.func113, Tryd.ntmps113
  go_wp2_with fail
  go_loop [8] (fun i => ∃ k : Nat, k ≤ n ∧ i = .int .i64 k ∧ Hid (idx (fun z => z != k0) l 0 = idx (fun z => z != k0) (l.drop k) k)) (fun i => n - (intOf i).toNat)
  case atStart => exact ⟨0, Nat.zero_le _, rfl, rfl⟩
  case round =>
    obtain ⟨k, hk, rfl, hz⟩ := hrel
    by_cases hlt : k < n
    · obtain ⟨x, hx⟩ : ∃ x, l[k]? = some x := ⟨_, List.getElem?_eq_getElem (by rw [← Hl.out]; exact hlt)⟩
      have hst := Lib.hid (hz.out.trans (idx_step (p := fun z => z != k0) hx))
      rcases HL.out with hnil | ⟨b, o, rfl, hb, hc⟩
      · rw [hnil] at hx; simp at hx
      have c1 := hc k x hx
      clear hx hz hc
      by_cases he : (x != k0) = true
      · have hst' : Hid (idx (fun z => z != k0) l 0 = (k : Int)) := by
          have := hst.out
          rwa [if_pos he] at this
        clear hst
        go_wp2_with fail
        refine (hcl.out x).mono ?_
        rintro e w' ⟨rfl, rfl⟩
        rw [he]
        go_wp2_with fail
        go_ret
        exact ⟨by rw [hst'.out]; rfl, rfl⟩
      · have he' : (x != k0) = false := by simpa using he
        have hst' : Hid (idx (fun z => z != k0) l 0 = idx (fun z => z != k0) (l.drop (k + 1)) (k + 1)) := by
          have := hst.out
          rwa [if_neg he] at this
        clear he hst
        go_wp2_with fail
        refine (hcl.out x).mono ?_
        rintro e w' ⟨rfl, rfl⟩
        rw [he']
        go_wp2_with fail
        go_round
        case rel => exact ⟨k + 1, by omega, by go_num, hst'⟩
        case measure => simp [intOf]; omega
    · go_wp2_with fail
      go_ret
      have e : k = n := by omega
      subst e
      exact ⟨by rw [hz.out, List.drop_of_length_le (by rw [← Hl.out]; omega)]; rfl, rfl⟩

theorem all_any (A : Option Addr) (c : Nat) (l : List Int) (hn : l.length ≤ 9223372036854775807) (k : Int) (w : World) (hA : IRow w w.heap.size A l) :
    Calls Tryd.prog 87 #[.slice A l.length c, .int .i64 k] w fun e w' => e = .returned (.bool (l.all (· == k))) ∧ Below w.heap.size w w' := by
  have hb0 : Below w.heap.size w (w.alloc (.cells #[.int .i64 k] 3)) := (Below.refl _ _).alloc (Nat.le_refl _) _
  have hc := Lib.hid (indexFunc_ints A c l hn k w.heap.size 0 (w.alloc (.cells #[.int .i64 k] 3)) ((hA.below hb0).more hb0.size) (by simp))
  have e0 : l.all (· == k) = !decide (0 ≤ idx (fun z => z != k) l 0) := by
    rw [idx_any, ← Bool.not_not (l.all (· == k)), not_all_]; rfl
  rw [e0]
  clear hA e0 hn
  generalize idx (fun z => z != k) l 0 = r at *
  generalize l.length = m at *
  have hmf : ∀ (fn : Fn) (first cap : Array Value) (w : World), (Instr.makeFunc fn first cap).run Tryd.prog w = .ok (.func fn first cap) w := fun _ _ _ _ => rfl
  have hcf : Hid (Calls Tryd.prog 103 #[.slice A m c, .func (.func 104) #[] #[.pointer (some ⟨w.heap.size, 0, none⟩)]] (w.alloc (.cells #[.int .i64 k] 3)) fun e w' => e = .returned (.bool (decide (0 ≤ r))) ∧ (w.alloc (.cells #[.int .i64 k] 3)) = w') := by
    refine Lib.hid ?_
    generalize (w.alloc (.cells #[.int .i64 k] 3)) = w1 at *
    go_enter Tryd.func103, Tryd.ntmps103
    go_wp2_with fail
    refine (hc.out).mono ?_
    rintro e w' ⟨rfl, rfl⟩
    go_wp2_with fail
    go_ret
    exact ⟨rfl, rfl⟩
  clear hc
  go_enter Tryd.func87, Tryd.ntmps87
  go_wp2_with fail
  refine (hcf.out).mono ?_
  rintro e w' ⟨rfl, rfl⟩
  go_wp2_with fail
  go_ret
  exact ⟨rfl, hb0⟩
end Go.Proofs.YtldleckgkgeclaaDoor
/-
  Package expr's contracts: result.
-/
namespace Go.Proofs.YtldleckgkgeclaaDoor
open Go.RowKit

set_option maxHeartbeats 1000000 in
theorem result_any (A : Option Addr) (c : Nat) (l : List Int) (s : ByteArray) (hl : l.length = cntL s.toList) (hlc : l.length ≤ c) (h0 : 0 < l.length) (w : World) (hA : IRow w w.heap.size A l) :
    Calls Tryd.prog 69 #[.string s, .slice A l.length c] w fun e w' => e = .returned (.int .i64 (resultL s.toList l)) ∧ Below w.heap.size w w' := by
  have hl3 : l.length ≤ 3 := by rw [hl]; unfold cntL; repeat (first | split | omega)
  have hal := Lib.hid (fun k => all_any A c l (by omega) k w hA)
  rcases hA with hnil | ⟨b, o, rfl, hb, hc⟩
  · rw [hnil] at h0; simp at h0
  by_cases he : s.toList = opEq ∨ s.toList = opLt
  · have h2 : l.length = 2 := by rw [hl]; rcases he with he | he <;> rw [he] <;> rfl
    obtain ⟨a, b1, rfl⟩ : ∃ a b1, l = [a, b1] := by
      match l, h2 with
      | [a, b1], _ => exact ⟨a, b1, rfl⟩
    have c0 := hc 0 a rfl
    have c1 := hc 1 b1 rfl
    rw [Nat.add_zero] at c0
    have hr : resultL s.toList [a, b1] = if (a == b1) = true then 1 else 0 := by
      unfold resultL
      rw [if_pos he]
      simp
    rw [hr]
    clear hr hc hl hal
    simp only [List.length_cons, List.length_nil, Nat.zero_add, Nat.reduceAdd] at hlc ⊢
    have hx1 : (1 : Int) < 2 := by omega
    rcases he with he | he
    all_goals
      simp only [opEq, opLt] at he
      cases hq : (a == b1)
      all_goals
        go_enter Tryd.func69, Tryd.ntmps69
        go_wp2_with fail
        go_quiet (fail)
        go_wp2_with fail
        go_ret
        exact ⟨rfl, below_drewN (Below.refl _ _) _⟩
  have he1 : s.toList ≠ opEq := fun h => he (.inl h)
  have he2 : s.toList ≠ opLt := fun h => he (.inr h)
  have e1 : (s.toList == [101, 113]) = false := by simpa [opEq] using he1
  have e2 : (s.toList == [108, 116]) = false := by simpa [opLt] using he2
  by_cases h3 : s.toList = opCat
  · have hr : resultL s.toList l = if l.all (· == 2) = true then 2 else 0 := by
      unfold resultL
      rw [if_neg he, if_pos h3]
    rw [hr]
    have ha := Lib.hid (hal.out 2)
    clear hr he he1 he2 hal hc e1 e2 hl
    generalize l.all (· == 2) = q at *
    generalize l.length = n at *
    simp only [opCat] at h3
    cases q
    all_goals
      go_enter Tryd.func69, Tryd.ntmps69
      go_wp2_with fail
      refine (ha.out).mono ?_
      rintro e w' ⟨rfl, hb2⟩
      have HB := Lib.hid hb2
      clear hb2
      go_wp2_with fail
      go_ret
      exact ⟨rfl, HB.out⟩
  have e3 : (s.toList == [99, 97, 116]) = false := by simpa [opCat] using h3
  by_cases h4 : s.toList = opLen
  · have hr : resultL s.toList l = if l.all (· == 2) = true then 1 else 0 := by
      unfold resultL
      rw [if_neg he, if_neg h3, if_pos h4]
    rw [hr]
    have ha := Lib.hid (hal.out 2)
    clear hr he he1 he2 hal hc e1 e2 h3 e3 hl
    generalize l.all (· == 2) = q at *
    generalize l.length = n at *
    simp only [opLen] at h4
    cases q
    all_goals
      go_enter Tryd.func69, Tryd.ntmps69
      go_wp2_with fail
      refine (ha.out).mono ?_
      rintro e w' ⟨rfl, hb2⟩
      have HB := Lib.hid hb2
      clear hb2
      go_wp2_with fail
      go_ret
      exact ⟨rfl, HB.out⟩
  have e4 : (s.toList == [108, 101, 110]) = false := by simpa [opLen] using h4
  by_cases h5 : s.toList = opIf
  · have h2 : l.length = 3 := by rw [hl, h5]; rfl
    obtain ⟨a, b1, d, rfl⟩ : ∃ a b1 d, l = [a, b1, d] := by
      match l, h2 with
      | [a, b1, d], _ => exact ⟨a, b1, d, rfl⟩
    have c0 := hc 0 a rfl
    have c1 := hc 1 b1 rfl
    have c2 := hc 2 d rfl
    rw [Nat.add_zero] at c0
    have hr : resultL s.toList [a, b1, d] = if (a == 1) = true then (if (b1 == d) = true then b1 else 0) else 0 := by
      unfold resultL
      rw [if_neg he, if_neg h3, if_neg h4, if_pos h5]
      simp only [List.getD_cons_zero, List.getD_cons_succ, beq_iff_eq]
      by_cases ha : a = 1 <;> by_cases hb : b1 = d <;> simp [ha, hb]
    rw [hr]
    clear hr hc hl hal he he1 he2 e1 e2 h3 e3 h4 e4
    simp only [List.length_cons, List.length_nil, Nat.zero_add, Nat.reduceAdd] at hlc ⊢
    have hx1 : (1 : Int) < 3 := by omega
    have hx2 : (2 : Int) < 3 := by omega
    simp only [opIf] at h5
    cases hq : (a == 1)
    · go_enter Tryd.func69, Tryd.ntmps69
      go_wp2_with fail
      go_quiet (fail)
      go_wp2_with fail
      go_ret
      exact ⟨rfl, below_drewN (Below.refl _ _) _⟩
    · cases hq2 : (b1 == d)
      all_goals
        go_enter Tryd.func69, Tryd.ntmps69
        go_wp2_with fail
        go_quiet (fail)
        go_wp2_with fail
        go_ret
        exact ⟨rfl, below_drewN (Below.refl _ _) _⟩
  have e5 : (s.toList == [105, 102]) = false := by simpa [opIf] using h5
  have hr : resultL s.toList l = if l.all (· == 1) = true then 1 else 0 := by
    unfold resultL
    rw [if_neg he, if_neg h3, if_neg h4, if_neg h5]
  rw [hr]
  have ha := Lib.hid (hal.out 1)
  clear hr he he1 he2 hal hc h3 h4 h5 hl
  generalize l.all (· == 1) = q at *
  generalize l.length = n at *
  cases q
  all_goals
    go_enter Tryd.func69, Tryd.ntmps69
    go_wp2_with fail
    refine (ha.out).mono ?_
    rintro e w' ⟨rfl, hb2⟩
    have HB := Lib.hid hb2
    clear hb2
    go_wp2_with fail
    go_ret
    exact ⟨rfl, HB.out⟩
end Go.Proofs.YtldleckgkgeclaaDoor
/-
  Package expr's contracts: typed, Type.
-/
namespace Go.Proofs.YtldleckgkgeclaaDoor
open Go.RowKit
theorem CRow.get_ {w : World} {A : Option Addr} {l : List C} (h : CRow w w.heap.size A l) {k : Nat} {v : C} (hv : l[k]? = some v) : ∃ b o, A = some ⟨b, o, none⟩ ∧ b < w.heap.size ∧
    w.cell? ⟨b, o + k * 2, none⟩ = some (.string v.nm) ∧ w.cell? ⟨b, o + k * 2 + 1, none⟩ = some (.int .i64 v.k) := by
  rcases h with rfl | ⟨b, o, rfl, hlt, hA⟩
  · simp at hv
  · obtain ⟨h1, h2⟩ := hA k v hv
    exact ⟨b, o, rfl, hlt, h1, h2⟩
theorem idx_at {α : Type} (p : α → Bool) (l : List α) : ∀ k : Nat, 0 ≤ idx p l k → ∃ j x, idx p l k = ((k + j : Nat) : Int) ∧ l[j]? = some x := by
  induction l with
  | nil => intro k h; simp [idx] at h
  | cons x l ih =>
    intro k h
    unfold idx at h ⊢
    by_cases hp : p x = true
    · rw [if_pos hp]
      exact ⟨0, x, rfl, rfl⟩
    · rw [if_neg hp] at h ⊢
      obtain ⟨j, y, e, hy⟩ := ih (k + 1) h
      exact ⟨j + 1, y, by rw [e]; congr 1; omega, by simpa using hy⟩
theorem find_at {l : List C} {nm : ByteArray} (h : findB l nm = true) : ∃ (j : Nat) (x : C), findN l nm = (j : Int) ∧ l[j]? = some x := by
  unfold findB at h
  rw [decide_eq_true_eq] at h
  obtain ⟨j, x, e, hx⟩ := idx_at _ _ 0 h
  refine ⟨j, x, ?_, hx⟩
  unfold findN
  rw [if_pos h, e, Nat.zero_add]
theorem typeL_step (cols : List C) {l : List E} {k : Nat} {x : E} (hx : l[k]? = some x) :
    typeL cols (l.drop k) = if (typeE cols x).2 = 0 then ((typeE cols x).1 :: (typeL cols (l.drop (k + 1))).1, (typeL cols (l.drop (k + 1))).2) else ([], (typeE cols x).2) := by
  obtain ⟨h1, e1⟩ := List.getElem?_eq_some_iff.1 hx
  rw [List.drop_eq_getElem_cons h1, e1, typeL]
theorem made_kids {s : ByteArray} {k n : Int} {l : List E} (hk1 : k ≠ 1) (hk2 : k ≠ 2) (hk3 : k ≠ 3) (h : madeE (.mk k s n l) = true) : 0 < l.length ∧ l.length = cntL s.toList ∧ ∀ e ∈ l, madeE e = true := by
  rw [madeE, if_neg hk1, if_neg hk2, if_neg hk3] at h
  split at h
  · simp only [Bool.and_eq_true, decide_eq_true_eq, beq_iff_eq, madeL_all, List.all_eq_true] at h
    obtain ⟨h1, h2, h3, h4⟩ := h
    exact ⟨by omega, h2.symm, h4⟩
  · cases h
theorem cnt_le (s : List UInt8) : cntL s ≤ 3 := by unfold cntL; repeat (first | split | omega)

def TypedExp (cols : List C) (e : E) : Prop := madeE e = true → ∀ (A Ac : Option Addr) (c cc : Nat) (w : World), EKids w w.heap.size A e.kids → CRow w w.heap.size Ac cols →
  Calls Tryd.prog 50 #[e.val A c, .slice Ac cols.length cc] w fun r w' => r = .returned (.tuple #[.int .i64 (typeE cols e).1, .int .i64 (typeE cols e).2]) ∧ Below w.heap.size w w'

theorem int_info : (Tryd.prog.info? 3).map (fun i => (i.zero, i.size, i.bytes)) = some (some (.int .i64 0), 1, 8) := by kernel_rfl

set_option maxRecDepth 100000 in
set_option maxHeartbeats 1000000 in
theorem typed_step (cols : List C) (hcl : cols.length ≤ 9223372036854775807) (k : Int) (s : ByteArray) (n : Int) (l : List E) (hM : ∀ e ∈ l, TypedExp cols e) : TypedExp cols (.mk k s n l) := by
  intro hmade A Ac c cc w hA hAc
  simp only [E.val, E.k, E.s, E.n, E.kids] at hA ⊢
  have hb0 : Below w.heap.size w (w.alloc (.cells #[.int .i64 k, .string s, .int .i64 n, .slice A l.length c] 39)) := (Below.refl _ _).alloc (Nat.le_refl _) _
  have HB0 := Lib.hid hb0
  by_cases h1 : k = 1
  · subst h1
    have hz : Hid (typeE cols (.mk 1 s n l) = (if findB cols s then ((cols.getD (findN cols s).toNat ⟨⟨#[]⟩, 0⟩).k, 0) else (0, 20))) := Lib.hid (by rw [typeE, if_pos rfl])
    have hf := Lib.hid (find_any Ac cc cols hcl s _ ((hAc.below hb0).more hb0.size))
    cases hfb : findB cols s
    · rw [hfb] at hz hf
      have hz2 : Hid (typeE cols (.mk 1 s n l) = (0, 20)) := Lib.hid (by rw [hz.out]; rfl)
      generalize typeE cols (.mk 1 s n l) = q at *
      generalize findN cols s = fn at *
      generalize cols.length = m at *
      clear hz hA hAc hM hmade hb0
      generalize l.length = ln at *
      go_enter Tryd.func50, Tryd.ntmps50
      go_wp2_with fail
      refine (hf.out).mono ?_
      rintro e w' ⟨rfl, hb⟩
      have HB := Lib.hid (HB0.out.trans (hb.mono (by simp)))
      clear hb
      go_wp2_with fail
      go_ret2
      exact ⟨by rw [hz2.out]; rfl, HB.out⟩
    · obtain ⟨j, x, ej, hx⟩ := find_at hfb
      have hz2 : Hid (typeE cols (.mk 1 s n l) = (x.k, 0)) := Lib.hid (by rw [hz.out, if_pos hfb, ej, Int.toNat_natCast, List.getD_eq_getElem?_getD, hx]; rfl)
      obtain ⟨b, o, rfl, hlt, c1, c2⟩ := hAc.get_ hx
      have hj : j < cols.length := (List.getElem?_eq_some_iff.1 hx).1
      rw [hfb, ej] at hf
      generalize typeE cols (.mk 1 s n l) = q at *
      generalize cols.length = m at *
      clear hz hA hAc hM hmade hx hfb ej c1
      obtain ⟨xn, xk⟩ := x
      simp only at c2
      generalize l.length = ln at *
      go_enter Tryd.func50, Tryd.ntmps50
      go_wp2_with fail
      refine (hf.out).mono ?_
      rintro e w' ⟨rfl, hb⟩
      have c3 := ((hb0.trans (hb.mono (by simp))).cell hlt).trans c2
      have HB := Lib.hid (hb0.trans (hb.mono (by simp)))
      clear hb hb0
      go_wp2_with fail
      go_ret2
      exact ⟨by rw [hz2.out]; rfl, HB.out⟩
  have h1' : (k == 1) = false := by simpa using h1
  by_cases h2 : k = 2
  · subst h2
    have hz2 : Hid (typeE cols (.mk 2 s n l) = (1, 0)) := Lib.hid (by rw [typeE, if_neg (by decide), if_pos rfl])
    generalize typeE cols (.mk 2 s n l) = q at *
    clear hA hAc hM hmade hb0 h1 h1'
    generalize l.length = ln at *
    go_enter Tryd.func50, Tryd.ntmps50
    go_wp2_with fail
    go_ret2
    exact ⟨by rw [hz2.out]; rfl, HB0.out⟩
  have h2' : (k == 2) = false := by simpa using h2
  by_cases h3 : k = 3
  · subst h3
    have hz2 : Hid (typeE cols (.mk 3 s n l) = (2, 0)) := Lib.hid (by rw [typeE, if_neg (by decide), if_neg (by decide), if_pos rfl])
    generalize typeE cols (.mk 3 s n l) = q at *
    clear hA hAc hM hmade hb0 h1 h1' h2 h2'
    generalize l.length = ln at *
    go_enter Tryd.func50, Tryd.ntmps50
    go_wp2_with fail
    go_ret2
    exact ⟨by rw [hz2.out]; rfl, HB0.out⟩
  have h3' : (k == 3) = false := by simpa using h3
  obtain ⟨hl0, hlc, hmk⟩ := made_kids h1 h2 h3 hmade
  have hl3 : l.length ≤ 3 := by rw [hlc]; exact cnt_le _
  have hz : Hid (typeE cols (.mk k s n l) = if (typeL cols l).2 = 0 then (if 0 < resultL s.toList (typeL cols l).1 then (resultL s.toList (typeL cols l).1, 0) else (0, 22)) else (0, (typeL cols l).2)) := Lib.hid (by rw [typeE, if_neg h1, if_neg h2, if_neg h3])
  obtain ⟨i0, hi, hz0, hz1, hz2⟩ := info_parts int_info
  have HL := Lib.hid ((hA.low hb0).more hb0.size)
  have HC := Lib.hid ((hAc.below hb0).more hb0.size)
  have HM := Lib.hid hM
  have HMK := Lib.hid hmk
  have HLC := Lib.hid hlc
  obtain ⟨m, em⟩ : ∃ m, m = cols.length := ⟨_, rfl⟩
  obtain ⟨ln, eln⟩ : ∃ ln, ln = l.length := ⟨_, rfl⟩
  have Hm := Lib.hid em
  have Hln := Lib.hid eln
  generalize typeE cols (.mk k s n l) = q at *
  rw [← em]
  rw [← eln] at hl0 hl3 hb0 HB0 HL HC ⊢
  obtain ⟨w1, ew1⟩ : ∃ w1, w1 = (w.alloc (.cells #[.int .i64 k, .string s, .int .i64 n, .slice A ln c] 39)) := ⟨_, rfl⟩
  have HW1 := Lib.hid ew1
  have cs : w1.cell? ⟨w.heap.size, 1, none⟩ = some (.string s) := by rw [ew1]; simp
  have hws : w1.heap.size = w.heap.size + 1 := by rw [ew1]; simp
  rw [← ew1] at HL HC HB0
  clear hA hAc hM hmade hb0 h1 h2 h3 hmk hlc em eln ew1
  go_enter Tryd.func50, Tryd.ntmps50
  go_wp2_with fail
  go_loopw [8, 39] (fun v i wr => ∃ (j : Nat) (ts : List Int), j ≤ ln ∧ ts.length = j ∧ i = .int .i64 j ∧ wr.ownsRow w1.heap.size 3 1 v j (ints ts) ∧ Below w1.heap.size w1 wr ∧ Hid (typeL cols l = (ts ++ (typeL cols (l.drop j)).1, (typeL cols (l.drop j)).2))) (fun _ i _ => ln - (intOf i).toNat)
  case atStart => exact ⟨0, [], Nat.zero_le _, rfl, rfl, World.ownsRow_nil _ _ _ _, by rw [HW1.out]; exact Below.refl _ _, Lib.hid rfl⟩
  case round =>
    obtain ⟨j, ts, hj, htl, rfl, hown, hb, hzl⟩ := hrel
    have HO := Lib.hid hown
    have HB := Lib.hid hb
    have hs := hb.size
    have HTL := Lib.hid htl
    clear hown htl
    by_cases hlt : j < ln
    · obtain ⟨x, hx⟩ : ∃ x, l[j]? = some x := ⟨_, List.getElem?_eq_getElem (by rw [← Hln.out]; exact hlt)⟩
      obtain ⟨b, o, A', c', rfl, hbl, c1, c2, c3, c4, hK⟩ := HL.out.get_ wr hb j x hx
      have hMx := HM.out x (List.mem_of_getElem? hx) (HMK.out x (List.mem_of_getElem? hx))
      have hst := Lib.hid (hzl.out.trans (by rw [typeL_step cols hx]))
      clear hx hzl
      obtain ⟨xk, xs, xn, xl⟩ := x
      simp only [E.k, E.s, E.n, E.kids] at c1 c2 c3 c4 hK
      have HMX := Lib.hid hMx
      have HK := Lib.hid hK
      clear hMx hK
      generalize hq : typeE cols (.mk xk xs xn xl) = tq at *
      generalize hxm : xl.length = xm at *
      have hb1 : Below w1.heap.size w1 (wr.alloc (.cells #[.int .i64 xk, .string xs, .int .i64 xn, .slice A' xm c'] 39)) := hb.alloc hs _
      have hcl := Lib.hid (HMX.out A' Ac c' cc (wr.alloc (.cells #[.int .i64 xk, .string xs, .int .i64 xn, .slice A' xm c'] 39)) (by
        simp only [E.kids]
        have hb2 : Below wr.heap.size wr (wr.alloc (.cells #[.int .i64 xk, .string xs, .int .i64 xn, .slice A' xm c'] 39)) := (Below.refl _ _).alloc (Nat.le_refl _) _
        exact (HK.out.low hb2).more hb2.size) ((HC.out.below hb1).more hb1.size))
      simp only [E.val, E.k, E.s, E.n, E.kids, hq, hxm, ← Hm.out] at hcl
      have HB1 := Lib.hid hb1
      clear hb1 HMX HK
      obtain ⟨tk, tw⟩ := tq
      simp only at hst hcl
      go_wp2_with fail
      refine (hcl.out).mono ?_
      rintro e w2 ⟨rfl, hb3⟩
      have HB3 := Lib.hid (HB1.out.trans (hb3.mono (by simp; omega)))
      have HO3 := Lib.hid (own_below (HO.out.alloc (.cells #[.int .i64 xk, .string xs, .int .i64 xn, .slice A' xm c'] 39)) hb3)
      have hs3 := HB3.out.size
      clear hb3 HO hcl
      by_cases htw : tw = 0
      · subst htw
        have hzl2 : Hid (typeL cols l = ((ts ++ [tk]) ++ (typeL cols (l.drop (j + 1))).1, (typeL cols (l.drop (j + 1))).2)) := Lib.hid (by rw [hst.out, if_pos rfl, List.append_assoc]; rfl)
        clear hst
        go_wp2_with (at_builtin; refine wpList_append_own _ rfl _ _ 114 rfl w1.heap.size 3 i0 _ 1 8 Tryd.underlying114 hi hz0 hz1 hz2 rfl (by decide) _ _ _ rfl (HO3.out.alloc _) ⟨w2.heap.size, 0, none⟩ 1 1 [.int .i64 tk] rfl rfl ?c1 ?c2 ?c3 ?c4 ?c5 ?_)
        case c1 =>
          intro i u hu
          match i, hu with
          | 0, hu => simp at hu; subst hu; simp [Addr.add]
        case c2 => intro u hu; simp at hu; subst hu; rfl
        case c3 => unfold maxLen; omega
        case c4 => omega
        case c5 => simp; omega
        intro v' w3 hown' hgrow _
        have HO4 : Hid (w3.ownsRow w1.heap.size 3 1 v' (j + 1) (ints (ts ++ [tk]))) := Lib.hid (by unfold ints at hown' ⊢; rw [List.map_append, hws]; exact hown')
        have HB4 := Lib.hid ((HB3.out.alloc hs3 (.cells #[.int .i64 tk] 3)).grown hgrow (by simp; omega) (fun g hg => (HO3.out.lt g hg).1))
        have htl2 : Hid ((ts ++ [tk]).length = j + 1) := Lib.hid (by rw [List.length_append, HTL.out]; rfl)
        clear hown' hgrow
        go_wp2_with fail
        go_roundw
        case rel => exact ⟨j + 1, ts ++ [tk], by omega, htl2.out, by go_num, HO4.out, HB4.out, hzl2⟩
        case measure => simp [intOf]; omega
      · have htw' : (tw != 0) = true := by simpa using htw
        have hq2 : Hid (q = (0, tw)) := Lib.hid (by rw [hz.out, hst.out, if_neg htw, if_neg htw])
        clear hst hz
        go_wp2_with fail
        go_ret2
        exact ⟨by rw [hq2.out]; rfl, (HB0.out.trans (HB3.out.mono (by omega)))⟩
    · obtain rfl : j = ln := by omega
      have hzl2 : Hid (typeL cols l = (ts, 0)) := Lib.hid (by rw [hzl.out, List.drop_of_length_le (by rw [← Hln.out]; exact Nat.le_refl _), typeL, List.append_nil])
      obtain ⟨A2, c2, rfl, hc2, hI⟩ := own_ints (l := ts) (by rw [HTL.out]; exact HO.out)
      have hr := Lib.hid (result_any A2 c2 ts s (by rw [HTL.out]; exact Hln.out.trans HLC.out) hc2 (by rw [HTL.out]; exact hl0) wr hI)
      rw [HTL.out] at hr
      have cs2 : wr.cell? ⟨w.heap.size, 1, none⟩ = some (.string s) := (hb.cell (show w.heap.size < w1.heap.size by omega)).trans cs
      have hq3 : Hid (q = if 0 < resultL s.toList ts then (resultL s.toList ts, 0) else (0, 22)) := Lib.hid (by rw [hz.out, hzl2.out, if_pos rfl])
      rw [HTL.out]
      clear hz hzl hzl2 hI cs HO
      generalize resultL s.toList ts = rs at *
      by_cases hrs : 0 < rs
      · have hq2 : Hid (q = (rs, 0)) := Lib.hid (by rw [hq3.out, if_pos hrs])
        clear hq3
        go_wp2_with fail
        refine (hr.out).mono ?_
        rintro e w2 ⟨rfl, hb3⟩
        have HB3 := Lib.hid (HB.out.trans (hb3.mono hs))
        clear hb3 hr
        go_wp2_with fail
        go_ret2
        exact ⟨by rw [hq2.out]; rfl, (HB0.out.trans (HB3.out.mono (by omega)))⟩
      · have hq2 : Hid (q = (0, 22)) := Lib.hid (by rw [hq3.out, if_neg hrs])
        clear hq3
        go_wp2_with fail
        refine (hr.out).mono ?_
        rintro e w2 ⟨rfl, hb3⟩
        have HB3 := Lib.hid (HB.out.trans (hb3.mono hs))
        clear hb3 hr
        go_wp2_with fail
        go_ret2
        exact ⟨by rw [hq2.out]; rfl, (HB0.out.trans (HB3.out.mono (by omega)))⟩
theorem typed_any (cols : List C) (hcl : cols.length ≤ 9223372036854775807) : ∀ e, TypedExp cols e := E.ind (typed_step cols hcl)

/-- Type's answer -/
def typeTop (cols : List C) (e : E) : Int × Int := if madeE e = true then typeE cols e else (0, 22)
set_option maxRecDepth 100000 in
theorem type_any (cols : List C) (hcl : cols.length ≤ 9223372036854775807) (e : E) (A Ac : Option Addr) (c cc : Nat) (w : World) (hA : EKids w w.heap.size A e.kids) (hAc : CRow w w.heap.size Ac cols) :
    Calls Tryd.prog 29 #[e.val A c, .slice Ac cols.length cc] w fun r w' => r = .returned (.tuple #[.int .i64 (typeTop cols e).1, .int .i64 (typeTop cols e).2]) ∧ Below w.heap.size w w' := by
  obtain ⟨k, s, n, l⟩ := e
  simp only [E.val, E.k, E.s, E.n, E.kids] at hA ⊢
  have hb0 : Below w.heap.size w (w.alloc (.cells #[.int .i64 k, .string s, .int .i64 n, .slice A l.length c] 39)) := (Below.refl _ _).alloc (Nat.le_refl _) _
  have hm := Lib.hid (made_any (.mk k s n l) A c _ ((hA.low hb0).more hb0.size))
  simp only [E.val, E.k, E.s, E.n, E.kids] at hm
  have HB0 := Lib.hid hb0
  have hq : Hid (typeTop cols (.mk k s n l) = if madeE (.mk k s n l) = true then typeE cols (.mk k s n l) else (0, 22)) := Lib.hid rfl
  generalize typeTop cols (.mk k s n l) = q at *
  cases hmd : madeE (.mk k s n l)
  · rw [hmd] at hq hm
    have hq2 : Hid (q = (0, 22)) := Lib.hid (by rw [hq.out, if_neg (by decide)])
    clear hq hA hAc
    generalize l.length = ln at *
    generalize cols.length = m at *
    go_enter Tryd.func29, Tryd.ntmps29
    go_wp2_with fail
    refine (hm.out).mono ?_
    rintro e w' ⟨rfl, hb⟩
    have HB := Lib.hid (HB0.out.trans (hb.mono (by simp)))
    clear hb
    go_wp2_with fail
    go_ret2
    exact ⟨by rw [hq2.out]; rfl, HB.out⟩
  · rw [hmd] at hq hm
    have hq2 : Hid (q = typeE cols (.mk k s n l)) := Lib.hid (by rw [hq.out, if_pos rfl])
    have hty : Hid (∀ w1, Below w.heap.size w w1 → Calls Tryd.prog 50 #[.agg #[.int .i64 k, .string s, .int .i64 n, .slice A l.length c], .slice Ac cols.length cc] w1 fun r w' => r = .returned (.tuple #[.int .i64 q.1, .int .i64 q.2]) ∧ Below w1.heap.size w1 w') := Lib.hid (fun w1 hb1 => by
      rw [hq2.out]
      exact typed_any cols hcl (.mk k s n l) hmd A Ac c cc w1 ((hA.low hb1).more hb1.size) ((hAc.below hb1).more hb1.size))
    clear hq hA hAc hmd
    generalize l.length = ln at *
    generalize cols.length = m at *
    go_enter Tryd.func29, Tryd.ntmps29
    go_wp2_with fail
    refine (hm.out).mono ?_
    rintro e w' ⟨rfl, hb⟩
    have hb2 := hb0.trans (hb.mono (by simp))
    have HB := Lib.hid hb2
    have hty2 := Lib.hid (hty.out w' hb2)
    have c0 : w'.cell? ⟨w.heap.size, 0, none⟩ = some (.int .i64 k) := (hb.cell (by simp)).trans (by simp)
    have c1 : w'.cell? ⟨w.heap.size, 1, none⟩ = some (.string s) := (hb.cell (by simp)).trans (by simp)
    have c2 : w'.cell? ⟨w.heap.size, 2, none⟩ = some (.int .i64 n) := (hb.cell (by simp)).trans (by simp)
    have c3 : w'.cell? ⟨w.heap.size, 3, none⟩ = some (.slice A ln c) := (hb.cell (by simp)).trans (by simp)
    have hs2 := hb.size
    clear hb hb2 hty hm hb0
    go_wp2_with fail
    refine (hty2.out).mono ?_
    rintro e w3 ⟨rfl, hb⟩
    have HB3 := Lib.hid (HB.out.trans (hb.mono (by simp at hs2; omega)))
    clear hb
    go_wp2_with fail
    go_ret2
    exact ⟨rfl, HB3.out⟩
end Go.Proofs.YtldleckgkgeclaaDoor
/-
  Package expr's contracts: truth, size, reckon; value's Num, Str; bits.Mul64.
-/
namespace Go.Proofs.YtldleckgkgeclaaDoor
open Go.RowKit

theorem value_num (n : Int) (w : World) :
    Calls Tryd.prog 65 #[.int .i64 n] w fun e w' => e = .returned (.agg #[.int .i64 1, .int .i64 n, .string ⟨#[]⟩]) ∧ w.alloc (.cells #[.int .i64 1, .int .i64 n, .string ⟨#[]⟩] 60) = w' := by
  go_enter Tryd.func65, Tryd.ntmps65
  go_wp2
  exact bodyPost_ret (v := .agg #[.int .i64 1, .int .i64 n, .string ⟨#[]⟩]) (by simp [results, Tryd.results65, go_sem]) rfl ⟨rfl, rfl⟩
theorem value_str (s : ByteArray) (w : World) :
    Calls Tryd.prog 37 #[.string s] w fun e w' => e = .returned (.agg #[.int .i64 2, .int .i64 0, .string s]) ∧ w.alloc (.cells #[.int .i64 2, .int .i64 0, .string s] 60) = w' := by
  go_enter Tryd.func37, Tryd.ntmps37
  go_wp2
  exact bodyPost_ret (v := .agg #[.int .i64 2, .int .i64 0, .string s]) (by simp [results, Tryd.results37, go_sem]) rfl ⟨rfl, rfl⟩
theorem truth_any (b : Bool) (w : World) :
    Calls Tryd.prog 84 #[.bool b] w fun e w' => e = .returned (.tuple #[.agg #[.int .i64 1, .int .i64 (boolI b), .string ⟨#[]⟩], .int .i64 0]) ∧ Below w.heap.size w w' := by
  cases b
  · go_enter Tryd.func84, Tryd.ntmps84
    go_wp2_with fail
    refine (value_num 0 _).mono ?_
    rintro e w' ⟨rfl, rfl⟩
    go_wp2_with fail
    exact bodyPost_ret (v := .tuple #[.agg #[.int .i64 1, .int .i64 0, .string ⟨#[]⟩], .int .i64 0]) (by simp [results, Tryd.results84, go_sem]) rfl ⟨rfl, by repeat (first | exact Below.refl _ _ | refine Below.alloc ?_ (by simp <;> omega) _ | refine Below.setCell ?_ (by simp) _)⟩
  · go_enter Tryd.func84, Tryd.ntmps84
    go_wp2_with fail
    refine (value_num 1 _).mono ?_
    rintro e w' ⟨rfl, rfl⟩
    go_wp2_with fail
    exact bodyPost_ret (v := .tuple #[.agg #[.int .i64 1, .int .i64 1, .string ⟨#[]⟩], .int .i64 0]) (by simp [results, Tryd.results84, go_sem]) rfl ⟨rfl, by repeat (first | exact Below.refl _ _ | refine Below.alloc ?_ (by simp <;> omega) _ | refine Below.setCell ?_ (by simp) _)⟩

theorem size_any (n : Int) (h1 : -9223372036854775808 ≤ n) (h2 : n ≤ 9223372036854775807) (w : World) :
    Calls Tryd.prog 102 #[.int .i64 n] w fun e w' => e = .returned (.int .u64 (n.natAbs : Nat)) ∧ w = w' := by
  by_cases h : n < 0
  · go_enter Tryd.func102, Tryd.ntmps102
    go_wp2
    go_ret
    refine ⟨congrArg (fun z => Ending.returned (.int .u64 z)) ?_, rfl⟩
    first | omega | (simp only [IntKind.wrap_u64]; omega)
  · go_enter Tryd.func102, Tryd.ntmps102
    go_wp2
    go_ret
    refine ⟨congrArg (fun z => Ending.returned (.int .u64 z)) ?_, rfl⟩
    first | omega | (simp only [IntKind.wrap_u64]; omega)

theorem maskN (a : Nat) (ha : a < 18446744073709551616) : bits .and .u64 (a : Int) 4294967295 = ((a % 4294967296 : Nat) : Int) := by
  have h := bits_and_u64_nat a 4294967295 ha (by omega)
  have e : a &&& 4294967295 = a % 4294967296 := Nat.and_two_pow_sub_one_eq_mod a 32
  rw [e] at h
  exact h
theorem divN (a : Nat) : (a : Int) / 4294967296 = ((a / 4294967296 : Nat) : Int) := by omega
theorem mulN (a b : Nat) : (a : Int) * (b : Int) = ((a * b : Nat) : Int) := (Int.natCast_mul a b).symm
theorem addN (a b : Nat) : (a : Int) + (b : Int) = ((a + b : Nat) : Int) := (Int.natCast_add a b).symm
theorem wrapN (a : Nat) (ha : a < 18446744073709551616) : IntKind.u64.wrap (a : Int) = (a : Int) := by rw [IntKind.wrap_u64]; omega
theorem wrapM (a : Nat) : IntKind.u64.wrap (a : Int) = ((a % 18446744073709551616 : Nat) : Int) := by rw [IntKind.wrap_u64]; omega
set_option maxHeartbeats 1000000 in
theorem mul64_any (x y : Nat) (hx : x < 18446744073709551616) (hy : y < 18446744073709551616) (w : World) :
    Calls Tryd.prog 101 #[.int .u64 x, .int .u64 y] w fun e w' => e = .returned (.tuple #[.int .u64 ((x * y / 18446744073709551616 : Nat) : Int), .int .u64 ((x * y % 18446744073709551616 : Nat) : Int)]) ∧ w = w' := by
  obtain ⟨bd, bt, bw, hhi⟩ := Lib.mul64_hi x y hx hy
  have ba := Lib.half_mul_le (a := x / 4294967296) (b := y / 4294967296) (by omega) (by omega)
  have bb := Lib.half_mul_le (a := x / 4294967296) (b := y % 4294967296) (by omega) (by omega)
  have bc := Lib.half_mul_le (a := x % 4294967296) (b := y / 4294967296) (by omega) (by omega)
  have ba' : x / 4294967296 * (y / 4294967296) < 18446744073709551616 := by omega
  have bb' : x / 4294967296 * (y % 4294967296) < 18446744073709551616 := by omega
  have bc' : x % 4294967296 * (y / 4294967296) < 18446744073709551616 := by omega
  have bh1 : x / 4294967296 * (y / 4294967296) + (x / 4294967296 * (y % 4294967296) + x % 4294967296 * (y % 4294967296) / 4294967296) / 4294967296 < 18446744073709551616 := by omega
  have bh : x / 4294967296 * (y / 4294967296) + (x / 4294967296 * (y % 4294967296) + x % 4294967296 * (y % 4294967296) / 4294967296) / 4294967296 + ((x / 4294967296 * (y % 4294967296) + x % 4294967296 * (y % 4294967296) / 4294967296) % 4294967296 + x % 4294967296 * (y / 4294967296)) / 4294967296 < 18446744073709551616 := by omega
  go_enter Tryd.func101, Tryd.ntmps101
  go_wp2
  simp only [maskN x hx, maskN y hy, divN, mulN, addN, wrapN _ bd, wrapN _ bb', wrapN _ bt, maskN _ bt, wrapN _ bc', wrapN _ bw, wrapN _ ba', wrapN _ bh1, wrapN _ bh, wrapM (x * y)]
  rw [hhi]
  go_ret2
  exact ⟨rfl, rfl⟩

theorem ending_pair {a b c d : Value} (h1 : a = c) (h2 : b = d) : Ending.returned (.tuple #[a, b]) = Ending.returned (.tuple #[c, d]) := by rw [h1, h2]
theorem dec_cases (a : Int) : (a < 0 ∧ decide (a < 0) = true) ∨ (0 ≤ a ∧ decide (a < 0) = false) := by
  by_cases h : a < 0
  · exact .inl ⟨h, decide_eq_true h⟩
  · exact .inr ⟨by omega, decide_eq_false h⟩
theorem dec_le (n : Nat) : decide (n ≤ 9223372036854775808) = decide ((n : Int) ≤ 9223372036854775808) := by rw [decide_eq_decide]; omega
theorem dec_lt (n : Nat) : decide (n < 9223372036854775808) = decide ((n : Int) < 9223372036854775808) := by rw [decide_eq_decide]; omega
set_option maxRecDepth 100000 in
set_option maxHeartbeats 1000000 in
theorem reckon_any (op : ByteArray) (a b : Int) (ha1 : -9223372036854775808 ≤ a) (ha2 : a ≤ 9223372036854775807) (hb1 : -9223372036854775808 ≤ b) (hb2 : b ≤ 9223372036854775807) (w : World) :
    Calls Tryd.prog 86 #[.string op, .int .i64 a, .int .i64 b] w fun e w' => e = .returned (.tuple #[.int .i64 (reckonL op.toList a b).1, .bool (reckonL op.toList a b).2]) ∧ w = w' := by
  by_cases h1 : op.toList = opAdd
  · have hr : Hid (reckonL op.toList a b = (wrap64 (a + b), decide (a < wrap64 (a + b)) == decide (0 < b))) := Lib.hid (by unfold reckonL; rw [if_pos h1])
    generalize reckonL op.toList a b = r at *
    simp only [opAdd] at h1
    clear ha1 ha2 hb1 hb2
    go_enter Tryd.func86, Tryd.ntmps86
    go_wp2
    go_ret2
    exact ⟨by rw [hr.out]; rfl, rfl⟩
  have e1 : (op.toList == [97, 100, 100]) = false := by simpa [opAdd] using h1
  by_cases h2 : op.toList = opSub
  · have hr : Hid (reckonL op.toList a b = (wrap64 (a - b), decide (wrap64 (a - b) < a) == decide (0 < b))) := Lib.hid (by unfold reckonL; rw [if_neg h1, if_pos h2])
    generalize reckonL op.toList a b = r at *
    simp only [opSub] at h2
    clear ha1 ha2 hb1 hb2 h1 e1
    go_enter Tryd.func86, Tryd.ntmps86
    go_wp2
    go_ret2
    exact ⟨by rw [hr.out]; rfl, rfl⟩
  have e2 : (op.toList == [115, 117, 98]) = false := by simpa [opSub] using h2
  by_cases h3 : op.toList = opNeg
  · have hr : Hid (reckonL op.toList a b = (wrap64 (-a), a != -9223372036854775808)) := Lib.hid (by unfold reckonL; rw [if_neg h1, if_neg h2, if_pos h3])
    generalize reckonL op.toList a b = r at *
    simp only [opNeg] at h3
    clear ha1 ha2 hb1 hb2 h1 e1 h2 e2
    go_enter Tryd.func86, Tryd.ntmps86
    go_wp2
    go_ret2
    exact ⟨by rw [hr.out]; rfl, rfl⟩
  have e3 : (op.toList == [110, 101, 103]) = false := by simpa [opNeg] using h3
  have hs1 := Lib.hid (size_any a ha1 ha2)
  have hs2 := Lib.hid (size_any b hb1 hb2)
  have hm := Lib.hid (mul64_any a.natAbs b.natAbs (by omega) (by omega))
  have hr : Hid (reckonL op.toList a b = if (decide (a < 0) != decide (b < 0)) = true then (wrap64 (-(wrap64 ((a.natAbs * b.natAbs % 18446744073709551616 : Nat) : Int))), (a.natAbs * b.natAbs / 18446744073709551616 == 0) && decide (a.natAbs * b.natAbs % 18446744073709551616 ≤ 9223372036854775808))
    else (wrap64 ((a.natAbs * b.natAbs % 18446744073709551616 : Nat) : Int), (a.natAbs * b.natAbs / 18446744073709551616 == 0) && decide (a.natAbs * b.natAbs % 18446744073709551616 < 9223372036854775808))) := Lib.hid (by unfold reckonL; rw [if_neg h1, if_neg h2, if_neg h3])
  have hlo : a.natAbs * b.natAbs % 18446744073709551616 < 18446744073709551616 := Nat.mod_lt _ (by decide)
  generalize reckonL op.toList a b = r at *
  generalize a.natAbs * b.natAbs / 18446744073709551616 = hi at *
  generalize a.natAbs * b.natAbs % 18446744073709551616 = lo at *
  generalize a.natAbs = x at *
  generalize b.natAbs = y at *
  have Hlo := Lib.hid hlo
  clear ha1 ha2 hb1 hb2 h1 h2 h3 hlo
  by_cases hh : hi = 0
  · subst hh
    rcases dec_cases a with ⟨ha, ha'⟩ | ⟨ha, ha'⟩ <;> rcases dec_cases b with ⟨hb, hb'⟩ | ⟨hb, hb'⟩
    · have hsg : (decide (a < 0) != decide (b < 0)) = false := by rw [ha', hb']; rfl
      have hr2 : Hid (r = (wrap64 (lo : Int), decide ((lo : Int) < 9223372036854775808))) := Lib.hid (by rw [hr.out, hsg, if_neg (by decide), show ((0 : Nat) == 0) = true from rfl, Bool.true_and, dec_lt])
      clear hr hsg
      go_enter Tryd.func86, Tryd.ntmps86
      go_wp2_with fail
      refine (hs1.out _).mono ?_
      rintro e w' ⟨rfl, rfl⟩
      go_wp2_with fail
      refine (hs2.out _).mono ?_
      rintro e w' ⟨rfl, rfl⟩
      go_wp2_with fail
      refine (hm.out _).mono ?_
      rintro e w' ⟨rfl, rfl⟩
      go_wp2_with fail
      go_ret2
      exact ⟨by rw [hr2.out]; exact ending_pair (by rfl) (by show Value.bool _ = Value.bool _; refine congrArg Value.bool ?_; dsimp only), rfl⟩
    · have hsg : (decide (a < 0) != decide (b < 0)) = true := by rw [ha', hb']; rfl
      have hr2 : Hid (r = (wrap64 (-(wrap64 (lo : Int))), decide ((lo : Int) ≤ 9223372036854775808))) := Lib.hid (by rw [hr.out, hsg, if_pos rfl, show ((0 : Nat) == 0) = true from rfl, Bool.true_and, dec_le])
      clear hr hsg
      go_enter Tryd.func86, Tryd.ntmps86
      go_wp2_with fail
      refine (hs1.out _).mono ?_
      rintro e w' ⟨rfl, rfl⟩
      go_wp2_with fail
      refine (hs2.out _).mono ?_
      rintro e w' ⟨rfl, rfl⟩
      go_wp2_with fail
      refine (hm.out _).mono ?_
      rintro e w' ⟨rfl, rfl⟩
      go_wp2_with fail
      go_ret2
      exact ⟨by rw [hr2.out]; exact ending_pair (by rfl) (by show Value.bool _ = Value.bool _; refine congrArg Value.bool ?_; dsimp only), rfl⟩
    · have hsg : (decide (a < 0) != decide (b < 0)) = true := by rw [ha', hb']; rfl
      have hr2 : Hid (r = (wrap64 (-(wrap64 (lo : Int))), decide ((lo : Int) ≤ 9223372036854775808))) := Lib.hid (by rw [hr.out, hsg, if_pos rfl, show ((0 : Nat) == 0) = true from rfl, Bool.true_and, dec_le])
      clear hr hsg
      go_enter Tryd.func86, Tryd.ntmps86
      go_wp2_with fail
      refine (hs1.out _).mono ?_
      rintro e w' ⟨rfl, rfl⟩
      go_wp2_with fail
      refine (hs2.out _).mono ?_
      rintro e w' ⟨rfl, rfl⟩
      go_wp2_with fail
      refine (hm.out _).mono ?_
      rintro e w' ⟨rfl, rfl⟩
      go_wp2_with fail
      go_ret2
      exact ⟨by rw [hr2.out]; exact ending_pair (by rfl) (by show Value.bool _ = Value.bool _; refine congrArg Value.bool ?_; dsimp only), rfl⟩
    · have hsg : (decide (a < 0) != decide (b < 0)) = false := by rw [ha', hb']; rfl
      have hr2 : Hid (r = (wrap64 (lo : Int), decide ((lo : Int) < 9223372036854775808))) := Lib.hid (by rw [hr.out, hsg, if_neg (by decide), show ((0 : Nat) == 0) = true from rfl, Bool.true_and, dec_lt])
      clear hr hsg
      go_enter Tryd.func86, Tryd.ntmps86
      go_wp2_with fail
      refine (hs1.out _).mono ?_
      rintro e w' ⟨rfl, rfl⟩
      go_wp2_with fail
      refine (hs2.out _).mono ?_
      rintro e w' ⟨rfl, rfl⟩
      go_wp2_with fail
      refine (hm.out _).mono ?_
      rintro e w' ⟨rfl, rfl⟩
      go_wp2_with fail
      go_ret2
      exact ⟨by rw [hr2.out]; exact ending_pair (by rfl) (by show Value.bool _ = Value.bool _; refine congrArg Value.bool ?_; dsimp only), rfl⟩
  · have hh' : ((hi : Int) == 0) = false := by simp; omega
    have hh2 : (hi == 0) = false := by simpa using hh
    rcases dec_cases a with ⟨ha, ha'⟩ | ⟨ha, ha'⟩ <;> rcases dec_cases b with ⟨hb, hb'⟩ | ⟨hb, hb'⟩
    · have hsg : (decide (a < 0) != decide (b < 0)) = false := by rw [ha', hb']; rfl
      have hr2 : Hid (r = (wrap64 (lo : Int), false)) := Lib.hid (by rw [hr.out, hsg, if_neg (by decide), hh2, Bool.false_and])
      clear hr hsg
      go_enter Tryd.func86, Tryd.ntmps86
      go_wp2_with fail
      refine (hs1.out _).mono ?_
      rintro e w' ⟨rfl, rfl⟩
      go_wp2_with fail
      refine (hs2.out _).mono ?_
      rintro e w' ⟨rfl, rfl⟩
      go_wp2_with fail
      refine (hm.out _).mono ?_
      rintro e w' ⟨rfl, rfl⟩
      go_wp2_with fail
      go_ret2
      exact ⟨by rw [hr2.out]; exact ending_pair (by rfl) (by show Value.bool _ = Value.bool _; refine congrArg Value.bool ?_; dsimp only), rfl⟩
    · have hsg : (decide (a < 0) != decide (b < 0)) = true := by rw [ha', hb']; rfl
      have hr2 : Hid (r = (wrap64 (-(wrap64 (lo : Int))), false)) := Lib.hid (by rw [hr.out, hsg, if_pos rfl, hh2, Bool.false_and])
      clear hr hsg
      go_enter Tryd.func86, Tryd.ntmps86
      go_wp2_with fail
      refine (hs1.out _).mono ?_
      rintro e w' ⟨rfl, rfl⟩
      go_wp2_with fail
      refine (hs2.out _).mono ?_
      rintro e w' ⟨rfl, rfl⟩
      go_wp2_with fail
      refine (hm.out _).mono ?_
      rintro e w' ⟨rfl, rfl⟩
      go_wp2_with fail
      go_ret2
      exact ⟨by rw [hr2.out]; exact ending_pair (by rfl) (by show Value.bool _ = Value.bool _; refine congrArg Value.bool ?_; dsimp only), rfl⟩
    · have hsg : (decide (a < 0) != decide (b < 0)) = true := by rw [ha', hb']; rfl
      have hr2 : Hid (r = (wrap64 (-(wrap64 (lo : Int))), false)) := Lib.hid (by rw [hr.out, hsg, if_pos rfl, hh2, Bool.false_and])
      clear hr hsg
      go_enter Tryd.func86, Tryd.ntmps86
      go_wp2_with fail
      refine (hs1.out _).mono ?_
      rintro e w' ⟨rfl, rfl⟩
      go_wp2_with fail
      refine (hs2.out _).mono ?_
      rintro e w' ⟨rfl, rfl⟩
      go_wp2_with fail
      refine (hm.out _).mono ?_
      rintro e w' ⟨rfl, rfl⟩
      go_wp2_with fail
      go_ret2
      exact ⟨by rw [hr2.out]; exact ending_pair (by rfl) (by show Value.bool _ = Value.bool _; refine congrArg Value.bool ?_; dsimp only), rfl⟩
    · have hsg : (decide (a < 0) != decide (b < 0)) = false := by rw [ha', hb']; rfl
      have hr2 : Hid (r = (wrap64 (lo : Int), false)) := Lib.hid (by rw [hr.out, hsg, if_neg (by decide), hh2, Bool.false_and])
      clear hr hsg
      go_enter Tryd.func86, Tryd.ntmps86
      go_wp2_with fail
      refine (hs1.out _).mono ?_
      rintro e w' ⟨rfl, rfl⟩
      go_wp2_with fail
      refine (hs2.out _).mono ?_
      rintro e w' ⟨rfl, rfl⟩
      go_wp2_with fail
      refine (hm.out _).mono ?_
      rintro e w' ⟨rfl, rfl⟩
      go_wp2_with fail
      go_ret2
      exact ⟨by rw [hr2.out]; exact ending_pair (by rfl) (by show Value.bool _ = Value.bool _; refine congrArg Value.bool ?_; dsimp only), rfl⟩
end Go.Proofs.YtldleckgkgeclaaDoor
