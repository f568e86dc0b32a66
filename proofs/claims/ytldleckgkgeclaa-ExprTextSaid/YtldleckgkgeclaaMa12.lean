/-
  Package confluenceref8's contracts: kind, Type: the same as expr's typed, Type.
-/
import Derived.Test.YtldleckgkgeclaaMa11
import Derived.Test.YtldleckgkgeclaaMa8
import Derived.Test.YtldleckgkgeclaaMa3
import Derived.Test.YtldleckgkgeclaaMa2
import Derived.Test.YtldleckgkgeclaaMa10
set_option linter.unusedVariables false
set_option linter.unusedSimpArgs false
namespace Go.Proofs.Ytldleckgkgeclaa
open Go.RowKit
def KindExp (cols : List C) (e : E) : Prop := madeE e = true → ∀ (A Ac : Option Addr) (c cc : Nat) (w : World), EKids w w.heap.size A e.kids → CRow w w.heap.size Ac cols →
  Calls Try.prog 51 #[e.val A c, .slice Ac cols.length cc] w fun r w' => r = .returned (.tuple #[.int .i64 (typeE cols e).1, .int .i64 (typeE cols e).2]) ∧ Below w.heap.size w w'
theorem type_pos {cols : List C} (hpos : ∀ x ∈ cols, 0 < x.k) : ∀ e, (typeE cols e).2 = 0 → 0 < (typeE cols e).1 := by
  refine E.ind fun k s n l ih h => ?_
  rw [typeE] at h ⊢
  by_cases h1 : k = 1
  · rw [if_pos h1] at h ⊢
    cases hf : findB cols s
    · rw [hf] at h; simp at h
    · obtain ⟨j, x, ej, hx⟩ := find_at hf
      rw [if_pos rfl, ej, Int.toNat_natCast, List.getD_eq_getElem?_getD, hx]
      exact hpos x (List.mem_of_getElem? hx)
  rw [if_neg h1] at h ⊢
  by_cases h2 : k = 2
  · rw [if_pos h2]; decide
  rw [if_neg h2] at h ⊢
  by_cases h3 : k = 3
  · rw [if_pos h3]; decide
  rw [if_neg h3] at h ⊢
  split at h
  · rename_i ht
    rw [if_pos ht]
    split at h
    · rename_i hr
      rw [if_pos hr]; exact hr
    · exact absurd h (by decide)
  · rename_i ht
    exact absurd h ht
set_option maxRecDepth 100000 in
set_option maxHeartbeats 1000000 in
theorem kind_step (cols : List C) (hcl : cols.length ≤ 9223372036854775807) (hpos : ∀ x ∈ cols, 0 < x.k) (k : Int) (s : ByteArray) (n : Int) (l : List E) (hM : ∀ e ∈ l, KindExp cols e) : KindExp cols (.mk k s n l) := by
  intro hmade A Ac c cc w hA hAc
  simp only [E.val, E.k, E.s, E.n, E.kids] at hA ⊢
  have hb0 : Below w.heap.size w (w.alloc (.cells #[.int .i64 k, .string s, .int .i64 n, .slice A l.length c] 35)) := (Below.refl _ _).alloc (Nat.le_refl _) _
  have HB0 := Lib.hid hb0
  by_cases h1 : k = 1
  · subst h1
    have hz : Hid (typeE cols (.mk 1 s n l) = (if findB cols s then ((cols.getD (findN cols s).toNat ⟨⟨#[]⟩, 0⟩).k, 0) else (0, 20))) := Lib.hid (by rw [typeE, if_pos rfl])
    have hf := Lib.hid (refFind_any Ac cc cols hcl s _ ((hAc.below hb0).more hb0.size))
    cases hfb : findB cols s
    · rw [hfb] at hz hf
      have hz2 : Hid (typeE cols (.mk 1 s n l) = (0, 20)) := Lib.hid (by rw [hz.out]; rfl)
      generalize typeE cols (.mk 1 s n l) = q at *
      generalize findN cols s = fn at *
      generalize cols.length = m at *
      clear hz hA hAc hM hmade hb0
      generalize l.length = ln at *
      go_enter Try.func51, Try.ntmps51
      go_wp2_with fail
      refine (hf.out).mono ?_
      rintro e w' ⟨rfl, hw⟩
      have HB := HB0
      rw [hw]
      go_wp2_with fail
      go_ret2
      exact ⟨by rw [hz2.out]; rfl, HB.out⟩
    · obtain ⟨j, x, ej, hx⟩ := find_at hfb
      have hz2 : Hid (typeE cols (.mk 1 s n l) = (x.k, 0)) := Lib.hid (by rw [hz.out, if_pos hfb, ej, Int.toNat_natCast, List.getD_eq_getElem?_getD, hx]; rfl)
      obtain ⟨b, o, rfl, hlt, c1, c2⟩ := hAc.get_ hx
      have hj : j < cols.length := (List.getElem?_eq_some_iff.1 hx).1
      rw [hfb, ej] at hf
      generalize typeE cols (.mk 1 s n l) = q at *
      generalize cols.length = m at *
      clear hz hA hAc hM hmade hx hfb ej c1
      obtain ⟨xn, xk⟩ := x
      simp only at c2
      generalize l.length = ln at *
      go_enter Try.func51, Try.ntmps51
      go_wp2_with fail
      refine (hf.out).mono ?_
      rintro e w' ⟨rfl, hw⟩
      rw [hw]
      have c3 := (hb0.cell hlt).trans c2
      have HB := HB0
      clear hb0
      go_wp2_with fail
      go_ret2
      exact ⟨by rw [hz2.out]; rfl, HB.out⟩
  have h1' : (k == 1) = false := by simpa using h1
  by_cases h2 : k = 2
  · subst h2
    have hz2 : Hid (typeE cols (.mk 2 s n l) = (1, 0)) := Lib.hid (by rw [typeE, if_neg (by decide), if_pos rfl])
    generalize typeE cols (.mk 2 s n l) = q at *
    clear hA hAc hM hmade hb0 h1 h1'
    generalize l.length = ln at *
    go_enter Try.func51, Try.ntmps51
    go_wp2_with fail
    go_ret2
    exact ⟨by rw [hz2.out]; rfl, HB0.out⟩
  have h2' : (k == 2) = false := by simpa using h2
  by_cases h3 : k = 3
  · subst h3
    have hz2 : Hid (typeE cols (.mk 3 s n l) = (2, 0)) := Lib.hid (by rw [typeE, if_neg (by decide), if_neg (by decide), if_pos rfl])
    generalize typeE cols (.mk 3 s n l) = q at *
    clear hA hAc hM hmade hb0 h1 h1' h2 h2'
    generalize l.length = ln at *
    go_enter Try.func51, Try.ntmps51
    go_wp2_with fail
    go_ret2
    exact ⟨by rw [hz2.out]; rfl, HB0.out⟩
  have h3' : (k == 3) = false := by simpa using h3
  obtain ⟨hl0, hlc, hmk⟩ := made_kids h1 h2 h3 hmade
  have hl3 : l.length ≤ 3 := by rw [hlc]; exact cnt_le _
  have hz : Hid (typeE cols (.mk k s n l) = if (typeL cols l).2 = 0 then (if 0 < resultL s.toList (typeL cols l).1 then (resultL s.toList (typeL cols l).1, 0) else (0, 22)) else (0, (typeL cols l).2)) := Lib.hid (by rw [typeE, if_neg h1, if_neg h2, if_neg h3])
  obtain ⟨i0, hi, hz0, hz1, hz2⟩ := info_parts int_info
  have HL := Lib.hid ((hA.low hb0).more hb0.size)
  have HC := Lib.hid ((hAc.below hb0).more hb0.size)
  have HM := Lib.hid hM
  have HMK := Lib.hid hmk
  have HLC := Lib.hid hlc
  have HP := Lib.hid (type_pos hpos)
  obtain ⟨m, em⟩ : ∃ m, m = cols.length := ⟨_, rfl⟩
  obtain ⟨ln, eln⟩ : ∃ ln, ln = l.length := ⟨_, rfl⟩
  have Hm := Lib.hid em
  have Hln := Lib.hid eln
  generalize typeE cols (.mk k s n l) = q at *
  rw [← em]
  rw [← eln] at hl0 hl3 hb0 HB0 HL HC ⊢
  obtain ⟨w1, ew1⟩ : ∃ w1, w1 = (w.alloc (.cells #[.int .i64 k, .string s, .int .i64 n, .slice A ln c] 35)) := ⟨_, rfl⟩
  have HW1 := Lib.hid ew1
  have cs : Hid (w1.cell? ⟨w.heap.size, 1, none⟩ = some (.string s) ∧ w1.cell? ⟨w.heap.size, 3, none⟩ = some (.slice A ln c)) := Lib.hid (by rw [ew1]; simp)
  have hws : w1.heap.size = w.heap.size + 1 := by rw [ew1]; simp
  rw [← ew1] at HL HC HB0
  clear hA hAc hM hmade hb0 h1 h2 h3 hmk hlc em eln ew1 hpos
  go_enter Try.func51, Try.ntmps51
  go_wp2_with fail
  go_loopw [8, 9] (fun v i wr => ∃ (j : Nat) (ts : List Int), j ≤ ln ∧ ts.length = j ∧ i = .int .i64 j ∧ wr.ownsRow w1.heap.size 3 1 v j (ints ts) ∧ Below w1.heap.size w1 wr ∧ Hid (∀ z ∈ ts, 0 < z) ∧ Hid (typeL cols l = (ts ++ (typeL cols (l.drop j)).1, (typeL cols (l.drop j)).2))) (fun _ i _ => ln - (intOf i).toNat)
  case atStart => exact ⟨0, [], Nat.zero_le _, rfl, rfl, World.ownsRow_nil _ _ _ _, by rw [HW1.out]; exact Below.refl _ _, Lib.hid (fun z hz => by cases hz), Lib.hid rfl⟩
  case round =>
    obtain ⟨j, ts, hj, htl, rfl, hown, hb, hpz, hzl⟩ := hrel
    have HO := Lib.hid hown
    have HB := Lib.hid hb
    have hs := hb.size
    have HTL := Lib.hid htl
    have d3 : wr.cell? ⟨w.heap.size, 3, none⟩ = some (.slice A ln c) := (hb.cell (show w.heap.size < w1.heap.size by omega)).trans cs.out.2
    clear hown htl
    by_cases hlt : j < ln
    · obtain ⟨x, hx⟩ : ∃ x, l[j]? = some x := ⟨_, List.getElem?_eq_getElem (by rw [← Hln.out]; exact hlt)⟩
      obtain ⟨b, o, A', c', rfl, hbl, c1, c2, c3, c4, hK⟩ := HL.out.get_ wr hb j x hx
      have hMx := HM.out x (List.mem_of_getElem? hx) (HMK.out x (List.mem_of_getElem? hx))
      have hpx := HP.out x
      have hst := Lib.hid (hzl.out.trans (by rw [typeL_step cols hx]))
      clear hx hzl
      obtain ⟨xk, xs, xn, xl⟩ := x
      simp only [E.k, E.s, E.n, E.kids] at c1 c2 c3 c4 hK
      have hcl := Lib.hid (hMx A' Ac c' cc wr hK ((HC.out.below hb).more hb.size))
      have HPX := Lib.hid hpx
      clear hMx hK hpx hb
      generalize hq : typeE cols (.mk xk xs xn xl) = tq at *
      generalize hxm : xl.length = xm at *
      simp only [E.val, E.k, E.s, E.n, E.kids, hq, hxm, ← Hm.out] at hcl
      obtain ⟨tk, tw⟩ := tq
      simp only at hst hcl HPX
      go_wp2_with fail
      refine (hcl.out).mono ?_
      rintro e w2 ⟨rfl, hb3⟩
      have HB3 := Lib.hid (HB.out.trans (hb3.mono hs))
      have HO3 := Lib.hid (own_below HO.out hb3)
      have hs3 := HB3.out.size
      clear hb3 HO hcl d3
      by_cases htw : tw = 0
      · subst htw
        have hzl2 : Hid (typeL cols l = ((ts ++ [tk]) ++ (typeL cols (l.drop (j + 1))).1, (typeL cols (l.drop (j + 1))).2)) := Lib.hid (by rw [hst.out, if_pos rfl, List.append_assoc]; rfl)
        have hpz2 : Hid (∀ z ∈ ts ++ [tk], 0 < z) := Lib.hid (by
          intro z hz
          rcases List.mem_append.1 hz with hz | hz
          · exact hpz.out z hz
          · rw [List.mem_singleton] at hz; subst hz; exact HPX.out rfl)
        clear hst
        go_wp2_with (at_builtin; refine wpList_append_own _ rfl _ _ 132 rfl w1.heap.size 3 i0 _ 1 8 Try.underlying132 hi hz0 hz1 hz2 rfl (by decide) _ _ _ rfl (HO3.out.alloc _) ⟨w2.heap.size, 0, none⟩ 1 1 [.int .i64 tk] rfl rfl ?c1 ?c2 ?c3 ?c4 ?c5 ?_)
        case c1 =>
          intro i u hu
          match i, hu with
          | 0, hu => simp at hu; subst hu; simp [Addr.add]
        case c2 => intro u hu; simp at hu; subst hu; rfl
        case c3 => unfold maxLen; omega
        case c4 => omega
        case c5 => simp; omega
        intro v' w3 hown' hgrow _
        have HO4 : Hid (w3.ownsRow w1.heap.size 3 1 v' (j + 1) (ints (ts ++ [tk]))) := Lib.hid (by unfold ints at hown' ⊢; rw [List.map_append, hws]; exact hown')
        have HB4 := Lib.hid ((HB3.out.alloc hs3 (.cells #[.int .i64 tk] 3)).grown hgrow (by simp; omega) (fun g hg => (HO3.out.lt g hg).1))
        have htl2 : Hid ((ts ++ [tk]).length = j + 1) := Lib.hid (by rw [List.length_append, HTL.out]; rfl)
        clear hown' hgrow
        go_wp2_with fail
        go_roundw
        case rel => exact ⟨j + 1, ts ++ [tk], by omega, htl2.out, by go_num, HO4.out, HB4.out, hpz2, hzl2⟩
        case measure => simp [intOf]; omega
      · have htw' : (tw != 0) = true := by simpa using htw
        have hq2 : Hid (q = (0, tw)) := Lib.hid (by rw [hz.out, hst.out, if_neg htw, if_neg htw])
        clear hst hz
        go_wp2_with fail
        go_ret2
        exact ⟨by rw [hq2.out]; rfl, (HB0.out.trans (HB3.out.mono (by omega)))⟩
    · obtain rfl : j = ln := by omega
      have hzl2 : Hid (typeL cols l = (ts, 0)) := Lib.hid (by rw [hzl.out, List.drop_of_length_le (by rw [← Hln.out]; exact Nat.le_refl _), typeL, List.append_nil])
      obtain ⟨A2, c2, rfl, hc2, hI⟩ := own_ints (l := ts) (by rw [HTL.out]; exact HO.out)
      have d1 : wr.cell? ⟨w.heap.size, 1, none⟩ = some (.string s) := (hb.cell (show w.heap.size < w1.heap.size by omega)).trans cs.out.1
      have hq3 : Hid (q = if 0 < resultL s.toList ts then (resultL s.toList ts, 0) else (0, 22)) := Lib.hid (by rw [hz.out, hzl2.out, if_pos rfl])
      have hcnt : ts.length = cntL s.toList := by rw [HTL.out, Hln.out]; exact HLC.out
      have HBF : Hid (Below w.heap.size w wr) := Lib.hid (HB0.out.trans (hb.mono (by omega)))
      rw [HTL.out] at hc2 ⊢
      clear hz hzl hzl2 cs HO HL HC HM HMK HLC HP hb HB
      rcases hI with hnil | ⟨b, o, rfl, hbb, hc⟩
      · rw [hnil] at HTL; have := HTL.out; simp at this; omega
      by_cases he : s.toList = opEq ∨ s.toList = opLt
      · have h2 : ts.length = 2 := by rw [hcnt]; rcases he with he | he <;> rw [he] <;> rfl
        obtain ⟨a, b1, rfl⟩ : ∃ a b1, ts = [a, b1] := by
          match ts, h2 with
          | [a, b1], _ => exact ⟨a, b1, rfl⟩
        obtain rfl : j = 2 := by rw [← HTL.out]; rfl
        have e0 := hc 0 a rfl
        have e1 := hc 1 b1 rfl
        rw [Nat.add_zero] at e0
        have hr : resultL s.toList [a, b1] = if (a == b1) = true then 1 else 0 := by
          unfold resultL
          rw [if_pos he]
          simp
        rw [hr] at hq3
        have hx1 : (1 : Int) < 2 := by omega
        clear hr hc hcnt HTL h2
        rcases he with he | he
        all_goals
          simp only [opEq, opLt] at he
          cases hq : (a == b1)
          · have hq2 : Hid (q = (0, 22)) := Lib.hid (by rw [hq3.out, hq]; rfl)
            go_wp2_with fail
            go_quiet (fail)
            go_wp2_with fail
            go_ret2
            exact ⟨by rw [hq2.out]; rfl, below_drewN HBF.out _⟩
          · have hq2 : Hid (q = (1, 0)) := Lib.hid (by rw [hq3.out, hq]; rfl)
            go_wp2_with fail
            go_quiet (fail)
            go_wp2_with fail
            go_ret2
            exact ⟨by rw [hq2.out]; rfl, below_drewN HBF.out _⟩
      have he1 : s.toList ≠ opEq := fun h => he (.inl h)
      have he2 : s.toList ≠ opLt := fun h => he (.inr h)
      have f1 : (s.toList == [101, 113]) = false := by simpa [opEq] using he1
      have f2 : (s.toList == [108, 116]) = false := by simpa [opLt] using he2
      by_cases h3 : s.toList = opCat
      · have h2 : ts.length = 2 := by rw [hcnt, h3]; rfl
        obtain ⟨a, b1, rfl⟩ : ∃ a b1, ts = [a, b1] := by
          match ts, h2 with
          | [a, b1], _ => exact ⟨a, b1, rfl⟩
        obtain rfl : j = 2 := by rw [← HTL.out]; rfl
        have e0 := hc 0 a rfl
        have e1 := hc 1 b1 rfl
        rw [Nat.add_zero] at e0
        have hr : resultL s.toList [a, b1] = if (a == 2) = true then (if (b1 == 2) = true then 2 else 0) else 0 := by
          unfold resultL
          rw [if_neg he, if_pos h3]
          by_cases ha : a = 2 <;> by_cases hb : b1 = 2 <;> simp [ha, hb]
        rw [hr] at hq3
        have hx1 : (1 : Int) < 2 := by omega
        clear hr hc hcnt HTL h2 he he1 he2 f1 f2
        simp only [opCat] at h3
        cases hqa : (a == 2)
        · have hq2 : Hid (q = (0, 22)) := Lib.hid (by rw [hq3.out, hqa]; rfl)
          go_wp2_with fail
          go_ret2
          exact ⟨by rw [hq2.out]; rfl, HBF.out⟩
        · cases hqb : (b1 == 2)
          · have hq2 : Hid (q = (0, 22)) := Lib.hid (by rw [hq3.out, hqa, hqb]; rfl)
            go_wp2_with fail
            go_ret2
            exact ⟨by rw [hq2.out]; rfl, HBF.out⟩
          · have hq2 : Hid (q = (2, 0)) := Lib.hid (by rw [hq3.out, hqa, hqb]; rfl)
            go_wp2_with fail
            go_ret2
            exact ⟨by rw [hq2.out]; rfl, HBF.out⟩
      have f3 : (s.toList == [99, 97, 116]) = false := by simpa [opCat] using h3
      by_cases h4 : s.toList = opLen
      · have h2 : ts.length = 1 := by rw [hcnt, h4]; rfl
        obtain ⟨a, rfl⟩ : ∃ a, ts = [a] := by
          match ts, h2 with
          | [a], _ => exact ⟨a, rfl⟩
        obtain rfl : j = 1 := by rw [← HTL.out]; rfl
        have e0 := hc 0 a rfl
        rw [Nat.add_zero] at e0
        have hr : resultL s.toList [a] = if (a == 2) = true then 1 else 0 := by
          unfold resultL
          rw [if_neg he, if_neg h3, if_pos h4]
          simp
        rw [hr] at hq3
        clear hr hc hcnt HTL h2 he he1 he2 f1 f2 h3 f3
        simp only [opLen] at h4
        cases hqa : (a == 2)
        · have hq2 : Hid (q = (0, 22)) := Lib.hid (by rw [hq3.out, hqa]; rfl)
          go_wp2_with fail
          go_ret2
          exact ⟨by rw [hq2.out]; rfl, HBF.out⟩
        · have hq2 : Hid (q = (1, 0)) := Lib.hid (by rw [hq3.out, hqa]; rfl)
          go_wp2_with fail
          go_ret2
          exact ⟨by rw [hq2.out]; rfl, HBF.out⟩
      have f4 : (s.toList == [108, 101, 110]) = false := by simpa [opLen] using h4
      by_cases h5 : s.toList = opIf
      · have h2 : ts.length = 3 := by rw [hcnt, h5]; rfl
        obtain ⟨a, b1, d, rfl⟩ : ∃ a b1 d, ts = [a, b1, d] := by
          match ts, h2 with
          | [a, b1, d], _ => exact ⟨a, b1, d, rfl⟩
        obtain rfl : j = 3 := by rw [← HTL.out]; rfl
        have e0 := hc 0 a rfl
        have e1 := hc 1 b1 rfl
        have e2 := hc 2 d rfl
        rw [Nat.add_zero] at e0
        have hb1 : 0 < b1 := hpz.out b1 (by simp)
        have hr : resultL s.toList [a, b1, d] = if (a == 1) = true then (if (b1 == d) = true then b1 else 0) else 0 := by
          unfold resultL
          rw [if_neg he, if_neg h3, if_neg h4, if_pos h5]
          simp only [List.getD_cons_zero, List.getD_cons_succ]
          by_cases ha : a = 1 <;> by_cases hb : b1 = d <;> simp [ha, hb]
        rw [hr] at hq3
        have HB1 := Lib.hid hb1
        have hx1 : (1 : Int) < 3 := by omega
        have hx2 : (2 : Int) < 3 := by omega
        clear hr hc hcnt HTL h2 he he1 he2 f1 f2 h3 f3 h4 f4 hb1
        simp only [opIf] at h5
        cases hqa : (a == 1)
        · have hq2 : Hid (q = (0, 22)) := Lib.hid (by rw [hq3.out, hqa]; rfl)
          go_wp2_with fail
          go_quiet (fail)
          go_wp2_with fail
          go_ret2
          exact ⟨by rw [hq2.out]; rfl, below_drewN HBF.out _⟩
        · cases hqb : (b1 == d)
          · have hq2 : Hid (q = (0, 22)) := Lib.hid (by rw [hq3.out, hqa, hqb]; rfl)
            go_wp2_with fail
            go_quiet (fail)
            go_wp2_with fail
            go_ret2
            exact ⟨by rw [hq2.out]; rfl, below_drewN HBF.out _⟩
          · have hq2 : Hid (q = (b1, 0)) := Lib.hid (by rw [hq3.out, hqa, hqb, if_pos rfl, if_pos rfl, if_pos HB1.out])
            go_wp2_with fail
            go_quiet (fail)
            go_wp2_with fail
            go_ret2
            exact ⟨by rw [hq2.out]; rfl, below_drewN HBF.out _⟩
      have f5 : (s.toList == [105, 102]) = false := by simpa [opIf] using h5
      have hr : resultL s.toList ts = if ts.all (· == 1) = true then 1 else 0 := by
        unfold resultL
        rw [if_neg he, if_neg h3, if_neg h4, if_neg h5]
      rw [hr] at hq3
      have HCC := Lib.hid hc
      clear hr he he1 he2 h3 h4 h5 hcnt hc
      go_wp2_with fail
      go_loop [12, 14] (fun f i => ∃ p : Nat, p ≤ j ∧ i = .int .i64 p ∧ f = .bool ((ts.take p).all (· == 1))) (fun _ i => j - (intOf i).toNat)
      case atStart => exact ⟨0, Nat.zero_le _, rfl, rfl⟩
      case round =>
        obtain ⟨p, hp, rfl, rfl⟩ := hrel
        by_cases hlp : p < j
        · obtain ⟨z, hzz⟩ : ∃ z, ts[p]? = some z := ⟨_, List.getElem?_eq_getElem (by rw [HTL.out]; exact hlp)⟩
          have e0 := HCC.out p z hzz
          have hst : Hid ((ts.take (p + 1)).all (· == 1) = ((ts.take p).all (· == 1) && z == 1)) := Lib.hid (by
            obtain ⟨g1, g2⟩ := List.getElem?_eq_some_iff.1 hzz
            rw [List.take_succ_eq_append_getElem g1, List.all_append, g2]; simp)
          clear hzz
          cases hf : (ts.take p).all (· == 1)
          · rw [hf] at hst
            go_wp2_with fail
            go_round
            case rel => exact ⟨p + 1, by omega, by go_num, by rw [hst.out]; rfl⟩
            case measure => simp [intOf]; omega
          · rw [hf] at hst
            go_wp2_with fail
            go_round
            case rel => exact ⟨p + 1, by omega, by go_num, by rw [hst.out]; rfl⟩
            case measure => simp [intOf]; omega
        · obtain rfl : p = j := by omega
          rw [List.take_of_length_le (by rw [HTL.out]; exact Nat.le_refl _)]
          cases hf : ts.all (· == 1)
          · have hq2 : Hid (q = (0, 22)) := Lib.hid (by rw [hq3.out, hf]; rfl)
            go_wp2_with fail
            go_ret2
            exact ⟨by rw [hq2.out]; rfl, HBF.out⟩
          · have hq2 : Hid (q = (1, 0)) := Lib.hid (by rw [hq3.out, hf]; rfl)
            go_wp2_with fail
            go_ret2
            exact ⟨by rw [hq2.out]; rfl, HBF.out⟩
theorem kind_any (cols : List C) (hcl : cols.length ≤ 9223372036854775807) (hpos : ∀ x ∈ cols, 0 < x.k) : ∀ e, KindExp cols e := E.ind (kind_step cols hcl hpos)
set_option maxRecDepth 100000 in
theorem refType_any (cols : List C) (hcl : cols.length ≤ 9223372036854775807) (hpos : ∀ x ∈ cols, 0 < x.k) (e : E) (hfine : e.Fine) (A Ac : Option Addr) (c cc : Nat) (w : World) (hA : EKids w w.heap.size A e.kids) (hAc : CRow w w.heap.size Ac cols) :
    Calls Try.prog 26 #[e.val A c, .slice Ac cols.length cc] w fun r w' => r = .returned (.tuple #[.int .i64 (typeTop cols e).1, .int .i64 (typeTop cols e).2]) ∧ Below w.heap.size w w' := by
  obtain ⟨k, s, n, l⟩ := e
  simp only [E.val, E.k, E.s, E.n, E.kids] at hA ⊢
  have hb0 : Below w.heap.size w (w.alloc (.cells #[.int .i64 k, .string s, .int .i64 n, .slice A l.length c] 35)) := (Below.refl _ _).alloc (Nat.le_refl _) _
  have hm := Lib.hid (right_any (.mk k s n l) hfine A c _ ((hA.low hb0).more hb0.size))
  simp only [E.val, E.k, E.s, E.n, E.kids] at hm
  have HB0 := Lib.hid hb0
  have hq : Hid (typeTop cols (.mk k s n l) = if madeE (.mk k s n l) = true then typeE cols (.mk k s n l) else (0, 22)) := Lib.hid rfl
  generalize typeTop cols (.mk k s n l) = q at *
  cases hmd : madeE (.mk k s n l)
  · rw [hmd] at hq hm
    have hq2 : Hid (q = (0, 22)) := Lib.hid (by rw [hq.out, if_neg (by decide)])
    clear hq hA hAc
    generalize l.length = ln at *
    generalize cols.length = m at *
    go_enter Try.func26, Try.ntmps26
    go_wp2_with fail
    refine (hm.out).mono ?_
    rintro e w' ⟨rfl, hb⟩
    have HB := Lib.hid (HB0.out.trans (hb.mono (by simp)))
    clear hb
    go_wp2_with fail
    go_ret2
    exact ⟨by rw [hq2.out]; rfl, HB.out⟩
  · rw [hmd] at hq hm
    have hq2 : Hid (q = typeE cols (.mk k s n l)) := Lib.hid (by rw [hq.out, if_pos rfl])
    have hty : Hid (∀ w1, Below w.heap.size w w1 → Calls Try.prog 51 #[.agg #[.int .i64 k, .string s, .int .i64 n, .slice A l.length c], .slice Ac cols.length cc] w1 fun r w' => r = .returned (.tuple #[.int .i64 q.1, .int .i64 q.2]) ∧ Below w1.heap.size w1 w') := Lib.hid (fun w1 hb1 => by
      rw [hq2.out]
      exact kind_any cols hcl hpos (.mk k s n l) hmd A Ac c cc w1 ((hA.low hb1).more hb1.size) ((hAc.below hb1).more hb1.size))
    clear hq hA hAc hmd
    generalize l.length = ln at *
    generalize cols.length = m at *
    go_enter Try.func26, Try.ntmps26
    go_wp2_with fail
    refine (hm.out).mono ?_
    rintro e w' ⟨rfl, hb⟩
    have hb2 := hb0.trans (hb.mono (by simp))
    have HB := Lib.hid hb2
    have hty2 := Lib.hid (hty.out w' hb2)
    have c0 : w'.cell? ⟨w.heap.size, 0, none⟩ = some (.int .i64 k) := (hb.cell (by simp)).trans (by simp)
    have c1 : w'.cell? ⟨w.heap.size, 1, none⟩ = some (.string s) := (hb.cell (by simp)).trans (by simp)
    have c2 : w'.cell? ⟨w.heap.size, 2, none⟩ = some (.int .i64 n) := (hb.cell (by simp)).trans (by simp)
    have c3 : w'.cell? ⟨w.heap.size, 3, none⟩ = some (.slice A ln c) := (hb.cell (by simp)).trans (by simp)
    have hs2 := hb.size
    clear hb hb2 hty hm hb0
    go_wp2_with fail
    refine (hty2.out).mono ?_
    rintro e w3 ⟨rfl, hb⟩
    have HB3 := Lib.hid (HB.out.trans (hb.mono (by simp at hs2; omega)))
    clear hb
    go_wp2_with fail
    go_ret2
    exact ⟨rfl, HB3.out⟩
end Go.Proofs.Ytldleckgkgeclaa
/-
  Package confluenceref5's Fits.
-/
namespace Go.Proofs.Ytldleckgkgeclaa
open Go.RowKit
set_option maxRecDepth 100000 in
set_option maxHeartbeats 1000000 in
theorem ref5_fits_full (bl ol br or_ : Nat) (n c d : Nat) (l : List C) (r : List V) (hl : l.length = n) (hr : r.length = n) (hn : n ≤ 9223372036854775807) (w : World)
    (hbl : bl < w.heap.size) (hbr : br < w.heap.size) (hL : CAt w bl ol l) (hR : VAt w br or_ r) :
    Calls Try.prog 52 #[.slice (some ⟨bl, ol, none⟩) n d, .slice (some ⟨br, or_, none⟩) n c] w fun e w' => e = .returned (.bool (zipB l r)) ∧ Below w.heap.size w w' := by
  have HL := Lib.hid hL
  have HR := Lib.hid hR
  have Hl := Lib.hid hl
  have Hr := Lib.hid hr
  clear hL hR hl hr
  go_enter Try.func52, Try.ntmps52
  go_wp2_with fail
  go_loopw [5] (fun i wr => ∃ k : Nat, k ≤ n ∧ i = .int .i64 k ∧ Below w.heap.size w wr ∧ Hid (zipB l r = zipB (l.drop k) (r.drop k))) (fun i _ => n - (intOf i).toNat)
  case atStart => exact ⟨0, Nat.zero_le _, rfl, Below.refl _ _, rfl⟩
  case round =>
    obtain ⟨k, hk, rfl, hb, hz⟩ := hrel
    by_cases hlt : k < n
    · obtain ⟨v, hv⟩ : ∃ v, r[k]? = some v := ⟨_, List.getElem?_eq_getElem (by rw [Hr.out]; exact hlt)⟩
      obtain ⟨cc, hc⟩ : ∃ c, l[k]? = some c := ⟨_, List.getElem?_eq_getElem (by rw [Hl.out]; exact hlt)⟩
      have hst := Lib.hid (zipB_step hc hv)
      obtain ⟨v1, v2, v3⟩ := HR.out.below hb hbr k v hv
      obtain ⟨_, c2⟩ := HL.out.below hb hbl k cc hc
      clear hv hc
      obtain ⟨vk, vn, vs⟩ := v
      obtain ⟨cn, ck⟩ := cc
      have hi0 : (0 : Int) ≤ (k : Int) := by omega
      have hi1 : (k : Int) < (n : Int) := by omega
      have v1 : wr.cell? ⟨br, or_ + k * 3, none⟩ = some (.int .i64 vk) := v1
      have v2 : wr.cell? ⟨br, or_ + k * 3 + 1, none⟩ = some (.int .i64 vn) := v2
      have v3 : wr.cell? ⟨br, or_ + k * 3 + 2, none⟩ = some (.string vs) := v3
      have c2 : wr.cell? ⟨bl, ol + k * 2 + 1, none⟩ = some (.int .i64 ck) := c2
      have hs := hb.size
      have hbr2 : br < wr.heap.size := by omega
      have hbl2 : bl < wr.heap.size := by omega
      have hv := Lib.hid (ref4_right vk vn vs)
      have hBk : Below w.heap.size w (wr.alloc (.cells #[.int .i64 vk, .int .i64 vn, .string vs] 29)).drew := (hb.alloc hs _).drew
      have HBk := Lib.hid hBk
      have HB := Lib.hid hb
      clear hBk hb
      by_cases hok : V.okB ⟨vk, vn, vs⟩ = true
      · rw [hok] at hv hst
        by_cases hkk : (vk == ck) = true
        · have hz' : Hid (zipB l r = zipB (l.drop (k + 1)) (r.drop (k + 1))) := by
            have := hz.out.trans hst.out
            rwa [hkk, Bool.true_and, Bool.true_and] at this
          have hne : (vk != ck) = false := by simpa using hkk
          clear hst hz
          go_wp2_with fail
          go_region_held3 (fun w' => w'.cell? ⟨br, or_ + k * 3, none⟩ = some (.int .i64 vk) ∧ w'.cell? ⟨br, or_ + k * 3 + 1, none⟩ = some (.int .i64 vn) ∧ w'.cell? ⟨br, or_ + k * 3 + 2, none⟩ = some (.string vs) ∧ w'.cell? ⟨bl, ol + k * 2 + 1, none⟩ = some (.int .i64 ck)) (go_keep)
            (first | (go_at_call 93; refine (hv.out _).mono ?_; rintro e w' ⟨rfl, rfl⟩))
          go_wp2_with fail
          go_roundw
          case rel => exact ⟨k + 1, by omega, by go_num, HBk.out, hz'⟩
          case measure => simp [intOf]; omega
        · have hkk' : (vk == ck) = false := by simpa using hkk
          have hz' : Hid (zipB l r = false) := by
            have := hz.out.trans hst.out
            rwa [hkk', Bool.and_false, Bool.false_and] at this
          have hne : (vk != ck) = true := by simpa using hkk
          clear hst hz hkk
          go_wp2_with fail
          go_region_held3 (fun w' => w'.cell? ⟨br, or_ + k * 3, none⟩ = some (.int .i64 vk) ∧ w'.cell? ⟨br, or_ + k * 3 + 1, none⟩ = some (.int .i64 vn) ∧ w'.cell? ⟨br, or_ + k * 3 + 2, none⟩ = some (.string vs) ∧ w'.cell? ⟨bl, ol + k * 2 + 1, none⟩ = some (.int .i64 ck)) (go_keep)
            (first | (go_at_call 93; refine (hv.out _).mono ?_; rintro e w' ⟨rfl, rfl⟩))
          go_wp2_with fail
          go_ret
          exact ⟨by rw [hz'.out]; rfl, HBk.out⟩
      · have hok' : V.okB ⟨vk, vn, vs⟩ = false := by simpa using hok
        rw [hok'] at hv hst
        have hz' : Hid (zipB l r = false) := hz.out.trans hst.out
        clear hst hz hok hok'
        go_wp2_with fail
        refine wp_region_any (by kernel_rfl) ?_
        change wpAny _ _ _ _ _ _ _ (World.drew _)
        refine wpAny_take (i := 0) (v := .slice (some ⟨br, or_, none⟩) n c) rfl (by kernel_rfl) (by kernel_rfl) (by kernel_rfl) (fun _ _ _ h => h) (Or.inl ⟨by rfl, fun w => by go_simp⟩) ?_
        refine wpAny_take (i := 1) (v := .int .i64 k) rfl (by kernel_rfl) (by kernel_rfl) (by kernel_rfl) (fun _ _ _ h => h) (Or.inl ⟨by rfl, fun w => by go_simp⟩) ?_
        refine wpAny_one (i := 2) (by kernel_rfl) rfl (fun K hK => ?_)
        go_simp
        refine hK _ _ ?_
        clear hK K
        refine wpAny_one (i := 3) (by kernel_rfl) rfl (fun K hK => ?_)
        go_simp
        refine hK _ _ ?_
        clear hK K
        refine wpAny_one (i := 4) (by kernel_rfl) rfl (fun K hK => ?_)
        go_simp
        go_wp2_with (go_at_call 93; refine (hv.out _).mono ?_; rintro e w' ⟨rfl, rfl⟩)
        refine wpAny_one (i := 5) (by kernel_rfl) rfl (fun K hK => ?_)
        go_simp
        refine hK _ _ ?_
        clear hK K
        refine wpAny_one (i := 6) (by kernel_rfl) rfl (fun K hK => ?_)
        go_simp
        refine hK _ _ ?_
        clear hK K
        refine wpAny_skip (i := 7) rfl (by kernel_rfl) (by kernel_rfl) (by kernel_rfl) (fun _ _ _ h => h) (by kernel_rfl) ?_
        refine wpAny_skip (i := 8) rfl (by kernel_rfl) (by kernel_rfl) (by kernel_rfl) (fun _ _ _ h => h) (by kernel_rfl) ?_
        refine wpAny_skip (i := 9) rfl (by kernel_rfl) (by kernel_rfl) (by kernel_rfl) (fun _ _ _ h => h) (by kernel_rfl) ?_
        refine wpAny_skip (i := 10) rfl (by kernel_rfl) (by kernel_rfl) (by kernel_rfl) (fun _ _ _ h => h) (by kernel_rfl) ?_
        refine wpAny_skip (i := 11) rfl (by kernel_rfl) (by kernel_rfl) (by kernel_rfl) (fun _ _ _ h => h) (by kernel_rfl) ?_
        refine wpAny_skip (i := 12) rfl (by kernel_rfl) (by kernel_rfl) (by kernel_rfl) (fun _ _ _ h => h) (by kernel_rfl) ?_
        refine wpAny_skip (i := 13) rfl (by kernel_rfl) (by kernel_rfl) (by kernel_rfl) (fun _ _ _ h => h) (by kernel_rfl) ?_
        refine wpAny_skip (i := 14) rfl (by kernel_rfl) (by kernel_rfl) (by kernel_rfl) (fun _ _ _ h => h) (by kernel_rfl) ?_
        refine wpAny_skip (i := 15) rfl (by kernel_rfl) (by kernel_rfl) (by kernel_rfl) (fun _ _ _ h => h) (by kernel_rfl) ?_
        refine wpAny_skip (i := 16) rfl (by kernel_rfl) (by kernel_rfl) (by kernel_rfl) (fun _ _ _ h => h) (by kernel_rfl) ?_
        refine wpAny_skip (i := 17) rfl (by kernel_rfl) (by kernel_rfl) (by kernel_rfl) (fun _ _ _ h => h) (by kernel_rfl) ?_
        refine wpAny_one (i := 18) (by kernel_rfl) rfl (fun K hK => ?_)
        go_simp
        refine hK _ _ ?_
        clear hK K
        refine wpAny_done (by kernel_rfl) ?_ _
        go_wp2_with fail
        go_ret
        exact ⟨by rw [hz'.out]; rfl, HBk.out⟩
    · go_wp2_with fail
      go_ret
      have e : k = n := by omega
      subst e
      exact ⟨by rw [hz.out, List.drop_of_length_le (by rw [Hl.out]; omega)]; rfl, hb⟩
theorem ref5_fits (A D : Option Addr) (c d : Nat) (l : List C) (r : List V) (hl : l.length ≤ 9223372036854775807) (hr : r.length ≤ 9223372036854775807) (w : World)
    (hA : CRow w w.heap.size A l) (hD : VRow w w.heap.size D r) :
    Calls Try.prog 52 #[.slice A l.length c, .slice D r.length d] w fun e w' => e = .returned (.bool (fitsB l r)) ∧ Below w.heap.size w w' := by
  by_cases hlen : l.length = r.length
  · have e0 : fitsB l r = zipB l r := by unfold fitsB; rw [decide_eq_true hlen]; rfl
    rw [e0]
    rcases hA with rfl | ⟨bl, ol, rfl, hbl, hL⟩
    · have : r = [] := List.eq_nil_of_length_eq_zero (by simpa using hlen.symm)
      subst this
      clear hD hlen e0 hl hr
      show Calls _ _ #[.slice A 0 c, .slice D 0 d] _ fun e w' => e = .returned (.bool true) ∧ _
      go_enter Try.func52, Try.ntmps52
      go_wp2_with fail
      go_loop [5] (fun i => i = .int .i64 0) (fun i => 0)
      case atStart => rfl
      case round =>
        obtain rfl := hrel
        go_wp2_with fail
        go_ret
        exact ⟨rfl, Below.refl _ _⟩
    · rcases hD with rfl | ⟨br, or_, rfl, hbr, hR⟩
      · have : l = [] := List.eq_nil_of_length_eq_zero (by simpa using hlen)
        subst this
        clear hlen e0 hl hr
        show Calls _ _ #[.slice _ 0 c, .slice D 0 d] _ fun e w' => e = .returned (.bool true) ∧ _
        go_enter Try.func52, Try.ntmps52
        go_wp2_with fail
        go_loop [5] (fun i => i = .int .i64 0) (fun i => 0)
        case atStart => rfl
        case round =>
          obtain rfl := hrel
          go_wp2_with fail
          go_ret
          exact ⟨rfl, Below.refl _ _⟩
      · have h := ref5_fits_full bl ol br or_ l.length d c l r rfl hlen.symm hl w hbl hbr hL hR
        rw [← hlen]
        exact h
  · have e0 : fitsB l r = false := by unfold fitsB; rw [decide_eq_false hlen]; rfl
    have hne : ((l.length : Int) != (r.length : Int)) = true := by rw [bne_iff_ne]; omega
    rw [e0]
    generalize l.length = n at *
    generalize r.length = m at *
    clear hlen e0 hA hD
    go_enter Try.func52, Try.ntmps52
    go_wp2_with fail
    go_ret
    exact ⟨rfl, Below.refl _ _⟩
end Go.Proofs.Ytldleckgkgeclaa
/-
  The reference's Eval.
-/
namespace Go.Proofs.Ytldleckgkgeclaa
open Go.RowKit
set_option maxRecDepth 100000 in
set_option maxHeartbeats 1000000 in
theorem refEvalTop_any (cols : List C) (r : List V) (hcl : cols.length ≤ 9223372036854775807) (hrl : r.length ≤ 9223372036854775807) (hpos : ∀ x ∈ cols, 0 < x.k) (hn : rowN r) (e : E) (hf : e.Fine) (ht : e.Texts) (A Ac Ar : Option Addr) (c cc cr : Nat) (w : World)
    (hA : EKids w w.heap.size A e.kids) (hAc : CRow w w.heap.size Ac cols) (hAr : VRow w w.heap.size Ar r) :
    Calls Try.prog 27 #[e.val A c, .slice Ac cols.length cc, .slice Ar r.length cr] w fun res w' =>
      res = .returned (.tuple #[.agg #[.int .i64 (evalTop cols r e).1.k, .int .i64 (evalTop cols r e).1.n, .string (evalTop cols r e).1.s], .int .i64 (evalTop cols r e).2]) ∧ Below w.heap.size w w' := by
  have hT2 : typeTop cols e = if madeE e = true then typeE cols e else (0, 22) := rfl
  have hz0 : evalTop cols r e = if fitsB cols r && (madeE e && (typeE cols e).2 == 0) then evalE cols r e else (zeroV, 22) := rfl
  have hbad : (typeTop cols e).2 ≠ 0 → evalTop cols r e = (zeroV, 22) := fun h => by
    rw [hz0, if_neg]
    intro h2
    simp only [Bool.and_eq_true, beq_iff_eq] at h2
    rw [hT2, if_pos h2.2.1] at h
    exact h h2.2.2
  have hgood : (typeTop cols e).2 = 0 → madeE e = true ∧ (typeE cols e).2 = 0 := fun h => by
    rw [hT2] at h
    by_cases hm : madeE e = true
    · rw [if_pos hm] at h; exact ⟨hm, h⟩
    · rw [if_neg hm] at h; exact absurd h (by decide)
  have hq0 : (typeTop cols e).2 = 0 → evalTop cols r e = if fitsB cols r = true then evalE cols r e else (zeroV, 22) := fun h => by
    obtain ⟨h1, h2⟩ := hgood h
    rw [hz0, h1, h2]
    cases fitsB cols r <;> rfl
  obtain ⟨q, hq⟩ : ∃ q, q = evalTop cols r e := ⟨_, rfl⟩
  rw [← hq] at hbad hq0 ⊢
  have HTY := fun w hA hAc => refType_any cols hcl hpos e hf A Ac c cc w hA hAc
  have HEV := fun (h : (typeTop cols e).2 = 0) (hff : fitsB cols r = true) => refEval_any cols r hcl (fits_fine hn hff).2 (fits_fine hn hff).1 hff e (hgood h).1 (hgood h).2 hf ht A Ac Ar c cc cr
  obtain ⟨k, s, n, l⟩ := e
  simp only [E.val, E.k, E.s, E.n, E.kids] at hA HTY HEV ⊢
  obtain ⟨ln, eln⟩ : ∃ ln, ln = l.length := ⟨_, rfl⟩
  rw [← eln] at HTY HEV ⊢
  obtain ⟨w1, ew1⟩ : ∃ w1, w1 = (w.alloc (.cells #[.int .i64 k, .string s, .int .i64 n, .slice A ln c] 35)).alloc (.cells #[.int .i64 0, .int .i64 0, .string ⟨#[]⟩] 29) := ⟨_, rfl⟩
  have hb1 : Below w.heap.size w w1 := by rw [ew1]; exact ((Below.refl _ _).alloc (Nat.le_refl _) _).alloc (by simp) _
  have HB1 := Lib.hid hb1
  have hws : w1.heap.size = w.heap.size + 2 := by rw [ew1]; simp
  have hB : Hid (w1.heap[w.heap.size + 1]? = some (.cells #[.int .i64 0, .int .i64 0, .string ⟨#[]⟩] 29 (0, 0))) := Lib.hid (by
    rw [ew1]
    have := heap_alloc_new (w.alloc (.cells #[.int .i64 k, .string s, .int .i64 n, .slice A ln c] 35)) (.cells #[.int .i64 0, .int .i64 0, .string ⟨#[]⟩] 29)
    simpa using this)
  have HE : Hid (w1.cell? ⟨w.heap.size, 0, none⟩ = some (.int .i64 k) ∧ w1.cell? ⟨w.heap.size, 1, none⟩ = some (.string s) ∧ w1.cell? ⟨w.heap.size, 2, none⟩ = some (.int .i64 n) ∧ w1.cell? ⟨w.heap.size, 3, none⟩ = some (.slice A ln c)) := Lib.hid (by rw [ew1]; simp)
  have HW1 := Lib.hid ew1
  have HA := Lib.hid ((hA.low hb1).more hb1.size)
  have HC := Lib.hid ((hAc.below hb1).more hb1.size)
  have HR := Lib.hid ((hAr.below hb1).more hb1.size)
  have HTC := Lib.hid (HTY w1 HA.out HC.out)
  have HFT := Lib.hid (fun w2 (hb : Below w1.heap.size w1 w2) => ref5_fits Ac Ar cc cr cols r hcl hrl w2 ((HC.out.below hb).more hb.size) ((HR.out.below hb).more hb.size))
  have HEC := Lib.hid (fun h hff w2 (hb : Below w1.heap.size w1 w2) => HEV h hff w2 ((HA.out.low hb).more hb.size) ((HC.out.below hb).more hb.size) ((HR.out.below hb).more hb.size))
  have HQ := Lib.hid hq0
  have HBAD := Lib.hid hbad
  generalize typeTop cols (.mk k s n l) = ty at *
  obtain ⟨tk, te⟩ := ty
  generalize cols.length = mc at *
  generalize r.length = mr at *
  clear hA hAc hAr ew1 hb1 HTY HEV hT2 hz0 hgood hq0 hbad hf ht hq eln
  go_enter Try.func27, Try.ntmps27
  go_upto_region 1 with (fail)
  rw [← HW1.out]
  obtain ⟨t0, t1, t2, t3⟩ := HE.out
  go_wp2_with fail
  refine (HTC.out).mono ?_
  rintro e w4 ⟨rfl, hb4⟩
  have hs4 := hb4.size
  have HB4 : Hid (w4.heap[w.heap.size + 1]? = some (.cells #[.int .i64 0, .int .i64 0, .string ⟨#[]⟩] 29 (0, 0))) := Lib.hid (keep_ hb4 hB.out (by omega))
  have HBW := Lib.hid (HB1.out.trans (hb4.mono (by omega)))
  clear t0 t1 t2 t3
  by_cases hte : te = 0
  · subst hte
    have HF4 := Lib.hid (HFT.out w4 hb4)
    cases hff : fitsB cols r
    · have hz : Hid (q = (zeroV, 22)) := Lib.hid (by rw [HQ.out rfl, hff]; rfl)
      rw [hff] at HF4
      clear hb4
      go_wp2_with fail
      refine (HF4.out).mono ?_
      rintro e w5 ⟨rfl, hb5⟩
      have hs5 := hb5.size
      have HB5 : Hid (w5.heap[w.heap.size + 1]? = some (.cells #[.int .i64 0, .int .i64 0, .string ⟨#[]⟩] 29 (0, 0))) := Lib.hid (keep_ hb5 HB4.out (by omega))
      have HBV := Lib.hid (HBW.out.trans (hb5.mono (by omega)))
      obtain ⟨⟨k0, k1, k2⟩, f0, f1, f2⟩ := cell3 HB5.out
      clear hb5
      go_wp2_with fail
      refine bodyPost_ret (results_two rfl rfl rfl (put3_block HB5.out)) rfl ?_
      exact ⟨by rw [hz.out]; rfl, put3_below HBV.out (Nat.le_succ _)⟩
    · have hz : Hid (q = evalE cols r (.mk k s n l)) := Lib.hid (by rw [HQ.out rfl, if_pos hff])
      rw [hff] at HF4
      have HB14 := Lib.hid hb4
      have HEC2 := Lib.hid (fun w5 hb5 => HEC.out rfl hff w5 hb5)
      clear hb4 HEC
      go_wp2_with fail
      refine (HF4.out).mono ?_
      rintro e w5 ⟨rfl, hb5⟩
      have hs5 := hb5.size
      have hb15 : Below w1.heap.size w1 w5 := HB14.out.trans (hb5.mono hs4)
      have HB5 : Hid (w5.heap[w.heap.size + 1]? = some (.cells #[.int .i64 0, .int .i64 0, .string ⟨#[]⟩] 29 (0, 0))) := Lib.hid (keep_ hb5 HB4.out (by omega))
      have HBV := Lib.hid (HBW.out.trans (hb5.mono (by omega)))
      have HE5 := Lib.hid (HEC2.out w5 hb15)
      have t0 : w5.cell? ⟨w.heap.size, 0, none⟩ = some (.int .i64 k) := (hb15.cell (p := ⟨w.heap.size, 0, none⟩) (show w.heap.size < _ by omega)).trans HE.out.1
      have t1 : w5.cell? ⟨w.heap.size, 1, none⟩ = some (.string s) := (hb15.cell (p := ⟨w.heap.size, 1, none⟩) (show w.heap.size < _ by omega)).trans HE.out.2.1
      have t2 : w5.cell? ⟨w.heap.size, 2, none⟩ = some (.int .i64 n) := (hb15.cell (p := ⟨w.heap.size, 2, none⟩) (show w.heap.size < _ by omega)).trans HE.out.2.2.1
      have t3 : w5.cell? ⟨w.heap.size, 3, none⟩ = some (.slice A ln c) := (hb15.cell (p := ⟨w.heap.size, 3, none⟩) (show w.heap.size < _ by omega)).trans HE.out.2.2.2
      generalize evalE cols r (.mk k s n l) = p at *
      obtain ⟨⟨vk, vn, vs⟩, ve⟩ := p
      clear hb5 hb15
      go_wp2_with fail
      refine (HE5.out).mono ?_
      rintro e w6 ⟨rfl, hb6⟩
      have hs6 := hb6.size
      have HB6 : Hid (w6.heap[w.heap.size + 1]? = some (.cells #[.int .i64 0, .int .i64 0, .string ⟨#[]⟩] 29 (0, 0))) := Lib.hid (keep_ hb6 HB5.out (by omega))
      have HBX := Lib.hid (HBV.out.trans (hb6.mono (by omega)))
      obtain ⟨⟨k0, k1, k2⟩, f0, f1, f2⟩ := cell3 HB6.out
      clear hb6
      go_wp2_with fail
      refine bodyPost_ret (results_two rfl rfl rfl (put3_block HB6.out)) rfl ?_
      exact ⟨by rw [hz.out]; rfl, put3_below HBX.out (Nat.le_succ _)⟩
  · have hte' : (te != 0) = true := by simpa using hte
    have hz : Hid (q = (zeroV, 22)) := Lib.hid (HBAD.out hte)
    obtain ⟨⟨k0, k1, k2⟩, f0, f1, f2⟩ := cell3 HB4.out
    clear hb4
    go_wp2_with fail
    refine bodyPost_ret (results_two rfl rfl rfl (put3_block HB4.out)) rfl ?_
    exact ⟨by rw [hz.out]; rfl, put3_below HBW.out (Nat.le_succ _)⟩
end Go.Proofs.Ytldleckgkgeclaa
