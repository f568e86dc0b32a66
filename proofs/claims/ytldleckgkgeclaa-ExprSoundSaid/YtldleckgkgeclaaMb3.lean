/-
  Package expr's contracts: typed, Type.
-/
import Derived.Test.YtldleckgkgeclaaMb2
import Derived.Lib.Mul64
import Derived.Laws.Bits64b
import Derived.Test.YtldleckgkgeclaaMb0
import Derived.Deep.AppendLies
set_option linter.unusedVariables false
set_option linter.unusedSimpArgs false
namespace Go.Proofs.Ytldleckgkgeclaa
open Go.RowKit
theorem CRow.get_ {w : World} {A : Option Addr} {l : List C} (h : CRow w w.heap.size A l) {k : Nat} {v : C} (hv : l[k]? = some v) : ∃ b o, A = some ⟨b, o, none⟩ ∧ b < w.heap.size ∧
    w.cell? ⟨b, o + k * 2, none⟩ = some (.string v.nm) ∧ w.cell? ⟨b, o + k * 2 + 1, none⟩ = some (.int .i64 v.k) := by
  rcases h with rfl | ⟨b, o, rfl, hlt, hA⟩
  · simp at hv
  · obtain ⟨h1, h2⟩ := hA k v hv
    exact ⟨b, o, rfl, hlt, h1, h2⟩
theorem idx_at {α : Type} (p : α → Bool) (l : List α) : ∀ k : Nat, 0 ≤ idx p l k → ∃ j x, idx p l k = ((k + j : Nat) : Int) ∧ l[j]? = some x := by
  induction l with
  | nil => intro k h; simp [idx] at h
  | cons x l ih =>
    intro k h
    unfold idx at h ⊢
    by_cases hp : p x = true
    · rw [if_pos hp]
      exact ⟨0, x, rfl, rfl⟩
    · rw [if_neg hp] at h ⊢
      obtain ⟨j, y, e, hy⟩ := ih (k + 1) h
      exact ⟨j + 1, y, by rw [e]; congr 1; omega, by simpa using hy⟩
theorem find_at {l : List C} {nm : ByteArray} (h : findB l nm = true) : ∃ (j : Nat) (x : C), findN l nm = (j : Int) ∧ l[j]? = some x := by
  unfold findB at h
  rw [decide_eq_true_eq] at h
  obtain ⟨j, x, e, hx⟩ := idx_at _ _ 0 h
  refine ⟨j, x, ?_, hx⟩
  unfold findN
  rw [if_pos h, e, Nat.zero_add]
theorem typeL_step (cols : List C) {l : List E} {k : Nat} {x : E} (hx : l[k]? = some x) :
    typeL cols (l.drop k) = if (typeE cols x).2 = 0 then ((typeE cols x).1 :: (typeL cols (l.drop (k + 1))).1, (typeL cols (l.drop (k + 1))).2) else ([], (typeE cols x).2) := by
  obtain ⟨h1, e1⟩ := List.getElem?_eq_some_iff.1 hx
  rw [List.drop_eq_getElem_cons h1, e1, typeL]
theorem made_kids {s : ByteArray} {k n : Int} {l : List E} (hk1 : k ≠ 1) (hk2 : k ≠ 2) (hk3 : k ≠ 3) (h : madeE (.mk k s n l) = true) : 0 < l.length ∧ l.length = cntL s.toList ∧ ∀ e ∈ l, madeE e = true := by
  rw [madeE, if_neg hk1, if_neg hk2, if_neg hk3] at h
  split at h
  · simp only [Bool.and_eq_true, decide_eq_true_eq, beq_iff_eq, madeL_all, List.all_eq_true] at h
    obtain ⟨h1, h2, h3, h4⟩ := h
    exact ⟨by omega, h2.symm, h4⟩
  · cases h
theorem cnt_le (s : List UInt8) : cntL s ≤ 3 := by unfold cntL; repeat (first | split | omega)

def TypedExp (cols : List C) (e : E) : Prop := madeE e = true → ∀ (A Ac : Option Addr) (c cc : Nat) (w : World), EKids w w.heap.size A e.kids → CRow w w.heap.size Ac cols →
  Calls Try.prog 49 #[e.val A c, .slice Ac cols.length cc] w fun r w' => r = .returned (.tuple #[.int .i64 (typeE cols e).1, .int .i64 (typeE cols e).2]) ∧ Below w.heap.size w w'

theorem int_info : (Try.prog.info? 3).map (fun i => (i.zero, i.size, i.bytes)) = some (some (.int .i64 0), 1, 8) := by kernel_rfl

set_option maxRecDepth 100000 in
set_option maxHeartbeats 1000000 in
theorem typed_step (cols : List C) (hcl : cols.length ≤ 9223372036854775807) (k : Int) (s : ByteArray) (n : Int) (l : List E) (hM : ∀ e ∈ l, TypedExp cols e) : TypedExp cols (.mk k s n l) := by
  intro hmade A Ac c cc w hA hAc
  simp only [E.val, E.k, E.s, E.n, E.kids] at hA ⊢
  have hb0 : Below w.heap.size w (w.alloc (.cells #[.int .i64 k, .string s, .int .i64 n, .slice A l.length c] 35)) := (Below.refl _ _).alloc (Nat.le_refl _) _
  have HB0 := Lib.hid hb0
  by_cases h1 : k = 1
  · subst h1
    have hz : Hid (typeE cols (.mk 1 s n l) = (if findB cols s then ((cols.getD (findN cols s).toNat ⟨⟨#[]⟩, 0⟩).k, 0) else (0, 20))) := Lib.hid (by rw [typeE, if_pos rfl])
    have hf := Lib.hid (find_any Ac cc cols hcl s _ ((hAc.below hb0).more hb0.size))
    cases hfb : findB cols s
    · rw [hfb] at hz hf
      have hz2 : Hid (typeE cols (.mk 1 s n l) = (0, 20)) := Lib.hid (by rw [hz.out]; rfl)
      generalize typeE cols (.mk 1 s n l) = q at *
      generalize findN cols s = fn at *
      generalize cols.length = m at *
      clear hz hA hAc hM hmade hb0
      generalize l.length = ln at *
      go_enter Try.func49, Try.ntmps49
      go_wp2_with fail
      refine (hf.out).mono ?_
      rintro e w' ⟨rfl, hb⟩
      have HB := Lib.hid (HB0.out.trans (hb.mono (by simp)))
      clear hb
      go_wp2_with fail
      go_ret2
      exact ⟨by rw [hz2.out]; rfl, HB.out⟩
    · obtain ⟨j, x, ej, hx⟩ := find_at hfb
      have hz2 : Hid (typeE cols (.mk 1 s n l) = (x.k, 0)) := Lib.hid (by rw [hz.out, if_pos hfb, ej, Int.toNat_natCast, List.getD_eq_getElem?_getD, hx]; rfl)
      obtain ⟨b, o, rfl, hlt, c1, c2⟩ := hAc.get_ hx
      have hj : j < cols.length := (List.getElem?_eq_some_iff.1 hx).1
      rw [hfb, ej] at hf
      generalize typeE cols (.mk 1 s n l) = q at *
      generalize cols.length = m at *
      clear hz hA hAc hM hmade hx hfb ej c1
      obtain ⟨xn, xk⟩ := x
      simp only at c2
      generalize l.length = ln at *
      go_enter Try.func49, Try.ntmps49
      go_wp2_with fail
      refine (hf.out).mono ?_
      rintro e w' ⟨rfl, hb⟩
      have c3 := ((hb0.trans (hb.mono (by simp))).cell hlt).trans c2
      have HB := Lib.hid (hb0.trans (hb.mono (by simp)))
      clear hb hb0
      go_wp2_with fail
      go_ret2
      exact ⟨by rw [hz2.out]; rfl, HB.out⟩
  have h1' : (k == 1) = false := by simpa using h1
  by_cases h2 : k = 2
  · subst h2
    have hz2 : Hid (typeE cols (.mk 2 s n l) = (1, 0)) := Lib.hid (by rw [typeE, if_neg (by decide), if_pos rfl])
    generalize typeE cols (.mk 2 s n l) = q at *
    clear hA hAc hM hmade hb0 h1 h1'
    generalize l.length = ln at *
    go_enter Try.func49, Try.ntmps49
    go_wp2_with fail
    go_ret2
    exact ⟨by rw [hz2.out]; rfl, HB0.out⟩
  have h2' : (k == 2) = false := by simpa using h2
  by_cases h3 : k = 3
  · subst h3
    have hz2 : Hid (typeE cols (.mk 3 s n l) = (2, 0)) := Lib.hid (by rw [typeE, if_neg (by decide), if_neg (by decide), if_pos rfl])
    generalize typeE cols (.mk 3 s n l) = q at *
    clear hA hAc hM hmade hb0 h1 h1' h2 h2'
    generalize l.length = ln at *
    go_enter Try.func49, Try.ntmps49
    go_wp2_with fail
    go_ret2
    exact ⟨by rw [hz2.out]; rfl, HB0.out⟩
  have h3' : (k == 3) = false := by simpa using h3
  obtain ⟨hl0, hlc, hmk⟩ := made_kids h1 h2 h3 hmade
  have hl3 : l.length ≤ 3 := by rw [hlc]; exact cnt_le _
  have hz : Hid (typeE cols (.mk k s n l) = if (typeL cols l).2 = 0 then (if 0 < resultL s.toList (typeL cols l).1 then (resultL s.toList (typeL cols l).1, 0) else (0, 22)) else (0, (typeL cols l).2)) := Lib.hid (by rw [typeE, if_neg h1, if_neg h2, if_neg h3])
  obtain ⟨i0, hi, hz0, hz1, hz2⟩ := info_parts int_info
  have HL := Lib.hid ((hA.low hb0).more hb0.size)
  have HC := Lib.hid ((hAc.below hb0).more hb0.size)
  have HM := Lib.hid hM
  have HMK := Lib.hid hmk
  have HLC := Lib.hid hlc
  obtain ⟨m, em⟩ : ∃ m, m = cols.length := ⟨_, rfl⟩
  obtain ⟨ln, eln⟩ : ∃ ln, ln = l.length := ⟨_, rfl⟩
  have Hm := Lib.hid em
  have Hln := Lib.hid eln
  generalize typeE cols (.mk k s n l) = q at *
  rw [← em]
  rw [← eln] at hl0 hl3 hb0 HB0 HL HC ⊢
  obtain ⟨w1, ew1⟩ : ∃ w1, w1 = (w.alloc (.cells #[.int .i64 k, .string s, .int .i64 n, .slice A ln c] 35)) := ⟨_, rfl⟩
  have HW1 := Lib.hid ew1
  have cs : w1.cell? ⟨w.heap.size, 1, none⟩ = some (.string s) := by rw [ew1]; simp
  have hws : w1.heap.size = w.heap.size + 1 := by rw [ew1]; simp
  rw [← ew1] at HL HC HB0
  clear hA hAc hM hmade hb0 h1 h2 h3 hmk hlc em eln ew1
  go_enter Try.func49, Try.ntmps49
  go_wp2_with fail
  go_loopw [8, 39] (fun v i wr => ∃ (j : Nat) (ts : List Int), j ≤ ln ∧ ts.length = j ∧ i = .int .i64 j ∧ wr.ownsRow w1.heap.size 3 1 v j (ints ts) ∧ Below w1.heap.size w1 wr ∧ Hid (typeL cols l = (ts ++ (typeL cols (l.drop j)).1, (typeL cols (l.drop j)).2))) (fun _ i _ => ln - (intOf i).toNat)
  case atStart => exact ⟨0, [], Nat.zero_le _, rfl, rfl, World.ownsRow_nil _ _ _ _, by rw [HW1.out]; exact Below.refl _ _, Lib.hid rfl⟩
  case round =>
    obtain ⟨j, ts, hj, htl, rfl, hown, hb, hzl⟩ := hrel
    have HO := Lib.hid hown
    have HB := Lib.hid hb
    have hs := hb.size
    have HTL := Lib.hid htl
    clear hown htl
    by_cases hlt : j < ln
    · obtain ⟨x, hx⟩ : ∃ x, l[j]? = some x := ⟨_, List.getElem?_eq_getElem (by rw [← Hln.out]; exact hlt)⟩
      obtain ⟨b, o, A', c', rfl, hbl, c1, c2, c3, c4, hK⟩ := HL.out.get_ wr hb j x hx
      have hMx := HM.out x (List.mem_of_getElem? hx) (HMK.out x (List.mem_of_getElem? hx))
      have hst := Lib.hid (hzl.out.trans (by rw [typeL_step cols hx]))
      clear hx hzl
      obtain ⟨xk, xs, xn, xl⟩ := x
      simp only [E.k, E.s, E.n, E.kids] at c1 c2 c3 c4 hK
      have HMX := Lib.hid hMx
      have HK := Lib.hid hK
      clear hMx hK
      generalize hq : typeE cols (.mk xk xs xn xl) = tq at *
      generalize hxm : xl.length = xm at *
      have hb1 : Below w1.heap.size w1 (wr.alloc (.cells #[.int .i64 xk, .string xs, .int .i64 xn, .slice A' xm c'] 35)) := hb.alloc hs _
      have hcl := Lib.hid (HMX.out A' Ac c' cc (wr.alloc (.cells #[.int .i64 xk, .string xs, .int .i64 xn, .slice A' xm c'] 35)) (by
        simp only [E.kids]
        have hb2 : Below wr.heap.size wr (wr.alloc (.cells #[.int .i64 xk, .string xs, .int .i64 xn, .slice A' xm c'] 35)) := (Below.refl _ _).alloc (Nat.le_refl _) _
        exact (HK.out.low hb2).more hb2.size) ((HC.out.below hb1).more hb1.size))
      simp only [E.val, E.k, E.s, E.n, E.kids, hq, hxm, ← Hm.out] at hcl
      have HB1 := Lib.hid hb1
      clear hb1 HMX HK
      obtain ⟨tk, tw⟩ := tq
      simp only at hst hcl
      go_wp2_with fail
      refine (hcl.out).mono ?_
      rintro e w2 ⟨rfl, hb3⟩
      have HB3 := Lib.hid (HB1.out.trans (hb3.mono (by simp; omega)))
      have HO3 := Lib.hid (own_below (HO.out.alloc (.cells #[.int .i64 xk, .string xs, .int .i64 xn, .slice A' xm c'] 35)) hb3)
      have hs3 := HB3.out.size
      clear hb3 HO hcl
      by_cases htw : tw = 0
      · subst htw
        have hzl2 : Hid (typeL cols l = ((ts ++ [tk]) ++ (typeL cols (l.drop (j + 1))).1, (typeL cols (l.drop (j + 1))).2)) := Lib.hid (by rw [hst.out, if_pos rfl, List.append_assoc]; rfl)
        clear hst
        go_wp2_with (at_builtin; refine wpList_append_own _ rfl _ _ 132 rfl w1.heap.size 3 i0 _ 1 8 Try.underlying132 hi hz0 hz1 hz2 rfl (by decide) _ _ _ rfl (HO3.out.alloc _) ⟨w2.heap.size, 0, none⟩ 1 1 [.int .i64 tk] rfl rfl ?c1 ?c2 ?c3 ?c4 ?c5 ?_)
        case c1 =>
          intro i u hu
          match i, hu with
          | 0, hu => simp at hu; subst hu; simp [Addr.add]
        case c2 => intro u hu; simp at hu; subst hu; rfl
        case c3 => unfold maxLen; omega
        case c4 => omega
        case c5 => simp; omega
        intro v' w3 hown' hgrow _
        have HO4 : Hid (w3.ownsRow w1.heap.size 3 1 v' (j + 1) (ints (ts ++ [tk]))) := Lib.hid (by unfold ints at hown' ⊢; rw [List.map_append, hws]; exact hown')
        have HB4 := Lib.hid ((HB3.out.alloc hs3 (.cells #[.int .i64 tk] 3)).grown hgrow (by simp; omega) (fun g hg => (HO3.out.lt g hg).1))
        have htl2 : Hid ((ts ++ [tk]).length = j + 1) := Lib.hid (by rw [List.length_append, HTL.out]; rfl)
        clear hown' hgrow
        go_wp2_with fail
        go_roundw
        case rel => exact ⟨j + 1, ts ++ [tk], by omega, htl2.out, by go_num, HO4.out, HB4.out, hzl2⟩
        case measure => simp [intOf]; omega
      · have htw' : (tw != 0) = true := by simpa using htw
        have hq2 : Hid (q = (0, tw)) := Lib.hid (by rw [hz.out, hst.out, if_neg htw, if_neg htw])
        clear hst hz
        go_wp2_with fail
        go_ret2
        exact ⟨by rw [hq2.out]; rfl, (HB0.out.trans (HB3.out.mono (by omega)))⟩
    · obtain rfl : j = ln := by omega
      have hzl2 : Hid (typeL cols l = (ts, 0)) := Lib.hid (by rw [hzl.out, List.drop_of_length_le (by rw [← Hln.out]; exact Nat.le_refl _), typeL, List.append_nil])
      obtain ⟨A2, c2, rfl, hc2, hI⟩ := own_ints (l := ts) (by rw [HTL.out]; exact HO.out)
      have hr := Lib.hid (result_any A2 c2 ts s (by rw [HTL.out]; exact Hln.out.trans HLC.out) hc2 (by rw [HTL.out]; exact hl0) wr hI)
      rw [HTL.out] at hr
      have cs2 : wr.cell? ⟨w.heap.size, 1, none⟩ = some (.string s) := (hb.cell (show w.heap.size < w1.heap.size by omega)).trans cs
      have hq3 : Hid (q = if 0 < resultL s.toList ts then (resultL s.toList ts, 0) else (0, 22)) := Lib.hid (by rw [hz.out, hzl2.out, if_pos rfl])
      rw [HTL.out]
      clear hz hzl hzl2 hI cs HO
      generalize resultL s.toList ts = rs at *
      by_cases hrs : 0 < rs
      · have hq2 : Hid (q = (rs, 0)) := Lib.hid (by rw [hq3.out, if_pos hrs])
        clear hq3
        go_wp2_with fail
        refine (hr.out).mono ?_
        rintro e w2 ⟨rfl, hb3⟩
        have HB3 := Lib.hid (HB.out.trans (hb3.mono hs))
        clear hb3 hr
        go_wp2_with fail
        go_ret2
        exact ⟨by rw [hq2.out]; rfl, (HB0.out.trans (HB3.out.mono (by omega)))⟩
      · have hq2 : Hid (q = (0, 22)) := Lib.hid (by rw [hq3.out, if_neg hrs])
        clear hq3
        go_wp2_with fail
        refine (hr.out).mono ?_
        rintro e w2 ⟨rfl, hb3⟩
        have HB3 := Lib.hid (HB.out.trans (hb3.mono hs))
        clear hb3 hr
        go_wp2_with fail
        go_ret2
        exact ⟨by rw [hq2.out]; rfl, (HB0.out.trans (HB3.out.mono (by omega)))⟩
theorem typed_any (cols : List C) (hcl : cols.length ≤ 9223372036854775807) : ∀ e, TypedExp cols e := E.ind (typed_step cols hcl)

/-- Type's answer -/
def typeTop (cols : List C) (e : E) : Int × Int := if madeE e = true then typeE cols e else (0, 22)
set_option maxRecDepth 100000 in
theorem type_any (cols : List C) (hcl : cols.length ≤ 9223372036854775807) (e : E) (A Ac : Option Addr) (c cc : Nat) (w : World) (hA : EKids w w.heap.size A e.kids) (hAc : CRow w w.heap.size Ac cols) :
    Calls Try.prog 24 #[e.val A c, .slice Ac cols.length cc] w fun r w' => r = .returned (.tuple #[.int .i64 (typeTop cols e).1, .int .i64 (typeTop cols e).2]) ∧ Below w.heap.size w w' := by
  obtain ⟨k, s, n, l⟩ := e
  simp only [E.val, E.k, E.s, E.n, E.kids] at hA ⊢
  have hb0 : Below w.heap.size w (w.alloc (.cells #[.int .i64 k, .string s, .int .i64 n, .slice A l.length c] 35)) := (Below.refl _ _).alloc (Nat.le_refl _) _
  have hm := Lib.hid (made_any (.mk k s n l) A c _ ((hA.low hb0).more hb0.size))
  simp only [E.val, E.k, E.s, E.n, E.kids] at hm
  have HB0 := Lib.hid hb0
  have hq : Hid (typeTop cols (.mk k s n l) = if madeE (.mk k s n l) = true then typeE cols (.mk k s n l) else (0, 22)) := Lib.hid rfl
  generalize typeTop cols (.mk k s n l) = q at *
  cases hmd : madeE (.mk k s n l)
  · rw [hmd] at hq hm
    have hq2 : Hid (q = (0, 22)) := Lib.hid (by rw [hq.out, if_neg (by decide)])
    clear hq hA hAc
    generalize l.length = ln at *
    generalize cols.length = m at *
    go_enter Try.func24, Try.ntmps24
    go_wp2_with fail
    refine (hm.out).mono ?_
    rintro e w' ⟨rfl, hb⟩
    have HB := Lib.hid (HB0.out.trans (hb.mono (by simp)))
    clear hb
    go_wp2_with fail
    go_ret2
    exact ⟨by rw [hq2.out]; rfl, HB.out⟩
  · rw [hmd] at hq hm
    have hq2 : Hid (q = typeE cols (.mk k s n l)) := Lib.hid (by rw [hq.out, if_pos rfl])
    have hty : Hid (∀ w1, Below w.heap.size w w1 → Calls Try.prog 49 #[.agg #[.int .i64 k, .string s, .int .i64 n, .slice A l.length c], .slice Ac cols.length cc] w1 fun r w' => r = .returned (.tuple #[.int .i64 q.1, .int .i64 q.2]) ∧ Below w1.heap.size w1 w') := Lib.hid (fun w1 hb1 => by
      rw [hq2.out]
      exact typed_any cols hcl (.mk k s n l) hmd A Ac c cc w1 ((hA.low hb1).more hb1.size) ((hAc.below hb1).more hb1.size))
    clear hq hA hAc hmd
    generalize l.length = ln at *
    generalize cols.length = m at *
    go_enter Try.func24, Try.ntmps24
    go_wp2_with fail
    refine (hm.out).mono ?_
    rintro e w' ⟨rfl, hb⟩
    have hb2 := hb0.trans (hb.mono (by simp))
    have HB := Lib.hid hb2
    have hty2 := Lib.hid (hty.out w' hb2)
    have c0 : w'.cell? ⟨w.heap.size, 0, none⟩ = some (.int .i64 k) := (hb.cell (by simp)).trans (by simp)
    have c1 : w'.cell? ⟨w.heap.size, 1, none⟩ = some (.string s) := (hb.cell (by simp)).trans (by simp)
    have c2 : w'.cell? ⟨w.heap.size, 2, none⟩ = some (.int .i64 n) := (hb.cell (by simp)).trans (by simp)
    have c3 : w'.cell? ⟨w.heap.size, 3, none⟩ = some (.slice A ln c) := (hb.cell (by simp)).trans (by simp)
    have hs2 := hb.size
    clear hb hb2 hty hm hb0
    go_wp2_with fail
    refine (hty2.out).mono ?_
    rintro e w3 ⟨rfl, hb⟩
    have HB3 := Lib.hid (HB.out.trans (hb.mono (by simp at hs2; omega)))
    clear hb
    go_wp2_with fail
    go_ret2
    exact ⟨rfl, HB3.out⟩
end Go.Proofs.Ytldleckgkgeclaa
/-
  Package expr's contracts: truth, size, reckon; value's Num, Str; bits.Mul64.
-/
namespace Go.Proofs.Ytldleckgkgeclaa
open Go.RowKit

theorem value_num (n : Int) (w : World) :
    Calls Try.prog 82 #[.int .i64 n] w fun e w' => e = .returned (.agg #[.int .i64 1, .int .i64 n, .string ⟨#[]⟩]) ∧ w.alloc (.cells #[.int .i64 1, .int .i64 n, .string ⟨#[]⟩] 29) = w' := by
  go_enter Try.func82, Try.ntmps82
  go_wp2
  exact bodyPost_ret (v := .agg #[.int .i64 1, .int .i64 n, .string ⟨#[]⟩]) (by simp [results, Try.results82, go_sem]) rfl ⟨rfl, rfl⟩
theorem value_str (s : ByteArray) (w : World) :
    Calls Try.prog 83 #[.string s] w fun e w' => e = .returned (.agg #[.int .i64 2, .int .i64 0, .string s]) ∧ w.alloc (.cells #[.int .i64 2, .int .i64 0, .string s] 29) = w' := by
  go_enter Try.func83, Try.ntmps83
  go_wp2
  exact bodyPost_ret (v := .agg #[.int .i64 2, .int .i64 0, .string s]) (by simp [results, Try.results83, go_sem]) rfl ⟨rfl, rfl⟩
theorem truth_any (b : Bool) (w : World) :
    Calls Try.prog 124 #[.bool b] w fun e w' => e = .returned (.tuple #[.agg #[.int .i64 1, .int .i64 (boolI b), .string ⟨#[]⟩], .int .i64 0]) ∧ Below w.heap.size w w' := by
  cases b
  · go_enter Try.func124, Try.ntmps124
    go_wp2_with fail
    refine (value_num 0 _).mono ?_
    rintro e w' ⟨rfl, rfl⟩
    go_wp2_with fail
    exact bodyPost_ret (v := .tuple #[.agg #[.int .i64 1, .int .i64 0, .string ⟨#[]⟩], .int .i64 0]) (by simp [results, Try.results124, go_sem]) rfl ⟨rfl, by repeat (first | exact Below.refl _ _ | refine Below.alloc ?_ (by simp <;> omega) _ | refine Below.setCell ?_ (by simp) _)⟩
  · go_enter Try.func124, Try.ntmps124
    go_wp2_with fail
    refine (value_num 1 _).mono ?_
    rintro e w' ⟨rfl, rfl⟩
    go_wp2_with fail
    exact bodyPost_ret (v := .tuple #[.agg #[.int .i64 1, .int .i64 1, .string ⟨#[]⟩], .int .i64 0]) (by simp [results, Try.results124, go_sem]) rfl ⟨rfl, by repeat (first | exact Below.refl _ _ | refine Below.alloc ?_ (by simp <;> omega) _ | refine Below.setCell ?_ (by simp) _)⟩

theorem size_any (n : Int) (h1 : -9223372036854775808 ≤ n) (h2 : n ≤ 9223372036854775807) (w : World) :
    Calls Try.prog 153 #[.int .i64 n] w fun e w' => e = .returned (.int .u64 (n.natAbs : Nat)) ∧ w = w' := by
  by_cases h : n < 0
  · go_enter Try.func153, Try.ntmps153
    go_wp2
    go_ret
    refine ⟨congrArg (fun z => Ending.returned (.int .u64 z)) ?_, rfl⟩
    first | omega | (simp only [IntKind.wrap_u64]; omega)
  · go_enter Try.func153, Try.ntmps153
    go_wp2
    go_ret
    refine ⟨congrArg (fun z => Ending.returned (.int .u64 z)) ?_, rfl⟩
    first | omega | (simp only [IntKind.wrap_u64]; omega)

theorem maskN (a : Nat) (ha : a < 18446744073709551616) : bits .and .u64 (a : Int) 4294967295 = ((a % 4294967296 : Nat) : Int) := by
  have h := bits_and_u64_nat a 4294967295 ha (by omega)
  have e : a &&& 4294967295 = a % 4294967296 := Nat.and_two_pow_sub_one_eq_mod a 32
  rw [e] at h
  exact h
theorem divN (a : Nat) : (a : Int) / 4294967296 = ((a / 4294967296 : Nat) : Int) := by omega
theorem mulN (a b : Nat) : (a : Int) * (b : Int) = ((a * b : Nat) : Int) := (Int.natCast_mul a b).symm
theorem addN (a b : Nat) : (a : Int) + (b : Int) = ((a + b : Nat) : Int) := (Int.natCast_add a b).symm
theorem wrapN (a : Nat) (ha : a < 18446744073709551616) : IntKind.u64.wrap (a : Int) = (a : Int) := by rw [IntKind.wrap_u64]; omega
theorem wrapM (a : Nat) : IntKind.u64.wrap (a : Int) = ((a % 18446744073709551616 : Nat) : Int) := by rw [IntKind.wrap_u64]; omega
set_option maxHeartbeats 1000000 in
theorem mul64_any (x y : Nat) (hx : x < 18446744073709551616) (hy : y < 18446744073709551616) (w : World) :
    Calls Try.prog 152 #[.int .u64 x, .int .u64 y] w fun e w' => e = .returned (.tuple #[.int .u64 ((x * y / 18446744073709551616 : Nat) : Int), .int .u64 ((x * y % 18446744073709551616 : Nat) : Int)]) ∧ w = w' := by
  obtain ⟨bd, bt, bw, hhi⟩ := Lib.mul64_hi x y hx hy
  have ba := Lib.half_mul_le (a := x / 4294967296) (b := y / 4294967296) (by omega) (by omega)
  have bb := Lib.half_mul_le (a := x / 4294967296) (b := y % 4294967296) (by omega) (by omega)
  have bc := Lib.half_mul_le (a := x % 4294967296) (b := y / 4294967296) (by omega) (by omega)
  have ba' : x / 4294967296 * (y / 4294967296) < 18446744073709551616 := by omega
  have bb' : x / 4294967296 * (y % 4294967296) < 18446744073709551616 := by omega
  have bc' : x % 4294967296 * (y / 4294967296) < 18446744073709551616 := by omega
  have bh1 : x / 4294967296 * (y / 4294967296) + (x / 4294967296 * (y % 4294967296) + x % 4294967296 * (y % 4294967296) / 4294967296) / 4294967296 < 18446744073709551616 := by omega
  have bh : x / 4294967296 * (y / 4294967296) + (x / 4294967296 * (y % 4294967296) + x % 4294967296 * (y % 4294967296) / 4294967296) / 4294967296 + ((x / 4294967296 * (y % 4294967296) + x % 4294967296 * (y % 4294967296) / 4294967296) % 4294967296 + x % 4294967296 * (y / 4294967296)) / 4294967296 < 18446744073709551616 := by omega
  go_enter Try.func152, Try.ntmps152
  go_wp2
  simp only [maskN x hx, maskN y hy, divN, mulN, addN, wrapN _ bd, wrapN _ bb', wrapN _ bt, maskN _ bt, wrapN _ bc', wrapN _ bw, wrapN _ ba', wrapN _ bh1, wrapN _ bh, wrapM (x * y)]
  rw [hhi]
  go_ret2
  exact ⟨rfl, rfl⟩

theorem ending_pair {a b c d : Value} (h1 : a = c) (h2 : b = d) : Ending.returned (.tuple #[a, b]) = Ending.returned (.tuple #[c, d]) := by rw [h1, h2]
theorem dec_cases (a : Int) : (a < 0 ∧ decide (a < 0) = true) ∨ (0 ≤ a ∧ decide (a < 0) = false) := by
  by_cases h : a < 0
  · exact .inl ⟨h, decide_eq_true h⟩
  · exact .inr ⟨by omega, decide_eq_false h⟩
theorem dec_le (n : Nat) : decide (n ≤ 9223372036854775808) = decide ((n : Int) ≤ 9223372036854775808) := by rw [decide_eq_decide]; omega
theorem dec_lt (n : Nat) : decide (n < 9223372036854775808) = decide ((n : Int) < 9223372036854775808) := by rw [decide_eq_decide]; omega
set_option maxRecDepth 100000 in
set_option maxHeartbeats 1000000 in
theorem reckon_any (op : ByteArray) (a b : Int) (ha1 : -9223372036854775808 ≤ a) (ha2 : a ≤ 9223372036854775807) (hb1 : -9223372036854775808 ≤ b) (hb2 : b ≤ 9223372036854775807) (w : World) :
    Calls Try.prog 125 #[.string op, .int .i64 a, .int .i64 b] w fun e w' => e = .returned (.tuple #[.int .i64 (reckonL op.toList a b).1, .bool (reckonL op.toList a b).2]) ∧ w = w' := by
  by_cases h1 : op.toList = opAdd
  · have hr : Hid (reckonL op.toList a b = (wrap64 (a + b), decide (a < wrap64 (a + b)) == decide (0 < b))) := Lib.hid (by unfold reckonL; rw [if_pos h1])
    generalize reckonL op.toList a b = r at *
    simp only [opAdd] at h1
    clear ha1 ha2 hb1 hb2
    go_enter Try.func125, Try.ntmps125
    go_wp2
    go_ret2
    exact ⟨by rw [hr.out]; rfl, rfl⟩
  have e1 : (op.toList == [97, 100, 100]) = false := by simpa [opAdd] using h1
  by_cases h2 : op.toList = opSub
  · have hr : Hid (reckonL op.toList a b = (wrap64 (a - b), decide (wrap64 (a - b) < a) == decide (0 < b))) := Lib.hid (by unfold reckonL; rw [if_neg h1, if_pos h2])
    generalize reckonL op.toList a b = r at *
    simp only [opSub] at h2
    clear ha1 ha2 hb1 hb2 h1 e1
    go_enter Try.func125, Try.ntmps125
    go_wp2
    go_ret2
    exact ⟨by rw [hr.out]; rfl, rfl⟩
  have e2 : (op.toList == [115, 117, 98]) = false := by simpa [opSub] using h2
  by_cases h3 : op.toList = opNeg
  · have hr : Hid (reckonL op.toList a b = (wrap64 (-a), a != -9223372036854775808)) := Lib.hid (by unfold reckonL; rw [if_neg h1, if_neg h2, if_pos h3])
    generalize reckonL op.toList a b = r at *
    simp only [opNeg] at h3
    clear ha1 ha2 hb1 hb2 h1 e1 h2 e2
    go_enter Try.func125, Try.ntmps125
    go_wp2
    go_ret2
    exact ⟨by rw [hr.out]; rfl, rfl⟩
  have e3 : (op.toList == [110, 101, 103]) = false := by simpa [opNeg] using h3
  have hs1 := Lib.hid (size_any a ha1 ha2)
  have hs2 := Lib.hid (size_any b hb1 hb2)
  have hm := Lib.hid (mul64_any a.natAbs b.natAbs (by omega) (by omega))
  have hr : Hid (reckonL op.toList a b = if (decide (a < 0) != decide (b < 0)) = true then (wrap64 (-(wrap64 ((a.natAbs * b.natAbs % 18446744073709551616 : Nat) : Int))), (a.natAbs * b.natAbs / 18446744073709551616 == 0) && decide (a.natAbs * b.natAbs % 18446744073709551616 ≤ 9223372036854775808))
    else (wrap64 ((a.natAbs * b.natAbs % 18446744073709551616 : Nat) : Int), (a.natAbs * b.natAbs / 18446744073709551616 == 0) && decide (a.natAbs * b.natAbs % 18446744073709551616 < 9223372036854775808))) := Lib.hid (by unfold reckonL; rw [if_neg h1, if_neg h2, if_neg h3])
  have hlo : a.natAbs * b.natAbs % 18446744073709551616 < 18446744073709551616 := Nat.mod_lt _ (by decide)
  generalize reckonL op.toList a b = r at *
  generalize a.natAbs * b.natAbs / 18446744073709551616 = hi at *
  generalize a.natAbs * b.natAbs % 18446744073709551616 = lo at *
  generalize a.natAbs = x at *
  generalize b.natAbs = y at *
  have Hlo := Lib.hid hlo
  clear ha1 ha2 hb1 hb2 h1 h2 h3 hlo
  by_cases hh : hi = 0
  · subst hh
    rcases dec_cases a with ⟨ha, ha'⟩ | ⟨ha, ha'⟩ <;> rcases dec_cases b with ⟨hb, hb'⟩ | ⟨hb, hb'⟩
    · have hsg : (decide (a < 0) != decide (b < 0)) = false := by rw [ha', hb']; rfl
      have hr2 : Hid (r = (wrap64 (lo : Int), decide ((lo : Int) < 9223372036854775808))) := Lib.hid (by rw [hr.out, hsg, if_neg (by decide), show ((0 : Nat) == 0) = true from rfl, Bool.true_and, dec_lt])
      clear hr hsg
      go_enter Try.func125, Try.ntmps125
      go_wp2_with fail
      refine (hs1.out _).mono ?_
      rintro e w' ⟨rfl, rfl⟩
      go_wp2_with fail
      refine (hs2.out _).mono ?_
      rintro e w' ⟨rfl, rfl⟩
      go_wp2_with fail
      refine (hm.out _).mono ?_
      rintro e w' ⟨rfl, rfl⟩
      go_wp2_with fail
      go_ret2
      exact ⟨by rw [hr2.out]; exact ending_pair (by rfl) (by show Value.bool _ = Value.bool _; refine congrArg Value.bool ?_; dsimp only), rfl⟩
    · have hsg : (decide (a < 0) != decide (b < 0)) = true := by rw [ha', hb']; rfl
      have hr2 : Hid (r = (wrap64 (-(wrap64 (lo : Int))), decide ((lo : Int) ≤ 9223372036854775808))) := Lib.hid (by rw [hr.out, hsg, if_pos rfl, show ((0 : Nat) == 0) = true from rfl, Bool.true_and, dec_le])
      clear hr hsg
      go_enter Try.func125, Try.ntmps125
      go_wp2_with fail
      refine (hs1.out _).mono ?_
      rintro e w' ⟨rfl, rfl⟩
      go_wp2_with fail
      refine (hs2.out _).mono ?_
      rintro e w' ⟨rfl, rfl⟩
      go_wp2_with fail
      refine (hm.out _).mono ?_
      rintro e w' ⟨rfl, rfl⟩
      go_wp2_with fail
      go_ret2
      exact ⟨by rw [hr2.out]; exact ending_pair (by rfl) (by show Value.bool _ = Value.bool _; refine congrArg Value.bool ?_; dsimp only), rfl⟩
    · have hsg : (decide (a < 0) != decide (b < 0)) = true := by rw [ha', hb']; rfl
      have hr2 : Hid (r = (wrap64 (-(wrap64 (lo : Int))), decide ((lo : Int) ≤ 9223372036854775808))) := Lib.hid (by rw [hr.out, hsg, if_pos rfl, show ((0 : Nat) == 0) = true from rfl, Bool.true_and, dec_le])
      clear hr hsg
      go_enter Try.func125, Try.ntmps125
      go_wp2_with fail
      refine (hs1.out _).mono ?_
      rintro e w' ⟨rfl, rfl⟩
      go_wp2_with fail
      refine (hs2.out _).mono ?_
      rintro e w' ⟨rfl, rfl⟩
      go_wp2_with fail
      refine (hm.out _).mono ?_
      rintro e w' ⟨rfl, rfl⟩
      go_wp2_with fail
      go_ret2
      exact ⟨by rw [hr2.out]; exact ending_pair (by rfl) (by show Value.bool _ = Value.bool _; refine congrArg Value.bool ?_; dsimp only), rfl⟩
    · have hsg : (decide (a < 0) != decide (b < 0)) = false := by rw [ha', hb']; rfl
      have hr2 : Hid (r = (wrap64 (lo : Int), decide ((lo : Int) < 9223372036854775808))) := Lib.hid (by rw [hr.out, hsg, if_neg (by decide), show ((0 : Nat) == 0) = true from rfl, Bool.true_and, dec_lt])
      clear hr hsg
      go_enter Try.func125, Try.ntmps125
      go_wp2_with fail
      refine (hs1.out _).mono ?_
      rintro e w' ⟨rfl, rfl⟩
      go_wp2_with fail
      refine (hs2.out _).mono ?_
      rintro e w' ⟨rfl, rfl⟩
      go_wp2_with fail
      refine (hm.out _).mono ?_
      rintro e w' ⟨rfl, rfl⟩
      go_wp2_with fail
      go_ret2
      exact ⟨by rw [hr2.out]; exact ending_pair (by rfl) (by show Value.bool _ = Value.bool _; refine congrArg Value.bool ?_; dsimp only), rfl⟩
  · have hh' : ((hi : Int) == 0) = false := by simp; omega
    have hh2 : (hi == 0) = false := by simpa using hh
    rcases dec_cases a with ⟨ha, ha'⟩ | ⟨ha, ha'⟩ <;> rcases dec_cases b with ⟨hb, hb'⟩ | ⟨hb, hb'⟩
    · have hsg : (decide (a < 0) != decide (b < 0)) = false := by rw [ha', hb']; rfl
      have hr2 : Hid (r = (wrap64 (lo : Int), false)) := Lib.hid (by rw [hr.out, hsg, if_neg (by decide), hh2, Bool.false_and])
      clear hr hsg
      go_enter Try.func125, Try.ntmps125
      go_wp2_with fail
      refine (hs1.out _).mono ?_
      rintro e w' ⟨rfl, rfl⟩
      go_wp2_with fail
      refine (hs2.out _).mono ?_
      rintro e w' ⟨rfl, rfl⟩
      go_wp2_with fail
      refine (hm.out _).mono ?_
      rintro e w' ⟨rfl, rfl⟩
      go_wp2_with fail
      go_ret2
      exact ⟨by rw [hr2.out]; exact ending_pair (by rfl) (by show Value.bool _ = Value.bool _; refine congrArg Value.bool ?_; dsimp only), rfl⟩
    · have hsg : (decide (a < 0) != decide (b < 0)) = true := by rw [ha', hb']; rfl
      have hr2 : Hid (r = (wrap64 (-(wrap64 (lo : Int))), false)) := Lib.hid (by rw [hr.out, hsg, if_pos rfl, hh2, Bool.false_and])
      clear hr hsg
      go_enter Try.func125, Try.ntmps125
      go_wp2_with fail
      refine (hs1.out _).mono ?_
      rintro e w' ⟨rfl, rfl⟩
      go_wp2_with fail
      refine (hs2.out _).mono ?_
      rintro e w' ⟨rfl, rfl⟩
      go_wp2_with fail
      refine (hm.out _).mono ?_
      rintro e w' ⟨rfl, rfl⟩
      go_wp2_with fail
      go_ret2
      exact ⟨by rw [hr2.out]; exact ending_pair (by rfl) (by show Value.bool _ = Value.bool _; refine congrArg Value.bool ?_; dsimp only), rfl⟩
    · have hsg : (decide (a < 0) != decide (b < 0)) = true := by rw [ha', hb']; rfl
      have hr2 : Hid (r = (wrap64 (-(wrap64 (lo : Int))), false)) := Lib.hid (by rw [hr.out, hsg, if_pos rfl, hh2, Bool.false_and])
      clear hr hsg
      go_enter Try.func125, Try.ntmps125
      go_wp2_with fail
      refine (hs1.out _).mono ?_
      rintro e w' ⟨rfl, rfl⟩
      go_wp2_with fail
      refine (hs2.out _).mono ?_
      rintro e w' ⟨rfl, rfl⟩
      go_wp2_with fail
      refine (hm.out _).mono ?_
      rintro e w' ⟨rfl, rfl⟩
      go_wp2_with fail
      go_ret2
      exact ⟨by rw [hr2.out]; exact ending_pair (by rfl) (by show Value.bool _ = Value.bool _; refine congrArg Value.bool ?_; dsimp only), rfl⟩
    · have hsg : (decide (a < 0) != decide (b < 0)) = false := by rw [ha', hb']; rfl
      have hr2 : Hid (r = (wrap64 (lo : Int), false)) := Lib.hid (by rw [hr.out, hsg, if_neg (by decide), hh2, Bool.false_and])
      clear hr hsg
      go_enter Try.func125, Try.ntmps125
      go_wp2_with fail
      refine (hs1.out _).mono ?_
      rintro e w' ⟨rfl, rfl⟩
      go_wp2_with fail
      refine (hs2.out _).mono ?_
      rintro e w' ⟨rfl, rfl⟩
      go_wp2_with fail
      refine (hm.out _).mono ?_
      rintro e w' ⟨rfl, rfl⟩
      go_wp2_with fail
      go_ret2
      exact ⟨by rw [hr2.out]; exact ending_pair (by rfl) (by show Value.bool _ = Value.bool _; refine congrArg Value.bool ?_; dsimp only), rfl⟩
end Go.Proofs.Ytldleckgkgeclaa
/-
  Package expr's contracts: operate.
-/
namespace Go.Proofs.Ytldleckgkgeclaa
open Go.RowKit
@[go_sem] theorem guard_value_ (op : BinOp) (x y : Operand) (xs ys : Array Value) (w : World) : (eqGuard op 29 x y (.agg xs) (.agg ys)).run Try.prog w = .ok () w := run_eqGuard_agg w op _ x y xs ys (by kernel_rfl)
theorem eql_value_ (xk xn yk yn : Int) (xs ys : ByteArray) (w : World) :
    (binOp .eql 29 (.agg #[.int .i64 xk, .int .i64 xn, .string xs]) (.agg #[.int .i64 yk, .int .i64 yn, .string ys])).run Try.prog w = .ok (.bool (xk == yk && (xn == yn && xs.toList == ys.toList))) w := by
  have hS : Try.prog.underlying 29 = some (.struct (Try.prog.fieldsOf 29)) := by kernel_rfl
  have hp : Try.prog.stoodInHeld 29 = false := by kernel_rfl
  have u1 := Try.underlying3
  have u2 := Try.underlying2
  have u3 := Try.underlying9
  rw [run_eql_struct, show (10000 : Nat) = 9999 + 1 from rfl, run_equalIn_agg w 9999 _ _ _ hS hp]
  simp only [Program.fieldsOf, Try.underlying29]
  go_simp
  by_cases h1 : xk = yk <;> by_cases h2 : xn = yn <;> by_cases h3 : xs.toList = ys.toList <;> simp [h1, h2, h3]
theorem set3c {w : World} {g k : Nat} {a b c u : Value} {t : TypeId} (h : w.heap[g]? = some (.cells #[a, b, c] t (0, 0))) : (w.setCell ⟨g, k, none⟩ u).heap[g]? = some (.cells (#[a, b, c].set! k u) t (0, 0)) := by
  show (w.heap.modify g _)[g]? = _
  rw [Array.getElem?_modify]
  simp [h]
/-- a value stored into a box of the call's own -/
def put3 (w : World) (p : Nat) (x0 x1 x2 : Value) : World := ((w.setCell ⟨p, 0, none⟩ x0).setCell ⟨p, 1, none⟩ x1).setCell ⟨p, 2, none⟩ x2
theorem put3_block {w : World} {p : Nat} {a b c x0 x1 x2 : Value} {t : TypeId} (h : w.heap[p]? = some (.cells #[a, b, c] t (0, 0))) : (put3 w p x0 x1 x2).heap[p]? = some (.cells #[x0, x1, x2] t (0, 0)) :=
  set3c (k := 2) (set3c (k := 1) (set3c (k := 0) h))
theorem put3_below {w a : World} {p B : Nat} {x0 x1 x2 : Value} (h : Below B a w) (hp : B ≤ p) : Below B a (put3 w p x0 x1 x2) :=
  ((h.setCell (p := ⟨p, 0, none⟩) hp x0).setCell (p := ⟨p, 1, none⟩) hp x1).setCell (p := ⟨p, 2, none⟩) hp x2
theorem cell3 {w : World} {g : Nat} {a b c : Value} {t : TypeId} (h : w.heap[g]? = some (.cells #[a, b, c] t (0, 0))) :
    (w.cell? ⟨g, 0, none⟩ = some a ∧ w.cell? ⟨g, 1, none⟩ = some b ∧ w.cell? ⟨g, 2, none⟩ = some c) ∧ w.frozen? ⟨g, 0, none⟩ = false ∧ w.frozen? ⟨g, 1, none⟩ = false ∧ w.frozen? ⟨g, 2, none⟩ = false := by
  simp [World.cell?, World.frozen?, h]
/-- a value in a cell, and a number: what is returned -/
theorem results_two {fn : Func} {p q : Tmp} (h : fn.results = #[.cell p 29, .tmp q]) {tmps : Array Value} {w : World} {g : Nat} {x0 x1 x2 u : Value} {t : TypeId}
    (hp : tmps.getD p undef = .pointer (some ⟨g, 0, none⟩)) (hq : tmps.getD q undef = u) (hg : w.heap[g]? = some (.cells #[x0, x1, x2] t (0, 0))) : (results fn tmps).run Try.prog w = .ok (.tuple #[.agg #[x0, x1, x2], u]) w := by
  have hp' : tmps[p]?.getD undef = .pointer (some ⟨g, 0, none⟩) := by simpa using hp
  have hq' : tmps[q]?.getD undef = u := by simpa using hq
  have hl := run_loadVar_row (P := Try.prog) w g t 29 #[x0, x1, x2] (0, 0) _ hg Try.underlying29 rfl (by show _ = some 3; kernel_rfl)
  simp [results, h, hp', hq', asAddr, hl]

set_option maxRecDepth 100000 in
set_option maxHeartbeats 2000000 in
theorem operate_1 (b o c : Nat) (op : ByteArray) (xk xn : Int) (xs : ByteArray) (hx1 : -9223372036854775808 ≤ xn) (hx2 : xn ≤ 9223372036854775807) (hop : op.toList = opNot ∨ op.toList = opLen ∨ op.toList = opNeg) (hxs : xs.size ≤ 1048576) (w : World) (hb : b < w.heap.size)
    (c0 : w.cell? ⟨b, o, none⟩ = some (.int .i64 xk)) (c1 : w.cell? ⟨b, o + 1, none⟩ = some (.int .i64 xn)) (c2 : w.cell? ⟨b, o + 2, none⟩ = some (.string xs)) :
    Calls Try.prog 84 #[.string op, .slice (some ⟨b, o, none⟩) 1 c] w fun e w' =>
      e = .returned (.tuple #[.agg #[.int .i64 (operateL op.toList ⟨xk, xn, xs⟩ ⟨xk, xn, xs⟩).1.k, .int .i64 (operateL op.toList ⟨xk, xn, xs⟩ ⟨xk, xn, xs⟩).1.n, .string (operateL op.toList ⟨xk, xn, xs⟩ ⟨xk, xn, xs⟩).1.s], .int .i64 (operateL op.toList ⟨xk, xn, xs⟩ ⟨xk, xn, xs⟩).2]) ∧ Below w.heap.size w w' := by
  have hx0 : (0 : Int) < 1 := by omega
  have hxl : (0 : Int) < 1 := by omega
  have hnl : ((1 : Nat) : Int) - 1 = 0 := by omega
  obtain ⟨w3, ew3⟩ : ∃ w3, w3 = ((w.alloc (.cells #[.int .i64 0, .int .i64 0, .string ⟨#[]⟩] 29)).alloc (.cells #[.int .i64 xk, .int .i64 xn, .string xs] 29)).alloc (.cells #[.int .i64 xk, .int .i64 xn, .string xs] 29) := ⟨_, rfl⟩
  have HB3 : Hid (Below w.heap.size w w3) := Lib.hid (by rw [ew3]; exact (((Below.refl _ _).alloc (Nat.le_refl _) _).alloc (by simp) _).alloc (by simp; omega) _)
  have hws : w3.heap.size = w.heap.size + 3 := by rw [ew3]; simp
  have hB : Hid (w3.heap[w.heap.size]? = some (.cells #[.int .i64 0, .int .i64 0, .string ⟨#[]⟩] 29 (0, 0))) := Lib.hid (by
    rw [ew3, Below.heap_alloc _ _ _ (by simp; omega), Below.heap_alloc _ _ _ (by simp)]
    exact heap_alloc_new w _)
  have HW3 := Lib.hid ew3
  obtain ⟨V0, hV⟩ : ∃ V0, V0 = operateL op.toList ⟨xk, xn, xs⟩ ⟨xk, xn, xs⟩ := ⟨_, rfl⟩
  have HV := Lib.hid hV
  rw [← hV]
  clear hV ew3
  rcases hop with hop | hop | hop
  · have HV2 : Hid (V0 = (truthV (xn == 0), 0)) := Lib.hid (by rw [HV.out]; unfold operateL; simp [hop, opEq, opLt, opAnd, opOr, opNot, opLen, opCat, opNeg]; try rfl)
    clear HV
    simp only [opNot] at hop
    have ht := Lib.hid (truth_any (xn == 0) w3)
    go_enter Try.func84, Try.ntmps84
    go_wp2_with fail
    rw [← HW3.out]
    refine (ht.out).mono ?_
    rintro e w4 ⟨rfl, hb4⟩
    have hs4 := hb4.size
    have HB4 : Hid (w4.heap[w.heap.size]? = some (.cells #[.int .i64 0, .int .i64 0, .string ⟨#[]⟩] 29 (0, 0))) := Lib.hid ((hb4.block _ (by omega)).trans hB.out)
    have HBW := Lib.hid (HB3.out.trans (hb4.mono (by omega)))
    obtain ⟨⟨k0, k1, k2⟩, f0, f1, f2⟩ := cell3 HB4.out
    clear hb4 ht
    go_wp2_with fail
    refine bodyPost_ret (results_two rfl rfl rfl (put3_block HB4.out)) rfl ?_
    exact ⟨by rw [HV2.out]; rfl, put3_below HBW.out (Nat.le_refl _)⟩
  · have HV2 : Hid (V0 = (numV xs.size, 0)) := Lib.hid (by rw [HV.out]; unfold operateL; simp [hop, opEq, opLt, opAnd, opOr, opNot, opLen, opCat, opNeg]; try rfl)
    clear HV
    simp only [opLen] at hop
    have ht := Lib.hid (value_num xs.size w3)
    go_enter Try.func84, Try.ntmps84
    go_wp2_with fail
    rw [← HW3.out]
    refine (ht.out).mono ?_
    rintro e w4 ⟨rfl, hw4⟩
    have hb4 : Below w3.heap.size w3 w4 := by rw [← hw4]; exact (Below.refl _ _).alloc (Nat.le_refl _) _
    clear hw4
    have hs4 := hb4.size
    have HB4 : Hid (w4.heap[w.heap.size]? = some (.cells #[.int .i64 0, .int .i64 0, .string ⟨#[]⟩] 29 (0, 0))) := Lib.hid ((hb4.block _ (by omega)).trans hB.out)
    have HBW := Lib.hid (HB3.out.trans (hb4.mono (by omega)))
    obtain ⟨⟨k0, k1, k2⟩, f0, f1, f2⟩ := cell3 HB4.out
    clear hb4 ht
    go_wp2_with fail
    refine bodyPost_ret (results_two rfl rfl rfl (put3_block HB4.out)) rfl ?_
    exact ⟨by rw [HV2.out]; rfl, put3_below HBW.out (Nat.le_refl _)⟩
  · have hr := Lib.hid (reckon_any op xn xn hx1 hx2 hx1 hx2 w3)
    have HV2 : Hid (V0 = if (reckonL op.toList xn xn).2 then (numV (reckonL op.toList xn xn).1, 0) else (zeroV, 26)) := Lib.hid (by rw [HV.out]; unfold operateL; simp [hop, opEq, opLt, opAnd, opOr, opNot, opLen, opCat, opNeg])
    generalize reckonL op.toList xn xn = rr at *
    obtain ⟨rn, rb⟩ := rr
    simp only at hr HV2
    clear HV 
    simp only [opNeg] at hop
    cases rb
    · have HV3 : Hid (V0 = (zeroV, 26)) := Lib.hid (by rw [HV2.out]; rfl)
      clear HV2
      go_enter Try.func84, Try.ntmps84
      go_wp2_with fail
      rw [← HW3.out]
      refine (hr.out).mono ?_
      rintro e w4 ⟨rfl, rfl⟩
      obtain ⟨⟨k0, k1, k2⟩, f0, f1, f2⟩ := cell3 hB.out
      go_wp2_with fail
      refine bodyPost_ret (results_two rfl rfl rfl (put3_block hB.out)) rfl ?_
      exact ⟨by rw [HV3.out]; rfl, put3_below HB3.out (Nat.le_refl _)⟩
    · have HV3 : Hid (V0 = (numV rn, 0)) := Lib.hid (by rw [HV2.out]; rfl)
      have ht := Lib.hid (value_num rn w3)
      clear HV2
      go_enter Try.func84, Try.ntmps84
      go_wp2_with fail
      rw [← HW3.out]
      refine (hr.out).mono ?_
      rintro e w5 ⟨rfl, rfl⟩
      go_wp2_with fail
      refine (ht.out).mono ?_
      rintro e w4 ⟨rfl, hw4⟩
      have hb4 : Below w3.heap.size w3 w4 := by rw [← hw4]; exact (Below.refl _ _).alloc (Nat.le_refl _) _
      clear hw4
      have hs4 := hb4.size
      have HB4 : Hid (w4.heap[w.heap.size]? = some (.cells #[.int .i64 0, .int .i64 0, .string ⟨#[]⟩] 29 (0, 0))) := Lib.hid ((hb4.block _ (by omega)).trans hB.out)
      have HBW := Lib.hid (HB3.out.trans (hb4.mono (by omega)))
      obtain ⟨⟨k0, k1, k2⟩, f0, f1, f2⟩ := cell3 HB4.out
      clear hb4 ht
      go_wp2_with fail
      refine bodyPost_ret (results_two rfl rfl rfl (put3_block HB4.out)) rfl ?_
      exact ⟨by rw [HV3.out]; rfl, put3_below HBW.out (Nat.le_refl _)⟩

set_option maxRecDepth 100000 in
set_option maxHeartbeats 2000000 in
theorem operate_2 (b o c : Nat) (op : ByteArray) (xk xn : Int) (xs : ByteArray) (yk yn : Int) (ys : ByteArray) (hx1 : -9223372036854775808 ≤ xn) (hx2 : xn ≤ 9223372036854775807) (hxs : xs.size ≤ 1048576) (hy1 : -9223372036854775808 ≤ yn) (hy2 : yn ≤ 9223372036854775807) (hys : ys.size ≤ 1048576) (w : World) (hb : b < w.heap.size)
    (c0 : w.cell? ⟨b, o, none⟩ = some (.int .i64 xk)) (c1 : w.cell? ⟨b, o + 1, none⟩ = some (.int .i64 xn)) (c2 : w.cell? ⟨b, o + 2, none⟩ = some (.string xs))
    (d0 : w.cell? ⟨b, o + 3, none⟩ = some (.int .i64 yk)) (d1 : w.cell? ⟨b, o + 3 + 1, none⟩ = some (.int .i64 yn)) (d2 : w.cell? ⟨b, o + 3 + 2, none⟩ = some (.string ys)) :
    Calls Try.prog 84 #[.string op, .slice (some ⟨b, o, none⟩) 2 c] w fun e w' =>
      e = .returned (.tuple #[.agg #[.int .i64 (operateL op.toList ⟨xk, xn, xs⟩ ⟨yk, yn, ys⟩).1.k, .int .i64 (operateL op.toList ⟨xk, xn, xs⟩ ⟨yk, yn, ys⟩).1.n, .string (operateL op.toList ⟨xk, xn, xs⟩ ⟨yk, yn, ys⟩).1.s], .int .i64 (operateL op.toList ⟨xk, xn, xs⟩ ⟨yk, yn, ys⟩).2]) ∧ Below w.heap.size w w' := by
  have hx0 : (0 : Int) < 2 := by omega
  have hxl : (1 : Int) < 2 := by omega
  have hnl : ((2 : Nat) : Int) - 1 = 1 := by omega
  obtain ⟨w3, ew3⟩ : ∃ w3, w3 = ((w.alloc (.cells #[.int .i64 0, .int .i64 0, .string ⟨#[]⟩] 29)).alloc (.cells #[.int .i64 xk, .int .i64 xn, .string xs] 29)).alloc (.cells #[.int .i64 yk, .int .i64 yn, .string ys] 29) := ⟨_, rfl⟩
  have HB3 : Hid (Below w.heap.size w w3) := Lib.hid (by rw [ew3]; exact (((Below.refl _ _).alloc (Nat.le_refl _) _).alloc (by simp) _).alloc (by simp; omega) _)
  have hws : w3.heap.size = w.heap.size + 3 := by rw [ew3]; simp
  have hB : Hid (w3.heap[w.heap.size]? = some (.cells #[.int .i64 0, .int .i64 0, .string ⟨#[]⟩] 29 (0, 0))) := Lib.hid (by
    rw [ew3, Below.heap_alloc _ _ _ (by simp; omega), Below.heap_alloc _ _ _ (by simp)]
    exact heap_alloc_new w _)
  have HW3 := Lib.hid ew3
  obtain ⟨V0, hV⟩ : ∃ V0, V0 = operateL op.toList ⟨xk, xn, xs⟩ ⟨yk, yn, ys⟩ := ⟨_, rfl⟩
  have HV := Lib.hid hV
  rw [← hV]
  clear hV ew3
  by_cases q0 : op.toList = opEq
  · have HV2 : Hid (V0 = (truthV (V.eqv ⟨xk, xn, xs⟩ ⟨yk, yn, ys⟩), 0)) := Lib.hid (by rw [HV.out]; unfold operateL; rw [if_pos q0]; try rfl)
    have hq : Hid (V.eqv ⟨xk, xn, xs⟩ ⟨yk, yn, ys⟩ = (xk == yk && (xn == yn && xs.toList == ys.toList))) := Lib.hid rfl
    generalize V.eqv ⟨xk, xn, xs⟩ ⟨yk, yn, ys⟩ = qq at *
    clear HV 
    simp only [opEq] at q0
    have ht := Lib.hid (truth_any qq w3)
    have heq : ∀ w, (binOp .eql 29 (.agg #[.int .i64 xk, .int .i64 xn, .string xs]) (.agg #[.int .i64 yk, .int .i64 yn, .string ys])).run Try.prog w = .ok (.bool qq) w := fun w => by rw [eql_value_, ← hq.out]
    clear hq
    go_enter Try.func84, Try.ntmps84
    go_wp2_with fail
    rw [← HW3.out]
    refine (ht.out).mono ?_
    rintro e w4 ⟨rfl, hb4⟩
    have hs4 := hb4.size
    have HB4 : Hid (w4.heap[w.heap.size]? = some (.cells #[.int .i64 0, .int .i64 0, .string ⟨#[]⟩] 29 (0, 0))) := Lib.hid ((hb4.block _ (by omega)).trans hB.out)
    have HBW := Lib.hid (HB3.out.trans (hb4.mono (by omega)))
    obtain ⟨⟨k0, k1, k2⟩, f0, f1, f2⟩ := cell3 HB4.out
    clear hb4 ht
    go_wp2_with fail
    refine bodyPost_ret (results_two rfl rfl rfl (put3_block HB4.out)) rfl ?_
    exact ⟨by rw [HV2.out]; rfl, put3_below HBW.out (Nat.le_refl _)⟩
  have e0 : (op.toList == [101, 113]) = false := by simpa [opEq] using q0
  by_cases q1 : op.toList = opLt
  · have HV2 : Hid (V0 = (truthV (V.lt ⟨xk, xn, xs⟩ ⟨yk, yn, ys⟩), 0)) := Lib.hid (by rw [HV.out]; unfold operateL; rw [if_neg q0]; rw [if_pos q1]; try rfl)
    have hq := Lib.hid (value_less xk xn xs yk yn ys w3)
    generalize V.lt ⟨xk, xn, xs⟩ ⟨yk, yn, ys⟩ = qq at *
    clear HV q0
    simp only [opLt] at q1
    go_enter Try.func84, Try.ntmps84
    go_wp2_with fail
    rw [← HW3.out]
    refine (hq.out).mono ?_
    rintro e w5 ⟨rfl, hb5⟩
    have hs5 := hb5.size
    have HB5 := Lib.hid hb5
    clear hb5 hq
    go_wp2_with fail
    refine (truth_any qq _).mono ?_
    rintro e w4 ⟨rfl, hb4x⟩
    have hb4 := HB5.out.trans (hb4x.mono hs5)
    have hs4 := hb4.size
    have HB4 : Hid (w4.heap[w.heap.size]? = some (.cells #[.int .i64 0, .int .i64 0, .string ⟨#[]⟩] 29 (0, 0))) := Lib.hid ((hb4.block _ (by omega)).trans hB.out)
    have HBW := Lib.hid (HB3.out.trans (hb4.mono (by omega)))
    obtain ⟨⟨k0, k1, k2⟩, f0, f1, f2⟩ := cell3 HB4.out
    clear hb4 hb4x
    go_wp2_with fail
    refine bodyPost_ret (results_two rfl rfl rfl (put3_block HB4.out)) rfl ?_
    exact ⟨by rw [HV2.out]; rfl, put3_below HBW.out (Nat.le_refl _)⟩
  have e1 : (op.toList == [108, 116]) = false := by simpa [opLt] using q1
  by_cases q2 : op.toList = opAnd
  · have HV2 : Hid (V0 = (truthV (xn != 0 && yn != 0), 0)) := Lib.hid (by rw [HV.out]; unfold operateL; rw [if_neg q0]; rw [if_neg q1]; rw [if_pos q2]; try rfl)
    clear HV q0 q1
    simp only [opAnd] at q2
    cases hz : (xn != 0)
    · have HV3 : Hid (V0 = (truthV false, 0)) := Lib.hid (by rw [HV2.out, hz]; rfl)
      have ht := Lib.hid (truth_any false w3)
      clear HV2
      go_enter Try.func84, Try.ntmps84
      go_wp2_with fail
      rw [← HW3.out]
      refine (ht.out).mono ?_
      rintro e w4 ⟨rfl, hb4⟩
      have hs4 := hb4.size
      have HB4 : Hid (w4.heap[w.heap.size]? = some (.cells #[.int .i64 0, .int .i64 0, .string ⟨#[]⟩] 29 (0, 0))) := Lib.hid ((hb4.block _ (by omega)).trans hB.out)
      have HBW := Lib.hid (HB3.out.trans (hb4.mono (by omega)))
      obtain ⟨⟨k0, k1, k2⟩, f0, f1, f2⟩ := cell3 HB4.out
      clear hb4 ht
      go_wp2_with fail
      refine bodyPost_ret (results_two rfl rfl rfl (put3_block HB4.out)) rfl ?_
      exact ⟨by rw [HV3.out]; rfl, put3_below HBW.out (Nat.le_refl _)⟩
    · have HV3 : Hid (V0 = (truthV (yn != 0), 0)) := Lib.hid (by rw [HV2.out, hz]; rfl)
      have ht := Lib.hid (truth_any (yn != 0) w3)
      clear HV2
      go_enter Try.func84, Try.ntmps84
      go_wp2_with fail
      rw [← HW3.out]
      refine (ht.out).mono ?_
      rintro e w4 ⟨rfl, hb4⟩
      have hs4 := hb4.size
      have HB4 : Hid (w4.heap[w.heap.size]? = some (.cells #[.int .i64 0, .int .i64 0, .string ⟨#[]⟩] 29 (0, 0))) := Lib.hid ((hb4.block _ (by omega)).trans hB.out)
      have HBW := Lib.hid (HB3.out.trans (hb4.mono (by omega)))
      obtain ⟨⟨k0, k1, k2⟩, f0, f1, f2⟩ := cell3 HB4.out
      clear hb4 ht
      go_wp2_with fail
      refine bodyPost_ret (results_two rfl rfl rfl (put3_block HB4.out)) rfl ?_
      exact ⟨by rw [HV3.out]; rfl, put3_below HBW.out (Nat.le_refl _)⟩
  have e2 : (op.toList == [97, 110, 100]) = false := by simpa [opAnd] using q2
  by_cases q3 : op.toList = opOr
  · have HV2 : Hid (V0 = (truthV (xn != 0 || yn != 0), 0)) := Lib.hid (by rw [HV.out]; unfold operateL; rw [if_neg q0]; rw [if_neg q1]; rw [if_neg q2]; rw [if_pos q3]; try rfl)
    clear HV q0 q1 q2
    simp only [opOr] at q3
    cases hz : (xn != 0)
    · have HV3 : Hid (V0 = (truthV (yn != 0), 0)) := Lib.hid (by rw [HV2.out, hz]; rfl)
      have ht := Lib.hid (truth_any (yn != 0) w3)
      clear HV2
      go_enter Try.func84, Try.ntmps84
      go_wp2_with fail
      rw [← HW3.out]
      refine (ht.out).mono ?_
      rintro e w4 ⟨rfl, hb4⟩
      have hs4 := hb4.size
      have HB4 : Hid (w4.heap[w.heap.size]? = some (.cells #[.int .i64 0, .int .i64 0, .string ⟨#[]⟩] 29 (0, 0))) := Lib.hid ((hb4.block _ (by omega)).trans hB.out)
      have HBW := Lib.hid (HB3.out.trans (hb4.mono (by omega)))
      obtain ⟨⟨k0, k1, k2⟩, f0, f1, f2⟩ := cell3 HB4.out
      clear hb4 ht
      go_wp2_with fail
      refine bodyPost_ret (results_two rfl rfl rfl (put3_block HB4.out)) rfl ?_
      exact ⟨by rw [HV3.out]; rfl, put3_below HBW.out (Nat.le_refl _)⟩
    · have HV3 : Hid (V0 = (truthV true, 0)) := Lib.hid (by rw [HV2.out, hz]; rfl)
      have ht := Lib.hid (truth_any true w3)
      clear HV2
      go_enter Try.func84, Try.ntmps84
      go_wp2_with fail
      rw [← HW3.out]
      refine (ht.out).mono ?_
      rintro e w4 ⟨rfl, hb4⟩
      have hs4 := hb4.size
      have HB4 : Hid (w4.heap[w.heap.size]? = some (.cells #[.int .i64 0, .int .i64 0, .string ⟨#[]⟩] 29 (0, 0))) := Lib.hid ((hb4.block _ (by omega)).trans hB.out)
      have HBW := Lib.hid (HB3.out.trans (hb4.mono (by omega)))
      obtain ⟨⟨k0, k1, k2⟩, f0, f1, f2⟩ := cell3 HB4.out
      clear hb4 ht
      go_wp2_with fail
      refine bodyPost_ret (results_two rfl rfl rfl (put3_block HB4.out)) rfl ?_
      exact ⟨by rw [HV3.out]; rfl, put3_below HBW.out (Nat.le_refl _)⟩
  have e3 : (op.toList == [111, 114]) = false := by simpa [opOr] using q3
  by_cases q4 : op.toList = opNot
  · have HV2 : Hid (V0 = (truthV (xn == 0), 0)) := Lib.hid (by rw [HV.out]; unfold operateL; rw [if_neg q0]; rw [if_neg q1]; rw [if_neg q2]; rw [if_neg q3]; rw [if_pos q4]; try rfl)
    clear HV q0 q1 q2 q3
    simp only [opNot] at q4
    have ht := Lib.hid (truth_any (xn == 0) w3)
    go_enter Try.func84, Try.ntmps84
    go_wp2_with fail
    rw [← HW3.out]
    refine (ht.out).mono ?_
    rintro e w4 ⟨rfl, hb4⟩
    have hs4 := hb4.size
    have HB4 : Hid (w4.heap[w.heap.size]? = some (.cells #[.int .i64 0, .int .i64 0, .string ⟨#[]⟩] 29 (0, 0))) := Lib.hid ((hb4.block _ (by omega)).trans hB.out)
    have HBW := Lib.hid (HB3.out.trans (hb4.mono (by omega)))
    obtain ⟨⟨k0, k1, k2⟩, f0, f1, f2⟩ := cell3 HB4.out
    clear hb4 ht
    go_wp2_with fail
    refine bodyPost_ret (results_two rfl rfl rfl (put3_block HB4.out)) rfl ?_
    exact ⟨by rw [HV2.out]; rfl, put3_below HBW.out (Nat.le_refl _)⟩
  have e4 : (op.toList == [110, 111, 116]) = false := by simpa [opNot] using q4
  by_cases q5 : op.toList = opLen
  · have HV2 : Hid (V0 = (numV xs.size, 0)) := Lib.hid (by rw [HV.out]; unfold operateL; rw [if_neg q0]; rw [if_neg q1]; rw [if_neg q2]; rw [if_neg q3]; rw [if_neg q4]; rw [if_pos q5]; try rfl)
    clear HV q0 q1 q2 q3 q4
    simp only [opLen] at q5
    have ht := Lib.hid (value_num xs.size w3)
    go_enter Try.func84, Try.ntmps84
    go_wp2_with fail
    rw [← HW3.out]
    refine (ht.out).mono ?_
    rintro e w4 ⟨rfl, hw4⟩
    have hb4 : Below w3.heap.size w3 w4 := by rw [← hw4]; exact (Below.refl _ _).alloc (Nat.le_refl _) _
    clear hw4
    have hs4 := hb4.size
    have HB4 : Hid (w4.heap[w.heap.size]? = some (.cells #[.int .i64 0, .int .i64 0, .string ⟨#[]⟩] 29 (0, 0))) := Lib.hid ((hb4.block _ (by omega)).trans hB.out)
    have HBW := Lib.hid (HB3.out.trans (hb4.mono (by omega)))
    obtain ⟨⟨k0, k1, k2⟩, f0, f1, f2⟩ := cell3 HB4.out
    clear hb4 ht
    go_wp2_with fail
    refine bodyPost_ret (results_two rfl rfl rfl (put3_block HB4.out)) rfl ?_
    exact ⟨by rw [HV2.out]; rfl, put3_below HBW.out (Nat.le_refl _)⟩
  have e5 : (op.toList == [108, 101, 110]) = false := by simpa [opLen] using q5
  by_cases q6 : op.toList = opCat
  · by_cases hbig : 40 < xs.size + ys.size
    · have HV2 : Hid (V0 = (zeroV, 3)) := Lib.hid (by rw [HV.out]; unfold operateL; rw [if_neg q0]; rw [if_neg q1]; rw [if_neg q2]; rw [if_neg q3]; rw [if_neg q4]; rw [if_neg q5]; rw [if_pos q6]; rw [if_pos hbig])
      clear HV q0 q1 q2 q3 q4 q5
      simp only [opCat] at q6
      have hbig' : (40 : Int) < (xs.size : Int) + (ys.size : Int) := by omega
      go_enter Try.func84, Try.ntmps84
      go_wp2_with fail
      rw [← HW3.out]
      go_wp2_with fail
      refine bodyPost_ret (results_two rfl rfl rfl hB.out) rfl ?_
      exact ⟨by rw [HV2.out]; rfl, HB3.out⟩
    · have HV2 : Hid (V0 = (strV (xs ++ ys), 0)) := Lib.hid (by rw [HV.out]; unfold operateL; rw [if_neg q0]; rw [if_neg q1]; rw [if_neg q2]; rw [if_neg q3]; rw [if_neg q4]; rw [if_neg q5]; rw [if_pos q6]; rw [if_neg hbig])
      clear HV q0 q1 q2 q3 q4 q5
      simp only [opCat] at q6
      have hbig' : ¬ (40 : Int) < (xs.size : Int) + (ys.size : Int) := by omega
      have ht := Lib.hid (value_str (xs ++ ys) w3)
      go_enter Try.func84, Try.ntmps84
      go_wp2_with fail
      rw [← HW3.out]
      refine (ht.out).mono ?_
      rintro e w4 ⟨rfl, hw4⟩
      have hb4 : Below w3.heap.size w3 w4 := by rw [← hw4]; exact (Below.refl _ _).alloc (Nat.le_refl _) _
      clear hw4
      have hs4 := hb4.size
      have HB4 : Hid (w4.heap[w.heap.size]? = some (.cells #[.int .i64 0, .int .i64 0, .string ⟨#[]⟩] 29 (0, 0))) := Lib.hid ((hb4.block _ (by omega)).trans hB.out)
      have HBW := Lib.hid (HB3.out.trans (hb4.mono (by omega)))
      obtain ⟨⟨k0, k1, k2⟩, f0, f1, f2⟩ := cell3 HB4.out
      clear hb4 ht
      go_wp2_with fail
      refine bodyPost_ret (results_two rfl rfl rfl (put3_block HB4.out)) rfl ?_
      exact ⟨by rw [HV2.out]; rfl, put3_below HBW.out (Nat.le_refl _)⟩
  have e6 : (op.toList == [99, 97, 116]) = false := by simpa [opCat] using q6
  have hr := Lib.hid (reckon_any op xn yn hx1 hx2 hy1 hy2 w3)
  have HV2 : Hid (V0 = if (reckonL op.toList xn yn).2 then (numV (reckonL op.toList xn yn).1, 0) else (zeroV, 26)) := Lib.hid (by rw [HV.out]; unfold operateL; rw [if_neg q0]; rw [if_neg q1]; rw [if_neg q2]; rw [if_neg q3]; rw [if_neg q4]; rw [if_neg q5]; rw [if_neg q6])
  generalize reckonL op.toList xn yn = rr at *
  obtain ⟨rn, rb⟩ := rr
  simp only at hr HV2
  clear HV q0 q1 q2 q3 q4 q5 q6
  cases rb
  · have HV3 : Hid (V0 = (zeroV, 26)) := Lib.hid (by rw [HV2.out]; rfl)
    clear HV2
    go_enter Try.func84, Try.ntmps84
    go_wp2_with fail
    rw [← HW3.out]
    refine (hr.out).mono ?_
    rintro e w4 ⟨rfl, rfl⟩
    obtain ⟨⟨k0, k1, k2⟩, f0, f1, f2⟩ := cell3 hB.out
    go_wp2_with fail
    refine bodyPost_ret (results_two rfl rfl rfl (put3_block hB.out)) rfl ?_
    exact ⟨by rw [HV3.out]; rfl, put3_below HB3.out (Nat.le_refl _)⟩
  · have HV3 : Hid (V0 = (numV rn, 0)) := Lib.hid (by rw [HV2.out]; rfl)
    have ht := Lib.hid (value_num rn w3)
    clear HV2
    go_enter Try.func84, Try.ntmps84
    go_wp2_with fail
    rw [← HW3.out]
    refine (hr.out).mono ?_
    rintro e w5 ⟨rfl, rfl⟩
    go_wp2_with fail
    refine (ht.out).mono ?_
    rintro e w4 ⟨rfl, hw4⟩
    have hb4 : Below w3.heap.size w3 w4 := by rw [← hw4]; exact (Below.refl _ _).alloc (Nat.le_refl _) _
    clear hw4
    have hs4 := hb4.size
    have HB4 : Hid (w4.heap[w.heap.size]? = some (.cells #[.int .i64 0, .int .i64 0, .string ⟨#[]⟩] 29 (0, 0))) := Lib.hid ((hb4.block _ (by omega)).trans hB.out)
    have HBW := Lib.hid (HB3.out.trans (hb4.mono (by omega)))
    obtain ⟨⟨k0, k1, k2⟩, f0, f1, f2⟩ := cell3 HB4.out
    clear hb4 ht
    go_wp2_with fail
    refine bodyPost_ret (results_two rfl rfl rfl (put3_block HB4.out)) rfl ?_
    exact ⟨by rw [HV3.out]; rfl, put3_below HBW.out (Nat.le_refl _)⟩
end Go.Proofs.Ytldleckgkgeclaa
/-
  Rows that the call itself has made: appended, stored into. No program in sight.
-/
namespace Go.Proofs.Ytldleckgkgeclaa
open Go.RowKit

theorem flat_split (l : List V) (j : Nat) (u : Value) (h : (flat l)[j]? = some u) : ∃ v : V, l[j / 3]? = some v ∧ (flat l)[j / 3 * 3 + j % 3]? = some u := by
  have hj : j < (flat l).length := (List.getElem?_eq_some_iff.1 h).1
  rw [flat_len] at hj
  exact ⟨l[j / 3]'(by omega), List.getElem?_eq_getElem (by omega), by rw [show j / 3 * 3 + j % 3 = j from by omega]; exact h⟩
theorem VAt.news {w : World} {b off : Nat} {l : List V} (h : VAt w b off l) (j : Nat) (u : Value) (hu : (flat l)[j]? = some u) : w.cell? ((⟨b, off, none⟩ : Addr).add j) = some u := by
  obtain ⟨v, hv, hf⟩ := flat_split l j u hu
  obtain ⟨f1, f2, f3⟩ := flat_get l _ v hv
  obtain ⟨c1, c2, c3⟩ := h _ v hv
  have e : (⟨b, off, none⟩ : Addr).add j = ⟨b, off + (j / 3 * 3 + j % 3), none⟩ := by
    unfold Addr.add
    split
    · subst_vars; rfl
    · rw [show j / 3 * 3 + j % 3 = j from by omega]
  rw [e]
  have : j % 3 = 0 ∨ j % 3 = 1 ∨ j % 3 = 2 := by omega
  rcases this with h3 | h3 | h3 <;> rw [h3] at hf ⊢
  · rw [Nat.add_zero] at hf ⊢; rw [f1] at hf; rw [c1]; exact hf
  · rw [f2] at hf; rw [← Nat.add_assoc, c2]; exact hf
  · rw [f3] at hf; rw [← Nat.add_assoc, c3]; exact hf

/-- a row of the call's own that is not empty -/
theorem own_full {w : World} {base : Nat} {e : TypeId} {v : Value} {l : List V} {n : Nat} (h : w.ownsRow base e 3 v n (flat l)) (hl : l.length = n) (hn : 0 < n) :
    ∃ g cap, v = .slice (some ⟨g, 0, none⟩) n cap ∧ n ≤ cap ∧ base ≤ g ∧ g < w.heap.size ∧ VAt w g 0 l ∧ ∀ j, w.frozen? ⟨g, j, none⟩ = false := by
  subst hl
  obtain ⟨_, hcase⟩ := id h
  rcases hcase with ⟨_, h0⟩ | ⟨g, cap, cur, rfl, hg, hh, hc, hcap, hsz, htake⟩
  · omega
  · refine ⟨g, cap, rfl, hc, hg, ?_, ?_, fun j => h.frozenAt j⟩
    · rcases Nat.lt_or_ge g w.heap.size with hlt | hge
      · exact hlt
      · rw [Array.getElem?_eq_none hge] at hh; cases hh
    · intro i x hx
      obtain ⟨f1, f2, f3⟩ := flat_get l i x hx
      have hi : i < l.length := (List.getElem?_eq_some_iff.1 hx).1
      rw [Nat.zero_add, h.cellAt _ (by omega), h.cellAt _ (by omega), h.cellAt _ (by omega)]
      exact ⟨f1, f2, f3⟩

/-- one value stored into a row -/
theorem VAt.set3 {w : World} {b : Nat} {l : List V} (h : VAt w b 0 l) {q : Nat} {x : V} (hx : l[q]? = some x) (v : V) :
    VAt (((w.setCell ⟨b, q * 3, none⟩ (.int .i64 v.k)).setCell ⟨b, q * 3 + 1, none⟩ (.int .i64 v.n)).setCell ⟨b, q * 3 + 2, none⟩ (.string v.s)) b 0 (l.set q v) := by
  intro i y hy
  have hq : q < l.length := (List.getElem?_eq_some_iff.1 hx).1
  obtain ⟨x1, x2, x3⟩ := h q x hx
  rw [Nat.zero_add] at x1 x2 x3 ⊢
  by_cases hi : i = q
  · subst hi
    rw [List.getElem?_set_self hq] at hy
    obtain rfl : v = y := by simpa using hy
    refine ⟨?_, ?_, ?_⟩
    · rw [World.cell?_setCell_other _ _ _ _ (by simp), World.cell?_setCell_other _ _ _ _ (by simp)]
      exact World.cell?_setCell_same _ _ _ x1
    · rw [World.cell?_setCell_other _ _ _ _ (by simp)]
      exact World.cell?_setCell_same _ _ _ ((World.cell?_setCell_other _ _ _ _ (by simp)).trans x2)
    · exact World.cell?_setCell_same _ _ _ ((World.cell?_setCell_other _ _ _ _ (by simp)).trans ((World.cell?_setCell_other _ _ _ _ (by simp)).trans x3))
  · rw [List.getElem?_set_ne (by omega)] at hy
    obtain ⟨y1, y2, y3⟩ := h i y hy
    rw [Nat.zero_add] at y1 y2 y3
    refine ⟨?_, ?_, ?_⟩
    all_goals
      rw [World.cell?_setCell_other _ _ _ _ (by simp <;> omega), World.cell?_setCell_other _ _ _ _ (by simp <;> omega), World.cell?_setCell_other _ _ _ _ (by simp <;> omega)]
      assumption
end Go.Proofs.Ytldleckgkgeclaa
