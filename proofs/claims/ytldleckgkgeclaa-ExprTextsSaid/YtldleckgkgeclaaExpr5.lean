/-
  Package expr's contracts: typed, Type.
-/
import Derived.Test.YtldleckgkgeclaaExpr4
namespace Go.Proofs.Ytldleckgkgeclaa
open Go.RowKit
theorem CRow.get_ {w : World} {A : Option Addr} {l : List C} (h : CRow w w.heap.size A l) {k : Nat} {v : C} (hv : l[k]? = some v) : ∃ b o, A = some ⟨b, o, none⟩ ∧ b < w.heap.size ∧
    w.cell? ⟨b, o + k * 2, none⟩ = some (.string v.nm) ∧ w.cell? ⟨b, o + k * 2 + 1, none⟩ = some (.int .i64 v.k) := by
  rcases h with rfl | ⟨b, o, rfl, hlt, hA⟩
  · simp at hv
  · obtain ⟨h1, h2⟩ := hA k v hv
    exact ⟨b, o, rfl, hlt, h1, h2⟩
theorem idx_at {α : Type} (p : α → Bool) (l : List α) : ∀ k : Nat, 0 ≤ idx p l k → ∃ j x, idx p l k = ((k + j : Nat) : Int) ∧ l[j]? = some x := by
  induction l with
  | nil => intro k h; simp [idx] at h
  | cons x l ih =>
    intro k h
    unfold idx at h ⊢
    by_cases hp : p x = true
    · rw [if_pos hp]
      exact ⟨0, x, rfl, rfl⟩
    · rw [if_neg hp] at h ⊢
      obtain ⟨j, y, e, hy⟩ := ih (k + 1) h
      exact ⟨j + 1, y, by rw [e]; congr 1; omega, by simpa using hy⟩
theorem find_at {l : List C} {nm : ByteArray} (h : findB l nm = true) : ∃ (j : Nat) (x : C), findN l nm = (j : Int) ∧ l[j]? = some x := by
  unfold findB at h
  rw [decide_eq_true_eq] at h
  obtain ⟨j, x, e, hx⟩ := idx_at _ _ 0 h
  refine ⟨j, x, ?_, hx⟩
  unfold findN
  rw [if_pos h, e, Nat.zero_add]
theorem typeL_step (cols : List C) {l : List E} {k : Nat} {x : E} (hx : l[k]? = some x) :
    typeL cols (l.drop k) = if (typeE cols x).2 = 0 then ((typeE cols x).1 :: (typeL cols (l.drop (k + 1))).1, (typeL cols (l.drop (k + 1))).2) else ([], (typeE cols x).2) := by
  obtain ⟨h1, e1⟩ := List.getElem?_eq_some_iff.1 hx
  rw [List.drop_eq_getElem_cons h1, e1, typeL]
theorem made_kids {s : ByteArray} {k n : Int} {l : List E} (hk1 : k ≠ 1) (hk2 : k ≠ 2) (hk3 : k ≠ 3) (h : madeE (.mk k s n l) = true) : 0 < l.length ∧ l.length = cntL s.toList ∧ ∀ e ∈ l, madeE e = true := by
  rw [madeE, if_neg hk1, if_neg hk2, if_neg hk3] at h
  split at h
  · simp only [Bool.and_eq_true, decide_eq_true_eq, beq_iff_eq, madeL_all, List.all_eq_true] at h
    obtain ⟨h1, h2, h3, h4⟩ := h
    exact ⟨by omega, h2.symm, h4⟩
  · cases h
theorem cnt_le (s : List UInt8) : cntL s ≤ 3 := by unfold cntL; repeat (first | split | omega)

def TypedExp (cols : List C) (e : E) : Prop := madeE e = true → ∀ (A Ac : Option Addr) (c cc : Nat) (w : World), EKids w w.heap.size A e.kids → CRow w w.heap.size Ac cols →
  Calls Try.prog 49 #[e.val A c, .slice Ac cols.length cc] w fun r w' => r = .returned (.tuple #[.int .i64 (typeE cols e).1, .int .i64 (typeE cols e).2]) ∧ Below w.heap.size w w'

theorem int_info : (Try.prog.info? 3).map (fun i => (i.zero, i.size, i.bytes)) = some (some (.int .i64 0), 1, 8) := by kernel_rfl

set_option maxRecDepth 100000 in
set_option maxHeartbeats 1000000 in
theorem typed_step (cols : List C) (hcl : cols.length ≤ 9223372036854775807) (k : Int) (s : ByteArray) (n : Int) (l : List E) (hM : ∀ e ∈ l, TypedExp cols e) : TypedExp cols (.mk k s n l) := by
  intro hmade A Ac c cc w hA hAc
  simp only [E.val, E.k, E.s, E.n, E.kids] at hA ⊢
  have hb0 : Below w.heap.size w (w.alloc (.cells #[.int .i64 k, .string s, .int .i64 n, .slice A l.length c] 35)) := (Below.refl _ _).alloc (Nat.le_refl _) _
  have HB0 := Lib.hid hb0
  by_cases h1 : k = 1
  · subst h1
    have hz : Hid (typeE cols (.mk 1 s n l) = (if findB cols s then ((cols.getD (findN cols s).toNat ⟨⟨#[]⟩, 0⟩).k, 0) else (0, 20))) := Lib.hid (by rw [typeE, if_pos rfl])
    have hf := Lib.hid (find_any Ac cc cols hcl s _ ((hAc.below hb0).more hb0.size))
    cases hfb : findB cols s
    · rw [hfb] at hz hf
      have hz2 : Hid (typeE cols (.mk 1 s n l) = (0, 20)) := Lib.hid (by rw [hz.out]; rfl)
      generalize typeE cols (.mk 1 s n l) = q at *
      generalize findN cols s = fn at *
      generalize cols.length = m at *
      clear hz hA hAc hM hmade hb0
      generalize l.length = ln at *
      go_enter Try.func49, Try.ntmps49
      go_wp2_with fail
      refine (hf.out).mono ?_
      rintro e w' ⟨rfl, hb⟩
      have HB := Lib.hid (HB0.out.trans (hb.mono (by simp)))
      clear hb
      go_wp2_with fail
      go_ret2
      exact ⟨by rw [hz2.out]; rfl, HB.out⟩
    · obtain ⟨j, x, ej, hx⟩ := find_at hfb
      have hz2 : Hid (typeE cols (.mk 1 s n l) = (x.k, 0)) := Lib.hid (by rw [hz.out, if_pos hfb, ej, Int.toNat_natCast, List.getD_eq_getElem?_getD, hx]; rfl)
      obtain ⟨b, o, rfl, hlt, c1, c2⟩ := hAc.get_ hx
      have hj : j < cols.length := (List.getElem?_eq_some_iff.1 hx).1
      rw [hfb, ej] at hf
      generalize typeE cols (.mk 1 s n l) = q at *
      generalize cols.length = m at *
      clear hz hA hAc hM hmade hx hfb ej c1
      obtain ⟨xn, xk⟩ := x
      simp only at c2
      generalize l.length = ln at *
      go_enter Try.func49, Try.ntmps49
      go_wp2_with fail
      refine (hf.out).mono ?_
      rintro e w' ⟨rfl, hb⟩
      have c3 := ((hb0.trans (hb.mono (by simp))).cell hlt).trans c2
      have HB := Lib.hid (hb0.trans (hb.mono (by simp)))
      clear hb hb0
      go_wp2_with fail
      go_ret2
      exact ⟨by rw [hz2.out]; rfl, HB.out⟩
  have h1' : (k == 1) = false := by simpa using h1
  by_cases h2 : k = 2
  · subst h2
    have hz2 : Hid (typeE cols (.mk 2 s n l) = (1, 0)) := Lib.hid (by rw [typeE, if_neg (by decide), if_pos rfl])
    generalize typeE cols (.mk 2 s n l) = q at *
    clear hA hAc hM hmade hb0 h1 h1'
    generalize l.length = ln at *
    go_enter Try.func49, Try.ntmps49
    go_wp2_with fail
    go_ret2
    exact ⟨by rw [hz2.out]; rfl, HB0.out⟩
  have h2' : (k == 2) = false := by simpa using h2
  by_cases h3 : k = 3
  · subst h3
    have hz2 : Hid (typeE cols (.mk 3 s n l) = (2, 0)) := Lib.hid (by rw [typeE, if_neg (by decide), if_neg (by decide), if_pos rfl])
    generalize typeE cols (.mk 3 s n l) = q at *
    clear hA hAc hM hmade hb0 h1 h1' h2 h2'
    generalize l.length = ln at *
    go_enter Try.func49, Try.ntmps49
    go_wp2_with fail
    go_ret2
    exact ⟨by rw [hz2.out]; rfl, HB0.out⟩
  have h3' : (k == 3) = false := by simpa using h3
  obtain ⟨hl0, hlc, hmk⟩ := made_kids h1 h2 h3 hmade
  have hl3 : l.length ≤ 3 := by rw [hlc]; exact cnt_le _
  have hz : Hid (typeE cols (.mk k s n l) = if (typeL cols l).2 = 0 then (if 0 < resultL s.toList (typeL cols l).1 then (resultL s.toList (typeL cols l).1, 0) else (0, 22)) else (0, (typeL cols l).2)) := Lib.hid (by rw [typeE, if_neg h1, if_neg h2, if_neg h3])
  obtain ⟨i0, hi, hz0, hz1, hz2⟩ := info_parts int_info
  have HL := Lib.hid ((hA.low hb0).more hb0.size)
  have HC := Lib.hid ((hAc.below hb0).more hb0.size)
  have HM := Lib.hid hM
  have HMK := Lib.hid hmk
  have HLC := Lib.hid hlc
  obtain ⟨m, em⟩ : ∃ m, m = cols.length := ⟨_, rfl⟩
  obtain ⟨ln, eln⟩ : ∃ ln, ln = l.length := ⟨_, rfl⟩
  have Hm := Lib.hid em
  have Hln := Lib.hid eln
  generalize typeE cols (.mk k s n l) = q at *
  rw [← em]
  rw [← eln] at hl0 hl3 hb0 HB0 HL HC ⊢
  obtain ⟨w1, ew1⟩ : ∃ w1, w1 = (w.alloc (.cells #[.int .i64 k, .string s, .int .i64 n, .slice A ln c] 35)) := ⟨_, rfl⟩
  have HW1 := Lib.hid ew1
  have cs : w1.cell? ⟨w.heap.size, 1, none⟩ = some (.string s) := by rw [ew1]; simp
  have hws : w1.heap.size = w.heap.size + 1 := by rw [ew1]; simp
  rw [← ew1] at HL HC HB0
  clear hA hAc hM hmade hb0 h1 h2 h3 hmk hlc em eln ew1
  go_enter Try.func49, Try.ntmps49
  go_wp2_with fail
  go_loopw [8, 39] (fun v i wr => ∃ (j : Nat) (ts : List Int), j ≤ ln ∧ ts.length = j ∧ i = .int .i64 j ∧ wr.ownsRow w1.heap.size 3 1 v j (ints ts) ∧ Below w1.heap.size w1 wr ∧ Hid (typeL cols l = (ts ++ (typeL cols (l.drop j)).1, (typeL cols (l.drop j)).2))) (fun _ i _ => ln - (intOf i).toNat)
  case atStart => exact ⟨0, [], Nat.zero_le _, rfl, rfl, World.ownsRow_nil _ _ _ _, by rw [HW1.out]; exact Below.refl _ _, Lib.hid rfl⟩
  case round =>
    obtain ⟨j, ts, hj, htl, rfl, hown, hb, hzl⟩ := hrel
    have HO := Lib.hid hown
    have HB := Lib.hid hb
    have hs := hb.size
    have HTL := Lib.hid htl
    clear hown htl
    by_cases hlt : j < ln
    · obtain ⟨x, hx⟩ : ∃ x, l[j]? = some x := ⟨_, List.getElem?_eq_getElem (by rw [← Hln.out]; exact hlt)⟩
      obtain ⟨b, o, A', c', rfl, hbl, c1, c2, c3, c4, hK⟩ := HL.out.get_ wr hb j x hx
      have hMx := HM.out x (List.mem_of_getElem? hx) (HMK.out x (List.mem_of_getElem? hx))
      have hst := Lib.hid (hzl.out.trans (by rw [typeL_step cols hx]))
      clear hx hzl
      obtain ⟨xk, xs, xn, xl⟩ := x
      simp only [E.k, E.s, E.n, E.kids] at c1 c2 c3 c4 hK
      have HMX := Lib.hid hMx
      have HK := Lib.hid hK
      clear hMx hK
      generalize hq : typeE cols (.mk xk xs xn xl) = tq at *
      generalize hxm : xl.length = xm at *
      have hb1 : Below w1.heap.size w1 (wr.alloc (.cells #[.int .i64 xk, .string xs, .int .i64 xn, .slice A' xm c'] 35)) := hb.alloc hs _
      have hcl := Lib.hid (HMX.out A' Ac c' cc (wr.alloc (.cells #[.int .i64 xk, .string xs, .int .i64 xn, .slice A' xm c'] 35)) (by
        simp only [E.kids]
        have hb2 : Below wr.heap.size wr (wr.alloc (.cells #[.int .i64 xk, .string xs, .int .i64 xn, .slice A' xm c'] 35)) := (Below.refl _ _).alloc (Nat.le_refl _) _
        exact (HK.out.low hb2).more hb2.size) ((HC.out.below hb1).more hb1.size))
      simp only [E.val, E.k, E.s, E.n, E.kids, hq, hxm, ← Hm.out] at hcl
      have HB1 := Lib.hid hb1
      clear hb1 HMX HK
      obtain ⟨tk, tw⟩ := tq
      simp only at hst hcl
      go_wp2_with fail
      refine (hcl.out).mono ?_
      rintro e w2 ⟨rfl, hb3⟩
      have HB3 := Lib.hid (HB1.out.trans (hb3.mono (by simp; omega)))
      have HO3 := Lib.hid (own_below (HO.out.alloc (.cells #[.int .i64 xk, .string xs, .int .i64 xn, .slice A' xm c'] 35)) hb3)
      have hs3 := HB3.out.size
      clear hb3 HO hcl
      by_cases htw : tw = 0
      · subst htw
        have hzl2 : Hid (typeL cols l = ((ts ++ [tk]) ++ (typeL cols (l.drop (j + 1))).1, (typeL cols (l.drop (j + 1))).2)) := Lib.hid (by rw [hst.out, if_pos rfl, List.append_assoc]; rfl)
        clear hst
        go_wp2_with (at_builtin; refine wpList_append_own _ rfl _ _ 132 rfl w1.heap.size 3 i0 _ 1 8 Try.underlying132 hi hz0 hz1 hz2 rfl (by decide) _ _ _ rfl (HO3.out.alloc _) ⟨w2.heap.size, 0, none⟩ 1 1 [.int .i64 tk] rfl rfl ?c1 ?c2 ?c3 ?c4 ?c5 ?_)
        case c1 =>
          intro i u hu
          match i, hu with
          | 0, hu => simp at hu; subst hu; simp [Addr.add]
        case c2 => intro u hu; simp at hu; subst hu; rfl
        case c3 => unfold maxLen; omega
        case c4 => omega
        case c5 => simp; omega
        intro v' w3 hown' hgrow _
        have HO4 : Hid (w3.ownsRow w1.heap.size 3 1 v' (j + 1) (ints (ts ++ [tk]))) := Lib.hid (by unfold ints at hown' ⊢; rw [List.map_append, hws]; exact hown')
        have HB4 := Lib.hid ((HB3.out.alloc hs3 (.cells #[.int .i64 tk] 3)).grown hgrow (by simp; omega) (fun g hg => (HO3.out.lt g hg).1))
        have htl2 : Hid ((ts ++ [tk]).length = j + 1) := Lib.hid (by rw [List.length_append, HTL.out]; rfl)
        clear hown' hgrow
        go_wp2_with fail
        go_roundw
        case rel => exact ⟨j + 1, ts ++ [tk], by omega, htl2.out, by go_num, HO4.out, HB4.out, hzl2⟩
        case measure => simp [intOf]; omega
      · have htw' : (tw != 0) = true := by simpa using htw
        have hq2 : Hid (q = (0, tw)) := Lib.hid (by rw [hz.out, hst.out, if_neg htw, if_neg htw])
        clear hst hz
        go_wp2_with fail
        go_ret2
        exact ⟨by rw [hq2.out]; rfl, (HB0.out.trans (HB3.out.mono (by omega)))⟩
    · obtain rfl : j = ln := by omega
      have hzl2 : Hid (typeL cols l = (ts, 0)) := Lib.hid (by rw [hzl.out, List.drop_of_length_le (by rw [← Hln.out]; exact Nat.le_refl _), typeL, List.append_nil])
      obtain ⟨A2, c2, rfl, hc2, hI⟩ := own_ints (l := ts) (by rw [HTL.out]; exact HO.out)
      have hr := Lib.hid (result_any A2 c2 ts s (by rw [HTL.out]; exact Hln.out.trans HLC.out) hc2 (by rw [HTL.out]; exact hl0) wr hI)
      rw [HTL.out] at hr
      have cs2 : wr.cell? ⟨w.heap.size, 1, none⟩ = some (.string s) := (hb.cell (show w.heap.size < w1.heap.size by omega)).trans cs
      have hq3 : Hid (q = if 0 < resultL s.toList ts then (resultL s.toList ts, 0) else (0, 22)) := Lib.hid (by rw [hz.out, hzl2.out, if_pos rfl])
      rw [HTL.out]
      clear hz hzl hzl2 hI cs HO
      generalize resultL s.toList ts = rs at *
      by_cases hrs : 0 < rs
      · have hq2 : Hid (q = (rs, 0)) := Lib.hid (by rw [hq3.out, if_pos hrs])
        clear hq3
        go_wp2_with fail
        refine (hr.out).mono ?_
        rintro e w2 ⟨rfl, hb3⟩
        have HB3 := Lib.hid (HB.out.trans (hb3.mono hs))
        clear hb3 hr
        go_wp2_with fail
        go_ret2
        exact ⟨by rw [hq2.out]; rfl, (HB0.out.trans (HB3.out.mono (by omega)))⟩
      · have hq2 : Hid (q = (0, 22)) := Lib.hid (by rw [hq3.out, if_neg hrs])
        clear hq3
        go_wp2_with fail
        refine (hr.out).mono ?_
        rintro e w2 ⟨rfl, hb3⟩
        have HB3 := Lib.hid (HB.out.trans (hb3.mono hs))
        clear hb3 hr
        go_wp2_with fail
        go_ret2
        exact ⟨by rw [hq2.out]; rfl, (HB0.out.trans (HB3.out.mono (by omega)))⟩
theorem typed_any (cols : List C) (hcl : cols.length ≤ 9223372036854775807) : ∀ e, TypedExp cols e := E.ind (typed_step cols hcl)

/-- Type's answer -/
def typeTop (cols : List C) (e : E) : Int × Int := if madeE e = true then typeE cols e else (0, 22)
set_option maxRecDepth 100000 in
theorem type_any (cols : List C) (hcl : cols.length ≤ 9223372036854775807) (e : E) (A Ac : Option Addr) (c cc : Nat) (w : World) (hA : EKids w w.heap.size A e.kids) (hAc : CRow w w.heap.size Ac cols) :
    Calls Try.prog 24 #[e.val A c, .slice Ac cols.length cc] w fun r w' => r = .returned (.tuple #[.int .i64 (typeTop cols e).1, .int .i64 (typeTop cols e).2]) ∧ Below w.heap.size w w' := by
  obtain ⟨k, s, n, l⟩ := e
  simp only [E.val, E.k, E.s, E.n, E.kids] at hA ⊢
  have hb0 : Below w.heap.size w (w.alloc (.cells #[.int .i64 k, .string s, .int .i64 n, .slice A l.length c] 35)) := (Below.refl _ _).alloc (Nat.le_refl _) _
  have hm := Lib.hid (made_any (.mk k s n l) A c _ ((hA.low hb0).more hb0.size))
  simp only [E.val, E.k, E.s, E.n, E.kids] at hm
  have HB0 := Lib.hid hb0
  have hq : Hid (typeTop cols (.mk k s n l) = if madeE (.mk k s n l) = true then typeE cols (.mk k s n l) else (0, 22)) := Lib.hid rfl
  generalize typeTop cols (.mk k s n l) = q at *
  cases hmd : madeE (.mk k s n l)
  · rw [hmd] at hq hm
    have hq2 : Hid (q = (0, 22)) := Lib.hid (by rw [hq.out, if_neg (by decide)])
    clear hq hA hAc
    generalize l.length = ln at *
    generalize cols.length = m at *
    go_enter Try.func24, Try.ntmps24
    go_wp2_with fail
    refine (hm.out).mono ?_
    rintro e w' ⟨rfl, hb⟩
    have HB := Lib.hid (HB0.out.trans (hb.mono (by simp)))
    clear hb
    go_wp2_with fail
    go_ret2
    exact ⟨by rw [hq2.out]; rfl, HB.out⟩
  · rw [hmd] at hq hm
    have hq2 : Hid (q = typeE cols (.mk k s n l)) := Lib.hid (by rw [hq.out, if_pos rfl])
    have hty : Hid (∀ w1, Below w.heap.size w w1 → Calls Try.prog 49 #[.agg #[.int .i64 k, .string s, .int .i64 n, .slice A l.length c], .slice Ac cols.length cc] w1 fun r w' => r = .returned (.tuple #[.int .i64 q.1, .int .i64 q.2]) ∧ Below w1.heap.size w1 w') := Lib.hid (fun w1 hb1 => by
      rw [hq2.out]
      exact typed_any cols hcl (.mk k s n l) hmd A Ac c cc w1 ((hA.low hb1).more hb1.size) ((hAc.below hb1).more hb1.size))
    clear hq hA hAc hmd
    generalize l.length = ln at *
    generalize cols.length = m at *
    go_enter Try.func24, Try.ntmps24
    go_wp2_with fail
    refine (hm.out).mono ?_
    rintro e w' ⟨rfl, hb⟩
    have hb2 := hb0.trans (hb.mono (by simp))
    have HB := Lib.hid hb2
    have hty2 := Lib.hid (hty.out w' hb2)
    have c0 : w'.cell? ⟨w.heap.size, 0, none⟩ = some (.int .i64 k) := (hb.cell (by simp)).trans (by simp)
    have c1 : w'.cell? ⟨w.heap.size, 1, none⟩ = some (.string s) := (hb.cell (by simp)).trans (by simp)
    have c2 : w'.cell? ⟨w.heap.size, 2, none⟩ = some (.int .i64 n) := (hb.cell (by simp)).trans (by simp)
    have c3 : w'.cell? ⟨w.heap.size, 3, none⟩ = some (.slice A ln c) := (hb.cell (by simp)).trans (by simp)
    have hs2 := hb.size
    clear hb hb2 hty hm hb0
    go_wp2_with fail
    refine (hty2.out).mono ?_
    rintro e w3 ⟨rfl, hb⟩
    have HB3 := Lib.hid (HB.out.trans (hb.mono (by simp at hs2; omega)))
    clear hb
    go_wp2_with fail
    go_ret2
    exact ⟨rfl, HB3.out⟩
end Go.Proofs.Ytldleckgkgeclaa
