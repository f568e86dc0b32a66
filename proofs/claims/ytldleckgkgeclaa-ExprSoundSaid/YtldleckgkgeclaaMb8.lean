/-
  Package expr's contracts: eval of an operation; Eval.
-/
import Derived.Test.YtldleckgkgeclaaMb4
import Derived.Test.YtldleckgkgeclaaMb2
import Derived.Test.YtldleckgkgeclaaMb1
set_option linter.unusedVariables false
set_option linter.unusedSimpArgs false
namespace Go.Proofs.Ytldleckgkgeclaa
open Go.RowKit
theorem cnt_one {l : List UInt8} (h : cntL l = 1) : l = opNot ∨ l = opLen ∨ l = opNeg := by
  unfold cntL at h
  split at h
  · omega
  · split at h
    · rename_i h2
      rcases h2 with h2 | h2 | h2
      · exact .inr (.inr h2)
      · exact .inl h2
      · exact .inr (.inl h2)
    · split at h <;> omega
theorem cnt_two {l : List UInt8} (h : cntL l ≠ 1) (h2 : cntL l ≠ 0) (h3 : l ≠ opIf) : cntL l = 2 := by
  unfold cntL at h h2 ⊢
  repeat (first | omega | split at h | split at h2 | split)
  all_goals first | omega | (simp_all)
set_option maxRecDepth 100000 in
set_option maxHeartbeats 2000000 in
theorem eval_op (cols : List C) (r : List V) (hrf : ∀ v ∈ r, v.fine) (k : Int) (s : ByteArray) (n : Int) (l : List E) (hM : ∀ e ∈ l, EvalExp cols r e) (h1 : k ≠ 1) (h2 : k ≠ 2) (h3 : k ≠ 3) (hs : s.toList ≠ opIf) : EvalExp cols r (.mk k s n l) := by
  intro hmade htype hfine A Ac Ar c cc cr w hA hAc hAr
  obtain ⟨hl0, hlc, hmk⟩ := made_kids h1 h2 h3 hmade
  have htk := type_kids h1 h2 h3 htype
  obtain ⟨_, _, _, _, _, _, _, hfk⟩ := hfine
  have hl3 : l.length ≤ 3 := by rw [hlc]; exact cnt_le _
  obtain ⟨i0, hi, hz0, hz1, hz2⟩ := info_parts value_info
  simp only [E.val, E.k, E.s, E.n, E.kids] at hA ⊢
  have hgf : Hid (∀ v ∈ (gather (evalL cols r l)).1, v.fine) := Lib.hid (gather_fine (by
    rw [evalL_map]
    intro x hx
    obtain ⟨e, he, rfl⟩ := List.mem_map.1 hx
    exact eval_fine cols hrf e (hfk e he)))
  have hz : Hid (evalE cols r (.mk k s n l) = if (gather (evalL cols r l)).2 = 0 then operateL s.toList ((gather (evalL cols r l)).1.getD 0 zeroV) ((gather (evalL cols r l)).1.getD (l.length - 1) zeroV) else (zeroV, (gather (evalL cols r l)).2)) := Lib.hid (by
    rw [evalE, if_neg h1, if_neg h2, if_neg h3, if_neg hs])
  obtain ⟨ln, eln⟩ : ∃ ln, ln = l.length := ⟨_, rfl⟩
  have Hln := Lib.hid eln
  obtain ⟨gl, egl⟩ : ∃ gl, gl = evalL cols r l := ⟨_, rfl⟩
  have Hgl := Lib.hid egl
  rw [← eln, ← egl] at hz
  rw [← egl] at hgf
  rw [← eln] at hl0 hl3 hlc ⊢
  obtain ⟨w1, ew1⟩ : ∃ w1, w1 = (w.alloc (.cells #[.int .i64 k, .string s, .int .i64 n, .slice A ln c] 35)).alloc (.cells #[.int .i64 0, .int .i64 0, .string ⟨#[]⟩] 29) := ⟨_, rfl⟩
  have hb1 : Below w.heap.size w w1 := by rw [ew1]; exact ((Below.refl _ _).alloc (Nat.le_refl _) _).alloc (by simp) _
  have HB1 := Lib.hid hb1
  have hws : w1.heap.size = w.heap.size + 2 := by rw [ew1]; simp
  have hB : Hid (w1.heap[w.heap.size + 1]? = some (.cells #[.int .i64 0, .int .i64 0, .string ⟨#[]⟩] 29 (0, 0))) := Lib.hid (by
    rw [ew1]
    have := heap_alloc_new (w.alloc (.cells #[.int .i64 k, .string s, .int .i64 n, .slice A ln c] 35)) (.cells #[.int .i64 0, .int .i64 0, .string ⟨#[]⟩] 29)
    simpa using this)
  have HW1 := Lib.hid ew1
  have cs : Hid (w1.cell? ⟨w.heap.size, 1, none⟩ = some (.string s)) := Lib.hid (by rw [ew1]; simp)
  have HA := Lib.hid ((hA.low hb1).more hb1.size)
  have HC := Lib.hid ((hAc.below hb1).more hb1.size)
  have HR := Lib.hid ((hAr.below hb1).more hb1.size)
  have HM := Lib.hid (fun e he => hM e he (hmk e he) (htk e he) (hfk e he))
  have HLC := Lib.hid hlc
  have HS := Lib.hid hs
  have hs' : (s.toList == [105, 102]) = false := by simpa [opIf] using hs
  generalize evalE cols r (.mk k s n l) = q at *
  have h1' : (k == 1) = false := by simpa using h1
  have h2' : (k == 2) = false := by simpa using h2
  have h3' : (k == 3) = false := by simpa using h3
  obtain ⟨mc, emc⟩ : ∃ m, m = cols.length := ⟨_, rfl⟩
  obtain ⟨mr, emr⟩ : ∃ m, m = r.length := ⟨_, rfl⟩
  have HMC := Lib.hid emc
  have HMR := Lib.hid emr
  rw [← emc, ← emr]
  clear hA hAc hAr hmade htype hmk htk hfk hM ew1 h1 h2 h3 hlc hs emc emr eln egl hb1
  go_enter Try.func40, Try.ntmps40
  go_wp2_with fail
  go_loopw [13, 84] (fun v i wr => ∃ (j : Nat) (vs : List V), j ≤ ln ∧ vs.length = j ∧ i = .int .i64 j ∧ wr.ownsRow w1.heap.size 29 3 v j (flat vs) ∧ Below w1.heap.size w1 wr ∧ Hid (gather gl = (vs ++ (gather (gl.drop j)).1, (gather (gl.drop j)).2))) (fun _ i _ => ln - (intOf i).toNat)
  case atStart => exact ⟨0, [], Nat.zero_le _, rfl, rfl, World.ownsRow_nil _ _ _ _, by rw [HW1.out]; exact Below.refl _ _, Lib.hid rfl⟩
  case round =>
    obtain ⟨j, vs, hj, hvl, rfl, hown, hb, hzl⟩ := hrel
    have HO := Lib.hid hown
    have HB := Lib.hid hb
    have hsz := hb.size
    have HVL := Lib.hid hvl
    clear hown hvl
    by_cases hlt : j < ln
    · obtain ⟨x, hx⟩ : ∃ x, l[j]? = some x := ⟨_, List.getElem?_eq_getElem (by rw [← Hln.out]; exact hlt)⟩
      obtain ⟨b, o, A', c', rfl, hbl, c1, c2, c3, c4, hK⟩ := HA.out.get_ wr hb j x hx
      have hMx := HM.out x (List.mem_of_getElem? hx)
      have hgx : gl[j]? = some (evalE cols r x) := by rw [Hgl.out, evalL_map, List.getElem?_map, hx]; rfl
      have hst := Lib.hid (hzl.out.trans (by rw [gather_step hgx]))
      clear hx hzl hgx
      obtain ⟨xk, xs, xn, xl⟩ := x
      simp only [E.k, E.s, E.n, E.kids] at c1 c2 c3 c4 hK
      have HMX := Lib.hid hMx
      have HK := Lib.hid hK
      clear hMx hK
      generalize hq : evalE cols r (.mk xk xs xn xl) = tq at *
      generalize hxm : xl.length = xm at *
      have hb2 : Below w1.heap.size w1 (wr.alloc (.cells #[.int .i64 xk, .string xs, .int .i64 xn, .slice A' xm c'] 35)) := hb.alloc hsz _
      have hcl := Lib.hid (HMX.out A' Ac Ar c' cc cr (wr.alloc (.cells #[.int .i64 xk, .string xs, .int .i64 xn, .slice A' xm c'] 35)) (by
        simp only [E.kids]
        have hb2 : Below wr.heap.size wr (wr.alloc (.cells #[.int .i64 xk, .string xs, .int .i64 xn, .slice A' xm c'] 35)) := (Below.refl _ _).alloc (Nat.le_refl _) _
        exact (HK.out.low hb2).more hb2.size) ((HC.out.below hb2).more hb2.size) ((HR.out.below hb2).more hb2.size))
      simp only [E.val, E.k, E.s, E.n, E.kids, hq, hxm, ← HMC.out, ← HMR.out] at hcl
      have HB2 := Lib.hid hb2
      clear hb2 HMX HK
      obtain ⟨⟨vk, vn, vx⟩, tw⟩ := tq
      simp only at hst hcl
      go_wp2_with fail
      refine (hcl.out).mono ?_
      rintro e w2 ⟨rfl, hb3⟩
      have HB3 := Lib.hid (HB2.out.trans (hb3.mono (by simp; omega)))
      have HO3 := Lib.hid (own_below (HO.out.alloc (.cells #[.int .i64 xk, .string xs, .int .i64 xn, .slice A' xm c'] 35)) hb3)
      have hs3 := HB3.out.size
      clear hb3 HO hcl
      by_cases htw : tw = 0
      · subst htw
        have hzl2 : Hid (gather gl = ((vs ++ [⟨vk, vn, vx⟩]) ++ (gather (gl.drop (j + 1))).1, (gather (gl.drop (j + 1))).2)) := Lib.hid (by rw [hst.out, if_pos rfl, List.append_assoc]; rfl)
        clear hst
        go_wp2_with (at_builtin; refine wpList_append_own _ rfl _ _ 22 rfl w1.heap.size 29 i0 _ 3 32 Try.underlying22 hi hz0 hz1 hz2 rfl (by decide) _ _ _ rfl ((HO3.out.alloc _).alloc _) ⟨w2.heap.size + 1, 0, none⟩ 1 1 (V.cs ⟨vk, vn, vx⟩) rfl rfl ?c1 ?c2 ?c3 ?c4 ?c5 ?_)
        case c1 =>
          intro i u hu
          match i, hu with
          | 0, hu => simp [V.cs] at hu; subst hu; simp [Addr.add]
          | 1, hu => simp [V.cs] at hu; subst hu; simp [Addr.add]
          | 2, hu => simp [V.cs] at hu; subst hu; simp [Addr.add]
        case c2 => rw [← flat_one]; exact flat_ones _
        case c3 => unfold maxLen; omega
        case c4 => omega
        case c5 => simp; omega
        intro v' w3 hown' hgrow _
        have HO4 : Hid (w3.ownsRow w1.heap.size 29 3 v' (j + 1) (flat (vs ++ [⟨vk, vn, vx⟩]))) := Lib.hid (by rw [flat_append, flat_one, hws]; exact hown')
        have HB4 := Lib.hid (((HB3.out.alloc hs3 (.cells #[.int .i64 vk, .int .i64 vn, .string vx] 29)).alloc (by simp; omega) (.cells #[.int .i64 vk, .int .i64 vn, .string vx] 29)).grown hgrow (by simp; omega) (fun g hg => (HO3.out.lt g hg).1))
        have hvl2 : Hid ((vs ++ [(⟨vk, vn, vx⟩ : V)]).length = j + 1) := Lib.hid (by rw [List.length_append, HVL.out]; rfl)
        clear hown' hgrow
        go_wp2_with fail
        go_roundw
        case rel => exact ⟨j + 1, vs ++ [⟨vk, vn, vx⟩], by omega, hvl2.out, by go_num, HO4.out, HB4.out, hzl2⟩
        case measure => simp [intOf]; omega
      · have htw' : (tw != 0) = true := by simpa using htw
        have hq2 : Hid (q = (zeroV, tw)) := Lib.hid (by rw [hz.out, hst.out, if_neg htw, if_neg htw])
        clear hst hz
        have HB5 : Hid ((w2.alloc (.cells #[.int .i64 vk, .int .i64 vn, .string vx] 29)).heap[w.heap.size + 1]? = some (.cells #[.int .i64 0, .int .i64 0, .string ⟨#[]⟩] 29 (0, 0))) := Lib.hid (by
          rw [Below.heap_alloc _ _ _ (by omega)]
          exact (HB3.out.block _ (by omega)).trans hB.out)
        have HBW := Lib.hid ((HB1.out.trans (HB3.out.mono (by omega))).alloc (by omega) (.cells #[.int .i64 vk, .int .i64 vn, .string vx] 29))
        obtain ⟨⟨k0, k1, k2⟩, f0, f1, f2⟩ := cell3 HB5.out
        go_wp2_with fail
        refine bodyPost_ret (results_two rfl rfl rfl (put3_block HB5.out)) rfl ?_
        exact ⟨by rw [hq2.out]; rfl, put3_below HBW.out (Nat.le_succ _)⟩
    · obtain rfl : j = ln := by omega
      have hglen : gl.length = j := by rw [Hgl.out, evalL_map, List.length_map, Hln.out]
      have hg2 : gather gl = (vs, 0) := by rw [hzl.out, List.drop_of_length_le (by rw [hglen]; exact Nat.le_refl _), gather, List.append_nil]
      rw [hg2] at hz hgf
      simp only at hz hgf
      have hq3 : Hid (q = operateL s.toList (vs.getD 0 zeroV) (vs.getD (j - 1) zeroV)) := Lib.hid (by rw [hz.out, if_pos trivial])
      have cs2 : wr.cell? ⟨w.heap.size, 1, none⟩ = some (.string s) := (hb.cell (show w.heap.size < w1.heap.size by omega)).trans cs.out
      obtain ⟨g, cap, rfl, hcap, hg1, hgs, hV, _⟩ := own_full HO.out HVL.out hl0
      clear hz hzl hglen hg2 cs HO Hgl
      have hop : Hid (Calls Try.prog 84 #[.string s, .slice (some ⟨g, 0, none⟩) j cap] wr fun e w' =>
          e = .returned (.tuple #[.agg #[.int .i64 q.1.k, .int .i64 q.1.n, .string q.1.s], .int .i64 q.2]) ∧ Below wr.heap.size wr w') := by
        refine Lib.hid ?_
        by_cases hc1 : cntL s.toList = 1
        · have hj1 : j = 1 := by rw [HLC.out, hc1]
          subst hj1
          obtain ⟨x, rfl⟩ : ∃ x, vs = [x] := by
            match vs, HVL.out with
            | [x], _ => exact ⟨x, rfl⟩
          obtain ⟨d1, d2, d3⟩ := hV 0 x rfl
          obtain ⟨f1, f2, f3⟩ := hgf.out x (by simp)
          rw [hq3.out]
          exact operate_1 g 0 cap s x.k x.n x.s f1 f2 (cnt_one hc1) f3 wr hgs d1 d2 d3
        · have hc2 : cntL s.toList = 2 := cnt_two hc1 (by rw [← HLC.out]; omega) HS.out
          have hj1 : j = 2 := by rw [HLC.out, hc2]
          subst hj1
          obtain ⟨x, y, rfl⟩ : ∃ x y, vs = [x, y] := by
            match vs, HVL.out with
            | [x, y], _ => exact ⟨x, y, rfl⟩
          obtain ⟨d1, d2, d3⟩ := hV 0 x rfl
          obtain ⟨g1, g2, g3⟩ := hV 1 y rfl
          obtain ⟨f1, f2, f3⟩ := hgf.out x (by simp)
          obtain ⟨f4, f5, f6⟩ := hgf.out y (by simp)
          rw [hq3.out]
          exact operate_2 g 0 cap s x.k x.n x.s y.k y.n y.s f1 f2 f3 f4 f5 f6 wr hgs d1 d2 d3 g1 g2 g3
      clear hq3 hgf hV
      obtain ⟨⟨uk, un, us⟩, ue⟩ := q
      simp only at hop
      go_wp2_with fail
      refine (hop.out).mono ?_
      rintro e w6 ⟨rfl, hb6⟩
      have HB6 : Hid (w6.heap[w.heap.size + 1]? = some (.cells #[.int .i64 0, .int .i64 0, .string ⟨#[]⟩] 29 (0, 0))) := Lib.hid ((hb6.block _ (by omega)).trans ((HB.out.block _ (by omega)).trans hB.out))
      have HBX := Lib.hid (HB1.out.trans ((HB.out.trans (hb6.mono hsz)).mono (by omega)))
      obtain ⟨⟨k0, k1, k2⟩, f0, f1, f2⟩ := cell3 HB6.out
      clear hb6 hop
      go_wp2_with fail
      refine bodyPost_ret (results_two rfl rfl rfl (put3_block HB6.out)) rfl ?_
      exact ⟨rfl, put3_below HBX.out (Nat.le_succ _)⟩
theorem eval_any (cols : List C) (r : List V) (hcl : cols.length ≤ 9223372036854775807) (hrl : r.length = cols.length) (hrf : ∀ v ∈ r, v.fine) : ∀ e, EvalExp cols r e := by
  refine E.ind fun k s n l ih => ?_
  by_cases h1 : k = 1
  · exact eval_leaf cols r hcl hrl k s n l (.inl h1)
  by_cases h2 : k = 2
  · exact eval_leaf cols r hcl hrl k s n l (.inr (.inl h2))
  by_cases h3 : k = 3
  · exact eval_leaf cols r hcl hrl k s n l (.inr (.inr h3))
  by_cases hs : s.toList = opIf
  · exact eval_if cols r k s n l ih h1 h2 h3 hs
  · exact eval_op cols r hrf k s n l ih h1 h2 h3 hs
end Go.Proofs.Ytldleckgkgeclaa
/-
  Package expr's contracts: Eval.
-/
namespace Go.Proofs.Ytldleckgkgeclaa
open Go.RowKit
theorem okB_size {v : V} (h : V.okB v = true) : v.s.size ≤ 40 := by
  unfold V.okB at h
  simp only [Bool.or_eq_true, Bool.and_eq_true, beq_iff_eq, decide_eq_true_eq] at h
  rcases h with ⟨_, h⟩ | ⟨_, _, h⟩
  · have h0 : v.s.toList.length = v.s.size := by rw [ByteArray.toList_eq]; rfl
    rw [List.isEmpty_iff] at h
    rw [h] at h0
    simp at h0
    omega
  · omega
theorem zip_ok : ∀ {l : List C} {r : List V}, l.length = r.length → zipB l r = true → ∀ v ∈ r, V.okB v = true
  | [], [], _, _, v, hv => by cases hv
  | c :: l, x :: r, h, hz, v, hv => by
    rw [zipB, Bool.and_eq_true, Bool.and_eq_true] at hz
    rcases List.mem_cons.1 hv with rfl | hv
    · exact hz.1.1
    · exact zip_ok (by simpa using h) hz.2 v hv
/-- the numbers of a row are int64's -/
def rowN (r : List V) : Prop := ∀ v ∈ r, -9223372036854775808 ≤ v.n ∧ v.n ≤ 9223372036854775807
theorem fits_fine {l : List C} {r : List V} (hn : rowN r) (h : fitsB l r = true) : (∀ v ∈ r, v.fine) ∧ r.length = l.length := by
  unfold fitsB at h
  rw [Bool.and_eq_true, decide_eq_true_eq] at h
  refine ⟨fun v hv => ?_, h.1.symm⟩
  have := okB_size (zip_ok h.1 h.2 v hv)
  exact ⟨(hn v hv).1, (hn v hv).2, by omega⟩
set_option maxRecDepth 100000 in
set_option maxHeartbeats 1000000 in
theorem evalTop_any (cols : List C) (r : List V) (hcl : cols.length ≤ 9223372036854775807) (hrl : r.length ≤ 9223372036854775807) (hn : rowN r) (e : E) (hf : e.Fine) (A Ac Ar : Option Addr) (c cc cr : Nat) (w : World)
    (hA : EKids w w.heap.size A e.kids) (hAc : CRow w w.heap.size Ac cols) (hAr : VRow w w.heap.size Ar r) :
    Calls Try.prog 13 #[e.val A c, .slice Ac cols.length cc, .slice Ar r.length cr] w fun res w' =>
      res = .returned (.tuple #[.agg #[.int .i64 (evalTop cols r e).1.k, .int .i64 (evalTop cols r e).1.n, .string (evalTop cols r e).1.s], .int .i64 (evalTop cols r e).2]) ∧ Below w.heap.size w w' := by
  obtain ⟨k, s, n, l⟩ := e
  have hz : Hid (evalTop cols r (.mk k s n l) = if fitsB cols r && (madeE (.mk k s n l) && (typeE cols (.mk k s n l)).2 == 0) then evalE cols r (.mk k s n l) else (zeroV, 22)) := Lib.hid rfl
  have hT : Hid (typeTop cols (.mk k s n l) = if madeE (.mk k s n l) = true then typeE cols (.mk k s n l) else (0, 22)) := Lib.hid rfl
  simp only [E.val, E.k, E.s, E.n, E.kids] at hA ⊢
  obtain ⟨ln, eln⟩ : ∃ ln, ln = l.length := ⟨_, rfl⟩
  rw [← eln]
  obtain ⟨w1, ew1⟩ : ∃ w1, w1 = (w.alloc (.cells #[.int .i64 k, .string s, .int .i64 n, .slice A ln c] 35)).alloc (.cells #[.int .i64 0, .int .i64 0, .string ⟨#[]⟩] 29) := ⟨_, rfl⟩
  have hb1 : Below w.heap.size w w1 := by rw [ew1]; exact ((Below.refl _ _).alloc (Nat.le_refl _) _).alloc (by simp) _
  have HB1 := Lib.hid hb1
  have hws : w1.heap.size = w.heap.size + 2 := by rw [ew1]; simp
  have hB : Hid (w1.heap[w.heap.size + 1]? = some (.cells #[.int .i64 0, .int .i64 0, .string ⟨#[]⟩] 29 (0, 0))) := Lib.hid (by
    rw [ew1]
    have := heap_alloc_new (w.alloc (.cells #[.int .i64 k, .string s, .int .i64 n, .slice A ln c] 35)) (.cells #[.int .i64 0, .int .i64 0, .string ⟨#[]⟩] 29)
    simpa using this)
  have HE : Hid (w1.cell? ⟨w.heap.size, 0, none⟩ = some (.int .i64 k) ∧ w1.cell? ⟨w.heap.size, 1, none⟩ = some (.string s) ∧ w1.cell? ⟨w.heap.size, 2, none⟩ = some (.int .i64 n) ∧ w1.cell? ⟨w.heap.size, 3, none⟩ = some (.slice A ln c)) := Lib.hid (by rw [ew1]; simp)
  have HW1 := Lib.hid ew1
  have hfit := Lib.hid (fits_any Ac Ar cc cr cols r hcl hrl w1 ((hAc.below hb1).more hb1.size) ((hAr.below hb1).more hb1.size))
  have HA := Lib.hid ((hA.low hb1).more hb1.size)
  have HC := Lib.hid ((hAc.below hb1).more hb1.size)
  have HR := Lib.hid ((hAr.below hb1).more hb1.size)
  have HTY := Lib.hid (fun w2 (hb : Below w1.heap.size w1 w2) => type_any cols hcl (.mk k s n l) A Ac c cc w2 ((HA.out.low hb).more hb.size) ((HC.out.below hb).more hb.size))
  simp only [E.val, E.k, E.s, E.n, E.kids, ← eln] at HTY
  generalize hqe : evalTop cols r (.mk k s n l) = q at *
  have Hqe := Lib.hid hqe
  clear hqe
  cases hff : fitsB cols r
  · rw [hff] at hz hfit
    have hz2 : Hid (q = (zeroV, 22)) := Lib.hid (by rw [hz.out]; rfl)
    clear hz hT hA hAc hAr hf hb1 HTY ew1 hn
    generalize cols.length = mc at *
    generalize r.length = mr at *
    clear eln
    go_enter Try.func13, Try.ntmps13
    go_wp2_with fail
    rw [← HW1.out]
    refine (hfit.out).mono ?_
    rintro e w4 ⟨rfl, hb4⟩
    have hs4 := hb4.size
    have HB4 : Hid (w4.heap[w.heap.size + 1]? = some (.cells #[.int .i64 0, .int .i64 0, .string ⟨#[]⟩] 29 (0, 0))) := Lib.hid ((hb4.block _ (by omega)).trans hB.out)
    have HBW := Lib.hid (HB1.out.trans (hb4.mono (by omega)))
    obtain ⟨⟨k0, k1, k2⟩, f0, f1, f2⟩ := cell3 HB4.out
    clear hb4
    go_wp2_with fail
    refine bodyPost_ret (results_two rfl rfl rfl (put3_block HB4.out)) rfl ?_
    exact ⟨by rw [hz2.out]; rfl, put3_below HBW.out (Nat.le_succ _)⟩
  obtain ⟨hrf, hre⟩ := fits_fine hn hff
  rw [hff] at hz hfit
  by_cases hty : (typeTop cols (.mk k s n l)).2 = 0
  · have hmd : madeE (.mk k s n l) = true := by
      cases h : madeE (.mk k s n l)
      · rw [hT.out, h] at hty; simp at hty
      · rfl
    have hte : (typeE cols (.mk k s n l)).2 = 0 := by rw [hT.out, if_pos hmd] at hty; exact hty
    have hz2 : Hid (q = evalE cols r (.mk k s n l)) := Lib.hid (by rw [hz.out, hmd, hte]; rfl)
    have HEV := Lib.hid (fun w2 (hb : Below w1.heap.size w1 w2) => eval_any cols r hcl hre hrf (.mk k s n l) hmd hte hf A Ac Ar c cc cr w2 ((HA.out.low hb).more hb.size) ((HC.out.below hb).more hb.size) ((HR.out.below hb).more hb.size))
    simp only [E.val, E.k, E.s, E.n, E.kids, ← eln, ← hz2.out] at HEV
    generalize typeTop cols (.mk k s n l) = ty at *
    obtain ⟨tk, tw⟩ := ty
    simp only at hty
    subst hty
    clear hz hT hA hAc hAr hf hb1 ew1 hn hmd hte hre hrf
    generalize cols.length = mc at *
    generalize r.length = mr at *
    clear eln
    obtain ⟨⟨uk, un, us⟩, ue⟩ := q
    simp only at HEV HTY
    go_enter Try.func13, Try.ntmps13
    go_wp2_with fail
    rw [← HW1.out]
    refine (hfit.out).mono ?_
    rintro e w4 ⟨rfl, hb4⟩
    have hs4 := hb4.size
    have c0 := ((hb4.cell (p := ⟨w.heap.size, 0, none⟩) (show w.heap.size < _ by omega)).trans HE.out.1)
    have c1 := ((hb4.cell (p := ⟨w.heap.size, 1, none⟩) (show w.heap.size < _ by omega)).trans HE.out.2.1)
    have c2 := ((hb4.cell (p := ⟨w.heap.size, 2, none⟩) (show w.heap.size < _ by omega)).trans HE.out.2.2.1)
    have c3 := ((hb4.cell (p := ⟨w.heap.size, 3, none⟩) (show w.heap.size < _ by omega)).trans HE.out.2.2.2)
    have hty2 := Lib.hid (HTY.out w4 hb4)
    have HB4 := Lib.hid hb4
    clear hb4 hfit
    go_wp2_with fail
    refine (hty2.out).mono ?_
    rintro e w5 ⟨rfl, hb5⟩
    have hb6 := HB4.out.trans (hb5.mono hs4)
    have hs5 := hb6.size
    have c0 := ((hb6.cell (p := ⟨w.heap.size, 0, none⟩) (show w.heap.size < _ by omega)).trans HE.out.1)
    have c1 := ((hb6.cell (p := ⟨w.heap.size, 1, none⟩) (show w.heap.size < _ by omega)).trans HE.out.2.1)
    have c2 := ((hb6.cell (p := ⟨w.heap.size, 2, none⟩) (show w.heap.size < _ by omega)).trans HE.out.2.2.1)
    have c3 := ((hb6.cell (p := ⟨w.heap.size, 3, none⟩) (show w.heap.size < _ by omega)).trans HE.out.2.2.2)
    have hev2 := Lib.hid (HEV.out w5 hb6)
    have HB6 := Lib.hid hb6
    clear hb5 hb6 hty2
    go_wp2_with fail
    refine (hev2.out).mono ?_
    rintro e w6 ⟨rfl, hb7⟩
    have HB7 : Hid (w6.heap[w.heap.size + 1]? = some (.cells #[.int .i64 0, .int .i64 0, .string ⟨#[]⟩] 29 (0, 0))) := Lib.hid ((hb7.block _ (by omega)).trans ((HB6.out.block _ (by omega)).trans hB.out))
    have HBX := Lib.hid (HB1.out.trans ((HB6.out.trans (hb7.mono hs5)).mono (by omega)))
    obtain ⟨⟨k0, k1, k2⟩, f0, f1, f2⟩ := cell3 HB7.out
    clear hb7 hev2
    go_wp2_with fail
    refine bodyPost_ret (results_two rfl rfl rfl (put3_block HB7.out)) rfl ?_
    exact ⟨rfl, put3_below HBX.out (Nat.le_succ _)⟩
  · have hz2 : Hid (q = (zeroV, 22)) := Lib.hid (by
      rw [hz.out]
      cases h : madeE (.mk k s n l)
      · rfl
      · have h2 : (typeE cols (.mk k s n l)).2 ≠ 0 := by rw [hT.out, if_pos h] at hty; exact hty
        rw [beq_false_of_ne h2]; rfl)
    generalize typeTop cols (.mk k s n l) = ty at *
    obtain ⟨tk, tw⟩ := ty
    simp only at hty
    have htw : (tw != 0) = true := by simpa using hty
    clear hz hT hA hAc hAr hf hb1 ew1 hn hre hrf
    generalize cols.length = mc at *
    generalize r.length = mr at *
    clear eln
    simp only at HTY
    go_enter Try.func13, Try.ntmps13
    go_wp2_with fail
    rw [← HW1.out]
    refine (hfit.out).mono ?_
    rintro e w4 ⟨rfl, hb4⟩
    have hs4 := hb4.size
    have c0 := ((hb4.cell (p := ⟨w.heap.size, 0, none⟩) (show w.heap.size < _ by omega)).trans HE.out.1)
    have c1 := ((hb4.cell (p := ⟨w.heap.size, 1, none⟩) (show w.heap.size < _ by omega)).trans HE.out.2.1)
    have c2 := ((hb4.cell (p := ⟨w.heap.size, 2, none⟩) (show w.heap.size < _ by omega)).trans HE.out.2.2.1)
    have c3 := ((hb4.cell (p := ⟨w.heap.size, 3, none⟩) (show w.heap.size < _ by omega)).trans HE.out.2.2.2)
    have hty2 := Lib.hid (HTY.out w4 hb4)
    have HB4 := Lib.hid hb4
    clear hb4 hfit
    go_wp2_with fail
    refine (hty2.out).mono ?_
    rintro e w5 ⟨rfl, hb5⟩
    have hb6 := HB4.out.trans (hb5.mono hs4)
    have hs5 := hb6.size
    have HB7 : Hid (w5.heap[w.heap.size + 1]? = some (.cells #[.int .i64 0, .int .i64 0, .string ⟨#[]⟩] 29 (0, 0))) := Lib.hid ((hb6.block _ (by omega)).trans hB.out)
    have HBX := Lib.hid (HB1.out.trans (hb6.mono (by omega)))
    obtain ⟨⟨k0, k1, k2⟩, f0, f1, f2⟩ := cell3 HB7.out
    clear hb5 hb6 hty2
    go_wp2_with fail
    refine bodyPost_ret (results_two rfl rfl rfl (put3_block HB7.out)) rfl ?_
    exact ⟨by rw [hz2.out]; rfl, put3_below HBX.out (Nat.le_succ _)⟩
end Go.Proofs.Ytldleckgkgeclaa
/-
  The order's laws on values: no Go in sight.
-/
namespace Go.Proofs.Ytldleckgkgeclaa
open Go.RowKit
theorem bl_tri : ∀ x y : List UInt8, (Op.bytesLess x y = true ∧ Op.bytesLess y x = false ∧ x ≠ y) ∨ (Op.bytesLess x y = false ∧ Op.bytesLess y x = true ∧ x ≠ y) ∨ (Op.bytesLess x y = false ∧ Op.bytesLess y x = false ∧ x = y)
  | [], [] => .inr (.inr ⟨rfl, rfl, rfl⟩)
  | [], _ :: _ => .inl ⟨rfl, rfl, by simp⟩
  | _ :: _, [] => .inr (.inl ⟨rfl, rfl, by simp⟩)
  | a :: x, b :: y => by
    have h := bl_tri x y
    simp only [Op.bytesLess]
    by_cases h1 : a < b
    · left
      have h2 : ¬ b < a := by intro h; exact absurd (UInt8.lt_trans h1 h) (UInt8.lt_irrefl a)
      have h3 : ¬ b = a := by rintro rfl; exact UInt8.lt_irrefl _ h1
      simp [h1, h2, h3, Ne.symm h3]
    · by_cases h2 : b < a
      · right; left
        have h3 : ¬ a = b := by rintro rfl; exact UInt8.lt_irrefl _ h2
        simp [h1, h2, h3]
      · obtain rfl : a = b := UInt8.le_antisymm (UInt8.not_lt.1 h2) (UInt8.not_lt.1 h1)
        simp [h1]
        exact h
theorem bl_trans : ∀ x y z : List UInt8, Op.bytesLess x y = true → Op.bytesLess y z = true → Op.bytesLess x z = true
  | _, [], _, h, _ => by simp [Op.bytesLess] at h
  | _, _ :: _, [], _, h => by simp [Op.bytesLess] at h
  | [], _ :: _, _ :: _, _, _ => rfl
  | a :: x, b :: y, c :: z, h1, h2 => by
    simp only [Op.bytesLess, Bool.or_eq_true, Bool.and_eq_true, decide_eq_true_eq, beq_iff_eq] at h1 h2 ⊢
    rcases h1 with h1 | ⟨rfl, h1⟩
    · rcases h2 with h2 | ⟨rfl, h2⟩
      · exact .inl (UInt8.lt_trans h1 h2)
      · exact .inl h1
    · rcases h2 with h2 | ⟨rfl, h2⟩
      · exact .inl h2
      · exact .inr ⟨rfl, bl_trans x y z h1 h2⟩
theorem bytes_ext {a b : ByteArray} (h : a.toList = b.toList) : a = b := by
  rw [ByteArray.toList_eq, ByteArray.toList_eq] at h
  obtain ⟨⟨x⟩⟩ := a
  obtain ⟨⟨y⟩⟩ := b
  simp at h
  rw [h]
theorem ok_cases {a : V} (h : V.okB a = true) : (a.k = 1 ∧ a.s.toList = []) ∨ (a.k = 2 ∧ a.n = 0) := by
  unfold V.okB at h
  simp only [Bool.or_eq_true, Bool.and_eq_true, beq_iff_eq, List.isEmpty_iff] at h
  rcases h with ⟨h1, h2⟩ | ⟨h1, h2, _⟩
  · exact .inl ⟨h1, h2⟩
  · exact .inr ⟨h1, h2⟩
theorem V.tri {a b : V} (ha : V.okB a = true) (hb : V.okB b = true) : (V.lt a b = true ∧ V.lt b a = false ∧ a ≠ b) ∨ (V.lt a b = false ∧ V.lt b a = true ∧ a ≠ b) ∨ (V.lt a b = false ∧ V.lt b a = false ∧ a = b) := by
  obtain ⟨ak, an, az⟩ := a
  obtain ⟨bk, bn, bz⟩ := b
  unfold V.lt
  rw [ha, hb]
  unfold V.ltIn
  simp only [Bool.and_self, Bool.true_and]
  rcases ok_cases ha with ⟨h1, h2⟩ | ⟨h1, h2⟩ <;> rcases ok_cases hb with ⟨h3, h4⟩ | ⟨h3, h4⟩ <;> simp only at h1 h2 h3 h4 <;> subst h1 <;> subst h3
  · have e : az = bz := bytes_ext (h2.trans h4.symm)
    subst e
    by_cases h5 : an < bn
    · left; simp [h5]; omega
    · by_cases h6 : bn < an
      · right; left; simp [h6]; omega
      · right; right; simp; omega
  · left; simp
  · right; left; simp
  · subst h2 h4
    rcases bl_tri az.toList bz.toList with ⟨h5, h6, h7⟩ | ⟨h5, h6, h7⟩ | ⟨h5, h6, h7⟩
    · left; simp [h5, h6]; rintro rfl; exact h7 rfl
    · right; left; simp [h5, h6]; rintro rfl; exact h7 rfl
    · right; right; simp [h5, h6]; exact bytes_ext h7
theorem V.lt_trans {a b c : V} (h1 : V.lt a b = true) (h2 : V.lt b c = true) : V.lt a c = true := by
  obtain ⟨ak, an, az⟩ := a
  obtain ⟨bk, bn, bz⟩ := b
  obtain ⟨ck, cn, cz⟩ := c
  unfold V.lt at h1 h2 ⊢
  simp only [Bool.and_eq_true] at h1 h2
  obtain ⟨⟨ha, hb⟩, h1⟩ := h1
  obtain ⟨⟨_, hc⟩, h2⟩ := h2
  rw [ha, hc]
  unfold V.ltIn at h1 h2 ⊢
  simp only [Bool.and_self, Bool.true_and]
  rcases ok_cases ha with ⟨k1, _⟩ | ⟨k1, _⟩ <;> rcases ok_cases hb with ⟨k2, _⟩ | ⟨k2, _⟩ <;> rcases ok_cases hc with ⟨k3, _⟩ | ⟨k3, _⟩ <;> simp only at k1 k2 k3 <;> subst k1 <;> subst k2 <;> subst k3 <;> simp at h1 h2 ⊢
  · omega
  · exact bl_trans _ _ _ h1 h2
end Go.Proofs.Ytldleckgkgeclaa
/-
  What a typed expression gives: a right value of its kind, or a refusal; it hangs on the columns that it names. No program in sight.
-/
namespace Go.Proofs.Ytldleckgkgeclaa
open Go.RowKit

inductive E.Texts : E → Prop
  | mk (k : Int) (s : ByteArray) (n : Int) (l : List E) (h : k = 3 → s.size ≤ 40) (hk : ∀ e ∈ l, E.Texts e) : E.Texts (.mk k s n l)
def SoundV (q : V × Int) (t : Int) : Prop := (q.2 = 0 ∧ V.okB q.1 = true ∧ q.1.k = t) ∨ ((q.2 = 3 ∨ q.2 = 26) ∧ q.1 = zeroV)

theorem okB_num (n : Int) : V.okB (numV n) = true := by
  unfold numV V.okB
  simp [ByteArray.toList_eq]
theorem okB_str {s : ByteArray} (h : s.size ≤ 40) : V.okB (strV s) = true := by
  unfold strV V.okB
  simp
  omega
theorem okB_two {a : V} (h : V.okB a = true) (hk : a.k = 2) : a.n = 0 ∧ a.s.size ≤ 40 := by
  unfold V.okB at h
  simp only [hk, Bool.or_eq_true, Bool.and_eq_true, beq_iff_eq, decide_eq_true_eq] at h
  rcases h with ⟨h, _⟩ | ⟨_, h1, h2⟩
  · omega
  · exact ⟨h1, by omega⟩
theorem okB_one {a : V} (h : V.okB a = true) (hk : a.k = 1) : a.s.toList = [] := by
  rcases ok_cases h with ⟨_, h⟩ | ⟨h, _⟩
  · exact h
  · omega
theorem okB_kind {a : V} (h : V.okB a = true) : a.k = 1 ∨ a.k = 2 := by
  rcases ok_cases h with ⟨h, _⟩ | ⟨h, _⟩
  · exact .inl h
  · exact .inr h
/-- neither is less: they are the same -/
theorem eqv_less {a b : V} (ha : V.okB a = true) (hb : V.okB b = true) (hk : a.k = b.k) : (!V.lt a b && !V.lt b a) = V.eqv a b := by
  have h1 : (a.k != b.k) = false := by simp [hk]
  have h2 : (b.k != a.k) = false := by simp [hk]
  have e1 : (a.k == b.k) = true := by simp [hk]
  unfold V.lt V.eqv V.ltIn
  rw [ha, hb, h1, h2, e1]
  simp only [Bool.and_true, Bool.true_and, Bool.false_eq_true, if_false]
  rcases okB_kind ha with h | h
  · have h' : b.k = 1 := by omega
    rw [h, h', okB_one ha h, okB_one hb h']
    simp only [BEq.rfl, if_true, Bool.and_true]
    rcases Int.lt_trichotomy a.n b.n with q | q | q
    · have q1 : ¬ b.n < a.n := by omega
      have q2 : (a.n == b.n) = false := by simp; omega
      simp [q, q1, q2]
    · simp [q]
    · have q1 : ¬ a.n < b.n := by omega
      have q2 : (a.n == b.n) = false := by simp; omega
      simp [q, q1, q2]
  · have h' : b.k = 2 := by omega
    obtain ⟨n1, _⟩ := okB_two ha h
    obtain ⟨n2, _⟩ := okB_two hb h'
    rw [h, h', n1, n2]
    simp only [show ((2 : Int) == 1) = false from rfl, Bool.false_eq_true, if_false, BEq.rfl, Bool.true_and]
    rcases bl_tri a.s.toList b.s.toList with ⟨q1, q2, q3⟩ | ⟨q1, q2, q3⟩ | ⟨q1, q2, q3⟩
    · rw [q1, q2]; simp [q3]
    · rw [q1, q2]; simp [q3]
    · rw [q1, q2]; simp [q3]

theorem operate_sound (op : List UInt8) (a b : V) : SoundV (operateL op a b) (if op = opCat then 2 else 1) := by
  have ht : ∀ q : Bool, V.okB (truthV q) = true := fun q => okB_num _
  unfold operateL
  by_cases q0 : op = opEq
  · subst q0; exact .inl ⟨rfl, ht _, rfl⟩
  rw [if_neg q0]
  by_cases q1 : op = opLt
  · subst q1; exact .inl ⟨rfl, ht _, rfl⟩
  rw [if_neg q1]
  by_cases q2 : op = opAnd
  · subst q2; exact .inl ⟨rfl, ht _, rfl⟩
  rw [if_neg q2]
  by_cases q3 : op = opOr
  · subst q3; exact .inl ⟨rfl, ht _, rfl⟩
  rw [if_neg q3]
  by_cases q4 : op = opNot
  · subst q4; exact .inl ⟨rfl, ht _, rfl⟩
  rw [if_neg q4]
  by_cases q5 : op = opLen
  · subst q5; exact .inl ⟨rfl, okB_num _, rfl⟩
  rw [if_neg q5]
  by_cases q6 : op = opCat
  · rw [if_pos q6, if_pos q6]
    by_cases q : 40 < a.s.size + b.s.size
    · rw [if_pos q]; exact .inr ⟨.inl rfl, rfl⟩
    · rw [if_neg q]; exact .inl ⟨rfl, okB_str (by rw [ByteArray.size_append]; omega), rfl⟩
  · rw [if_neg q6, if_neg q6]
    by_cases q : (reckonL op a.n b.n).2 = true
    · rw [if_pos q]; exact .inl ⟨rfl, okB_num _, rfl⟩
    · rw [if_neg q]; exact .inr ⟨.inr rfl, rfl⟩
def endOk (i : Int) : Prop := i = 0 ∨ i = 3 ∨ i = 26
theorem SoundV.ends {q : V × Int} {t : Int} (h : SoundV q t) : endOk q.2 := by
  rcases h with ⟨h, _⟩ | ⟨h, _⟩
  · exact .inl h
  · exact .inr h
theorem gather_ends : ∀ {l : List (V × Int)}, (∀ x ∈ l, endOk x.2) → endOk (gather l).2
  | [], _ => .inl rfl
  | x :: l, h => by
    rw [gather]
    by_cases hx : x.2 = 0
    · rw [if_pos hx]; exact gather_ends fun y hy => h y (List.mem_cons_of_mem _ hy)
    · rw [if_neg hx]; exact h x List.mem_cons_self
theorem typeL_kinds (cols : List C) : ∀ {l : List E}, (typeL cols l).2 = 0 → (typeL cols l).1 = l.map (fun e => (typeE cols e).1)
  | [], _ => rfl
  | x :: l, h => by
    rw [typeL] at h ⊢
    by_cases hx : (typeE cols x).2 = 0
    · rw [if_pos hx] at h ⊢
      rw [typeL_kinds cols h]; rfl
    · rw [if_neg hx] at h; exact absurd h hx
theorem result_kind {op : List UInt8} {l : List Int} (h : 0 < resultL op l) (hi : op ≠ opIf) : resultL op l = if op = opCat then 2 else 1 := by
  unfold resultL at h ⊢
  by_cases q0 : op = opEq ∨ op = opLt
  · rw [if_pos q0] at h ⊢
    have : op ≠ opCat := by rcases q0 with rfl | rfl <;> decide
    rw [if_neg this]
    split at h
    · rename_i g; rw [if_pos g]
    · omega
  rw [if_neg q0] at h ⊢
  by_cases q1 : op = opCat
  · rw [if_pos q1] at h ⊢
    rw [if_pos q1]
    split at h
    · rename_i g; rw [if_pos g]
    · omega
  rw [if_neg q1] at h ⊢
  rw [if_neg q1]
  by_cases q2 : op = opLen
  · rw [if_pos q2] at h ⊢
    split at h
    · rename_i g; rw [if_pos g]
    · omega
  rw [if_neg q2] at h ⊢
  rw [if_neg hi] at h ⊢
  split at h
  · rename_i g; rw [if_pos g]
  · omega
theorem type_apply {cols : List C} {k : Int} {s : ByteArray} {n : Int} {l : List E} (h1 : k ≠ 1) (h2 : k ≠ 2) (h3 : k ≠ 3) (h : (typeE cols (.mk k s n l)).2 = 0) :
    0 < resultL s.toList (l.map fun e => (typeE cols e).1) ∧ (typeE cols (.mk k s n l)).1 = resultL s.toList (l.map fun e => (typeE cols e).1) := by
  rw [typeE, if_neg h1, if_neg h2, if_neg h3] at h ⊢
  by_cases hx : (typeL cols l).2 = 0
  · rw [if_pos hx] at h ⊢
    rw [typeL_kinds cols hx] at h ⊢
    by_cases hy : 0 < resultL s.toList (l.map fun e => (typeE cols e).1)
    · rw [if_pos hy]; exact ⟨hy, rfl⟩
    · rw [if_neg hy] at h; simp at h
  · rw [if_neg hx] at h
    exact absurd h hx
theorem zip_get : ∀ {l : List C} {r : List V}, zipB l r = true → ∀ {i : Nat} {c : C} {v : V}, l[i]? = some c → r[i]? = some v → V.okB v = true ∧ v.k = c.k
  | [], _, _, i, c, v, hc, _ => by simp at hc
  | _ :: _, [], _, i, c, v, _, hv => by simp at hv
  | x :: l, y :: r, h, i, c, v, hc, hv => by
    rw [zipB, Bool.and_eq_true, Bool.and_eq_true, beq_iff_eq] at h
    cases i with
    | zero =>
      obtain rfl : x = c := by simpa using hc
      obtain rfl : y = v := by simpa using hv
      exact h.1
    | succ i => exact zip_get h.2 (by simpa using hc) (by simpa using hv)
theorem idx_is {α : Type} (p : α → Bool) (l : List α) : ∀ k : Nat, 0 ≤ idx p l k → ∃ j x, idx p l k = ((k + j : Nat) : Int) ∧ l[j]? = some x ∧ p x = true := by
  induction l with
  | nil => intro k h; simp [idx] at h
  | cons x l ih =>
    intro k h
    rw [idx] at h ⊢
    by_cases hp : p x = true
    · rw [if_pos hp]
      exact ⟨0, x, rfl, rfl, hp⟩
    · rw [if_neg hp] at h ⊢
      obtain ⟨j, y, e, hy, hpy⟩ := ih (k + 1) h
      exact ⟨j + 1, y, by rw [e]; congr 1; omega, by simpa using hy, hpy⟩
theorem find_is {l : List C} {nm : ByteArray} (h : findB l nm = true) : ∃ (j : Nat) (x : C), findN l nm = (j : Int) ∧ l[j]? = some x ∧ x.nm.toList = nm.toList := by
  unfold findB at h
  rw [decide_eq_true_eq] at h
  obtain ⟨j, x, e, hx, hp⟩ := idx_is _ _ 0 h
  refine ⟨j, x, ?_, hx, by simpa [C.isB] using hp⟩
  unfold findN
  rw [if_pos h, e, Nat.zero_add]
theorem type_col {cols : List C} {s : ByteArray} {n : Int} {l : List E} (h : (typeE cols (.mk 1 s n l)).2 = 0) : ∃ (j : Nat) (x : C), findN cols s = (j : Int) ∧ cols[j]? = some x ∧ x.nm.toList = s.toList ∧ (typeE cols (.mk 1 s n l)).1 = x.k := by
  rw [typeE, if_pos rfl] at h ⊢
  cases hf : findB cols s
  · rw [hf] at h; simp at h
  · obtain ⟨j, x, e, hx, hp⟩ := find_is hf
    refine ⟨j, x, e, hx, hp, ?_⟩
    rw [if_pos rfl, e, Int.toNat_natCast, List.getD_eq_getElem?_getD, hx]; rfl

theorem list1 {α : Type} {l : List α} (h : l.length = 1) : ∃ a, l = [a] := by
  match l, h with
  | [a], _ => exact ⟨a, rfl⟩
theorem list2 {α : Type} {l : List α} (h : l.length = 2) : ∃ a b, l = [a, b] := by
  match l, h with
  | [a, b], _ => exact ⟨a, b, rfl⟩
/-- what has a type gives a right value of that kind, or is too long, or does not fit -/
theorem eval_sound (cols : List C) (r : List V) (hfit : fitsB cols r = true) : ∀ e : E, madeE e = true → e.Texts → (typeE cols e).2 = 0 → SoundV (evalE cols r e) (typeE cols e).1 := by
  unfold fitsB at hfit
  rw [Bool.and_eq_true, decide_eq_true_eq] at hfit
  obtain ⟨hlen, hz⟩ := hfit
  refine E.ind fun k s n l ih hm ht hty => ?_
  by_cases h1 : k = 1
  · subst h1
    obtain ⟨j, x, e, hx, _, hk⟩ := type_col hty
    have hj : j < r.length := by rw [← hlen]; exact (List.getElem?_eq_some_iff.1 hx).1
    have hv : r[j]? = some r[j] := List.getElem?_eq_getElem hj
    obtain ⟨h1, h2⟩ := zip_get hz hx hv
    rw [hk, evalE, if_pos rfl, e, Int.toNat_natCast, List.getD_eq_getElem?_getD, hv]
    exact .inl ⟨rfl, h1, h2⟩
  by_cases h2 : k = 2
  · subst h2
    rw [evalE, if_neg h1, if_pos rfl, typeE, if_neg h1, if_pos rfl]
    exact .inl ⟨rfl, okB_num _, rfl⟩
  by_cases h3 : k = 3
  · subst h3
    obtain ⟨_, _, _, _, hs, _⟩ := ht
    rw [evalE, if_neg h1, if_neg h2, if_pos rfl, typeE, if_neg h1, if_neg h2, if_pos rfl]
    exact .inl ⟨rfl, okB_str (hs rfl), rfl⟩
  obtain ⟨_, hlc, hmk⟩ := made_kids h1 h2 h3 hm
  have htk := type_kids h1 h2 h3 hty
  obtain ⟨hpos, hres⟩ := type_apply h1 h2 h3 hty
  obtain ⟨_, _, _, _, _, hxk⟩ := ht
  have hS := fun e he => ih e he (hmk e he) (hxk e he) (htk e he)
  rw [hres, evalE, if_neg h1, if_neg h2, if_neg h3]
  by_cases hs : s.toList = opIf
  · rw [if_pos hs]
    rw [hs] at hlc hpos ⊢
    obtain ⟨x0, x1, x2, rfl⟩ := list3 (show l.length = 3 from hlc)
    have hr : resultL opIf ([x0, x1, x2].map fun e => (typeE cols e).1) = if (typeE cols x0).1 = 1 ∧ (typeE cols x1).1 = (typeE cols x2).1 then (typeE cols x1).1 else 0 := rfl
    rw [hr] at hpos ⊢
    split at hpos
    · rename_i g
      rw [if_pos g]
      show SoundV (if (evalE cols r x0).2 = 0 then (if (evalE cols r x0).1.n = 0 then evalE cols r x2 else evalE cols r x1) else (zeroV, (evalE cols r x0).2)) _
      rcases hS x0 (by simp) with ⟨q, _⟩ | ⟨q, _⟩
      · rw [if_pos q]
        split
        · rw [g.2]; exact hS x2 (by simp)
        · exact hS x1 (by simp)
      · have : (evalE cols r x0).2 ≠ 0 := by omega
        rw [if_neg this]
        exact .inr ⟨q, rfl⟩
    · omega
  · rw [if_neg hs, result_kind hpos hs]
    have hg : endOk (gather (evalL cols r l)).2 := gather_ends (by
      rw [evalL_map]
      intro x hx
      obtain ⟨e, he, rfl⟩ := List.mem_map.1 hx
      exact (hS e he).ends)
    by_cases hg0 : (gather (evalL cols r l)).2 = 0
    · rw [if_pos hg0]; exact operate_sound _ _ _
    · rw [if_neg hg0]
      rcases hg with h | h
      · exact absurd h hg0
      · exact .inr ⟨h, rfl⟩

/-! ### the columns that are named -/
mutual
def usesE : E → List ByteArray
  | .mk k s _ l => (if k = 1 then [s] else []) ++ usesL l
def usesL : List E → List ByteArray
  | [] => []
  | e :: l => usesE e ++ usesL l
end
theorem usesL_mem {l : List E} {e : E} (he : e ∈ l) {x : ByteArray} (hx : x ∈ usesE e) : x ∈ usesL l := by
  induction l with
  | nil => cases he
  | cons y l ih =>
    rw [usesL]
    rcases List.mem_cons.1 he with rfl | he
    · exact List.mem_append_left _ hx
    · exact List.mem_append_right _ (ih he)
/-- it hangs on the columns that it names -/
theorem eval_agree (cols : List C) (r r' : List V) (e : E) : madeE e = true → (typeE cols e).2 = 0 →
    (∀ (i : Nat) (c : C), cols[i]? = some c → (∃ x ∈ usesE e, x.toList = c.nm.toList) → r[i]? = r'[i]?) → evalE cols r e = evalE cols r' e := by
  refine E.ind (P := fun e => madeE e = true → (typeE cols e).2 = 0 → (∀ (i : Nat) (c : C), cols[i]? = some c → (∃ x ∈ usesE e, x.toList = c.nm.toList) → r[i]? = r'[i]?) → evalE cols r e = evalE cols r' e) (fun k s n l ih hm hty hu => ?_) e
  by_cases h1 : k = 1
  · subst h1
    obtain ⟨j, x, e, hx, hp, _⟩ := type_col hty
    have := hu j x hx ⟨s, by rw [usesE, if_pos rfl]; exact List.mem_append_left _ (by simp), hp.symm⟩
    rw [evalE, evalE, if_pos rfl, if_pos rfl, e, Int.toNat_natCast, List.getD_eq_getElem?_getD, List.getD_eq_getElem?_getD, this]
  by_cases h2 : k = 2
  · subst h2
    rw [evalE, evalE, if_neg h1, if_neg h1, if_pos rfl, if_pos rfl]
  by_cases h3 : k = 3
  · subst h3
    rw [evalE, evalE, if_neg h1, if_neg h1, if_neg h2, if_neg h2, if_pos rfl, if_pos rfl]
  obtain ⟨_, _, hmk⟩ := made_kids h1 h2 h3 hm
  have htk := type_kids h1 h2 h3 hty
  have hl : evalL cols r l = evalL cols r' l := by
    rw [evalL_map, evalL_map]
    refine List.map_congr_left fun e he => ih e he (hmk e he) (htk e he) fun i c hc ⟨x, hx, hxc⟩ => hu i c hc ⟨x, ?_, hxc⟩
    rw [usesE]
    exact List.mem_append_right _ (usesL_mem he hx)
  rw [evalE, evalE, hl]
  rw [if_neg h1, if_neg h1]
end Go.Proofs.Ytldleckgkgeclaa
