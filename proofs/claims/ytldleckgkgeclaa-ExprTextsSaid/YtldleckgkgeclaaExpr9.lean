/-
  Package expr's contracts: eval of an operation; Eval.
-/
import Derived.Test.YtldleckgkgeclaaExpr8
namespace Go.Proofs.Ytldleckgkgeclaa
open Go.RowKit
theorem cnt_one {l : List UInt8} (h : cntL l = 1) : l = opNot ∨ l = opLen ∨ l = opNeg := by
  unfold cntL at h
  split at h
  · omega
  · split at h
    · rename_i h2
      rcases h2 with h2 | h2 | h2
      · exact .inr (.inr h2)
      · exact .inl h2
      · exact .inr (.inl h2)
    · split at h <;> omega
theorem cnt_two {l : List UInt8} (h : cntL l ≠ 1) (h2 : cntL l ≠ 0) (h3 : l ≠ opIf) : cntL l = 2 := by
  unfold cntL at h h2 ⊢
  repeat (first | omega | split at h | split at h2 | split)
  all_goals first | omega | (simp_all)
set_option maxRecDepth 100000 in
set_option maxHeartbeats 2000000 in
theorem eval_op (cols : List C) (r : List V) (hrf : ∀ v ∈ r, v.fine) (k : Int) (s : ByteArray) (n : Int) (l : List E) (hM : ∀ e ∈ l, EvalExp cols r e) (h1 : k ≠ 1) (h2 : k ≠ 2) (h3 : k ≠ 3) (hs : s.toList ≠ opIf) : EvalExp cols r (.mk k s n l) := by
  intro hmade htype hfine A Ac Ar c cc cr w hA hAc hAr
  obtain ⟨hl0, hlc, hmk⟩ := made_kids h1 h2 h3 hmade
  have htk := type_kids h1 h2 h3 htype
  obtain ⟨_, _, _, _, _, _, _, hfk⟩ := hfine
  have hl3 : l.length ≤ 3 := by rw [hlc]; exact cnt_le _
  obtain ⟨i0, hi, hz0, hz1, hz2⟩ := info_parts value_info
  simp only [E.val, E.k, E.s, E.n, E.kids] at hA ⊢
  have hgf : Hid (∀ v ∈ (gather (evalL cols r l)).1, v.fine) := Lib.hid (gather_fine (by
    rw [evalL_map]
    intro x hx
    obtain ⟨e, he, rfl⟩ := List.mem_map.1 hx
    exact eval_fine cols hrf e (hfk e he)))
  have hz : Hid (evalE cols r (.mk k s n l) = if (gather (evalL cols r l)).2 = 0 then operateL s.toList ((gather (evalL cols r l)).1.getD 0 zeroV) ((gather (evalL cols r l)).1.getD (l.length - 1) zeroV) else (zeroV, (gather (evalL cols r l)).2)) := Lib.hid (by
    rw [evalE, if_neg h1, if_neg h2, if_neg h3, if_neg hs])
  obtain ⟨ln, eln⟩ : ∃ ln, ln = l.length := ⟨_, rfl⟩
  have Hln := Lib.hid eln
  obtain ⟨gl, egl⟩ : ∃ gl, gl = evalL cols r l := ⟨_, rfl⟩
  have Hgl := Lib.hid egl
  rw [← eln, ← egl] at hz
  rw [← egl] at hgf
  rw [← eln] at hl0 hl3 hlc ⊢
  obtain ⟨w1, ew1⟩ : ∃ w1, w1 = (w.alloc (.cells #[.int .i64 k, .string s, .int .i64 n, .slice A ln c] 35)).alloc (.cells #[.int .i64 0, .int .i64 0, .string ⟨#[]⟩] 29) := ⟨_, rfl⟩
  have hb1 : Below w.heap.size w w1 := by rw [ew1]; exact ((Below.refl _ _).alloc (Nat.le_refl _) _).alloc (by simp) _
  have HB1 := Lib.hid hb1
  have hws : w1.heap.size = w.heap.size + 2 := by rw [ew1]; simp
  have hB : Hid (w1.heap[w.heap.size + 1]? = some (.cells #[.int .i64 0, .int .i64 0, .string ⟨#[]⟩] 29 (0, 0))) := Lib.hid (by
    rw [ew1]
    have := heap_alloc_new (w.alloc (.cells #[.int .i64 k, .string s, .int .i64 n, .slice A ln c] 35)) (.cells #[.int .i64 0, .int .i64 0, .string ⟨#[]⟩] 29)
    simpa using this)
  have HW1 := Lib.hid ew1
  have cs : Hid (w1.cell? ⟨w.heap.size, 1, none⟩ = some (.string s)) := Lib.hid (by rw [ew1]; simp)
  have HA := Lib.hid ((hA.low hb1).more hb1.size)
  have HC := Lib.hid ((hAc.below hb1).more hb1.size)
  have HR := Lib.hid ((hAr.below hb1).more hb1.size)
  have HM := Lib.hid (fun e he => hM e he (hmk e he) (htk e he) (hfk e he))
  have HLC := Lib.hid hlc
  have HS := Lib.hid hs
  have hs' : (s.toList == [105, 102]) = false := by simpa [opIf] using hs
  generalize evalE cols r (.mk k s n l) = q at *
  have h1' : (k == 1) = false := by simpa using h1
  have h2' : (k == 2) = false := by simpa using h2
  have h3' : (k == 3) = false := by simpa using h3
  obtain ⟨mc, emc⟩ : ∃ m, m = cols.length := ⟨_, rfl⟩
  obtain ⟨mr, emr⟩ : ∃ m, m = r.length := ⟨_, rfl⟩
  have HMC := Lib.hid emc
  have HMR := Lib.hid emr
  rw [← emc, ← emr]
  clear hA hAc hAr hmade htype hmk htk hfk hM ew1 h1 h2 h3 hlc hs emc emr eln egl hb1
  go_enter Try.func40, Try.ntmps40
  go_wp2_with fail
  go_loopw [13, 84] (fun v i wr => ∃ (j : Nat) (vs : List V), j ≤ ln ∧ vs.length = j ∧ i = .int .i64 j ∧ wr.ownsRow w1.heap.size 29 3 v j (flat vs) ∧ Below w1.heap.size w1 wr ∧ Hid (gather gl = (vs ++ (gather (gl.drop j)).1, (gather (gl.drop j)).2))) (fun _ i _ => ln - (intOf i).toNat)
  case atStart => exact ⟨0, [], Nat.zero_le _, rfl, rfl, World.ownsRow_nil _ _ _ _, by rw [HW1.out]; exact Below.refl _ _, Lib.hid rfl⟩
  case round =>
    obtain ⟨j, vs, hj, hvl, rfl, hown, hb, hzl⟩ := hrel
    have HO := Lib.hid hown
    have HB := Lib.hid hb
    have hsz := hb.size
    have HVL := Lib.hid hvl
    clear hown hvl
    by_cases hlt : j < ln
    · obtain ⟨x, hx⟩ : ∃ x, l[j]? = some x := ⟨_, List.getElem?_eq_getElem (by rw [← Hln.out]; exact hlt)⟩
      obtain ⟨b, o, A', c', rfl, hbl, c1, c2, c3, c4, hK⟩ := HA.out.get_ wr hb j x hx
      have hMx := HM.out x (List.mem_of_getElem? hx)
      have hgx : gl[j]? = some (evalE cols r x) := by rw [Hgl.out, evalL_map, List.getElem?_map, hx]; rfl
      have hst := Lib.hid (hzl.out.trans (by rw [gather_step hgx]))
      clear hx hzl hgx
      obtain ⟨xk, xs, xn, xl⟩ := x
      simp only [E.k, E.s, E.n, E.kids] at c1 c2 c3 c4 hK
      have HMX := Lib.hid hMx
      have HK := Lib.hid hK
      clear hMx hK
      generalize hq : evalE cols r (.mk xk xs xn xl) = tq at *
      generalize hxm : xl.length = xm at *
      have hb2 : Below w1.heap.size w1 (wr.alloc (.cells #[.int .i64 xk, .string xs, .int .i64 xn, .slice A' xm c'] 35)) := hb.alloc hsz _
      have hcl := Lib.hid (HMX.out A' Ac Ar c' cc cr (wr.alloc (.cells #[.int .i64 xk, .string xs, .int .i64 xn, .slice A' xm c'] 35)) (by
        simp only [E.kids]
        have hb2 : Below wr.heap.size wr (wr.alloc (.cells #[.int .i64 xk, .string xs, .int .i64 xn, .slice A' xm c'] 35)) := (Below.refl _ _).alloc (Nat.le_refl _) _
        exact (HK.out.low hb2).more hb2.size) ((HC.out.below hb2).more hb2.size) ((HR.out.below hb2).more hb2.size))
      simp only [E.val, E.k, E.s, E.n, E.kids, hq, hxm, ← HMC.out, ← HMR.out] at hcl
      have HB2 := Lib.hid hb2
      clear hb2 HMX HK
      obtain ⟨⟨vk, vn, vx⟩, tw⟩ := tq
      simp only at hst hcl
      go_wp2_with fail
      refine (hcl.out).mono ?_
      rintro e w2 ⟨rfl, hb3⟩
      have HB3 := Lib.hid (HB2.out.trans (hb3.mono (by simp; omega)))
      have HO3 := Lib.hid (own_below (HO.out.alloc (.cells #[.int .i64 xk, .string xs, .int .i64 xn, .slice A' xm c'] 35)) hb3)
      have hs3 := HB3.out.size
      clear hb3 HO hcl
      by_cases htw : tw = 0
      · subst htw
        have hzl2 : Hid (gather gl = ((vs ++ [⟨vk, vn, vx⟩]) ++ (gather (gl.drop (j + 1))).1, (gather (gl.drop (j + 1))).2)) := Lib.hid (by rw [hst.out, if_pos rfl, List.append_assoc]; rfl)
        clear hst
        go_wp2_with (at_builtin; refine wpList_append_own _ rfl _ _ 22 rfl w1.heap.size 29 i0 _ 3 32 Try.underlying22 hi hz0 hz1 hz2 rfl (by decide) _ _ _ rfl ((HO3.out.alloc _).alloc _) ⟨w2.heap.size + 1, 0, none⟩ 1 1 (V.cs ⟨vk, vn, vx⟩) rfl rfl ?c1 ?c2 ?c3 ?c4 ?c5 ?_)
        case c1 =>
          intro i u hu
          match i, hu with
          | 0, hu => simp [V.cs] at hu; subst hu; simp [Addr.add]
          | 1, hu => simp [V.cs] at hu; subst hu; simp [Addr.add]
          | 2, hu => simp [V.cs] at hu; subst hu; simp [Addr.add]
        case c2 => rw [← flat_one]; exact flat_ones _
        case c3 => unfold maxLen; omega
        case c4 => omega
        case c5 => simp; omega
        intro v' w3 hown' hgrow _
        have HO4 : Hid (w3.ownsRow w1.heap.size 29 3 v' (j + 1) (flat (vs ++ [⟨vk, vn, vx⟩]))) := Lib.hid (by rw [flat_append, flat_one, hws]; exact hown')
        have HB4 := Lib.hid (((HB3.out.alloc hs3 (.cells #[.int .i64 vk, .int .i64 vn, .string vx] 29)).alloc (by simp; omega) (.cells #[.int .i64 vk, .int .i64 vn, .string vx] 29)).grown hgrow (by simp; omega) (fun g hg => (HO3.out.lt g hg).1))
        have hvl2 : Hid ((vs ++ [(⟨vk, vn, vx⟩ : V)]).length = j + 1) := Lib.hid (by rw [List.length_append, HVL.out]; rfl)
        clear hown' hgrow
        go_wp2_with fail
        go_roundw
        case rel => exact ⟨j + 1, vs ++ [⟨vk, vn, vx⟩], by omega, hvl2.out, by go_num, HO4.out, HB4.out, hzl2⟩
        case measure => simp [intOf]; omega
      · have htw' : (tw != 0) = true := by simpa using htw
        have hq2 : Hid (q = (zeroV, tw)) := Lib.hid (by rw [hz.out, hst.out, if_neg htw, if_neg htw])
        clear hst hz
        have HB5 : Hid ((w2.alloc (.cells #[.int .i64 vk, .int .i64 vn, .string vx] 29)).heap[w.heap.size + 1]? = some (.cells #[.int .i64 0, .int .i64 0, .string ⟨#[]⟩] 29 (0, 0))) := Lib.hid (by
          rw [Below.heap_alloc _ _ _ (by omega)]
          exact (HB3.out.block _ (by omega)).trans hB.out)
        have HBW := Lib.hid ((HB1.out.trans (HB3.out.mono (by omega))).alloc (by omega) (.cells #[.int .i64 vk, .int .i64 vn, .string vx] 29))
        obtain ⟨⟨k0, k1, k2⟩, f0, f1, f2⟩ := cell3 HB5.out
        go_wp2_with fail
        refine bodyPost_ret (results_two rfl rfl rfl (put3_block HB5.out)) rfl ?_
        exact ⟨by rw [hq2.out]; rfl, put3_below HBW.out (Nat.le_succ _)⟩
    · obtain rfl : j = ln := by omega
      have hglen : gl.length = j := by rw [Hgl.out, evalL_map, List.length_map, Hln.out]
      have hg2 : gather gl = (vs, 0) := by rw [hzl.out, List.drop_of_length_le (by rw [hglen]; exact Nat.le_refl _), gather, List.append_nil]
      rw [hg2] at hz hgf
      simp only at hz hgf
      have hq3 : Hid (q = operateL s.toList (vs.getD 0 zeroV) (vs.getD (j - 1) zeroV)) := Lib.hid (by rw [hz.out, if_pos trivial])
      have cs2 : wr.cell? ⟨w.heap.size, 1, none⟩ = some (.string s) := (hb.cell (show w.heap.size < w1.heap.size by omega)).trans cs.out
      obtain ⟨g, cap, rfl, hcap, hg1, hgs, hV, _⟩ := own_full HO.out HVL.out hl0
      clear hz hzl hglen hg2 cs HO Hgl
      have hop : Hid (Calls Try.prog 84 #[.string s, .slice (some ⟨g, 0, none⟩) j cap] wr fun e w' =>
          e = .returned (.tuple #[.agg #[.int .i64 q.1.k, .int .i64 q.1.n, .string q.1.s], .int .i64 q.2]) ∧ Below wr.heap.size wr w') := by
        refine Lib.hid ?_
        by_cases hc1 : cntL s.toList = 1
        · have hj1 : j = 1 := by rw [HLC.out, hc1]
          subst hj1
          obtain ⟨x, rfl⟩ : ∃ x, vs = [x] := by
            match vs, HVL.out with
            | [x], _ => exact ⟨x, rfl⟩
          obtain ⟨d1, d2, d3⟩ := hV 0 x rfl
          obtain ⟨f1, f2, f3⟩ := hgf.out x (by simp)
          rw [hq3.out]
          exact operate_1 g 0 cap s x.k x.n x.s f1 f2 (cnt_one hc1) f3 wr hgs d1 d2 d3
        · have hc2 : cntL s.toList = 2 := cnt_two hc1 (by rw [← HLC.out]; omega) HS.out
          have hj1 : j = 2 := by rw [HLC.out, hc2]
          subst hj1
          obtain ⟨x, y, rfl⟩ : ∃ x y, vs = [x, y] := by
            match vs, HVL.out with
            | [x, y], _ => exact ⟨x, y, rfl⟩
          obtain ⟨d1, d2, d3⟩ := hV 0 x rfl
          obtain ⟨g1, g2, g3⟩ := hV 1 y rfl
          obtain ⟨f1, f2, f3⟩ := hgf.out x (by simp)
          obtain ⟨f4, f5, f6⟩ := hgf.out y (by simp)
          rw [hq3.out]
          exact operate_2 g 0 cap s x.k x.n x.s y.k y.n y.s f1 f2 f3 f4 f5 f6 wr hgs d1 d2 d3 g1 g2 g3
      clear hq3 hgf hV
      obtain ⟨⟨uk, un, us⟩, ue⟩ := q
      simp only at hop
      go_wp2_with fail
      refine (hop.out).mono ?_
      rintro e w6 ⟨rfl, hb6⟩
      have HB6 : Hid (w6.heap[w.heap.size + 1]? = some (.cells #[.int .i64 0, .int .i64 0, .string ⟨#[]⟩] 29 (0, 0))) := Lib.hid ((hb6.block _ (by omega)).trans ((HB.out.block _ (by omega)).trans hB.out))
      have HBX := Lib.hid (HB1.out.trans ((HB.out.trans (hb6.mono hsz)).mono (by omega)))
      obtain ⟨⟨k0, k1, k2⟩, f0, f1, f2⟩ := cell3 HB6.out
      clear hb6 hop
      go_wp2_with fail
      refine bodyPost_ret (results_two rfl rfl rfl (put3_block HB6.out)) rfl ?_
      exact ⟨rfl, put3_below HBX.out (Nat.le_succ _)⟩
theorem eval_any (cols : List C) (r : List V) (hcl : cols.length ≤ 9223372036854775807) (hrl : r.length = cols.length) (hrf : ∀ v ∈ r, v.fine) : ∀ e, EvalExp cols r e := by
  refine E.ind fun k s n l ih => ?_
  by_cases h1 : k = 1
  · exact eval_leaf cols r hcl hrl k s n l (.inl h1)
  by_cases h2 : k = 2
  · exact eval_leaf cols r hcl hrl k s n l (.inr (.inl h2))
  by_cases h3 : k = 3
  · exact eval_leaf cols r hcl hrl k s n l (.inr (.inr h3))
  by_cases hs : s.toList = opIf
  · exact eval_if cols r k s n l ih h1 h2 h3 hs
  · exact eval_op cols r hrf k s n l ih h1 h2 h3 hs
end Go.Proofs.Ytldleckgkgeclaa
