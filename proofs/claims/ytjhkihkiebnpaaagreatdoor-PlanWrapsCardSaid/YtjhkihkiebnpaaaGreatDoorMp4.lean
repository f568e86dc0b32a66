/-
  expr.Tree: an expression that can be made, as a tree in new memory.
-/
import Derived.Test.YtjhkihkiebnpaaaGreatDoorMp3
import Derived.Test.YtjhkihkiebnpaaaGreatDoorMp1
import Derived.Deep.AppendLies
import Derived.IntWalk
import Derived.Deep.DeepCutAuto
import Derived.Deep.CutBlock
import Derived.Deep.RegionLaw
import Derived.OrdersHeld
import Derived.Deep.RegionHeld
import Derived.KernelRfl
set_option linter.unusedVariables false
set_option linter.unusedSimpArgs false
namespace Go.Proofs.YtjhkihkiebnpaaaGreatDoor
open Go.RowKit
set_option linter.unusedVariables false
set_option linter.unusedSimpArgs false
def TreeOk (e : E) : Prop := MadeE e → ∀ (A : Option Addr) (c : Nat) (w : World), EKids w w.heap.size A e.kids →
  Calls Tryz.prog 67 #[e.val A c] w fun r w' => (∃ A' c', r = .returned ((treeE e).val A' c') ∧ (treeE e).kids.length ≤ c' ∧ XTK w' (fun k => w.heap.size ≤ k ∧ k < w'.heap.size) A' (treeE e).kids) ∧ Below w.heap.size w w'
theorem own_far {w w' : World} {base n c g : Nat} {e : TypeId} {z : Nat} {xs : List Value} (h : w.ownsRow base e z (.slice (some ⟨g, 0, none⟩) n c) n xs) (hb : w'.heap[g]? = w.heap[g]?) : w'.ownsRow base e z (.slice (some ⟨g, 0, none⟩) n c) n xs := by
  refine ⟨h.1, ?_⟩
  rcases h.2 with hn | ⟨g', cap, cur, e1, hg, hgg, rest⟩
  · exact .inl hn
  · have hgg' : g = g' := by injection e1 with e1; injection e1 with e1; injection e1
    subst hgg'
    exact .inr ⟨g, cap, cur, e1, hg, by rw [hb]; exact hgg, rest⟩
theorem treeL_take {l : List E} {j : Nat} {x : E} (h : l[j]? = some x) : (treeL l).take (j + 1) = (treeL l).take j ++ [treeE x] := by
  induction l generalizing j with
  | nil => simp at h
  | cons y l ih =>
    cases j with
    | zero =>
      obtain rfl : y = x := by simpa using h
      rw [treeL]
      rfl
    | succ j =>
      rw [treeL, List.take_succ_cons, List.take_succ_cons, ih (by simpa using h)]
      rfl
theorem cnt_few (s : ByteArray) : cntL s.toList ≤ 3 := by
  unfold cntL
  repeat' split
  all_goals decide
theorem leaf_all (s : ByteArray) (w : World) (S : Nat → Prop) : ∀ p ∈ [((.mk 2 s 0 [] 0 : T), (none : Option Addr), 0)], p.1.kids.length ≤ p.2.2 ∧ XTK w S p.2.1 p.1.kids := fun p hp => by
  obtain rfl : p = ((.mk 2 s 0 [] 0 : T), none, 0) := by simpa using hp
  exact ⟨Nat.le_refl _, .nil _⟩
set_option maxRecDepth 100000 in
set_option maxHeartbeats 4000000 in
theorem tree_step (k : Int) (s : ByteArray) (n : Int) (l : List E) (hM : ∀ e ∈ l, TreeOk e) : TreeOk (.mk k s n l) := by
  intro hm A c w hA
  have hmade := made_any (.mk k s n l)
  unfold MadeExp at hmade
  rw [hm.ok] at hmade
  simp only [E.val, E.k, E.s, E.n, E.kids] at hA hmade ⊢
  obtain ⟨tr, htr⟩ : ∃ tr, tr = treeE (.mk k s n l) := ⟨_, rfl⟩
  rw [← htr]
  have HTR := Lib.hid htr
  clear htr
  obtain ⟨ln, eln⟩ : ∃ ln, ln = l.length := ⟨_, rfl⟩
  have hlen := hA.len
  rw [← eln] at hlen hmade ⊢
  obtain ⟨wa, ewa⟩ : ∃ wa, wa = w.alloc (.cells #[.int .i64 k, .string s, .int .i64 n, .slice A ln c] 38) := ⟨_, rfl⟩
  have hba : Below w.heap.size w wa := by rw [ewa]; exact (Below.refl _ _).alloc (Nat.le_refl _) _
  have hsa : wa.heap.size = w.heap.size + 1 := by rw [ewa]; simp
  have hxa : wa.heap[w.heap.size]? = some (.cells #[.int .i64 k, .string s, .int .i64 n, .slice A ln c] 38 (0, 0)) := by rw [ewa]; exact heap_alloc_new w _
  obtain ⟨w1, ew1⟩ : ∃ w1, w1 = wa.alloc (.cells #[.int .i64 0, .string ⟨#[]⟩, .int .i64 0, .slice none 0 0, .int .i64 0] 71) := ⟨_, rfl⟩
  have hb1 : Below wa.heap.size wa w1 := by rw [ew1]; exact (Below.refl _ _).alloc (Nat.le_refl _) _
  have hs1 : w1.heap.size = w.heap.size + 2 := by rw [ew1]; simp; omega
  have hr1 : w1.heap[w.heap.size + 1]? = some (.cells #[.int .i64 0, .string ⟨#[]⟩, .int .i64 0, .slice none 0 0, .int .i64 0] 71 (0, 0)) := by rw [ew1, ← hsa]; exact heap_alloc_new wa _
  have hx1 : w1.heap[w.heap.size]? = some (.cells #[.int .i64 k, .string s, .int .i64 n, .slice A ln c] 38 (0, 0)) := (hb1.block _ (by omega)).trans hxa
  have hbw : Below w.heap.size w w1 := hba.trans (hb1.mono (by omega))
  have hmd := Lib.hid (hmade A c w1 ((hA.low hbw).more hbw.size))
  obtain ⟨⟨k0, k1, k2, k3⟩, _, _, _, _⟩ := cell4 hx1
  have HW1 := Lib.hid (show w1 = (w.alloc (.cells #[.int .i64 k, .string s, .int .i64 n, .slice A ln c] 38)).alloc (.cells #[.int .i64 0, .string ⟨#[]⟩, .int .i64 0, .slice none 0 0, .int .i64 0] 71) by rw [ew1, ewa])
  have HX1 := Lib.hid hx1
  have HR1 := Lib.hid hr1
  have HB1 := Lib.hid hbw
  have HK := Lib.hid hA
  have HLN := Lib.hid eln
  have HM := Lib.hid hM
  clear ewa hba hsa hxa ew1 hb1 hr1 hx1 hbw hmade hA hM eln wa
  go_enter Tryz.func67, Tryz.ntmps67
  go_upto_region 1 with (fail)
  rw [← HW1.out]
  go_wp2_with fail
  refine (hmd.out).mono ?_
  rintro r wm ⟨rfl, hbm⟩
  have HXM := Lib.hid ((hbm.block w.heap.size (by omega)).trans HX1.out)
  have HRM := Lib.hid ((hbm.block (w.heap.size + 1) (by omega)).trans HR1.out)
  have HBM := Lib.hid (HB1.out.trans (hbm.mono (by omega)))
  have hsm := hbm.size
  obtain ⟨⟨k0, k1, k2, k3⟩, _, _, _, _⟩ := cell4 HXM.out
  obtain ⟨⟨r0, r1, r2, r3, r4⟩, s0, s1, s2, s3, s4⟩ := cell5 HRM.out
  clear hbm
  cases hm with
  | col s h =>
    go_wp2_with fail
    refine bodyPost_ret (results_tree rfl rfl (put5_block HRM.out)) rfl ?_
    rw [HTR.out, tree_col]
    exact ⟨⟨none, 0, rfl, Nat.le_refl _, .nil _⟩, put5_below HBM.out (Nat.le_succ _)⟩
  | num n =>
    go_wp2_with fail
    refine bodyPost_ret (results_tree rfl rfl (put5_block HRM.out)) rfl ?_
    rw [HTR.out, tree_num]
    exact ⟨⟨none, 0, rfl, Nat.le_refl _, .nil _⟩, put5_below HBM.out (Nat.le_succ _)⟩
  | str s =>
    go_wp2_with fail
    refine bodyPost_ret (results_tree rfl rfl (put5_block HRM.out)) rfl ?_
    rw [HTR.out, tree_str]
    exact ⟨⟨none, 0, rfl, Nat.le_refl _, .nil _⟩, put5_below HBM.out (Nat.le_succ _)⟩
  | app s l h0 hl hk =>
    have hlf : ln ≤ 600 := by have := cnt_few s; have := HLN.out; omega
    obtain ⟨i0, hi, hz0, hz1, hz2⟩ := info_parts tree_info
    obtain ⟨wn, ewn⟩ : ∃ wn, wn = wm.alloc (.cells #[.int .i64 2, .string s, .int .i64 0, .slice none 0 0, .int .i64 0] 71) := ⟨_, rfl⟩
    have hbn : Below wm.heap.size wm wn := by rw [ewn]; exact (Below.refl _ _).alloc (Nat.le_refl _) _
    have hsn : wn.heap.size = wm.heap.size + 1 := by rw [ewn]; simp
    have hnn : wn.heap[wm.heap.size]? = some (.cells #[.int .i64 2, .string s, .int .i64 0, .slice none 0 0, .int .i64 0] 71 (0, 0)) := by rw [ewn]; exact heap_alloc_new wm _
    obtain ⟨wl, ewl⟩ : ∃ wl, wl = wn.alloc (.cells #[.int .i64 1, .string ⟨#[]⟩, .int .i64 0, .slice (some ⟨wm.heap.size, 0, none⟩) 1 1, .int .i64 0] 71) := ⟨_, rfl⟩
    have hbl : Below wn.heap.size wn wl := by rw [ewl]; exact (Below.refl _ _).alloc (Nat.le_refl _) _
    have hsl : wl.heap.size = wm.heap.size + 2 := by rw [ewl]; simp; omega
    have HTB : Hid (wl.heap[wm.heap.size + 1]? = some (.cells #[.int .i64 1, .string ⟨#[]⟩, .int .i64 0, .slice (some ⟨wm.heap.size, 0, none⟩) 1 1, .int .i64 0] 71 (0, 0))) := Lib.hid (by rw [ewl, ← hsn]; exact heap_alloc_new wn _)
    have HOB : Hid (wl.ownsRow wm.heap.size 71 5 (.slice (some ⟨wm.heap.size, 0, none⟩) 1 1) 1 (flatT [((.mk 2 s 0 [] 0 : T), none, 0)])) := Lib.hid ⟨rfl, .inr ⟨wm.heap.size, 1, _, rfl, Nat.le_refl _, (hbl.block _ (by omega)).trans hnn, Nat.le_refl _, by decide, rfl, rfl⟩⟩
    have hbml : Below wm.heap.size wm wl := hbn.trans (hbl.mono (by omega))
    have HBL := Lib.hid (HBM.out.trans (hbml.mono (by omega)))
    have HXL := Lib.hid ((hbml.block w.heap.size (by omega)).trans HXM.out)
    have HRL := Lib.hid ((hbml.block (w.heap.size + 1) (by omega)).trans HRM.out)
    have HWL := Lib.hid (show wl = (wm.alloc (.cells #[.int .i64 2, .string s, .int .i64 0, .slice none 0 0, .int .i64 0] 71)).alloc (.cells #[.int .i64 1, .string ⟨#[]⟩, .int .i64 0, .slice (some ⟨wm.heap.size, 0, none⟩) 1 1, .int .i64 0] 71) by rw [ewl, ewn])
    have HMK := Lib.hid hk
    clear ewn hbn hnn ewl hbl hbml wn hsn hk h0 hl
    go_upto_region 11 with (fail)
    rw [← HWL.out]
    obtain ⟨⟨k0, k1, k2, k3⟩, _, _, _, _⟩ := cell4 HXL.out
    go_wp2_with fail
    go_loopw [35] (fun i wr => ∃ (j : Nat) (ps : List TP) (v : Value), j ≤ ln ∧ ps.length = j + 1 ∧ i = .int .i64 j ∧ wr.heap[wm.heap.size + 1]? = some (.cells #[.int .i64 1, .string ⟨#[]⟩, .int .i64 0, v, .int .i64 0] 71 (0, 0)) ∧
      wr.ownsRow wm.heap.size 71 5 v (j + 1) (flatT ps) ∧ v.ownBlock ≠ some (wm.heap.size + 1) ∧ Hid (∀ p ∈ ps, p.1.kids.length ≤ p.2.2 ∧ XTK wr (fun k => wl.heap.size ≤ k ∧ k < wr.heap.size ∧ v.ownBlock ≠ some k) p.2.1 p.1.kids) ∧ Below wm.heap.size wl wr ∧ Hid (ps.map Prod.fst = .mk 2 s 0 [] 0 :: (treeL l).take j)) (fun i _ => ln - (intOf i).toNat)
    case atStart => exact ⟨0, [((.mk 2 s 0 [] 0 : T), none, 0)], _, Nat.zero_le _, rfl, rfl, HTB.out, HOB.out, by simp [Value.ownBlock], Lib.hid (leaf_all s _ _), Below.refl _ _, Lib.hid (by simp)⟩
    case round =>
      obtain ⟨j, ps, v, hj, hpl, rfl, hbox, hown, hvt, hxk, hb, hzl⟩ := hrel
      have HO := Lib.hid hown
      have HB := Lib.hid hb
      have hs := hb.size
      have HPL := Lib.hid hpl
      have HBX := Lib.hid hbox
      have HVT := Lib.hid hvt
      have HBW := Lib.hid (HBL.out.trans (hb.mono (by omega)))
      clear hown hpl hbox hvt hb
      by_cases hlt2 : j < ln
      · obtain ⟨x, hx⟩ : ∃ x, l[j]? = some x := ⟨_, List.getElem?_eq_getElem (by rw [← HLN.out]; exact hlt2)⟩
        obtain ⟨b, o, A', c', rfl, hbl2, c0, c1, c2, c3, hKx⟩ := EKids.get_ HK.out wr HBW.out j x hx
        have hMx := HM.out x (List.mem_of_getElem? hx) (HMK.out x (List.mem_of_getElem? hx))
        have htk : Hid ((treeL l).take (j + 1) = (treeL l).take j ++ [treeE x]) := Lib.hid (treeL_take hx)
        obtain ⟨wx, ewx⟩ : ∃ wx, wx = wr.alloc (.cells #[.int .i64 x.k, .string x.s, .int .i64 x.n, .slice A' x.kids.length c'] 38) := ⟨_, rfl⟩
        have hbx : Below wr.heap.size wr wx := by rw [ewx]; exact (Below.refl _ _).alloc (Nat.le_refl _) _
        have hsx : wx.heap.size = wr.heap.size + 1 := by rw [ewx]; simp
        have hnx : wx.heap[wr.heap.size]? = some (.cells #[.int .i64 x.k, .string x.s, .int .i64 x.n, .slice A' x.kids.length c'] 38 (0, 0)) := by rw [ewx]; exact heap_alloc_new wr _
        have hbd : Below wr.heap.size wr wx.drew := hbx.drew
        have HCL := Lib.hid (hMx A' c' wx.drew ((hKx.low hbd).more hbd.size))
        have HXB := Lib.hid ((hbx.block (wm.heap.size + 1) (by omega)).trans HBX.out)
        have HOX := Lib.hid (own_below HO.out hbx)
        have HBXX := Lib.hid hbx
        have HWX := Lib.hid ewx
        have HNX := Lib.hid hnx
        have hex1 : x.kids.length = x.kids.length := rfl
        obtain ⟨y, hy⟩ : ∃ y, y = treeE x := ⟨_, rfl⟩
        rw [← hy] at HCL htk
        clear ewx hbx hnx hx hKx hMx hbd hy hex1
        obtain ⟨xk, xs, xn, xl⟩ := x
        obtain ⟨tk, ts, tn, tl, ta⟩ := y
        simp only [E.val, E.k, E.s, E.n, E.kids, T.val, T.k, T.s, T.n, T.kids, T.at_] at c0 c1 c2 c3 HCL HWX HNX
        generalize xl.length = xm at *
        obtain ⟨⟨n0, n1, n2, n3⟩, _, _, _, _⟩ := cell4 HNX.out
        obtain ⟨⟨k0, k1, k2, k3, k4⟩, f0, f1, f2, f3, f4⟩ := cell5 HXB.out
        go_upto_region 14 with (fail)
        rw [← HWX.out]
        go_region_law (first
          | (refine step_append_lies _ rfl _ _ _ rfl wm.heap.size 71 i0 _ 5 64 Tryz.underlying69 hi hz0 hz1 hz2 rfl (by decide) _ _ _ rfl (HO3.out.alloc _) ⟨w3.heap.size, 0, none⟩ 1 1 (TP.cs ((.mk tk ts tn tl ta : T), A3, c3')) rfl rfl (World.news_of_block (heap_alloc_new w3 _)) (by rw [← flatT_one]; exact flatT_ones _) (by decide) (by unfold maxLen; omega) (by omega) (by simp; omega) _ rfl ?_; intro g cap w5 hown5 hgrow hat hlt
             have HO5 := Lib.hid hown5
             have HG5 : Hid (w3.grownBy w5 v.ownBlock) := Lib.hid ((World.grownBy_alloc _ _ _).trans hgrow)
             have hat5 : Hid ((Value.slice (some ⟨g, 0, none⟩) (j + 1 + 1) cap).ownBlock = v.ownBlock ∨ ∃ n, (Value.slice (some ⟨g, 0, none⟩) (j + 1 + 1) cap).ownBlock = some n ∧ w3.heap.size ≤ n) := Lib.hid (hat.imp (fun h => h.symm) fun h => ⟨g, rfl, by rw [h]; simp⟩)
             have HE5 := Lib.hid ((HG5.out.block (wm.heap.size + 1) (by omega) (fun e => HVT.out e.symm)).trans hbx3.out)
             obtain ⟨⟨p0, p1, p2, p3, p4⟩, q0, q1, q2, q3, q4⟩ := cell5 HE5.out
             clear hown5 hgrow hat)
          | (go_simp; go_at_call 67; refine (HCL.out).mono ?_; rintro e w3 ⟨⟨A3, c3', rfl, hc3, hX⟩, hb3⟩
             have HX3 := Lib.hid hX
             have HB3 : Hid (Below wr.heap.size wr w3) := Lib.hid ((HBXX.out.drew).trans (hb3.mono (by simp; omega)))
             have HO3 := Lib.hid (own_below HO.out HB3.out)
             have hw3s : wr.heap.size + 1 ≤ w3.heap.size := by have := hb3.size; simp at this; omega
             have hbx3 := Lib.hid ((HB3.out.block (wm.heap.size + 1) (by omega)).trans HBX.out)
             have g3 : w3.cell? ⟨wm.heap.size + 1, 3, none⟩ = some v := (cell5 hbx3.out).1.2.2.2.1
             have g3b : (w3.alloc (.cells #[.int .i64 tk, .string ts, .int .i64 tn, .slice A3 tl.length c3', .int .i64 ta] 71)).cell? ⟨wm.heap.size + 1, 3, none⟩ = some v := (World.cell?_alloc_some _ _ _ (by rw [g3]; rfl)).trans g3
             clear hX hb3))
        all_goals
          go_wp2_with fail
          go_roundw
          case measure => simp [intOf]; omega
          case rel =>
            have hs5 := HG5.out.size
            have hgt : g ≠ wm.heap.size + 1 := fun e => by
              rcases hat5.out with h | ⟨n, h, h2⟩
              · exact HVT.out (by rw [← h]; simp [Value.ownBlock, e])
              · have : n = g := by simpa [Value.ownBlock] using h.symm
                omega
            have hother : ∀ k, k ≠ wm.heap.size + 1 → k < w3.heap.size → v.ownBlock ≠ some k → (w5.setCell ⟨wm.heap.size + 1, 3, none⟩ (.slice (some ⟨g, 0, none⟩) (j + 1 + 1) cap)).heap[k]? = w3.heap[k]? := fun k h1 h2 h3 =>
              (Below.heap_setCell w5 ⟨wm.heap.size + 1, 3, none⟩ _ k h1).trans (HG5.out.block k (by omega) fun e => h3 e.symm)
            refine ⟨j + 1, ps ++ [((.mk tk ts tn tl ta : T), A3, c3')], .slice (some ⟨g, 0, none⟩) (j + 1 + 1) cap, by omega, by rw [List.length_append, HPL.out]; rfl, by go_num, set5c (k := 3) HE5.out, ?_, by simpa [Value.ownBlock] using hgt, Lib.hid ?_, ?_, Lib.hid ?_⟩
            · rw [flatT_append, flatT_one]
              exact own_far HO5.out (Below.heap_setCell w5 ⟨wm.heap.size + 1, 3, none⟩ _ g hgt)
            · refine xt_round hxk.out hc3 (HX3.out.mono fun k hk => ⟨by have := hk.1; simp at this; omega, hk.2⟩) (by omega) (fun k h1 h2 h3 => (hother k (by omega) (by omega) h3).trans (HB3.out.block k h2)) (fun k h1 h2 => hother k (by omega) (by omega) fun e => by have := (HO.out.lt _ e).2; omega) (by omega) ?_ (fun k e => (HO.out.lt _ e).2) hat5.out
              simp only [World.setCell, Array.size_modify]
              omega
            · exact ((HB.out.trans (HB3.out.mono (by omega))).grown HG5.out (by omega) (fun g hg => by have := (HO.out.lt g hg).1; omega)).setCell (p := ⟨wm.heap.size + 1, 3, none⟩) (by show wm.heap.size ≤ wm.heap.size + 1; omega) _
            · rw [htk.out, List.map_append, hzl.out]; rfl
      · obtain rfl : j = ln := by omega
        have hps : ps.map Prod.fst = .mk 2 s 0 [] 0 :: treeL l := by rw [hzl.out, HLN.out, ← treeL_length, List.take_length]
        have hO2 : wr.ownsRow wm.heap.size 71 5 v ps.length (flatT ps) := by rw [HPL.out]; exact HO.out
        obtain ⟨A9, c9, rfl, hc9, hX9⟩ := own_trees hO2 (by rw [HPL.out]; omega) (S := fun k => w.heap.size + 2 ≤ k ∧ k < wr.heap.size) (fun g u1 u2 => ⟨by omega, u2⟩) (fun p hp => ⟨(hxk.out p hp).1, (hxk.out p hp).2.mono (fun k hk => ⟨by have := hk.1; omega, hk.2.1⟩)⟩)
        rw [hps] at hc9 hX9 HBX
        have HX9 := Lib.hid hX9
        have HC9 := Lib.hid hc9
        have hR9 : Hid (wr.heap[w.heap.size + 1]? = some (.cells #[.int .i64 0, .string ⟨#[]⟩, .int .i64 0, .slice none 0 0, .int .i64 0] 71 (0, 0))) := Lib.hid ((HB.out.block _ (by omega)).trans HRL.out)
        obtain ⟨⟨k0, k1, k2, k3, k4⟩, f0, f1, f2, f3, f4⟩ := cell5 HBX.out
        obtain ⟨⟨q0, q1, q2, q3, q4⟩, e0, e1, e2, e3, e4⟩ := cell5 hR9.out
        clear hO2 hX9 hxk hzl hps hc9
        go_wp2_with fail
        refine bodyPost_ret (results_tree rfl rfl (put5_block hR9.out)) rfl ?_
        rw [HTR.out, tree_app]
        refine ⟨⟨A9, c9, rfl, HC9.out, ?_⟩, put5_below HBW.out (Nat.le_succ _)⟩
        exact (HX9.out.kept (fun k hk => put5_other (by have := hk.1; omega))).mono (fun k hk => ⟨by have := hk.1; omega, Nat.lt_of_lt_of_eq hk.2 put5_size.symm⟩)
theorem tree_any : ∀ e, TreeOk e := E.ind (fun k s n l h => tree_step k s n l h)
end Go.Proofs.YtjhkihkiebnpaaaGreatDoor
/-
  Package plan's reader: what holds in the loops over a project's columns and over a group's functions.
-/
namespace Go.Proofs.YtjhkihkiebnpaaaGreatDoor
open Go.RowKit
set_option linter.unusedVariables false
set_option linter.unusedSimpArgs false
theorem own_same {w w' : World} {B n : Nat} {e : TypeId} {z : Nat} {v : Value} {xs : List Value} (h : w.ownsRow B e z v n xs) (hb : ∀ k, v.ownBlock = some k → w'.heap[k]? = w.heap[k]?) : w'.ownsRow B e z v n xs := by
  refine ⟨h.1, ?_⟩
  rcases h.2 with hn | ⟨g', cap, cur, rfl, hg', hgg, rest⟩
  · exact .inl hn
  · exact .inr ⟨g', cap, cur, rfl, hg', by rw [hb g' rfl]; exact hgg, rest⟩
/-- the state of the loop over a project's columns -/
structure CSt (g pb : Nat) (w2 : World) (B : Nat) (v2 v3 : Value) (ps : List EP) (cs : List ByteArray) (st : RSt) (wr : World) : Prop where
  box : wr.heap[pb]? = some (.cells #[.int .i64 3, .string ⟨#[]⟩, v2, v3, .slice none 0 0, .slice none 0 0, .slice none 0 0, .slice none 0 0] 27 (0, 0))
  own3 : wr.ownsRow B 9 1 v3 cs.length (strs cs)
  own2 : wr.ownsRow B 38 4 v2 ps.length (flatP ps)
  kids : ∀ p ∈ ps, XKids wr (fun k => B ≤ k ∧ k < wr.heap.size ∧ v2.ownBlock ≠ some k ∧ v3.ownBlock ≠ some k) p.2.1 p.1.kids
  apart : ∀ k, v2.ownBlock = some k → v3.ownBlock ≠ some k
  only : Only g w2 wr
  size : B ≤ wr.heap.size
  rd : RAt wr g st
theorem CSt.only_ {g pb B : Nat} {w2 wr w' : World} {v2 v3 : Value} {ps : List EP} {cs : List ByteArray} {st st' : RSt} (h : CSt g pb w2 B v2 v3 ps cs st wr) (ho : Only g wr w') (hr : RAt w' g st') (hg : g < pb) (hp : pb < B) : CSt g pb w2 B v2 v3 ps cs st' w' := by
  have hs := h.size
  have hs' := ho.size
  exact ⟨(ho.block pb (by omega) (by omega)).trans h.box, own_only h.own3 ho (by omega), own_only h.own2 ho (by omega),
    fun p hp' => ((h.kids p hp').kept fun k hk => ho.block k hk.2.1 (by have := hk.1; omega)).mono fun k hk => ⟨hk.1, by have := hk.2.1; omega, hk.2.2⟩, h.apart, h.only.trans ho, by omega, hr⟩
theorem strs_append (a b : List ByteArray) : strs (a ++ b) = strs a ++ strs b := by simp [strs]
theorem CSt.step3 {g pb B g' cap : Nat} {w2 w3 w5 : World} {v2 v3 : Value} {ps : List EP} {cs : List ByteArray} {s : ByteArray} {st : RSt} (h : CSt g pb w2 B v2 v3 ps cs st w3) (hg5 : w3.grownBy w5 v3.ownBlock)
    (ho5 : w5.ownsRow B 9 1 (.slice (some ⟨g', 0, none⟩) (cs.length + 1) cap) (cs.length + 1) (strs cs ++ [.string s]))
    (hat : (Value.slice (some ⟨g', 0, none⟩) (cs.length + 1) cap).ownBlock = v3.ownBlock ∨ ∃ n, (Value.slice (some ⟨g', 0, none⟩) (cs.length + 1) cap).ownBlock = some n ∧ w3.heap.size ≤ n)
    (hg : g < pb) (hp : pb < B) (hw : w2.heap.size ≤ pb) : CSt g pb w2 B v2 (.slice (some ⟨g', 0, none⟩) (cs.length + 1) cap) ps (cs ++ [s]) st (w5.setCell ⟨pb, 3, none⟩ (.slice (some ⟨g', 0, none⟩) (cs.length + 1) cap)) := by
  have hs := h.size
  have hs5 := hg5.size
  have h3 : ∀ k, v3.ownBlock = some k → B ≤ k ∧ k < w3.heap.size := fun k e => h.own3.lt k e
  have h2 : ∀ k, v2.ownBlock = some k → B ≤ k ∧ k < w3.heap.size := fun k e => h.own2.lt k e
  have hne : g' ≠ pb := fun e => by
    rcases hat with h | ⟨n, h, hn⟩
    · have := h3 g' (by rw [← h]; rfl); omega
    · have : n = g' := by simpa [Value.ownBlock] using h.symm
      omega
  have hoth : ∀ k, k ≠ pb → k < w3.heap.size → v3.ownBlock ≠ some k → (w5.setCell ⟨pb, 3, none⟩ (.slice (some ⟨g', 0, none⟩) (cs.length + 1) cap)).heap[k]? = w3.heap[k]? := fun k a1 a2 a3 =>
    (Below.heap_setCell w5 ⟨pb, 3, none⟩ _ k a1).trans (hg5.block k a2 fun e => a3 e.symm)
  have hz : (w5.setCell ⟨pb, 3, none⟩ (.slice (some ⟨g', 0, none⟩) (cs.length + 1) cap)).heap.size = w5.heap.size := by simp [World.setCell]
  have hv : ∀ k, k < w3.heap.size → v3.ownBlock ≠ some k → (Value.slice (some ⟨g', 0, none⟩) (cs.length + 1) cap).ownBlock ≠ some k := fun k a1 a2 => by
    rcases hat with h | ⟨n, h, hn⟩
    · rw [h]; exact a2
    · rw [h]; intro e; have := Option.some.inj e; omega
  refine ⟨setNc (k := 3) ((hg5.block pb (by omega) fun e => by have := (h3 pb e.symm).1; omega).trans h.box), ?_, ?_, ?_, ?_, ?_, by omega, ?_⟩
  · rw [List.length_append, List.length_singleton, strs_append]
    exact own_far ho5 (Below.heap_setCell w5 ⟨pb, 3, none⟩ _ g' hne)
  · exact own_same h.own2 fun k e => hoth k (by have := (h2 k e).1; omega) (h2 k e).2 (h.apart k e)
  · intro p hp'
    exact ((h.kids p hp').kept fun k hk => hoth k (by have := hk.1; omega) hk.2.1 hk.2.2.2).mono fun k hk => ⟨hk.1, by have := hk.2.1; omega, hk.2.2.1, hv k hk.2.1 hk.2.2.2⟩
  · exact fun k e => hv k (h2 k e).2 (h.apart k e)
  · exact (h.only.grown hg5 (fun k e => by have := (h3 k e).1; omega)).setNew (p := ⟨pb, 3, none⟩) hw _
  · exact (Below.heap_setCell w5 ⟨pb, 3, none⟩ _ g (by show g ≠ pb; omega)).trans ((hg5.block g h.rd.lt (fun e => by have := (h3 g e.symm).1; omega)).trans h.rd)
theorem CSt.step2 {g pb B g' cap sz : Nat} {w2 w3 w5 : World} {v2 v3 : Value} {ps : List EP} {cs : List ByteArray} {x : EP} {st : RSt} (h : CSt g pb w2 B v2 v3 ps cs st w3) (hg5 : w3.grownBy w5 v2.ownBlock)
    (ho5 : w5.ownsRow B 38 4 (.slice (some ⟨g', 0, none⟩) (ps.length + 1) cap) (ps.length + 1) (flatP ps ++ EP.cs x))
    (hat : (Value.slice (some ⟨g', 0, none⟩) (ps.length + 1) cap).ownBlock = v2.ownBlock ∨ ∃ n, (Value.slice (some ⟨g', 0, none⟩) (ps.length + 1) cap).ownBlock = some n ∧ w3.heap.size ≤ n)
    (hx : XKids w3 (fun k => sz ≤ k ∧ k < w3.heap.size) x.2.1 x.1.kids) (hsz : B ≤ sz) (hz2 : ∀ k, v2.ownBlock = some k → k < sz) (hz3 : ∀ k, v3.ownBlock = some k → k < sz)
    (hg : g < pb) (hp : pb < B) (hw : w2.heap.size ≤ pb) : CSt g pb w2 B (.slice (some ⟨g', 0, none⟩) (ps.length + 1) cap) v3 (ps ++ [x]) cs st (w5.setCell ⟨pb, 2, none⟩ (.slice (some ⟨g', 0, none⟩) (ps.length + 1) cap)) := by
  have hs := h.size
  have hs5 := hg5.size
  have h3 : ∀ k, v3.ownBlock = some k → B ≤ k ∧ k < w3.heap.size := fun k e => h.own3.lt k e
  have h2 : ∀ k, v2.ownBlock = some k → B ≤ k ∧ k < w3.heap.size := fun k e => h.own2.lt k e
  have hne : g' ≠ pb := fun e => by
    rcases hat with h | ⟨n, h, hn⟩
    · have := h2 g' (by rw [← h]; rfl); omega
    · have : n = g' := by simpa [Value.ownBlock] using h.symm
      omega
  have hoth : ∀ k, k ≠ pb → k < w3.heap.size → v2.ownBlock ≠ some k → (w5.setCell ⟨pb, 2, none⟩ (.slice (some ⟨g', 0, none⟩) (ps.length + 1) cap)).heap[k]? = w3.heap[k]? := fun k a1 a2 a3 =>
    (Below.heap_setCell w5 ⟨pb, 2, none⟩ _ k a1).trans (hg5.block k a2 fun e => a3 e.symm)
  have hz : (w5.setCell ⟨pb, 2, none⟩ (.slice (some ⟨g', 0, none⟩) (ps.length + 1) cap)).heap.size = w5.heap.size := by simp [World.setCell]
  have hv : ∀ k, k < w3.heap.size → v2.ownBlock ≠ some k → (Value.slice (some ⟨g', 0, none⟩) (ps.length + 1) cap).ownBlock ≠ some k := fun k a1 a2 => by
    rcases hat with h | ⟨n, h, hn⟩
    · rw [h]; exact a2
    · rw [h]; intro e; have := Option.some.inj e; omega
  refine ⟨setNc (k := 2) ((hg5.block pb (by omega) fun e => by have := (h2 pb e.symm).1; omega).trans h.box), ?_, ?_, ?_, ?_, ?_, by omega, ?_⟩
  · exact own_same h.own3 fun k e => hoth k (by have := (h3 k e).1; omega) (h3 k e).2 (fun e2 => h.apart k e2 e)
  · rw [List.length_append, List.length_singleton, flatP_append, flatP_one]
    exact own_far ho5 (Below.heap_setCell w5 ⟨pb, 2, none⟩ _ g' hne)
  · intro p hp'
    rcases List.mem_append.1 hp' with hp' | hp'
    · exact ((h.kids p hp').kept fun k hk => hoth k (by have := hk.1; omega) hk.2.1 hk.2.2.1).mono fun k hk => ⟨hk.1, by have := hk.2.1; omega, hv k hk.2.1 hk.2.2.1, hk.2.2.2⟩
    · obtain rfl : p = x := by simpa using hp'
      have a2 : ∀ k, sz ≤ k → v2.ownBlock ≠ some k := fun k hk e => by have := hz2 k e; omega
      have a3 : ∀ k, sz ≤ k → v3.ownBlock ≠ some k := fun k hk e => by have := hz3 k e; omega
      exact (hx.kept fun k hk => hoth k (by have := hk.1; omega) hk.2 (a2 k hk.1)).mono fun k hk => ⟨by have := hk.1; omega, by have := hk.2; omega, hv k hk.2 (a2 k hk.1), a3 k hk.1⟩
  · intro k e e3
    exact hv k (h3 k e3).2 (fun e2 => h.apart k e2 e3) e
  · exact (h.only.grown hg5 (fun k e => by have := (h2 k e).1; omega)).setNew (p := ⟨pb, 2, none⟩) hw _
  · exact (Below.heap_setCell w5 ⟨pb, 2, none⟩ _ g (by show g ≠ pb; omega)).trans ((hg5.block g h.rd.lt (fun e => by have := (h2 g e.symm).1; omega)).trans h.rd)
def colN (c : T) : ByteArray := (c.kids.getD 0 zeroT).s
def colE (c : T) : E := (readT (c.kids.getD 1 zeroT)).1
/-- the relation of the loop over a project's columns -/
def CRel (g pb : Nat) (w2 : World) (B : Nat) (mid : List T) (st : RSt) (i : Value) (wr : World) : Prop :=
  ∃ (j : Nat) (ps : List EP) (v2 v3 : Value), j ≤ mid.length ∧ i = .int .i64 j ∧ ps.map Prod.fst = (mid.take j).map colE ∧ CSt g pb w2 B v2 v3 ps ((mid.take j).map colN) (colsR (mid.take j) st) wr
/-- between a column's name and its expression -/
def CMid (g pb : Nat) (w2 : World) (B q : Nat) (x : T) (A2 : Option Addr) (c2 : Nat) (v2 : Value) (ps : List EP) (cs : List ByteArray) (st : RSt) (wx : World) : Prop :=
  ∃ v3, CSt g pb w2 B v2 v3 ps cs st wx ∧ wx.heap[q]? = some (.cells #[.int .i64 x.k, .string x.s, .int .i64 x.n, .slice A2 x.kids.length c2, .int .i64 x.at_] 71 (0, 0)) ∧ v2.ownBlock ≠ some q ∧ v3.ownBlock ≠ some q
theorem colsR_snoc {l : List T} {j : Nat} {x : T} (h : l[j]? = some x) (st : RSt) : colsR (l.take (j + 1)) st = exprR (x.kids.getD 1 zeroT) (nameR (x.kids.getD 0 zeroT) (colsR (l.take j) st)) := by
  unfold colsR
  rw [List.take_add_one, h, List.foldl_append]
  rfl
theorem take_map_snoc {α : Type} (f : T → α) {l : List T} {j : Nat} {x : T} (h : l[j]? = some x) : (l.take (j + 1)).map f = (l.take j).map f ++ [f x] := by
  rw [List.take_add_one, h, List.map_append]
  rfl
theorem mid_len {l : List T} {i m : Nat} (h : l.length = m + i + 1) : (midL l i).length = m := by
  unfold midL
  rw [List.length_take, List.length_drop]
  omega
theorem mid_get {l : List T} {i m j : Nat} (h : l.length = m + i + 1) (hj : j < m) : (midL l i)[j]? = l[i + j]? := by
  unfold midL
  rw [List.getElem?_take, if_pos (by omega), List.getElem?_drop]
theorem mid_facts {ln m i c : Nat} (h : ln = m + i + 1) (hc : ln ≤ c) (h6 : ln ≤ 600) : ∃ e : Nat, (ln : Int) - 1 = (e : Int) ∧ wrap64 (e : Int) = (e : Int) ∧ (i : Int) ≤ (e : Int) ∧ i ≤ e ∧ e ≤ c ∧ (e : Int) ≤ (c : Int) ∧ e - i = m ∧ (e : Int) - (i : Int) = (m : Int) ∧ ¬ c = i ∧ i ≤ c :=
  ⟨m + i, by omega, IntWalk.wrap64_in _ (by omega), by omega, by omega, by omega, by omega, by omega, by omega, by omega, by omega⟩
/-- a column's two trees -/
theorem column_kids {x : T} (h : columnT x = true) : ∃ y z, x.kids = [y, z] ∧ x.kids.length = 2 := by
  unfold columnT at h
  simp at h
  match hk : x.kids, h.2.1 with
  | [y, z], _ => exact ⟨y, z, rfl, rfl⟩
/-- the state of the loop over a group's functions -/
structure GSt (g pb : Nat) (w2 : World) (B : Nat) (lv v : Value) (gs : List Ag) (st : RSt) (wr : World) : Prop where
  box : wr.heap[pb]? = some (.cells #[.int .i64 7, .string ⟨#[]⟩, .slice none 0 0, .slice none 0 0, lv, .slice none 0 0, v, .slice none 0 0] 27 (0, 0))
  own : wr.ownsRow B 46 3 v gs.length (flatG gs)
  only : Only g w2 wr
  size : B ≤ wr.heap.size
  rd : RAt wr g st
theorem GSt.only_ {g pb B : Nat} {w2 wr w' : World} {lv v : Value} {gs : List Ag} {st st' : RSt} (h : GSt g pb w2 B lv v gs st wr) (ho : Only g wr w') (hr : RAt w' g st') (hg : g < pb) (hp : pb < B) : GSt g pb w2 B lv v gs st' w' := by
  have hs := h.size
  have hs' := ho.size
  exact ⟨(ho.block pb (by omega) (by omega)).trans h.box, own_only h.own ho (by omega), h.only.trans ho, by omega, hr⟩
theorem flatG_ones (l : List Ag) : ∀ u ∈ flatG l, u.oneCell' = true := by
  intro u hu
  obtain ⟨v, _, hv⟩ := List.mem_flatMap.1 hu
  simp only [Ag.cs, List.mem_cons, List.not_mem_nil, or_false] at hv
  rcases hv with rfl | rfl | rfl <;> rfl
theorem GSt.step {g pb B g' cap : Nat} {w2 w3 w5 : World} {lv v : Value} {gs : List Ag} {x : Ag} {st : RSt} (h : GSt g pb w2 B lv v gs st w3) (hg5 : w3.grownBy w5 v.ownBlock)
    (ho5 : w5.ownsRow B 46 3 (.slice (some ⟨g', 0, none⟩) (gs.length + 1) cap) (gs.length + 1) (flatG gs ++ Ag.cs x))
    (hat : (Value.slice (some ⟨g', 0, none⟩) (gs.length + 1) cap).ownBlock = v.ownBlock ∨ ∃ n, (Value.slice (some ⟨g', 0, none⟩) (gs.length + 1) cap).ownBlock = some n ∧ w3.heap.size ≤ n)
    (hg : g < pb) (hp : pb < B) (hw : w2.heap.size ≤ pb) : GSt g pb w2 B lv (.slice (some ⟨g', 0, none⟩) (gs.length + 1) cap) (gs ++ [x]) st (w5.setCell ⟨pb, 6, none⟩ (.slice (some ⟨g', 0, none⟩) (gs.length + 1) cap)) := by
  have hs := h.size
  have hs5 := hg5.size
  have h2 : ∀ k, v.ownBlock = some k → B ≤ k ∧ k < w3.heap.size := fun k e => h.own.lt k e
  have hne : g' ≠ pb := fun e => by
    rcases hat with h | ⟨n, h, hn⟩
    · have := h2 g' (by rw [← h]; rfl); omega
    · have : n = g' := by simpa [Value.ownBlock] using h.symm
      omega
  have hz : (w5.setCell ⟨pb, 6, none⟩ (.slice (some ⟨g', 0, none⟩) (gs.length + 1) cap)).heap.size = w5.heap.size := by simp [World.setCell]
  refine ⟨setNc (k := 6) ((hg5.block pb (by omega) fun e => by have := (h2 pb e.symm).1; omega).trans h.box), ?_, ?_, by omega, ?_⟩
  · rw [List.length_append, List.length_singleton, flatG_append, flatG_one]
    exact own_far ho5 (Below.heap_setCell w5 ⟨pb, 6, none⟩ _ g' hne)
  · exact (h.only.grown hg5 (fun k e => by have := (h2 k e).1; omega)).setNew (p := ⟨pb, 6, none⟩) hw _
  · exact (Below.heap_setCell w5 ⟨pb, 6, none⟩ _ g (by show g ≠ pb; omega)).trans ((hg5.block g h.rd.lt (fun e => by have := (h2 g e.symm).1; omega)).trans h.rd)
def aggX (c : T) : Ag := aggV c.kids
def GRel (g pb : Nat) (w2 : World) (B : Nat) (lv : Value) (mid : List T) (st : RSt) (wl : World) (i : Value) (wr : World) : Prop :=
  ∃ (j : Nat) (v : Value), j ≤ mid.length ∧ i = .int .i64 j ∧ GSt g pb w2 B lv v ((mid.take j).map aggX) (aggsR (mid.take j) st) wr ∧ (∀ k, pb < k → k < B → wr.heap[k]? = wl.heap[k]?)
theorem aggsR_snoc {l : List T} {j : Nat} {x : T} (h : l[j]? = some x) (st : RSt) : aggsR (l.take (j + 1)) st = aggR x.kids (aggsR (l.take j) st) := by
  unfold aggsR
  rw [List.take_add_one, h, List.foldl_append]
  rfl
theorem crel_step {g pb B : Nat} {w2 wr : World} {mid : List T} {st : RSt} {j : Nat} {x y z : T} {ps : List EP} {v2 v3 : Value} {A : Option Addr} {c : Nat} (hx : mid[j]? = some x) (hk : x.kids = [y, z])
    (hps : ps.map Prod.fst = (mid.take j).map colE) (h : CSt g pb w2 B v2 v3 (ps ++ [((readT z).1, A, c)]) ((mid.take j).map colN ++ [y.s]) (exprR z (nameR y (colsR (mid.take j) st))) wr) : CRel g pb w2 B mid st (.int .i64 ((j : Int) + 1)) wr := by
  have hj : j < mid.length := (List.getElem?_eq_some_iff.1 hx).1
  refine ⟨j + 1, ps ++ [((readT z).1, A, c)], v2, v3, hj, by simp, ?_, ?_⟩
  · rw [take_map_snoc colE hx, List.map_append, hps]
    unfold colE
    rw [hk]
    rfl
  · have e1 : (mid.take (j + 1)).map colN = (mid.take j).map colN ++ [y.s] := by
      rw [take_map_snoc colN hx]
      unfold colN
      rw [hk]
      rfl
    have e2 : colsR (mid.take (j + 1)) st = exprR z (nameR y (colsR (mid.take j) st)) := by
      rw [colsR_snoc hx, hk]
      rfl
    rw [e1, e2]
    exact h
theorem grel_step {g pb B g' cap : Nat} {w2 wl wr w3 w5 : World} {lv v : Value} {mid : List T} {st : RSt} {j : Nat} {x : T} (hx : mid[j]? = some x) (hr : GSt g pb w2 B lv v ((mid.take j).map aggX) (aggsR (mid.take j) st) wr) (hold : ∀ k, pb < k → k < B → wr.heap[k]? = wl.heap[k]?)
    (ho : Only g wr w3) (h : GSt g pb w2 B lv v ((mid.take j).map aggX) (aggR x.kids (aggsR (mid.take j) st)) w3) (hg5 : w3.grownBy w5 v.ownBlock)
    (ho5 : w5.ownsRow B 46 3 (.slice (some ⟨g', 0, none⟩) (j + 1) cap) (j + 1) (flatG ((mid.take j).map aggX) ++ Ag.cs (aggX x)))
    (hat : (Value.slice (some ⟨g', 0, none⟩) (j + 1) cap).ownBlock = v.ownBlock ∨ ∃ n, (Value.slice (some ⟨g', 0, none⟩) (j + 1) cap).ownBlock = some n ∧ w3.heap.size ≤ n)
    (hg : g < pb) (hp : pb < B) (hw : w2.heap.size ≤ pb) : GRel g pb w2 B lv mid st wl (.int .i64 ((j : Int) + 1)) (w5.setCell ⟨pb, 6, none⟩ (.slice (some ⟨g', 0, none⟩) (j + 1) cap)) := by
  have hj : j < mid.length := (List.getElem?_eq_some_iff.1 hx).1
  have hl : ((mid.take j).map aggX).length = j := by rw [List.length_map, List.length_take]; omega
  have hs := hr.size
  have hs3 := ho.size
  have h2 : ∀ k, v.ownBlock = some k → B ≤ k ∧ k < wr.heap.size := fun k e => hr.own.lt k e
  refine ⟨j + 1, .slice (some ⟨g', 0, none⟩) (j + 1) cap, hj, by simp, ?_, ?_⟩
  · rw [take_map_snoc aggX hx, aggsR_snoc hx]
    have := GSt.step (g' := g') (cap := cap) (x := aggX x) h hg5 (by rw [hl]; exact ho5) (by rw [hl]; exact hat) hg hp hw
    rw [hl] at this
    exact this
  · intro k k1 k2
    exact (Below.heap_setCell w5 ⟨pb, 6, none⟩ _ k (by show k ≠ pb; omega)).trans ((hg5.block k (by omega) fun e => by have := (h2 k e.symm).1; omega).trans ((ho.block k (by omega) (by omega)).trans (hold k k1 k2)))
theorem k3_facts {l : List T} {ln c g p2 p3 : Nat} (hl : ln = l.length) (h2 : 3 ≤ l.length) (hc : l.length ≤ c) (h6 : l.length ≤ 600) (hg : g < p2) (hp : p2 < p3) : ∃ m e : Nat, ∃ y : T, l[0]? = some y ∧ l.length = m + 1 + 1 ∧ (ln : Int) - 1 = (e : Int) ∧ wrap64 (e : Int) = (e : Int) ∧ (1 : Int) ≤ (e : Int) ∧ 1 ≤ e ∧
    e ≤ c ∧ (e : Int) ≤ (c : Int) ∧ e - 1 = m ∧ (e : Int) - 1 = (m : Int) ∧ ¬ c = 1 ∧ 1 ≤ c ∧ m ≤ 600 ∧ kidsN 3 ≤ l.length ∧ g ≤ p3 ∧ g < p3 := by
  obtain ⟨e, a1, a2, a3, a4, a5, a6, a7, a8, a9, a10⟩ := mid_facts (ln := ln) (m := ln - 2) (i := 1) (c := c) (by omega) (by omega) (by omega)
  exact ⟨ln - 2, e, _, List.getElem?_eq_getElem (by omega), by omega, a1, a2, a3, a4, a5, a6, a7, a8, a9, a10, by omega, by rw [show kidsN 3 = 1 from rfl]; omega, by omega, by omega⟩
theorem k7_facts {l : List T} {ln c g p2 p3 : Nat} (hl : ln = l.length) (h2 : 3 ≤ l.length) (hc : l.length ≤ c) (h6 : l.length ≤ 600) (hg : g < p2) (hp : p2 < p3) : ∃ m e : Nat, ∃ y x : T, l[0]? = some y ∧ l[1]? = some x ∧ l.length = m + 2 + 1 ∧ (ln : Int) - 1 = (e : Int) ∧ wrap64 (e : Int) = (e : Int) ∧ (2 : Int) ≤ (e : Int) ∧ 2 ≤ e ∧
    e ≤ c ∧ (e : Int) ≤ (c : Int) ∧ e - 2 = m ∧ (e : Int) - 2 = (m : Int) ∧ ¬ c = 2 ∧ 2 ≤ c ∧ m ≤ 600 ∧ kidsN 7 ≤ l.length ∧ g ≤ p3 ∧ g < p3 ∧ 1 < ln ∧ (1 : Int) < (ln : Int) := by
  obtain ⟨e, a1, a2, a3, a4, a5, a6, a7, a8, a9, a10⟩ := mid_facts (ln := ln) (m := ln - 3) (i := 2) (c := c) (by omega) (by omega) (by omega)
  exact ⟨ln - 3, e, _, _, List.getElem?_eq_getElem (by omega), List.getElem?_eq_getElem (by omega), by omega, a1, a2, a3, a4, a5, a6, a7, a8, a9, a10, by omega, by rw [show kidsN 7 = 1 from rfl]; omega, by omega, by omega, by omega, by omega⟩
/-- what holds behind the switch -/
def MidP (g pb : Nat) (w2 : World) (kd : Int) (l : List T) (st : RSt) (s7 : Value) (wx : World) : Prop :=
  ∃ a0 : PA, s7 = .int .i64 (kidsN kd) ∧ (kidsN kd = 1 ∨ kidsN kd = 2) ∧ kidsN kd ≤ l.length ∧ wx.heap[pb]? = some (.cells #[.int .i64 (baseP kd l).k, .string (baseP kd l).nm, .slice a0.ea (baseP kd l).ex.length a0.ec, .slice a0.ca (baseP kd l).cols.length a0.cc, .slice a0.la (baseP kd l).left.length a0.lc, .slice a0.ra (baseP kd l).right.length a0.rc, .slice a0.ga (baseP kd l).ag.length a0.gc, .slice none 0 0] 27 (0, 0)) ∧
    PParts wx (fun k => pb < k ∧ k < wx.heap.size) (baseP kd l) a0 ∧ Only g w2 wx ∧ RAt wx g st
def noPA : PA := ⟨none, 0, none, 0, none, 0, none, 0, none, 0, none, 0⟩
theorem parts_none (w : World) (S : Nat → Prop) (kd : Int) (s : ByteArray) : PParts w S (.mk kd s [] [] [] [] [] []) noPA :=
  ⟨.nil _, .inl rfl, .inl rfl, .inl rfl, .inl rfl, by simp [P.ex], by simp [P.cols], by simp [P.left], by simp [P.right], by simp [P.ag]⟩
theorem crel_start {g pb : Nat} {w2 w3 : World} {mid : List T} {st : RSt} (hb : w3.heap[pb]? = some (.cells #[.int .i64 3, .string ⟨#[]⟩, .slice none 0 0, .slice none 0 0, .slice none 0 0, .slice none 0 0, .slice none 0 0, .slice none 0 0] 27 (0, 0))) (ho : Only g w2 w3) (hr : RAt w3 g st) : CRel g pb w2 w3.heap.size mid st (.int .i64 0) w3 :=
  ⟨0, [], .slice none 0 0, .slice none 0 0, Nat.zero_le _, rfl, by simp, ⟨by exact hb, ⟨rfl, .inl ⟨rfl, rfl⟩⟩, ⟨rfl, .inl ⟨rfl, rfl⟩⟩, fun p hp => (by cases hp), fun k e => (by cases e), ho, Nat.le_refl _, hr⟩⟩
theorem cmid_of {g pb B g' cap : Nat} {w2 wr wx w4 w5 : World} {v2 v3 : Value} {ps : List EP} {cs : List ByteArray} {s : ByteArray} {st st' : RSt} {x : T} {A2 : Option Addr} {c2 : Nat} (hr : CSt g pb w2 B v2 v3 ps cs st wr)
    (hnx : wx.heap[wr.heap.size]? = some (.cells #[.int .i64 x.k, .string x.s, .int .i64 x.n, .slice A2 x.kids.length c2, .int .i64 x.at_] 71 (0, 0))) (ho : Only g wx w4) (h4 : CSt g pb w2 B v2 v3 ps cs st' w4) (hg5 : w4.grownBy w5 v3.ownBlock)
    (ho5 : w5.ownsRow B 9 1 (.slice (some ⟨g', 0, none⟩) (cs.length + 1) cap) (cs.length + 1) (strs cs ++ [.string s]))
    (hat : (Value.slice (some ⟨g', 0, none⟩) (cs.length + 1) cap).ownBlock = v3.ownBlock ∨ ∃ n, (Value.slice (some ⟨g', 0, none⟩) (cs.length + 1) cap).ownBlock = some n ∧ w4.heap.size ≤ n)
    (hg : g < pb) (hp : pb < B) (hw : w2.heap.size ≤ pb) : CMid g pb w2 B wr.heap.size x A2 c2 v2 ps (cs ++ [s]) st' (w5.setCell ⟨pb, 3, none⟩ (.slice (some ⟨g', 0, none⟩) (cs.length + 1) cap)) := by
  have hs := hr.size
  have hsx := (Array.getElem?_eq_some_iff.1 hnx).1
  have hs4 := ho.size
  have h3 : ∀ k, v3.ownBlock = some k → B ≤ k ∧ k < wr.heap.size := fun k e => hr.own3.lt k e
  have h2 : ∀ k, v2.ownBlock = some k → B ≤ k ∧ k < wr.heap.size := fun k e => hr.own2.lt k e
  refine ⟨_, h4.step3 hg5 ho5 hat hg hp hw, ?_, fun e => by have := (h2 _ e).2; omega, fun e => ?_⟩
  · exact (Below.heap_setCell w5 ⟨pb, 3, none⟩ _ wr.heap.size (by show wr.heap.size ≠ pb; omega)).trans ((hg5.block _ (by omega) fun e => by have := (h3 _ e.symm).2; omega).trans ((ho.block _ hsx (by omega)).trans hnx))
  · rcases hat with h | ⟨n, h, hn⟩
    · rw [h] at e
      have := (h3 _ e).2
      omega
    · rw [h] at e
      have := Option.some.inj e
      omega
structure ColCells (w : World) (g b o j : Nat) (x y z : T) (b2 o2 c2 : Nat) (A3 : Option Addr) (c3 : Nat) (A4 : Option Addr) (c4 : Nat) : Prop where
  x0 : w.cell? ⟨b, o + 5 + j * 5, none⟩ = some (.int .i64 x.k)
  x1 : w.cell? ⟨b, o + 5 + j * 5 + 1, none⟩ = some (.string x.s)
  x2 : w.cell? ⟨b, o + 5 + j * 5 + 2, none⟩ = some (.int .i64 x.n)
  x3 : w.cell? ⟨b, o + 5 + j * 5 + 3, none⟩ = some (.slice (some ⟨b2, o2, none⟩) 2 c2)
  x4 : w.cell? ⟨b, o + 5 + j * 5 + 4, none⟩ = some (.int .i64 x.at_)
  y0 : w.cell? ⟨b2, o2, none⟩ = some (.int .i64 y.k)
  y1 : w.cell? ⟨b2, o2 + 1, none⟩ = some (.string y.s)
  y2 : w.cell? ⟨b2, o2 + 2, none⟩ = some (.int .i64 y.n)
  y3 : w.cell? ⟨b2, o2 + 3, none⟩ = some (.slice A3 y.kids.length c3)
  y4 : w.cell? ⟨b2, o2 + 4, none⟩ = some (.int .i64 y.at_)
  z0 : w.cell? ⟨b2, o2 + 5, none⟩ = some (.int .i64 z.k)
  z1 : w.cell? ⟨b2, o2 + 5 + 1, none⟩ = some (.string z.s)
  z2 : w.cell? ⟨b2, o2 + 5 + 2, none⟩ = some (.int .i64 z.n)
  z3 : w.cell? ⟨b2, o2 + 5 + 3, none⟩ = some (.slice A4 z.kids.length c4)
  z4 : w.cell? ⟨b2, o2 + 5 + 4, none⟩ = some (.int .i64 z.at_)
  ky : TKids w g A3 y.kids
  kz : TKids w g A4 z.kids
theorem col_cells {w : World} {g b o j : Nat} {l : List T} {x y z : T} (h : TKids w g (some ⟨b, o, none⟩) l) (hg : g ≤ w.heap.size) (hx : l[1 + j]? = some x) (hk : x.kids = [y, z]) :
    ∃ b2 o2 c2 A3 c3 A4 c4, 2 ≤ c2 ∧ y.kids.length ≤ c3 ∧ z.kids.length ≤ c4 ∧ ∀ w', Only g w w' → ColCells w' g b o j x y z b2 o2 c2 A3 c3 A4 c4 := by
  obtain ⟨b', o', A2, c2, e, hb, x0, x1, x2, x3, x4, hc2, hK⟩ := h.at hg hx
  obtain ⟨rfl, rfl⟩ : b = b' ∧ o = o' := by injection e with e; injection e with e1 e2; exact ⟨e1, e2⟩
  rw [hk] at hK hc2 x3
  obtain ⟨b2, o2, A3, c3, rfl, hb2, y0, y1, y2, y3, y4, hc3, hKy⟩ := hK.at hg (i := 0) (x := y) rfl
  obtain ⟨b2', o2', A4, c4, e2, _, z0, z1, z2, z3, z4, hc4, hKz⟩ := hK.at hg (i := 1) (x := z) rfl
  obtain ⟨rfl, rfl⟩ : b2 = b2' ∧ o2 = o2' := by injection e2 with e; injection e with e1 e2; exact ⟨e1, e2⟩
  rw [show o + (1 + j) * 5 = o + 5 + j * 5 by omega] at x0 x1 x2 x3 x4
  rw [Nat.zero_mul, Nat.add_zero] at y0 y1 y2 y3 y4
  rw [Nat.one_mul] at z0 z1 z2 z3 z4
  refine ⟨b2, o2, c2, A3, c3, A4, c4, hc2, hc3, hc4, fun w' ho => ?_⟩
  have hB : ∀ q, w'.cell? ⟨b, q, none⟩ = w.cell? ⟨b, q, none⟩ := fun q => ho.cell (p := ⟨b, q, none⟩) (by show b < _; omega) (by show b ≠ g; omega)
  have hB2 : ∀ q, w'.cell? ⟨b2, q, none⟩ = w.cell? ⟨b2, q, none⟩ := fun q => ho.cell (p := ⟨b2, q, none⟩) (by show b2 < _; omega) (by show b2 ≠ g; omega)
  have hlow := ho.below (B := g) hg (Nat.le_refl _)
  exact ⟨(hB _).trans x0, (hB _).trans x1, (hB _).trans x2, (hB _).trans x3, (hB _).trans x4, (hB2 _).trans y0, (hB2 _).trans y1, (hB2 _).trans y2, (hB2 _).trans y3, (hB2 _).trans y4,
    (hB2 _).trans z0, (hB2 _).trans z1, (hB2 _).trans z2, (hB2 _).trans z3, (hB2 _).trans z4, hKy.low hlow, hKz.low hlow⟩
theorem get_lt {l : List T} {i m j : Nat} (h : l.length = m + i + 1) (hj : j < m) : ∃ x, l[i + j]? = some x := ⟨_, List.getElem?_eq_getElem (by omega)⟩
theorem maxl600 {n j : Nat} (h : n = j) (hj : j ≤ 600) : n + 1 ≤ maxLen := by unfold maxLen; omega
theorem bytes600 {n j z : Nat} (h : n = j) (hj : j ≤ 600) (hz : z ≤ 200) : (n + 1) * z ≤ 140737488355328 := by
  have : (n + 1) * z ≤ 601 * 200 := Nat.mul_le_mul (by omega) hz
  omega
theorem cs_len {α : Type} {f : T → α} {l : List T} {j m : Nat} (h : l.length = m) (hj : j ≤ m) : ((l.take j).map f).length = j := by
  rw [List.length_map, List.length_take]
  omega
theorem ps_len {α : Type} {f : T → E} {l : List T} {ps : List (E × α)} {j m : Nat} (h : l.length = m) (hj : j ≤ m) (hp : ps.map Prod.fst = (l.take j).map f) : ps.length = j := by
  have := congrArg List.length hp
  rw [List.length_map, cs_len h hj] at this
  exact this
theorem k3_mid {g pb B : Nat} {w2 wr : World} {v2 v3 : Value} {ps : List EP} {l mid : List T} {a : Int} {st : RSt} {j m : Nat} (hm : mid.length = m) (hj : j ≤ m) (hn : ¬ j < m) (hps : ps.map Prod.fst = (mid.take j).map colE) (h : CSt g pb w2 B v2 v3 ps ((mid.take j).map colN) (colsR (mid.take j) st) wr)
    (hbp : baseP 3 l = .mk 3 ⟨#[]⟩ (mid.map colE) (mid.map colN) [] [] [] []) (hbr : baseR 3 l a st = colsR mid st) (hkl : kidsN 3 ≤ l.length) (h6 : m ≤ 600) (hp : pb < B) : MidP g pb w2 3 l (baseR 3 l a st) (.int .i64 1) wr := by
  have ht : mid.take j = mid := List.take_of_length_le (by omega)
  rw [ht] at hps h
  have hl := congrArg List.length hps
  rw [List.length_map, List.length_map] at hl
  have hs := h.size
  obtain ⟨A2, c2, e2, hx⟩ := own_exprs h.own2 (by omega) (S := fun k => pb < k ∧ k < wr.heap.size) (fun k k1 k2 => ⟨by omega, k2⟩) (fun p hp' => (h.kids p hp').mono fun k hk => ⟨by have := hk.1; omega, hk.2.1⟩)
  obtain ⟨A3, c3, e3, hc3, hL⟩ := own_lies h.own3 (S := fun k => pb < k ∧ k < wr.heap.size) (fun k k1 k2 => ⟨by omega, k2⟩)
  subst e2 e3
  refine ⟨{ noPA with ea := A2, ec := c2, ca := A3, cc := c3 }, rfl, .inl rfl, hkl, ?_, ?_, h.only, ?_⟩
  · rw [h.box, hbp]
    simp only [P.k, P.nm, P.ex, P.cols, P.left, P.right, P.ag, hps]
    rfl
  · rw [hbp]
    refine ⟨by rw [hps] at hx; exact hx, hL, .inl rfl, .inl rfl, .inl rfl, ?_, ?_, by simp [P.left], by simp [P.right], by simp [P.ag]⟩
    · simp only [P.ex, List.length_map]; omega
    · simp only [P.cols, List.length_map]; omega
  · rw [hbr]
    exact h.rd
theorem grel_start {g pb : Nat} {w2 w4 : World} {mid : List T} {st : RSt} {lv : Value} (hb : w4.heap[pb]? = some (.cells #[.int .i64 7, .string ⟨#[]⟩, .slice none 0 0, .slice none 0 0, .slice none 0 0, .slice none 0 0, .slice none 0 0, .slice none 0 0] 27 (0, 0)))
    (ho : Only g w2 w4) (hr : RAt w4 g st) (hg : g < pb) (hw : w2.heap.size ≤ pb) : GRel g pb w2 w4.heap.size lv mid st (w4.setCell ⟨pb, 4, none⟩ lv) (.int .i64 0) (w4.setCell ⟨pb, 4, none⟩ lv) := by
  refine ⟨0, .slice none 0 0, Nat.zero_le _, rfl, ⟨setNc (k := 4) hb, ⟨rfl, .inl ⟨rfl, rfl⟩⟩, ho.setNew (p := ⟨pb, 4, none⟩) hw _, by simp [World.setCell], ?_⟩, fun _ _ _ => rfl⟩
  exact (Below.heap_setCell w4 ⟨pb, 4, none⟩ _ g (by show g ≠ pb; omega)).trans hr
theorem k7_mid {g pb : Nat} {w2 w3 w4 wr : World} {v : Value} {l mid xs : List T} {a : Int} {st : RSt} {A4 : Option Addr} {c4 xm : Nat} {j m : Nat} (hm : mid.length = m) (hj : j ≤ m) (hn : ¬ j < m)
    (h : GSt g pb w2 w4.heap.size (.slice A4 xm c4) v ((mid.take j).map aggX) (aggsR (mid.take j) (namesR xs st)) wr) (hold : ∀ k, pb < k → k < w4.heap.size → wr.heap[k]? = (w4.setCell ⟨pb, 4, none⟩ (.slice A4 xm c4)).heap[k]?)
    (hL : Lies w4 (fun k => w3.heap.size ≤ k ∧ k < w4.heap.size) A4 (strs (xs.map T.s))) (hxm : xs.length = xm) (hx6 : xm ≤ 600)
    (hbp : baseP 7 l = .mk 7 ⟨#[]⟩ [] [] (xs.map T.s) [] (mid.map aggX) []) (hbr : baseR 7 l a st = aggsR mid (namesR xs st)) (hkl : kidsN 7 ≤ l.length) (h6 : m ≤ 600) (hp : pb < w3.heap.size) (hs34 : w3.heap.size ≤ w4.heap.size) : MidP g pb w2 7 l (baseR 7 l a st) (.int .i64 1) wr := by
  have ht : mid.take j = mid := List.take_of_length_le (by omega)
  rw [ht] at h
  have hs := h.size
  obtain ⟨A3, c3, e3, hc3, hLg⟩ := own_lies h.own (S := fun k => pb < k ∧ k < wr.heap.size) (fun k k1 k2 => ⟨by omega, k2⟩)
  subst e3
  refine ⟨{ noPA with la := A4, lc := c4, ga := A3, gc := c3 }, rfl, .inl rfl, hkl, ?_, ?_, h.only, ?_⟩
  · rw [h.box, hbp]
    simp only [P.k, P.nm, P.ex, P.cols, P.left, P.right, P.ag, List.length_map, hxm]
    rfl
  · rw [hbp]
    refine ⟨.nil _, .inl rfl, ?_, .inl rfl, hLg, by simp [P.ex], by simp [P.cols], ?_, by simp [P.right], ?_⟩
    · exact (hL.kept fun k hk => (hold k (by have := hk.1; omega) hk.2).trans (Below.heap_setCell w4 ⟨pb, 4, none⟩ _ k (by show k ≠ pb; have := hk.1; omega))).mono fun k hk => ⟨by have := hk.1; omega, by have := hk.2; omega⟩
    · simp only [P.left, List.length_map]; omega
    · simp only [P.ag, List.length_map]; omega
  · rw [hbr]
    exact h.rd
theorem own_not {w : World} {B n z pb : Nat} {e : TypeId} {v : Value} {xs : List Value} (h : w.ownsRow B e z v n xs) (hp : pb < B) : v.ownBlock ≠ some pb := fun e => by have := (h.lt pb e).1; omega
theorem ones_str {s : ByteArray} : ∀ u ∈ [Value.string s], u.oneCell' = true := by
  intro u hu
  rw [List.mem_singleton.1 hu]
  rfl
theorem agg_two {t : T} (h : aggT t = true) : t.kids.length = 2 ∨ t.kids.length = 3 := by
  unfold aggT at h
  simp at h
  exact h.2
theorem grel_step' {g pb B g' cap : Nat} {w2 wl wr w3 w5 : World} {lv v : Value} {mid : List T} {st stj st5 : RSt} {j : Nat} {x : T} {gs : List Ag} {ax : Ag} (hgs : (mid.take j).map aggX = gs) (hst : aggsR (mid.take j) st = stj) (hax : aggV x.kids = ax) (hsr : aggR x.kids stj = st5) (hx : mid[j]? = some x)
    (hr : GSt g pb w2 B lv v gs stj wr) (hold : ∀ k, pb < k → k < B → wr.heap[k]? = wl.heap[k]?) (ho : Only g wr w3) (h : GSt g pb w2 B lv v gs st5 w3) (hg5 : w3.grownBy w5 v.ownBlock)
    (ho5 : w5.ownsRow B 46 3 (.slice (some ⟨g', 0, none⟩) (j + 1) cap) (j + 1) (flatG gs ++ Ag.cs ax))
    (hat : (Value.slice (some ⟨g', 0, none⟩) (j + 1) cap).ownBlock = v.ownBlock ∨ ∃ n, (Value.slice (some ⟨g', 0, none⟩) (j + 1) cap).ownBlock = some n ∧ w3.heap.size ≤ n)
    (hg : g < pb) (hp : pb < B) (hw : w2.heap.size ≤ pb) : GRel g pb w2 B lv mid st wl (.int .i64 ((j : Int) + 1)) (w5.setCell ⟨pb, 6, none⟩ (.slice (some ⟨g', 0, none⟩) (j + 1) cap)) := by
  subst hgs hst hax hsr
  exact grel_step hx hr hold ho h hg5 ho5 hat hg hp hw
end Go.Proofs.YtjhkihkiebnpaaaGreatDoor
/-
  Plans and trees: what a plan's tree is; a plan that was read is read again from its tree. No program in sight.
-/
set_option linter.unusedVariables false
set_option linter.unusedSimpArgs false
namespace Go.Proofs.YtjhkihkiebnpaaaGreatDoor
open Go.RowKit
/-! ### the reader looks at no place, unless it refuses -/
theorem era_k (t : T) : (era t).k = t.k := by obtain ⟨k, s, n, l, a⟩ := t; rw [era]; rfl
theorem era_s (t : T) : (era t).s = t.s := by obtain ⟨k, s, n, l, a⟩ := t; rw [era]; rfl
theorem era_kids (t : T) : (era t).kids = t.kids.map era := by obtain ⟨k, s, n, l, a⟩ := t; rw [era, eraL_map]; rfl
theorem era_zero : era zeroT = zeroT := by rw [zeroT, era, eraL]
theorem era_getD (l : List T) (i : Nat) : (l.map era).getD i zeroT = era (l.getD i zeroT) := by
  rw [List.getD_eq_getElem?_getD, List.getD_eq_getElem?_getD, List.getElem?_map]
  cases l[i]? with
  | none => exact era_zero.symm
  | some x => rfl
theorem era_len (t : T) : (era t).kids.length = t.kids.length := by rw [era_kids, List.length_map]
theorem era_mid (l : List T) (i : Nat) : midL (l.map era) i = (midL l i).map era := by
  unfold midL
  rw [List.length_map, List.map_take, List.map_drop]
theorem readL_era : ∀ (l : List T), (∀ t ∈ l, (readT (era t)).1 = (readT t).1 ∧ (readT (era t)).2.1 = (readT t).2.1) → (readL (l.map era)).1 = (readL l).1 ∧ (readL (l.map era)).2.1 = (readL l).2.1
  | [], _ => ⟨rfl, rfl⟩
  | x :: l, h => by
    obtain ⟨h1, h2⟩ := h x List.mem_cons_self
    obtain ⟨g1, g2⟩ := readL_era l fun t ht => h t (List.mem_cons_of_mem _ ht)
    rw [List.map_cons, readL, readL, h1, h2]
    split
    · exact ⟨by simp only [g1], g2⟩
    · exact ⟨rfl, rfl⟩
theorem readT_era : ∀ t : T, (readT (era t)).1 = (readT t).1 ∧ (readT (era t)).2.1 = (readT t).2.1 := T.ind fun k s n l a ih => by
  rw [era, eraL_map]
  by_cases h2 : k = 2
  · subst h2
    rw [read_col, read_col]
    split <;> exact ⟨rfl, rfl⟩
  · by_cases h3 : k = 3
    · subst h3
      rw [read_num, read_num]
      exact ⟨rfl, rfl⟩
    · by_cases h4 : k = 4
      · subst h4
        rw [read_str, read_str]
        exact ⟨rfl, rfl⟩
      · by_cases h1 : k = 1
        · subst h1
          cases l with
          | nil => rw [List.map_nil, read_none, read_none]; exact ⟨rfl, rfl⟩
          | cons x ks =>
            obtain ⟨g1, g2⟩ := readL_era ks fun t ht => ih t (List.mem_cons_of_mem _ ht)
            rw [List.map_cons, read_app, read_app, era_k, era_s, List.length_map, g1, g2]
            repeat' split
            all_goals exact ⟨rfl, rfl⟩
        · rw [read_bad h1 h2 h3 h4, read_bad h1 h2 h3 h4]
          exact ⟨rfl, rfl⟩
theorem atomsT_era (t : T) : atomsT (era t) = atomsT t := by
  unfold atomsT
  rw [era_k, era_kids, List.all_map]
  congr 2
  funext x
  simp only [Function.comp, era_k]
theorem columnT_era (t : T) : columnT (era t) = columnT t := by
  unfold columnT
  rw [era_k, era_kids, List.length_map]
  congr 2
  cases t.kids with
  | nil => rfl
  | cons x l => simp only [List.map_cons, headK, era_k]
theorem aggT_era (t : T) : aggT (era t) = aggT t := by
  unfold aggT
  rw [atomsT_era, era_kids, List.length_map]
theorem kindW_era (w : List UInt8) (l : List T) : kindW w (l.map era) = kindW w l := by
  unfold kindW
  rw [List.length_map, era_getD, era_getD, era_k, atomsT_era, atomsT_era, era_mid, era_mid, List.all_map, List.all_map]
  rw [show columnT ∘ era = columnT from funext columnT_era, show aggT ∘ era = aggT from funext aggT_era]
theorem wordT_era (t : T) : wordT (era t) = wordT t := by
  unfold wordT
  rw [era_k, era_kids]
  cases t.kids with
  | nil => rfl
  | cons x l => simp only [List.map_cons, wordL, era_k, era_s]
theorem kindT_era (t : T) : kindT (era t) = kindT t := by
  unfold kindT
  rw [wordT_era, era_kids, kindW_era]
theorem aggV_era (l : List T) : aggV (l.map era) = aggV l := by
  unfold aggV
  rw [era_getD, era_getD, era_getD, era_s, era_s, era_s, List.length_map]
theorem baseP_era (kd : Int) (l : List T) : baseP kd (l.map era) = baseP kd l := by
  unfold baseP
  rw [era_getD, era_getD, era_s, (readT_era _).1, era_mid, era_mid, era_kids, era_kids, List.map_map, List.map_map, List.map_map, List.map_map, List.map_map]
  rw [show (T.s ∘ era) = T.s from funext era_s, show ((fun c : T => (readT (c.kids.getD 1 zeroT)).1) ∘ era) = (fun c : T => (readT (c.kids.getD 1 zeroT)).1) from funext fun c => by simp only [Function.comp, era_kids, era_getD, (readT_era _).1],
    show ((fun c : T => (c.kids.getD 0 zeroT).s) ∘ era) = (fun c : T => (c.kids.getD 0 zeroT).s) from funext fun c => by simp only [Function.comp, era_kids, era_getD, era_s],
    show ((fun c : T => aggV c.kids) ∘ era) = (fun c : T => aggV c.kids) from funext fun c => by simp only [Function.comp, era_kids, aggV_era]]
theorem refu_same {a b : RSt} (h : a.1 = b.1) (e x y : Int) : (refu e x a).1 = (refu e y b).1 := by
  unfold refu
  rw [h]
  split
  · rfl
  · exact h
theorem nameR_same {a b : RSt} (h : a.1 = b.1) (t : T) : (nameR (era t) a).1 = (nameR t b).1 := by
  unfold nameR
  rw [era_s]
  split
  · exact h
  · exact refu_same h _ _ _
theorem exprR_same {a b : RSt} (h : a.1 = b.1) (t : T) : (exprR (era t) a).1 = (exprR t b).1 := by
  unfold exprR
  rw [(readT_era t).2]
  split
  · exact h
  · exact refu_same h _ _ _
theorem fold_same (f : T → RSt → RSt) (hf : ∀ (a b : RSt) (t : T), a.1 = b.1 → (f (era t) a).1 = (f t b).1) : ∀ (l : List T) (a b : RSt), a.1 = b.1 → ((l.map era).foldl (fun s t => f t s) a).1 = (l.foldl (fun s t => f t s) b).1
  | [], a, b, h => h
  | x :: l, a, b, h => by
    rw [List.map_cons, List.foldl_cons, List.foldl_cons]
    exact fold_same f hf l _ _ (hf a b x h)
theorem namesR_same {a b : RSt} (h : a.1 = b.1) (l : List T) : (namesR (l.map era) a).1 = (namesR l b).1 := fold_same nameR (fun a b t h => nameR_same h t) l a b h
theorem aggOk_era (l : List T) : aggOk (l.map era) = aggOk l := by
  unfold aggOk
  rw [era_getD, era_s, List.length_map]
theorem aggR1_same {a b : RSt} (h : a.1 = b.1) (l : List T) : (aggR1 (l.map era) a).1 = (aggR1 l b).1 := by
  unfold aggR1
  rw [era_getD, era_getD, aggOk_era]
  split
  · exact nameR_same h _
  · exact refu_same (nameR_same h _) _ _ _
theorem aggR_same {a b : RSt} (h : a.1 = b.1) (l : List T) : (aggR (l.map era) a).1 = (aggR l b).1 := by
  unfold aggR
  rw [era_getD, List.length_map]
  split
  · exact nameR_same (aggR1_same h _) _
  · exact aggR1_same h _
theorem colR_same {a b : RSt} (h : a.1 = b.1) (t : T) : (colR (era t) a).1 = (colR t b).1 := by
  unfold colR
  rw [era_kids, era_getD, era_getD]
  exact exprR_same (nameR_same h _) _
theorem baseR_same {a b : RSt} (h : a.1 = b.1) (kd : Int) (l : List T) (x y : Int) : (baseR kd (l.map era) x a).1 = (baseR kd l y b).1 := by
  unfold baseR
  rw [era_getD, era_getD, era_mid, era_mid, era_kids, era_kids]
  repeat' split
  · exact nameR_same h _
  · exact exprR_same h _
  · exact fold_same colR (fun a b t h => colR_same h t) _ _ _ h
  · exact namesR_same (namesR_same h _) _
  · exact h
  · exact h
  · exact fold_same (fun t s => aggR t.kids s) (fun a b t h => by simp only [era_kids]; exact aggR_same h _) _ _ _ (namesR_same h _)
  · exact refu_same h _ _ _
theorem planL_era : ∀ (l : List T), (∀ t ∈ l, ∀ a b : RSt, a.1 = b.1 → (planT (era t) a).1 = (planT t b).1 ∧ (planT (era t) a).2.1 = (planT t b).2.1) → ∀ (m : Nat) (a b : RSt), a.1 = b.1 →
    (planL (l.map era) m a).1 = (planL l m b).1 ∧ (planL (l.map era) m a).2.1 = (planL l m b).2.1
  | [], _, m, a, b, h => by
    rw [List.map_nil, planL, planL]
    exact ⟨rfl, h⟩
  | x :: l, hx, m, a, b, h => by
    have hl := planL_era l fun t ht => hx t (List.mem_cons_of_mem _ ht)
    rw [List.map_cons]
    cases m with
    | zero =>
      rw [planL, planL]
      obtain ⟨g1, g2⟩ := hx x List.mem_cons_self a b h
      obtain ⟨k1, k2⟩ := hl 0 _ _ g2
      exact ⟨by simp only [g1, k1], k2⟩
    | succ m =>
      rw [planL, planL]
      exact hl m a b h
theorem planT_era : ∀ t : T, ∀ a b : RSt, a.1 = b.1 → (planT (era t) a).1 = (planT t b).1 ∧ (planT (era t) a).2.1 = (planT t b).2.1 := T.ind fun k s n l x ih a b h => by
  have hk := kindT_era (.mk k s n l x)
  rw [era, eraL_map] at hk ⊢
  rw [planT, planT, hk, baseP_era, List.length_map]
  obtain ⟨g1, g2⟩ := planL_era l ih (l.length - kidsN (kindT (.mk k s n l x))) _ _ (baseR_same h (kindT (.mk k s n l x)) l 0 x)
  exact ⟨by simp only [g1], g2⟩
/-! ### a reader that refuses nothing stays as it is -/
theorem refu_no {e : Int} (he : e ≠ 0) (x : Int) (s : RSt) : (refu e x s).1 ≠ 0 := by
  unfold refu
  split
  · exact he
  · assumption
theorem nameR_ok {t : T} {s : RSt} (h : (nameR t s).1 = 0) : nameR t s = s ∧ nameB t.s = true := by
  unfold nameR at h ⊢
  split at h
  · rename_i hn
    rw [if_pos hn]
    exact ⟨rfl, hn⟩
  · exact absurd h (refu_no (by decide) _ _)
theorem exprR_ok {t : T} {s : RSt} (h : (exprR t s).1 = 0) : exprR t s = s ∧ (readT t).2.1 = 0 := by
  unfold exprR at h ⊢
  split at h
  · rename_i hn
    rw [if_pos hn]
    exact ⟨rfl, hn⟩
  · rename_i hn
    exact absurd h (refu_no hn _ _)
theorem fold_ok (f : T → RSt → RSt) (Q : T → Prop) (hf : ∀ (s : RSt) (t : T), (f t s).1 = 0 → f t s = s ∧ Q t) : ∀ (l : List T) (s : RSt), (l.foldl (fun s t => f t s) s).1 = 0 → l.foldl (fun s t => f t s) s = s ∧ ∀ t ∈ l, Q t
  | [], s, h => ⟨rfl, fun t ht => by cases ht⟩
  | x :: l, s, h => by
    rw [List.foldl_cons] at h ⊢
    obtain ⟨h1, h2⟩ := fold_ok f Q hf l _ h
    rw [h1] at h ⊢
    obtain ⟨g1, g2⟩ := hf s x h
    refine ⟨g1, fun t ht => ?_⟩
    rcases List.mem_cons.1 ht with rfl | ht
    · exact g2
    · exact h2 t ht
theorem namesR_ok {l : List T} {s : RSt} (h : (namesR l s).1 = 0) : namesR l s = s := (fold_ok nameR (fun _ => True) (fun s t h => ⟨(nameR_ok h).1, trivial⟩) l s h).1
theorem aggR1_ok {l : List T} {s : RSt} (h : (aggR1 l s).1 = 0) : aggR1 l s = s ∧ aggOk l = true := by
  unfold aggR1 at h ⊢
  split at h
  · rename_i hn
    rw [if_pos hn]
    exact ⟨(nameR_ok h).1, hn⟩
  · exact absurd h (refu_no (by decide) _ _)
theorem aggR_ok {l : List T} {s : RSt} (h : (aggR l s).1 = 0) : aggR l s = s ∧ aggOk l = true := by
  unfold aggR at h ⊢
  split at h
  · rename_i hn
    rw [if_pos hn]
    have h1 := (nameR_ok h).1
    rw [h1] at h ⊢
    exact aggR1_ok h
  · rename_i hn
    rw [if_neg hn]
    exact aggR1_ok h
theorem colR_ok {t : T} {s : RSt} (h : (colR t s).1 = 0) : colR t s = s ∧ (readT (t.kids.getD 1 zeroT)).2.1 = 0 := by
  unfold colR at h ⊢
  obtain ⟨h1, h2⟩ := exprR_ok h
  rw [h1] at h ⊢
  exact ⟨(nameR_ok h).1, h2⟩
/-- what a reader's parts say when it refuses nothing -/
theorem baseR_ok {kd : Int} {l : List T} {x : Int} {s : RSt} (h : (baseR kd l x s).1 = 0) : baseR kd l x s = s ∧ (kd = 2 → (readT (l.getD 1 zeroT)).2.1 = 0) ∧ (kd = 3 → ∀ t ∈ midL l 1, (readT (t.kids.getD 1 zeroT)).2.1 = 0) ∧
    (kd = 7 → ∀ t ∈ midL l 2, aggOk t.kids = true) ∧ (1 ≤ kd ∧ kd ≤ 7) := by
  unfold baseR at h ⊢
  split at h
  · rename_i e
    subst e
    exact ⟨(nameR_ok h).1, fun e => by omega, fun e => by omega, fun e => by omega, by omega⟩
  · split at h
    · rename_i _ e
      subst e
      exact ⟨(exprR_ok h).1, fun _ => (exprR_ok h).2, fun e => by omega, fun e => by omega, by omega⟩
    · split at h
      · rename_i _ _ e
        subst e
        have := fold_ok colR (fun t => (readT (t.kids.getD 1 zeroT)).2.1 = 0) (fun s t h => colR_ok h) _ _ h
        exact ⟨this.1, fun e => by omega, fun _ => this.2, fun e => by omega, by omega⟩
      · split at h
        · rename_i _ _ _ e
          subst e
          have h1 := namesR_ok h
          rw [h1] at h ⊢
          exact ⟨namesR_ok h, fun e => by omega, fun e => by omega, fun e => by omega, by omega⟩
        · split at h
          · rename_i _ _ _ _ e
            subst e
            exact ⟨rfl, fun e => by omega, fun e => by omega, fun e => by omega, by omega⟩
          · split at h
            · rename_i _ _ _ _ _ e
              subst e
              exact ⟨rfl, fun e => by omega, fun e => by omega, fun e => by omega, by omega⟩
            · split at h
              · rename_i _ _ _ _ _ _ e
                subst e
                have := fold_ok (fun t s => aggR t.kids s) (fun t => aggOk t.kids = true) (fun s t h => aggR_ok h) _ _ h
                have h1 : aggsR (midL l 2) (namesR (l.getD 1 zeroT).kids s) = namesR (l.getD 1 zeroT).kids s := this.1
                rw [h1] at h ⊢
                exact ⟨namesR_ok h, fun e => by omega, fun e => by omega, fun _ => this.2, by omega⟩
              · exact absurd h (refu_no (by decide) _ _)
/-! ### a plan's tree -/
def atomT (s : ByteArray) : T := .mk 2 s 0 [] 0
def openT (l : List T) : T := .mk 1 ⟨#[]⟩ 0 l 0
def listT (l : List ByteArray) : T := openT (l.map atomT)
def wordK (k : Int) : List UInt8 := if k = 1 then wTable else if k = 2 then wFilter else if k = 3 then wProject else if k = 4 then wJoin else if k = 5 then wUnion else if k = 6 then wDistinct else wGroup
def aggL (g : Ag) : List ByteArray := if g.fn.toList = wCount then [g.nm, g.fn] else [g.nm, g.fn, g.col]
def colT (c : ByteArray) (e : E) : T := openT [atomT c, treeE e]
def colsT (cols : List ByteArray) (ex : List E) : List T := List.zipWith colT cols ex
def midP (k : Int) (nm : ByteArray) (ex : List E) (cols left right : List ByteArray) (ag : List Ag) : List T :=
  if k = 1 then [atomT nm] else if k = 2 then ex.map treeE else if k = 3 then colsT cols ex else if k = 4 then [listT left, listT right] else if k = 7 then listT left :: ag.map (fun g => listT (aggL g)) else []
mutual
def treeP : P → T
  | .mk k nm ex cols left right ag kids => if k < 1 ∨ 7 < k then zeroT else openT (atomT ⟨(wordK k).toArray⟩ :: (midP k nm ex cols left right ag ++ treePL kids))
def treePL : List P → List T
  | [] => []
  | x :: l => treeP x :: treePL l
end
theorem treePL_map (l : List P) : treePL l = l.map treeP := by
  induction l with
  | nil => rw [treePL]; rfl
  | cons x l ih => rw [treePL, ih]; rfl
/-- what the reader makes -/
inductive MadeP : P → Prop
  | mk (k : Int) (nm : ByteArray) (ex : List E) (cols left right : List ByteArray) (ag : List Ag) (kids : List P) (h1 : 1 ≤ k) (h7 : k ≤ 7) (hex : ∀ e ∈ ex, MadeE e) (hc : cols.length ≤ ex.length) (hk : ∀ p ∈ kids, MadeP p) : MadeP (.mk k nm ex cols left right ag kids)
theorem kind_all (w : List UInt8) (l : List T) : kindW w l = 0 ∨ (kindW w l = 1 ∧ w = wTable ∧ l.length = 2 ∧ (l.getD 1 zeroT).k = 2) ∨ (kindW w l = 2 ∧ w = wFilter ∧ l.length = 3) ∨ (kindW w l = 3 ∧ w = wProject ∧ 3 ≤ l.length ∧ (midL l 1).all columnT = true) ∨
    (kindW w l = 4 ∧ w = wJoin ∧ l.length = 5 ∧ atomsT (l.getD 1 zeroT) = true ∧ atomsT (l.getD 2 zeroT) = true) ∨ (kindW w l = 5 ∧ w = wUnion ∧ l.length = 3) ∨ (kindW w l = 6 ∧ w = wDistinct ∧ l.length = 2) ∨ (kindW w l = 7 ∧ w = wGroup ∧ 3 ≤ l.length ∧ atomsT (l.getD 1 zeroT) = true ∧ (midL l 2).all aggT = true) := by
  unfold kindW
  generalize l.getD 1 zeroT = x1
  generalize l.getD 2 zeroT = x2
  repeat' split
  all_goals simp_all
theorem canL_map' (l : List T) : canL l = l.map canT := by
  induction l with
  | nil => rw [canL]; rfl
  | cons x l ih => rw [canL, ih]; rfl
theorem can_atom {t : T} (h : t.k = 2) : canT t = atomT t.s := by
  obtain ⟨k, s, n, l, a⟩ := t
  simp only [T.k] at h
  unfold canT
  rw [if_pos h]
  rfl
theorem can_open {t : T} (h : t.k = 1) : canT t = openT (t.kids.map canT) := by
  obtain ⟨k, s, n, l, a⟩ := t
  simp only [T.k] at h
  subst h
  unfold canT
  rw [if_neg (by decide), if_neg (by decide), if_neg (by decide), canL_map']
  rfl
theorem can_atoms {t : T} (h : atomsT t = true) : canT t = listT (t.kids.map T.s) := by
  unfold atomsT at h
  simp at h
  rw [can_open h.1, listT, List.map_map]
  congr 1
  refine List.map_congr_left fun x hx => ?_
  exact can_atom (h.2 x hx)
theorem can_column {t : T} (h : columnT t = true) (hr : (readT (t.kids.getD 1 zeroT)).2.1 = 0) : canT t = colT (t.kids.getD 0 zeroT).s (readT (t.kids.getD 1 zeroT)).1 := by
  unfold columnT at h
  simp at h
  obtain ⟨h1, h2, h3⟩ := h
  rw [can_open h1, colT, (back_any _ hr).1]
  match hk : t.kids, h2 with
  | [x, y], _ =>
    rw [hk] at h3
    simp only [headK] at h3
    simp [can_atom h3]
theorem agg_len {t : T} (h : aggT t = true) : atomsT t = true ∧ (t.kids.length = 2 ∨ t.kids.length = 3) := by
  unfold aggT at h
  simp at h
  exact h
theorem can_agg {t : T} (h : aggT t = true) (hr : aggOk t.kids = true) : canT t = listT (aggL (aggV t.kids)) := by
  obtain ⟨h1, h2⟩ := agg_len h
  rw [can_atoms h1]
  congr 1
  generalize t.kids = l at *
  unfold aggOk at hr
  rcases h2 with h2 | h2
  · match l, h2 with
    | [x, y], _ =>
      rw [if_pos (show [x, y].length = 2 from rfl)] at hr
      have e : y.s.toList = wCount := by simpa using hr
      unfold aggL aggV
      simp [e]
  · match l, h2 with
    | [x, y, z], _ =>
      rw [if_neg (by simp)] at hr
      have e : y.s.toList ≠ wCount := by
        intro e
        simp at hr
        rw [e] at hr
        revert hr
        decide
      unfold aggL aggV
      simp [e]
def TreeBack (t : T) : Prop := ∀ s : RSt, (planT t s).2.1 = 0 → (planT t s).2 = s ∧ treeP (planT t s).1 = canT t ∧ MadeP (planT t s).1
theorem planL_back : ∀ (l : List T), (∀ t ∈ l, TreeBack t) → ∀ s : RSt, (planL l 0 s).2.1 = 0 → (planL l 0 s).2 = s ∧ treePL (planL l 0 s).1 = l.map canT ∧ ∀ p ∈ (planL l 0 s).1, MadeP p
  | [], _, s, h => by
    rw [planL]
    exact ⟨rfl, by rw [treePL]; rfl, fun p hp => by cases hp⟩
  | x :: l, hx, s, h => by
    rw [planL] at h ⊢
    simp only at h ⊢
    obtain ⟨h1, h2, h3⟩ := planL_back l (fun t ht => hx t (List.mem_cons_of_mem _ ht)) _ h
    rw [h1] at h ⊢
    obtain ⟨g1, g2, g3⟩ := hx x List.mem_cons_self s h
    refine ⟨g1, by rw [treePL, g2, h2]; rfl, fun p hp => ?_⟩
    rcases List.mem_cons.1 hp with rfl | hp
    · exact g3
    · exact h3 p hp
theorem wordL_cons (k : Int) (x : T) (l : List T) : wordL k (x :: l) = if k = 1 ∧ x.k = 2 then x.s else ⟨#[]⟩ := rfl
theorem word_head {t : T} {w : List UInt8} (h : (wordT t).toList = w) (hw : w ≠ []) : t.k = 1 ∧ ∃ x l, t.kids = x :: l ∧ canT x = atomT ⟨w.toArray⟩ := by
  obtain ⟨k, s, n, l, a⟩ := t
  change (wordL k l).toList = w at h
  show k = 1 ∧ ∃ x r, l = x :: r ∧ _
  cases l with
  | nil => exact absurd h.symm (by simpa [wordL] using hw)
  | cons x l =>
    rw [wordL_cons] at h
    by_cases hx : k = 1 ∧ x.k = 2
    · rw [if_pos hx] at h
      refine ⟨hx.1, x, l, rfl, ?_⟩
      rw [can_atom hx.2]
      congr 1
      apply ByteArray.ext
      apply Array.ext'
      rw [← h]
      simp [ByteArray.toList_eq]
    · rw [if_neg hx] at h
      exact absurd h.symm (by simpa using hw)
theorem back_plan : ∀ t : T, TreeBack t := T.ind fun k s n l a ih => by
  intro st h
  rw [planT] at h ⊢
  simp only at h ⊢
  have hall := kind_all (wordT (.mk k s n l a)).toList l
  rw [show kindW (wordT (.mk k s n l a)).toList l = kindT (.mk k s n l a) from rfl] at hall
  generalize kindT (.mk k s n l a) = kd at *
  rw [planL_skip] at h ⊢
  obtain ⟨h1, h2, h3⟩ := planL_back (l.drop (l.length - kidsN kd)) (fun t ht => ih t (List.mem_of_mem_drop ht)) _ h
  rw [h1] at h ⊢
  obtain ⟨b1, b2, b3, b4, b5, b6⟩ := baseR_ok h
  rw [b1] at h2 h3 ⊢
  generalize (planL (l.drop (l.length - kidsN kd)) 0 st).1 = ks at *
  refine ⟨rfl, ?_, ?_⟩
  · have key : ∀ (w : List UInt8), (wordT (.mk k s n l a)).toList = w → w = wordK kd → w ≠ [] → ∀ (nm : ByteArray) (ex : List E) (cols left right : List ByteArray) (ag : List Ag) (kk : List P), baseP kd l = .mk kd nm ex cols left right ag kk →
        (∀ x r, l = x :: r → midP kd nm ex cols left right ag = (r.take (l.length - kidsN kd - 1)).map canT) → kidsN kd < l.length → treeP ((baseP kd l).put ks) = canT (.mk k s n l a) := by
      intro w hw1 hw2 hw0 nm ex cols left right ag kk hb hm hlt
      obtain ⟨hk1, x, r, hl, hx⟩ := word_head hw1 hw0
      simp only [T.k, T.kids] at hk1 hl
      rw [can_open (t := .mk k s n l a) hk1, hb]
      simp only [P.put, P.k, P.nm, P.ex, P.cols, P.left, P.right, P.ag, T.kids]
      rw [treeP, if_neg (by omega), hm x r hl, h2, ← hw2, ← hx]
      congr 1
      have e : l.length - kidsN kd = (l.length - kidsN kd - 1) + 1 := by omega
      rw [e, hl, List.drop_succ_cons, List.map_cons, ← List.map_append]
      simp
    rcases hall with e | ⟨e, hw, hl, ha⟩ | ⟨e, hw, hl⟩ | ⟨e, hw, hl, ha⟩ | ⟨e, hw, hl, ha, hb⟩ | ⟨e, hw, hl⟩ | ⟨e, hw, hl⟩ | ⟨e, hw, hl, ha, hb⟩
    · omega
    · subst e
      refine key _ hw rfl (by decide) _ _ _ _ _ _ _ (by unfold baseP; rw [if_pos rfl]) (fun x r hx => ?_) (by rw [show kidsN 1 = 0 from rfl]; omega)
      subst hx
      match r, hl with
      | [y], _ =>
        simp at ha
        simp [midP, kidsN, can_atom ha]
    · subst e
      refine key _ hw rfl (by decide) _ _ _ _ _ _ _ (by unfold baseP; rw [if_neg (by decide), if_pos rfl]) (fun x r hx => ?_) (by rw [show kidsN 2 = 1 from rfl]; omega)
      subst hx
      match r, hl with
      | [y, z], _ =>
        have := (back_any _ (b2 rfl)).1
        simp at this
        simp [midP, kidsN, this]
    · subst e
      refine key _ hw rfl (by decide) _ _ _ _ _ _ _ (by unfold baseP; rw [if_neg (by decide), if_neg (by decide), if_pos rfl]) (fun x r hx => ?_) (by rw [show kidsN 3 = 1 from rfl]; omega)
      subst hx
      have hm : midL (x :: r) 1 = r.take ((x :: r).length - kidsN 3 - 1) := by
        unfold midL
        rw [List.drop_succ_cons, List.drop_zero]
        rfl
      rw [← hm]
      have b3' := b3 rfl
      generalize midL (x :: r) 1 = ml at *
      unfold midP colsT
      rw [if_neg (by decide), if_neg (by decide), if_pos rfl, List.zipWith_map, List.zipWith_self]
      refine List.map_congr_left fun c hc => ?_
      exact (can_column (List.all_eq_true.1 ha c hc) (b3' c hc)).symm
    · subst e
      refine key _ hw rfl (by decide) _ _ _ _ _ _ _ (by unfold baseP; rw [if_neg (by decide), if_neg (by decide), if_neg (by decide), if_pos rfl]) (fun x r hx => ?_) (by rw [show kidsN 4 = 2 from rfl]; omega)
      subst hx
      match r, hl with
      | [y1, y2, y3, y4], _ =>
        simp at ha hb
        simp [midP, kidsN, can_atoms ha, can_atoms hb]
    · subst e
      refine key _ hw rfl (by decide) _ _ _ _ _ _ _ (by unfold baseP; rw [if_neg (by decide), if_neg (by decide), if_neg (by decide), if_neg (by decide), if_neg (by decide)]) (fun x r hx => ?_) (by rw [show kidsN 5 = 2 from rfl]; omega)
      subst hx
      match r, hl with
      | [y1, y2], _ => simp [midP, kidsN]
    · subst e
      refine key _ hw rfl (by decide) _ _ _ _ _ _ _ (by unfold baseP; rw [if_neg (by decide), if_neg (by decide), if_neg (by decide), if_neg (by decide), if_neg (by decide)]) (fun x r hx => ?_) (by rw [show kidsN 6 = 1 from rfl]; omega)
      subst hx
      match r, hl with
      | [y1], _ => simp [midP, kidsN]
    · subst e
      refine key _ hw rfl (by decide) _ _ _ _ _ _ _ (by unfold baseP; rw [if_neg (by decide), if_neg (by decide), if_neg (by decide), if_neg (by decide), if_pos rfl]) (fun x r hx => ?_) (by rw [show kidsN 7 = 1 from rfl]; omega)
      subst hx
      match r, hl with
      | y :: r, hl =>
        have hm : midL (x :: y :: r) 2 = r.take ((x :: y :: r).length - kidsN 7 - 1 - 1) := by
          unfold midL
          rw [List.drop_succ_cons, List.drop_succ_cons, List.drop_zero]
          rfl
        have b4' := b4 rfl
        rw [hm] at b4' hb
        have e2 : (x :: y :: r).length - kidsN 7 - 1 = ((x :: y :: r).length - kidsN 7 - 1 - 1) + 1 := by
          rw [show kidsN 7 = 1 from rfl]
          simp only [List.length_cons] at hl ⊢
          omega
        rw [hm, e2, List.take_succ_cons, List.map_cons]
        simp at ha
        unfold midP
        rw [if_neg (by decide), if_neg (by decide), if_neg (by decide), if_neg (by decide), if_pos rfl, List.map_map]
        rw [show (List.getD (x :: y :: r) 1 zeroT) = y from rfl, can_atoms ha, Nat.add_sub_cancel]
        congr 1
        refine List.map_congr_left fun c hc => ?_
        exact (can_agg (List.all_eq_true.1 hb c hc) (b4' c hc)).symm
  · rcases hall with e | ⟨e, hw, hl, ha⟩ | ⟨e, hw, hl⟩ | ⟨e, hw, hl, ha⟩ | ⟨e, hw, hl, ha, hb⟩ | ⟨e, hw, hl⟩ | ⟨e, hw, hl⟩ | ⟨e, hw, hl, ha, hb⟩
    · omega
    · subst e
      exact .mk _ _ _ _ _ _ _ _ (by simp [baseP, P.k]) (by simp [baseP, P.k]) (fun e he => by simp [baseP, P.ex] at he) (by simp [baseP, P.cols, P.ex]) h3
    · subst e
      refine .mk _ _ _ _ _ _ _ _ (by simp [baseP, P.k]) (by simp [baseP, P.k]) (fun e he => ?_) (by simp [baseP, P.cols, P.ex]) h3
      simp [baseP, P.ex] at he
      rw [he]
      simpa using (back_any _ (b2 rfl)).2.2
    · subst e
      refine .mk _ _ _ _ _ _ _ _ (by simp [baseP, P.k]) (by simp [baseP, P.k]) (fun e he => ?_) (by simp [baseP, P.cols, P.ex]) h3
      have he' : e ∈ (midL l 1).map fun c => (readT (c.kids.getD 1 zeroT)).1 := he
      obtain ⟨c, hc, rfl⟩ := List.mem_map.1 he'
      exact (back_any _ (b3 rfl c hc)).2.2
    · subst e
      exact .mk _ _ _ _ _ _ _ _ (by simp [baseP, P.k]) (by simp [baseP, P.k]) (fun e he => by simp [baseP, P.ex] at he) (by simp [baseP, P.cols, P.ex]) h3
    · subst e
      exact .mk _ _ _ _ _ _ _ _ (by simp [baseP, P.k]) (by simp [baseP, P.k]) (fun e he => by simp [baseP, P.ex] at he) (by simp [baseP, P.cols, P.ex]) h3
    · subst e
      exact .mk _ _ _ _ _ _ _ _ (by simp [baseP, P.k]) (by simp [baseP, P.k]) (fun e he => by simp [baseP, P.ex] at he) (by simp [baseP, P.cols, P.ex]) h3
    · subst e
      exact .mk _ _ _ _ _ _ _ _ (by simp [baseP, P.k]) (by simp [baseP, P.k]) (fun e he => by simp [baseP, P.ex] at he) (by simp [baseP, P.cols, P.ex]) h3
/-- what is read of a tree that differs in its places alone -/
theorem plan_again {t t' : T} {s s' : RSt} (h : (planT t s).2.1 = 0) (he : era t' = era t) (hs : s'.1 = 0) : planT t' s' = ((planT t s).1, s') := by
  have h0 : s.1 = 0 := by rw [← (back_plan t s h).1]; exact h
  have g := planT_era t s' s (hs.trans h0.symm)
  have g' := planT_era t' s' s' rfl
  rw [he] at g'
  have e1 : (planT t' s').1 = (planT t s).1 := g'.1.symm.trans g.1
  have e2 : (planT t' s').2.1 = 0 := g'.2.symm.trans (g.2.trans h)
  have e3 := (back_plan t' s' e2).1
  exact Prod.ext e1 e3
end Go.Proofs.YtjhkihkiebnpaaaGreatDoor
/-
  Package plan: atom, open, list; a tree whose kids are appended one behind the other.
-/
namespace Go.Proofs.YtjhkihkiebnpaaaGreatDoor
open Go.RowKit
set_option linter.unusedVariables false
set_option linter.unusedSimpArgs false
structure KSt (w0 : World) (tb B : Nat) (v : Value) (ps : List TP) (wr : World) : Prop where
  box : wr.heap[tb]? = some (.cells #[.int .i64 1, .string ⟨#[]⟩, .int .i64 0, v, .int .i64 0] 71 (0, 0))
  own : wr.ownsRow B 71 5 v ps.length (flatT ps)
  kids : ∀ p ∈ ps, p.1.kids.length ≤ p.2.2 ∧ XTK wr (fun k => B ≤ k ∧ k < wr.heap.size ∧ v.ownBlock ≠ some k ∧ k ≠ tb) p.2.1 p.1.kids
  notb : v.ownBlock ≠ some tb
  below : Below w0.heap.size w0 wr
  tb0 : w0.heap.size ≤ tb
  B0 : w0.heap.size ≤ B
theorem KSt.lt {w0 wr : World} {tb B : Nat} {v : Value} {ps : List TP} (h : KSt w0 tb B v ps wr) : tb < wr.heap.size := (Array.getElem?_eq_some_iff.1 h.box).1
theorem KSt.bel {w0 wr w' : World} {tb B : Nat} {v : Value} {ps : List TP} (h : KSt w0 tb B v ps wr) (hb : Below wr.heap.size wr w') : KSt w0 tb B v ps w' := by
  have hs := hb.size
  have h0 := h.below.size
  exact ⟨(hb.block tb h.lt).trans h.box, own_below h.own hb, fun p hp => ⟨(h.kids p hp).1, ((h.kids p hp).2.kept fun k hk => hb.block k hk.2.1).mono fun k hk => ⟨hk.1, by have := hk.2.1; omega, hk.2.2⟩⟩, h.notb, h.below.trans (hb.mono h0), h.tb0, h.B0⟩
theorem KSt.step {w0 w3 w5 : World} {tb B g' cap sz : Nat} {v : Value} {ps xs : List TP} (h : KSt w0 tb B v ps w3) (hg5 : w3.grownBy w5 v.ownBlock)
    (ho5 : w5.ownsRow B 71 5 (.slice (some ⟨g', 0, none⟩) (ps.length + xs.length) cap) (ps.length + xs.length) (flatT ps ++ flatT xs))
    (hat : (Value.slice (some ⟨g', 0, none⟩) (ps.length + xs.length) cap).ownBlock = v.ownBlock ∨ ∃ n, (Value.slice (some ⟨g', 0, none⟩) (ps.length + xs.length) cap).ownBlock = some n ∧ w3.heap.size ≤ n)
    (hx : ∀ p ∈ xs, p.1.kids.length ≤ p.2.2 ∧ XTK w3 (fun k => sz ≤ k ∧ k < w3.heap.size) p.2.1 p.1.kids) (hsz : B ≤ sz) (htb : tb < sz) (hv : ∀ k, v.ownBlock = some k → k < sz) :
    KSt w0 tb B (.slice (some ⟨g', 0, none⟩) (ps.length + xs.length) cap) (ps ++ xs) (w5.setCell ⟨tb, 3, none⟩ (.slice (some ⟨g', 0, none⟩) (ps.length + xs.length) cap)) := by
  have hs5 := hg5.size
  have hlt := h.lt
  have h2 : ∀ k, v.ownBlock = some k → B ≤ k ∧ k < w3.heap.size := fun k e => h.own.lt k e
  have hne : g' ≠ tb := fun e => by
    rcases hat with h' | ⟨n, h', hn⟩
    · exact h.notb (by rw [← h', ← e]; rfl)
    · have : n = g' := by simpa [Value.ownBlock] using h'.symm
      omega
  have hoth : ∀ k, k ≠ tb → k < w3.heap.size → v.ownBlock ≠ some k → (w5.setCell ⟨tb, 3, none⟩ (.slice (some ⟨g', 0, none⟩) (ps.length + xs.length) cap)).heap[k]? = w3.heap[k]? := fun k a1 a2 a3 =>
    (Below.heap_setCell w5 ⟨tb, 3, none⟩ _ k a1).trans (hg5.block k a2 fun e => a3 e.symm)
  have hz : (w5.setCell ⟨tb, 3, none⟩ (.slice (some ⟨g', 0, none⟩) (ps.length + xs.length) cap)).heap.size = w5.heap.size := by simp [World.setCell]
  have hvv : ∀ k, k < w3.heap.size → v.ownBlock ≠ some k → (Value.slice (some ⟨g', 0, none⟩) (ps.length + xs.length) cap).ownBlock ≠ some k := fun k a1 a2 => by
    rcases hat with h | ⟨n, h, hn⟩
    · rw [h]; exact a2
    · rw [h]; intro e; have := Option.some.inj e; omega
  refine ⟨set5c (k := 3) ((hg5.block tb hlt fun e => h.notb e.symm).trans h.box), ?_, ?_, by simpa [Value.ownBlock] using hne, ?_, h.tb0, h.B0⟩
  · rw [List.length_append, flatT_append]
    exact own_far ho5 (Below.heap_setCell w5 ⟨tb, 3, none⟩ _ g' hne)
  · intro p hp
    rcases List.mem_append.1 hp with hp | hp
    · obtain ⟨k1, k2⟩ := h.kids p hp
      exact ⟨k1, (k2.kept fun k hk => hoth k hk.2.2.2 hk.2.1 hk.2.2.1).mono fun k hk => ⟨hk.1, by have := hk.2.1; omega, hvv k hk.2.1 hk.2.2.1, hk.2.2.2⟩⟩
    · obtain ⟨k1, k2⟩ := hx p hp
      have a2 : ∀ k, sz ≤ k → v.ownBlock ≠ some k := fun k hk e => by have := hv k e; omega
      exact ⟨k1, (k2.kept fun k hk => hoth k (by have := hk.1; omega) hk.2 (a2 k hk.1)).mono fun k hk => ⟨by have := hk.1; omega, by have := hk.2; omega, hvv k hk.2 (a2 k hk.1), by have := hk.1; omega⟩⟩
  · have hb0 := h.B0
    have ht0 := h.tb0
    exact (h.below.grown hg5 h.below.size (fun k e => by have := (h2 k e).1; omega)).setCell (p := ⟨tb, 3, none⟩) ht0 _
/-- the trees L are there -/
def KTo (w0 : World) (tb B : Nat) (L : List T) (wr : World) : Prop := ∃ (v : Value) (ps : List TP), KSt w0 tb B v ps wr ∧ ps.map Prod.fst = L
theorem atom_any (s : ByteArray) (w : World) : Calls Tryz.prog 66 #[.string s] w fun e w' => e = .returned (.agg #[.int .i64 2, .string s, .int .i64 0, .slice none 0 0, .int .i64 0]) ∧ Below w.heap.size w w' := by
  go_enter Tryz.func66, Tryz.ntmps66
  go_wp2_with fail
  refine bodyPost_ret (results_tree rfl rfl (heap_alloc_new w _)) rfl ?_
  exact ⟨rfl, (Below.refl _ _).alloc (Nat.le_refl _) _⟩
theorem open_any (A : Option Addr) (n c : Nat) (w : World) : Calls Tryz.prog 65 #[.slice A n c] w fun e w' => e = .returned (.agg #[.int .i64 1, .string ⟨#[]⟩, .int .i64 0, .slice A n c, .int .i64 0]) ∧ Below w.heap.size w w' := by
  go_enter Tryz.func65, Tryz.ntmps65
  go_wp2_with fail
  refine bodyPost_ret (results_tree rfl rfl (heap_alloc_new w _)) rfl ?_
  exact ⟨rfl, (Below.refl _ _).alloc (Nat.le_refl _) _⟩
theorem kst_start {w0 w2 : World} (hb : Below w0.heap.size w0 w2) : KSt w0 w2.heap.size w2.heap.size (.slice none 0 0) [] (w2.alloc (.cells #[.int .i64 1, .string ⟨#[]⟩, .int .i64 0, .slice none 0 0, .int .i64 0] 71)) :=
  ⟨heap_alloc_new w2 _, ⟨rfl, .inl ⟨rfl, rfl⟩⟩, fun p hp => (by cases hp), (by simp [Value.ownBlock]), hb.alloc hb.size _, hb.size, hb.size⟩
theorem Lies.at_ {w : World} {S : Nat → Prop} {A : Option Addr} {l : List ByteArray} (h : Lies w S A (strs l)) {j : Nat} {x : ByteArray} (hx : l[j]? = some x) : ∃ b o, A = some ⟨b, o, none⟩ ∧ S b ∧ w.cell? ⟨b, o + j, none⟩ = some (.string x) := by
  rcases h with h | ⟨b, o, hA, hb, hc⟩
  · have : l = [] := by simpa [strs] using h
    subst this
    simp at hx
  · exact ⟨b, o, hA, hb, hc j _ (by rw [strs, List.getElem?_map, hx]; rfl)⟩
theorem get_some {α : Type} {l : List α} {j n : Nat} (h : n = l.length) (hj : j < n) : ∃ x, l[j]? = some x := ⟨_, List.getElem?_eq_getElem (by omega)⟩
theorem take_snoc {α : Type} {l : List α} {j : Nat} {x : α} (h : l[j]? = some x) : l.take (j + 1) = l.take j ++ [x] := by rw [List.take_add_one, h]; rfl
/-- a loop's trees at its end -/
theorem kst_end {w0 wr : World} {tb B : Nat} {v : Value} {ps : List TP} (h : KSt w0 tb B v ps wr) (hl : ps.length ≤ 9223372036854775807) : ∃ A c, v = .slice A (ps.map Prod.fst).length c ∧ (ps.map Prod.fst).length ≤ c ∧ XTK wr (fun k => w0.heap.size ≤ k ∧ k < wr.heap.size) A (ps.map Prod.fst) := by
  have h0 := h.B0
  exact own_trees h.own hl (fun k k1 k2 => ⟨by omega, k2⟩) (fun p hp => ⟨(h.kids p hp).1, (h.kids p hp).2.mono fun k hk => ⟨by have := hk.1; omega, hk.2.1⟩⟩)
theorem meas_j {j n : Nat} (h : j < n) : n - (intOf (Value.int .i64 ((j : Int) + 1))).toNat < n - (intOf (Value.int .i64 (j : Int))).toNat := by
  simp [intOf]; omega
/-- what a call gives: a tree in new blocks -/
def TreeRet (w : World) (t : T) (e : Ending) (w' : World) : Prop := (∃ A c, e = .returned (t.val A c) ∧ t.kids.length ≤ c ∧ XTK w' (fun k => w.heap.size ≤ k ∧ k < w'.heap.size) A t.kids) ∧ Below w.heap.size w w'
theorem treeRet_put {w w1 wr : World} {A : Option Addr} {c p : Nat} {L : List T} {x0 x1 x2 x3 x4 : Value} (h1 : w.heap.size < w1.heap.size) (hb : Below w.heap.size w w1) (hr : Below w1.heap.size w1 wr) (hc : L.length ≤ c) (hX : XTK wr (fun k => w1.heap.size ≤ k ∧ k < wr.heap.size) A L) (hp : p = w.heap.size)
    (hx : x0 = .int .i64 1 ∧ x1 = .string ⟨#[]⟩ ∧ x2 = .int .i64 0 ∧ x3 = .slice A L.length c ∧ x4 = .int .i64 0) : TreeRet w (openT L) (.returned (.agg #[x0, x1, x2, x3, x4])) (put5 wr p x0 x1 x2 x3 x4) := by
  obtain ⟨rfl, rfl, rfl, rfl, rfl⟩ := hx
  subst hp
  refine ⟨⟨A, c, rfl, hc, ?_⟩, put5_below (hb.trans (hr.mono (Nat.le_of_lt h1))) (Nat.le_refl _)⟩
  exact (hX.kept (fun k hk => put5_other (by have := hk.1; omega))).mono (fun k hk => ⟨by have := hk.1; omega, by rw [put5_size]; exact hk.2⟩)
set_option maxRecDepth 100000 in
set_option maxHeartbeats 1000000 in
theorem list_any (l : List ByteArray) (hl : l.length ≤ 600) (A : Option Addr) (c : Nat) (w : World) (hL : Lies w (fun k => k < w.heap.size) A (strs l)) :
    Calls Tryz.prog 68 #[.slice A l.length c] w (TreeRet w (listT l)) := by
  obtain ⟨ln, eln⟩ : ∃ ln, ln = l.length := ⟨_, rfl⟩
  obtain ⟨w1, ew1⟩ : ∃ w1, w1 = w.alloc (.cells #[.int .i64 0, .string ⟨#[]⟩, .int .i64 0, .slice none 0 0, .int .i64 0] 71) := ⟨_, rfl⟩
  have hb1 : Below w.heap.size w w1 := by rw [ew1]; exact (Below.refl _ _).alloc (Nat.le_refl _) _
  have hs1 : w.heap.size < w1.heap.size := by rw [ew1]; simp
  have hr1 : w1.heap[w.heap.size]? = some (.cells #[.int .i64 0, .string ⟨#[]⟩, .int .i64 0, .slice none 0 0, .int .i64 0] 71 (0, 0)) := by rw [ew1]; exact heap_alloc_new w _
  have HLN := Lib.hid eln
  have HL := Lib.hid hL
  have HB1 := Lib.hid hb1
  have HR1 := Lib.hid hr1
  have HW1 := Lib.hid ew1
  have hop := Lib.hid (open_any none 0 0 w1)
  obtain ⟨i0, hi, hz0, hz1, hz2⟩ := info_parts tree_info
  rw [← eln] at hl ⊢
  clear eln hL ew1 hb1 hr1
  go_enter Tryz.func68, Tryz.ntmps68
  go_upto_region 1 with (fail)
  rw [← HW1.out]
  go_wp2_with fail
  refine (hop.out).mono ?_
  rintro e w2 ⟨rfl, hb2⟩
  have HB2 := Lib.hid hb2
  have HS := Lib.hid (kst_start hb2)
  clear hb2
  go_wp2_with fail
  go_loopw [9] (fun i wr => ∃ j : Nat, j ≤ ln ∧ i = .int .i64 j ∧ KTo w1 w2.heap.size w2.heap.size ((l.take j).map atomT) wr) (fun i _ => ln - (intOf i).toNat)
  case atStart => exact ⟨0, Nat.zero_le _, rfl, _, [], HS.out, by simp⟩
  case round =>
    obtain ⟨j, hj, rfl, v, ps, hK, hps⟩ := hrel
    have HK := Lib.hid hK
    have HPS := Lib.hid hps
    have hpl := Lib.hid (show ps.length = j by have := congrArg List.length hps; rw [List.length_map, List.length_map, List.length_take, ← HLN.out] at this; omega)
    clear hK hps
    by_cases hlt : j < ln
    · obtain ⟨x, hx⟩ := get_some HLN.out hlt
      obtain ⟨b, o, rfl, hb, hcell⟩ := HL.out.at_ hx
      have hcx : wr.cell? ⟨b, o + j, none⟩ = some (.string x) := ((HB1.out.trans (HK.out.below.mono (Nat.le_of_lt hs1))).cell hb).trans hcell
      have HA := Lib.hid (atom_any x wr.drew)
      have htk := Lib.hid (take_snoc hx)
      have hj6 : j ≤ 600 := Nat.le_trans hj hl
      have hvo := Lib.hid (fun k (e : v.ownBlock = some k) => (HK.out.own.lt k e).2)
      have g0 := (cell5 HK.out.box).1.2.2.2.1
      clear hcell hx
      go_upto_region 5 with (fail)
      go_region_law (first
        | (refine step_append_lies _ rfl _ _ _ rfl w2.heap.size 71 i0 _ 5 64 Tryz.underlying69 hi hz0 hz1 hz2 rfl (by decide) _ _ _ rfl (HK3.out.own.alloc _) ⟨w3.heap.size, 0, none⟩ 1 1 (TP.cs ((.mk 2 x 0 [] 0 : T), none, 0)) rfl rfl (World.news_of_block (heap_alloc_new w3 _)) (by rw [← flatT_one]; exact flatT_ones _) (by decide) (maxl600 hpl.out hj6) (bytes600 hpl.out hj6 (by decide)) hsz3.out _ rfl ?_; intro g' cap w5 hown5 hgrow hat hlt5
           have HO5 := Lib.hid hown5
           have HG5 : Hid (w3.grownBy w5 v.ownBlock) := Lib.hid ((World.grownBy_alloc _ _ _).trans hgrow)
           have hat5 : Hid ((Value.slice (some ⟨g', 0, none⟩) (ps.length + 1) cap).ownBlock = v.ownBlock ∨ ∃ n, (Value.slice (some ⟨g', 0, none⟩) (ps.length + 1) cap).ownBlock = some n ∧ w3.heap.size ≤ n) := Lib.hid (hat.imp (fun h => h.symm) fun h => ⟨g', rfl, by rw [h]; exact (box_below w3 _ _).size⟩)
           have HE5 := Lib.hid ((HG5.out.block w2.heap.size HK3.out.lt (fun e => HK3.out.notb e.symm)).trans HK3.out.box)
           obtain ⟨⟨p0, p1, p2, p3, p4⟩, q0, q1, q2, q3, q4⟩ := cell5 HE5.out
           clear hown5 hgrow hat)
        | (go_simp; go_at_call 66; refine (HA.out).mono ?_; rintro e w3 ⟨rfl, hb3⟩
           have HK3 := Lib.hid (HK.out.bel (((Below.refl _ _).drew).trans hb3))
           have hsz3 : Hid (w2.heap.size ≤ (w3.alloc (.cells #[.int .i64 2, .string x, .int .i64 0, .slice none 0 0, .int .i64 0] 71)).heap.size) := Lib.hid (Nat.le_trans (Nat.le_of_lt HK3.out.lt) (box_below w3 _ _).size)
           have g3 : w3.cell? ⟨w2.heap.size, 3, none⟩ = some v := (cell5 HK3.out.box).1.2.2.2.1
           have g3b : (w3.alloc (.cells #[.int .i64 2, .string x, .int .i64 0, .slice none 0 0, .int .i64 0] 71)).cell? ⟨w2.heap.size, 3, none⟩ = some v := (World.cell?_alloc_some _ _ _ (by rw [g3]; rfl)).trans g3
           have hs3 := Lib.hid hb3.size
           clear hb3))
      all_goals
        go_wp2_with fail
        go_roundw
        case measure => exact meas_j hlt
        case rel =>
          refine ⟨j + 1, hlt, by simp, _, ps ++ [((.mk 2 x 0 [] 0 : T), none, 0)], HK3.out.step (xs := [((.mk 2 x 0 [] 0 : T), none, 0)]) (sz := wr.heap.size) HG5.out (by rw [flatT_one]; exact HO5.out) hat5.out (leaf_all x _ _) (Nat.le_of_lt HK.out.lt) HK.out.lt hvo.out, ?_⟩
          rw [List.map_append, HPS.out, htk.out, List.map_append]
          rfl
    · have he : Hid (ps.map Prod.fst = l.map atomT) := Lib.hid (by rw [HPS.out, List.take_of_length_le (by have := HLN.out; omega)])
      obtain ⟨A9, c9, rfl, hc9, hX9⟩ := kst_end HK.out (by have := hpl.out; omega)
      rw [he.out] at hc9 hX9
      have HK9 := Lib.hid HK.out.box
      rw [he.out] at HK9
      have HX9 := Lib.hid hX9
      have hR9 := Lib.hid ((HK.out.below.block _ hs1).trans HR1.out)
      have HBW := Lib.hid HK.out.below
      obtain ⟨⟨k0, k1, k2, k3, k4⟩, f0, f1, f2, f3, f4⟩ := cell5 HK9.out
      obtain ⟨⟨q0, q1, q2, q3, q4⟩, e0, e1, e2, e3, e4⟩ := cell5 hR9.out
      clear HK hX9 hpl
      go_wp2_with fail
      refine bodyPost_ret (results_tree rfl rfl (put5_block hR9.out)) rfl ?_
      exact treeRet_put hs1 HB1.out HBW.out hc9 HX9.out rfl ⟨rfl, rfl, rfl, by rw [List.length_map], rfl⟩
end Go.Proofs.YtjhkihkiebnpaaaGreatDoor
/-
  A region that draws its order, whose late operations (Ks) may write what the loads read: a load may be taken first where the cells hold until these. (As XLast, with several.) No program in sight.
-/
set_option linter.unusedVariables false
set_option linter.unusedSimpArgs false
namespace Go.Proofs.YtjhkihkiebnpaaaGreatDoor
namespace LateKit
section
variable {P : Program} {ops : Array Oper} {Q : Exit → Act → World → Prop} {md : Region.Mode} {S : World → Prop} {Ks : List Nat}
/-- whatever order is picked from here on; S holds behind every operation but the late ones -/
def wpAnyK (P : Program) (md : Region.Mode) (ops : Array Oper) (Q : Exit → Act → World → Prop) (S : World → Prop) (Ks : List Nat) : Nat → Array Bool → Act → World → Prop
  | 0, listed, a, w => Region.ready md ops listed = [] ∧ Q .normal a w
  | fuel + 1, listed, a, w =>
    (Region.ready md ops listed = [] → Q .normal a w) ∧
    ∀ i ∈ Region.ready md ops listed, wpOp P ops Q i (fun a' w' => (i ∉ Ks → S w') ∧ wpAnyK P md ops Q S Ks fuel (listed.setIfInBounds i true) a' w') a w
theorem wpAny_of_last : ∀ (fuel : Nat) (listed : Array Bool) (a : Act) (w : World), wpAnyK P md ops Q S Ks fuel listed a w → wpAny P md ops Q fuel listed a w
  | 0, _, _, _, h => h
  | fuel + 1, _, _, _, h => ⟨h.1, fun i hi => wpOp_mono (fun a' w' h' => wpAny_of_last fuel _ a' w' h'.2) (h.2 i hi)⟩
theorem wpAnyK_first {i : Nat} {oi : Oper} {v : Value} {C : List Nat} (hi : ops[i]? = some oi) (hsel : ∀ (j : Nat) (o : Oper) cs b, ops[j]? = some o → o.op ≠ .select cs b)
    (hQ : ∀ c a w, Q (.panic c) (a.put oi.dst v) w → Q (.panic c) a w) (hkC : ∀ k ∈ Ks, k ∈ C)
    (hC : ∀ c ∈ C, c ≠ i → ∀ o, ops[c]? = some o → ∃ e ∈ o.after, Region.binds md e = true ∧ e.on ∈ C) :
    ∀ (fuel : Nat) (listed : Array Bool) (a : Act) (w : World),
      (∀ j oj, ops[j]? = some oj → j ≠ i → listed.getD j true = false → (∀ e ∈ oj.after, Region.binds md e = true → e.on ≠ i) → oi.apart ops oj = true) →
      (∀ c ∈ C, listed.getD c true = false) →
      i ∈ Region.ready md ops listed → YieldsIf P ops S oi v a → S w →
      wpAnyK P md ops Q S Ks fuel (listed.setIfInBounds i true) (a.put oi.dst v) w → wpAnyK P md ops Q S Ks (fuel + 1) listed a w := by
  intro fuel
  induction fuel with
  | zero =>
    intro listed a w _ _ hr hy hS H
    refine ⟨fun h => (by rw [h] at hr; cases hr), fun j hj => ?_⟩
    by_cases hji : j = i
    · subst hji; exact hy.wpOp hi hS ⟨fun _ => hS, H⟩
    · have := ready_mono hj hji
      rw [H.1] at this
      cases this
  | succ fuel ih =>
    intro listed a w hfree hun hr hy hS H
    refine ⟨fun h => (by rw [h] at hr; cases hr), fun j hj => ?_⟩
    by_cases hji : j = i
    · subst hji; exact hy.wpOp hi hS ⟨fun _ => hS, H⟩
    · have h1 := H.2 j (ready_mono hj hji)
      obtain ⟨hjun, oj, hoj, hall⟩ := mem_ready.1 hj
      have hjC : j ∉ C := fun hm => by
        obtain ⟨e, he, hb, heC⟩ := hC j hm hji oj hoj
        have t1 := hall e he hb
        have t2 := hun e.on heC
        rcases Nat.lt_or_ge e.on listed.size with h' | h'
        · simp [h'] at t1 t2; rw [t1] at t2; cases t2
        · simp [Array.getElem?_eq_none h'] at t1
      have hjk : j ∉ Ks := fun e => hjC (hkC j e)
      have hnot : ∀ e ∈ oj.after, Region.binds md e = true → e.on ≠ i := fun e he hb heq => by
        have h1 := hall e he hb
        have h0 := (mem_ready.1 hr).1
        rw [heq] at h1
        rcases Nat.lt_or_ge i listed.size with h' | h'
        · simp [h'] at h0 h1; rw [h0] at h1; cases h1
        · simp [Array.getElem?_eq_none h'] at h1
      have h2 := wpOp_putIf hoj (hfree j oj hoj hji hjun hnot) (fun cs b => hsel i oi cs b hi) (fun cs b => hsel j oj cs b hoj) hQ hy h1
      have hfree' : ∀ k ok, ops[k]? = some ok → k ≠ i → (listed.setIfInBounds j true).getD k true = false →
          (∀ e ∈ ok.after, Region.binds md e = true → e.on ≠ i) → oi.apart ops ok = true := fun k ok hk hki hun hno => by
        refine hfree k ok hk hki ?_ hno
        by_cases hjk : j = k
        · subst hjk; exact hjun
        · rw [getD_set_ne true hjk] at hun; exact hun
      have hun' : ∀ c ∈ C, (listed.setIfInBounds j true).getD c true = false := fun c hc => by
        have hne : j ≠ c := fun e => hjC (by rw [e]; exact hc)
        rw [getD_set_ne true hne]; exact hun c hc
      refine wpOp_mono (fun a' w' h3 => ⟨h3.2.1, ih (listed.setIfInBounds j true) a' w' hfree' hun' (ready_mono hr (Ne.symm hji)) h3.1 (h3.2.1 hjk) ?_⟩) h2
      rw [Array.setIfInBounds_comm _ _ hji]
      exact h3.2.2
/-- every one of C but i waits for one of C; none of them is listed; k is one of them -/
def chainOk (md : Region.Mode) (ops : Array Oper) (listed : Array Bool) (C : List Nat) (i : Nat) (Ks : List Nat) : Bool :=
  (Ks.all fun k => C.contains k) && C.all fun c => (!(listed.getD c true)) && (Nat.beq c i || match ops[c]? with
    | some o => o.after.any fun e => Region.binds md e && C.contains e.on
    | none => true)
theorem wpAnyK_take {i : Nat} {oi : Oper} {v : Value} {C : List Nat} {fuel : Nat} {listed : Array Bool} {a : Act} {w : World} (hi : ops[i]? = some oi)
    (hs : Region.noSelect ops = true) (hf : Region.free md ops listed i = true) (hr : (Region.ready md ops listed).contains i = true) (hc : chainOk md ops listed C i Ks = true)
    (hQ : ∀ c a w, Q (.panic c) (a.put oi.dst v) w → Q (.panic c) a w) (hy : YieldsIf P ops S oi v a) (hS : S w)
    (h : wpAnyK P md ops Q S Ks fuel (listed.setIfInBounds i true) (a.put oi.dst v) w) : wpAnyK P md ops Q S Ks (fuel + 1) listed a w := by
  unfold chainOk at hc
  simp only [Bool.and_eq_true, List.all_eq_true, Bool.or_eq_true, Nat.beq_eq] at hc
  obtain ⟨hk, hc⟩ := hc
  refine wpAnyK_first hi (Region.noSelect_spec hs) hQ (by simpa using hk) (fun c hm hne o ho => ?_) fuel listed a w (Region.free_spec hi hf) (fun c hm => by have := (hc c hm).1; simpa using this) (by simpa using hr) hy hS h
  rcases (hc c hm).2 with h' | h'
  · exact absurd h' hne
  · rw [ho] at h'
    simp only [Array.any_eq_true, Bool.and_eq_true] at h'
    obtain ⟨n, hn, hb, hcn⟩ := h'
    exact ⟨o.after[n], Array.getElem_mem hn, hb, by simpa using hcn⟩
theorem wpAnyK_firstP {i : Nat} {oi : Oper} {v : Value} (hiK : i ∈ Ks) (hi : ops[i]? = some oi) (hsel : ∀ (j : Nat) (o : Oper) cs b, ops[j]? = some o → o.op ≠ .select cs b)
    (hQ : ∀ c a w, Q (.panic c) (a.put oi.dst v) w → Q (.panic c) a w) :
    ∀ (fuel : Nat) (listed : Array Bool) (a : Act) (w : World),
      (∀ j oj, ops[j]? = some oj → j ≠ i → listed.getD j true = false → (∀ e ∈ oj.after, Region.binds md e = true → e.on ≠ i) → oi.apart ops oj = true) →
      i ∈ Region.ready md ops listed → YieldsIf P ops (fun _ => True) oi v a →
      wpAnyK P md ops Q S Ks fuel (listed.setIfInBounds i true) (a.put oi.dst v) w → wpAnyK P md ops Q S Ks (fuel + 1) listed a w := by
  intro fuel
  induction fuel with
  | zero =>
    intro listed a w _ hr hy H
    refine ⟨fun h => (by rw [h] at hr; cases hr), fun j hj => ?_⟩
    by_cases hji : j = i
    · subst hji; exact hy.wpOp hi trivial ⟨fun e => absurd hiK e, H⟩
    · have := ready_mono hj hji
      rw [H.1] at this
      cases this
  | succ fuel ih =>
    intro listed a w hfree hr hy H
    refine ⟨fun h => (by rw [h] at hr; cases hr), fun j hj => ?_⟩
    by_cases hji : j = i
    · subst hji; exact hy.wpOp hi trivial ⟨fun e => absurd hiK e, H⟩
    · have h1 := H.2 j (ready_mono hj hji)
      obtain ⟨hjun, oj, hoj, hall⟩ := mem_ready.1 hj
      have hnot : ∀ e ∈ oj.after, Region.binds md e = true → e.on ≠ i := fun e he hb heq => by
        have h1 := hall e he hb
        have h0 := (mem_ready.1 hr).1
        rw [heq] at h1
        rcases Nat.lt_or_ge i listed.size with h' | h'
        · simp [h'] at h0 h1; rw [h0] at h1; cases h1
        · simp [Array.getElem?_eq_none h'] at h1
      have h2 := wpOp_putIf hoj (hfree j oj hoj hji hjun hnot) (fun cs b => hsel i oi cs b hi) (fun cs b => hsel j oj cs b hoj) hQ hy h1
      have hfree' : ∀ k ok, ops[k]? = some ok → k ≠ i → (listed.setIfInBounds j true).getD k true = false →
          (∀ e ∈ ok.after, Region.binds md e = true → e.on ≠ i) → oi.apart ops ok = true := fun k ok hk hki hun hno => by
        refine hfree k ok hk hki ?_ hno
        by_cases hjk : j = k
        · subst hjk; exact hjun
        · rw [getD_set_ne true hjk] at hun; exact hun
      refine wpOp_mono (fun a' w' h3 => ⟨h3.2.1, ih (listed.setIfInBounds j true) a' w' hfree' (ready_mono hr (Ne.symm hji)) h3.1 ?_⟩) h2
      rw [Array.setIfInBounds_comm _ _ hji]
      exact h3.2.2
/-- an operation that looks at no memory -/
theorem wpAnyK_takeP {i : Nat} {oi : Oper} {v : Value} {fuel : Nat} {listed : Array Bool} {a : Act} {w : World} (hiK : i ∈ Ks) (hi : ops[i]? = some oi)
    (hs : Region.noSelect ops = true) (hf : Region.free md ops listed i = true) (hr : (Region.ready md ops listed).contains i = true)
    (hQ : ∀ c a w, Q (.panic c) (a.put oi.dst v) w → Q (.panic c) a w) (hy : YieldsIf P ops (fun _ => True) oi v a)
    (h : wpAnyK P md ops Q S Ks fuel (listed.setIfInBounds i true) (a.put oi.dst v) w) : wpAnyK P md ops Q S Ks (fuel + 1) listed a w :=
  wpAnyK_firstP hiK hi (Region.noSelect_spec hs) hQ fuel listed a w (Region.free_spec hi hf) (by simpa using hr) hy h
def AllReadyK (P : Program) (md : Region.Mode) (ops : Array Oper) (Q : Exit → Act → World → Prop) (S : World → Prop) (Ks : List Nat) (fuel : Nat) (listed : Array Bool) (a : Act) (w : World) (rs : List Nat) : Prop :=
  ∀ i ∈ rs, wpOp P ops Q i (fun a' w' => (i ∉ Ks → S w') ∧ wpAnyK P md ops Q S Ks fuel (listed.setIfInBounds i true) a' w') a w
theorem AllReadyK.nil {fuel : Nat} {listed : Array Bool} {a : Act} {w : World} : AllReadyK P md ops Q S Ks fuel listed a w [] := fun _ h => by cases h
theorem AllReadyK.cons {fuel : Nat} {listed : Array Bool} {a : Act} {w : World} {i : Nat} {o : Oper} {rs : List Nat} (ho : ops[i]? = some o)
    (h : ∀ K' : Act → World → Prop, Shut (∀ a w, S w → (S w → wpAnyK P md ops Q S Ks fuel (listed.setIfInBounds i true) a w) → K' a w) → if Region.wanted o (yielded ops a.tmps) = true then Oper.wp P o a w K' Q else K' (a.put o.dst undef) w)
    (hs : AllReadyK P md ops Q S Ks fuel listed a w rs) : AllReadyK P md ops Q S Ks fuel listed a w (i :: rs) := fun j hj => by
  rcases List.mem_cons.1 hj with rfl | hj
  · exact wpOp_step ho (fun K' hK => h K' (fun a w hS hW => hK a w ⟨fun _ => hS, hW hS⟩))
  · exact hs j hj
/-- a late one: S is not asked behind it -/
theorem AllReadyK.late {fuel : Nat} {listed : Array Bool} {a : Act} {w : World} {i : Nat} {o : Oper} {rs : List Nat} (hi : i ∈ Ks) (ho : ops[i]? = some o)
    (h : ∀ K' : Act → World → Prop, Shut (∀ a w, wpAnyK P md ops Q S Ks fuel (listed.setIfInBounds i true) a w → K' a w) → if Region.wanted o (yielded ops a.tmps) = true then Oper.wp P o a w K' Q else K' (a.put o.dst undef) w)
    (hs : AllReadyK P md ops Q S Ks fuel listed a w rs) : AllReadyK P md ops Q S Ks fuel listed a w (i :: rs) := fun j hj => by
  rcases List.mem_cons.1 hj with rfl | hj
  · exact wpOp_step ho (fun K' hK => h K' (fun a w hW => hK a w ⟨fun e => absurd hi e, hW⟩))
  · exact hs j hj
theorem wpAnyK_ready {rs : List Nat} {fuel : Nat} {listed : Array Bool} {a : Act} {w : World} (hr : Region.ready md ops listed = rs) (hne : rs ≠ [])
    (h : AllReadyK P md ops Q S Ks fuel listed a w rs) : wpAnyK P md ops Q S Ks (fuel + 1) listed a w := ⟨fun h0 => absurd (hr ▸ h0) hne, hr ▸ h⟩
theorem wpAnyK_done {listed : Array Bool} {a : Act} {w : World} (hr : Region.ready md ops listed = []) (h : Q .normal a w) :
    ∀ fuel, wpAnyK P md ops Q S Ks fuel listed a w
  | 0 => ⟨hr, h⟩
  | _ + 1 => ⟨fun _ => h, by rw [hr]; simp⟩
theorem wp_region_last {id : Nat} {a : Act} {w : World} (S : World → Prop) (Ks : List Nat) (hm : P.follows .mixedOrders = true) (hS : S w.drew)
    (h : S w.drew → wpAnyK P .any ops Q S Ks ops.size (Array.replicate ops.size false) a w.drew) : (Code.region id ops true).wp P Q a w :=
  wp_region_any hm (wpAny_of_last _ _ _ _ (h hS))
end
end LateKit
end Go.Proofs.YtjhkihkiebnpaaaGreatDoor
