/-
  expr.Tree: an expression that can be made, as a tree in new memory.
-/
import Derived.Test.YtldleckgkgeclaaDoorMb3
import Derived.Test.YtldleckgkgeclaaDoorMb5
import Derived.WalkKit
import Derived.WalkSpells
import Derived.Lib.Hide
import Derived.Below
import Derived.Laws.OwnMore
import Derived.Laws.Rows
import Derived.Maps.AppendAt
import Derived.Deep.AppendLies
import Derived.Deep.Draws
import Derived.RegionTactic
import Derived.OwnWalk
import Derived.Test.YtldleckgkgeclaaDoorMb0
import Derived.Laws.IdiomStrings
import Derived.Laws.BytesArg
import Derived.Lib.AppendIntMem
import Derived.Lib.ItoaLen
import Derived.StillTailTactics
import Derived.Deep.RegionLaw
import Derived.Deep.DeepCutAuto
set_option linter.unusedVariables false
set_option linter.unusedSimpArgs false
namespace Go.Proofs.YtldleckgkgeclaaDoor
open Go.RowKit
set_option linter.unusedVariables false
set_option linter.unusedSimpArgs false
def TreeOk (e : E) : Prop := MadeE e → ∀ (A : Option Addr) (c : Nat) (w : World), EKids w w.heap.size A e.kids →
  Calls Tryd.prog 15 #[e.val A c] w fun r w' => (∃ A' c', r = .returned ((treeE e).val A' c') ∧ (treeE e).kids.length ≤ c' ∧ XTK w' (fun k => w.heap.size ≤ k ∧ k < w'.heap.size) A' (treeE e).kids) ∧ Below w.heap.size w w'
theorem own_far {w w' : World} {base n c g : Nat} {e : TypeId} {z : Nat} {xs : List Value} (h : w.ownsRow base e z (.slice (some ⟨g, 0, none⟩) n c) n xs) (hb : w'.heap[g]? = w.heap[g]?) : w'.ownsRow base e z (.slice (some ⟨g, 0, none⟩) n c) n xs := by
  refine ⟨h.1, ?_⟩
  rcases h.2 with hn | ⟨g', cap, cur, e1, hg, hgg, rest⟩
  · exact .inl hn
  · have hgg' : g = g' := by injection e1 with e1; injection e1 with e1; injection e1
    subst hgg'
    exact .inr ⟨g, cap, cur, e1, hg, by rw [hb]; exact hgg, rest⟩
theorem treeL_take {l : List E} {j : Nat} {x : E} (h : l[j]? = some x) : (treeL l).take (j + 1) = (treeL l).take j ++ [treeE x] := by
  induction l generalizing j with
  | nil => simp at h
  | cons y l ih =>
    cases j with
    | zero =>
      obtain rfl : y = x := by simpa using h
      rw [treeL]
      rfl
    | succ j =>
      rw [treeL, List.take_succ_cons, List.take_succ_cons, ih (by simpa using h)]
      rfl
theorem cnt_few (s : ByteArray) : cntL s.toList ≤ 3 := by
  unfold cntL
  repeat' split
  all_goals decide
theorem leaf_all (s : ByteArray) (w : World) (S : Nat → Prop) : ∀ p ∈ [((.mk 2 s 0 [] 0 : T), (none : Option Addr), 0)], p.1.kids.length ≤ p.2.2 ∧ XTK w S p.2.1 p.1.kids := fun p hp => by
  obtain rfl : p = ((.mk 2 s 0 [] 0 : T), none, 0) := by simpa using hp
  exact ⟨Nat.le_refl _, .nil _⟩
set_option maxRecDepth 100000 in
set_option maxHeartbeats 4000000 in
theorem tree_step (k : Int) (s : ByteArray) (n : Int) (l : List E) (hM : ∀ e ∈ l, TreeOk e) : TreeOk (.mk k s n l) := by
  intro hm A c w hA
  have hmade := made_any (.mk k s n l)
  unfold MadeExp at hmade
  rw [hm.ok] at hmade
  simp only [E.val, E.k, E.s, E.n, E.kids] at hA hmade ⊢
  obtain ⟨tr, htr⟩ : ∃ tr, tr = treeE (.mk k s n l) := ⟨_, rfl⟩
  rw [← htr]
  have HTR := Lib.hid htr
  clear htr
  obtain ⟨ln, eln⟩ : ∃ ln, ln = l.length := ⟨_, rfl⟩
  have hlen := hA.len
  rw [← eln] at hlen hmade ⊢
  obtain ⟨wa, ewa⟩ : ∃ wa, wa = w.alloc (.cells #[.int .i64 k, .string s, .int .i64 n, .slice A ln c] 39) := ⟨_, rfl⟩
  have hba : Below w.heap.size w wa := by rw [ewa]; exact (Below.refl _ _).alloc (Nat.le_refl _) _
  have hsa : wa.heap.size = w.heap.size + 1 := by rw [ewa]; simp
  have hxa : wa.heap[w.heap.size]? = some (.cells #[.int .i64 k, .string s, .int .i64 n, .slice A ln c] 39 (0, 0)) := by rw [ewa]; exact heap_alloc_new w _
  obtain ⟨w1, ew1⟩ : ∃ w1, w1 = wa.alloc (.cells #[.int .i64 0, .string ⟨#[]⟩, .int .i64 0, .slice none 0 0, .int .i64 0] 24) := ⟨_, rfl⟩
  have hb1 : Below wa.heap.size wa w1 := by rw [ew1]; exact (Below.refl _ _).alloc (Nat.le_refl _) _
  have hs1 : w1.heap.size = w.heap.size + 2 := by rw [ew1]; simp; omega
  have hr1 : w1.heap[w.heap.size + 1]? = some (.cells #[.int .i64 0, .string ⟨#[]⟩, .int .i64 0, .slice none 0 0, .int .i64 0] 24 (0, 0)) := by rw [ew1, ← hsa]; exact heap_alloc_new wa _
  have hx1 : w1.heap[w.heap.size]? = some (.cells #[.int .i64 k, .string s, .int .i64 n, .slice A ln c] 39 (0, 0)) := (hb1.block _ (by omega)).trans hxa
  have hbw : Below w.heap.size w w1 := hba.trans (hb1.mono (by omega))
  have hmd := Lib.hid (hmade A c w1 ((hA.low hbw).more hbw.size))
  obtain ⟨⟨k0, k1, k2, k3⟩, _, _, _, _⟩ := cell4 hx1
  have HW1 := Lib.hid (show w1 = (w.alloc (.cells #[.int .i64 k, .string s, .int .i64 n, .slice A ln c] 39)).alloc (.cells #[.int .i64 0, .string ⟨#[]⟩, .int .i64 0, .slice none 0 0, .int .i64 0] 24) by rw [ew1, ewa])
  have HX1 := Lib.hid hx1
  have HR1 := Lib.hid hr1
  have HB1 := Lib.hid hbw
  have HK := Lib.hid hA
  have HLN := Lib.hid eln
  have HM := Lib.hid hM
  clear ewa hba hsa hxa ew1 hb1 hr1 hx1 hbw hmade hA hM eln wa
  go_enter Tryd.func15, Tryd.ntmps15
  go_upto_region 1 with (fail)
  rw [← HW1.out]
  go_wp2_with fail
  refine (hmd.out).mono ?_
  rintro r wm ⟨rfl, hbm⟩
  have HXM := Lib.hid ((hbm.block w.heap.size (by omega)).trans HX1.out)
  have HRM := Lib.hid ((hbm.block (w.heap.size + 1) (by omega)).trans HR1.out)
  have HBM := Lib.hid (HB1.out.trans (hbm.mono (by omega)))
  have hsm := hbm.size
  obtain ⟨⟨k0, k1, k2, k3⟩, _, _, _, _⟩ := cell4 HXM.out
  obtain ⟨⟨r0, r1, r2, r3, r4⟩, s0, s1, s2, s3, s4⟩ := cell5 HRM.out
  clear hbm
  cases hm with
  | col s h =>
    go_wp2_with fail
    refine bodyPost_ret (results_tree rfl rfl (put5_block HRM.out)) rfl ?_
    rw [HTR.out, tree_col]
    exact ⟨⟨none, 0, rfl, Nat.le_refl _, .nil _⟩, put5_below HBM.out (Nat.le_succ _)⟩
  | num n =>
    go_wp2_with fail
    refine bodyPost_ret (results_tree rfl rfl (put5_block HRM.out)) rfl ?_
    rw [HTR.out, tree_num]
    exact ⟨⟨none, 0, rfl, Nat.le_refl _, .nil _⟩, put5_below HBM.out (Nat.le_succ _)⟩
  | str s =>
    go_wp2_with fail
    refine bodyPost_ret (results_tree rfl rfl (put5_block HRM.out)) rfl ?_
    rw [HTR.out, tree_str]
    exact ⟨⟨none, 0, rfl, Nat.le_refl _, .nil _⟩, put5_below HBM.out (Nat.le_succ _)⟩
  | app s l h0 hl hk =>
    have hlf : ln ≤ 600 := by have := cnt_few s; have := HLN.out; omega
    obtain ⟨i0, hi, hz0, hz1, hz2⟩ := info_parts tree_info
    obtain ⟨wn, ewn⟩ : ∃ wn, wn = wm.alloc (.cells #[.int .i64 2, .string s, .int .i64 0, .slice none 0 0, .int .i64 0] 24) := ⟨_, rfl⟩
    have hbn : Below wm.heap.size wm wn := by rw [ewn]; exact (Below.refl _ _).alloc (Nat.le_refl _) _
    have hsn : wn.heap.size = wm.heap.size + 1 := by rw [ewn]; simp
    have hnn : wn.heap[wm.heap.size]? = some (.cells #[.int .i64 2, .string s, .int .i64 0, .slice none 0 0, .int .i64 0] 24 (0, 0)) := by rw [ewn]; exact heap_alloc_new wm _
    obtain ⟨wl, ewl⟩ : ∃ wl, wl = wn.alloc (.cells #[.int .i64 1, .string ⟨#[]⟩, .int .i64 0, .slice (some ⟨wm.heap.size, 0, none⟩) 1 1, .int .i64 0] 24) := ⟨_, rfl⟩
    have hbl : Below wn.heap.size wn wl := by rw [ewl]; exact (Below.refl _ _).alloc (Nat.le_refl _) _
    have hsl : wl.heap.size = wm.heap.size + 2 := by rw [ewl]; simp; omega
    have HTB : Hid (wl.heap[wm.heap.size + 1]? = some (.cells #[.int .i64 1, .string ⟨#[]⟩, .int .i64 0, .slice (some ⟨wm.heap.size, 0, none⟩) 1 1, .int .i64 0] 24 (0, 0))) := Lib.hid (by rw [ewl, ← hsn]; exact heap_alloc_new wn _)
    have HOB : Hid (wl.ownsRow wm.heap.size 24 5 (.slice (some ⟨wm.heap.size, 0, none⟩) 1 1) 1 (flatT [((.mk 2 s 0 [] 0 : T), none, 0)])) := Lib.hid ⟨rfl, .inr ⟨wm.heap.size, 1, _, rfl, Nat.le_refl _, (hbl.block _ (by omega)).trans hnn, Nat.le_refl _, by decide, rfl, rfl⟩⟩
    have hbml : Below wm.heap.size wm wl := hbn.trans (hbl.mono (by omega))
    have HBL := Lib.hid (HBM.out.trans (hbml.mono (by omega)))
    have HXL := Lib.hid ((hbml.block w.heap.size (by omega)).trans HXM.out)
    have HRL := Lib.hid ((hbml.block (w.heap.size + 1) (by omega)).trans HRM.out)
    have HWL := Lib.hid (show wl = (wm.alloc (.cells #[.int .i64 2, .string s, .int .i64 0, .slice none 0 0, .int .i64 0] 24)).alloc (.cells #[.int .i64 1, .string ⟨#[]⟩, .int .i64 0, .slice (some ⟨wm.heap.size, 0, none⟩) 1 1, .int .i64 0] 24) by rw [ewl, ewn])
    have HMK := Lib.hid hk
    clear ewn hbn hnn ewl hbl hbml wn hsn hk h0 hl
    go_upto_region 11 with (fail)
    rw [← HWL.out]
    obtain ⟨⟨k0, k1, k2, k3⟩, _, _, _, _⟩ := cell4 HXL.out
    go_wp2_with fail
    go_loopw [35] (fun i wr => ∃ (j : Nat) (ps : List TP) (v : Value), j ≤ ln ∧ ps.length = j + 1 ∧ i = .int .i64 j ∧ wr.heap[wm.heap.size + 1]? = some (.cells #[.int .i64 1, .string ⟨#[]⟩, .int .i64 0, v, .int .i64 0] 24 (0, 0)) ∧
      wr.ownsRow wm.heap.size 24 5 v (j + 1) (flatT ps) ∧ v.ownBlock ≠ some (wm.heap.size + 1) ∧ Hid (∀ p ∈ ps, p.1.kids.length ≤ p.2.2 ∧ XTK wr (fun k => wl.heap.size ≤ k ∧ k < wr.heap.size ∧ v.ownBlock ≠ some k) p.2.1 p.1.kids) ∧ Below wm.heap.size wl wr ∧ Hid (ps.map Prod.fst = .mk 2 s 0 [] 0 :: (treeL l).take j)) (fun i _ => ln - (intOf i).toNat)
    case atStart => exact ⟨0, [((.mk 2 s 0 [] 0 : T), none, 0)], _, Nat.zero_le _, rfl, rfl, HTB.out, HOB.out, by simp [Value.ownBlock], Lib.hid (leaf_all s _ _), Below.refl _ _, Lib.hid (by simp)⟩
    case round =>
      obtain ⟨j, ps, v, hj, hpl, rfl, hbox, hown, hvt, hxk, hb, hzl⟩ := hrel
      have HO := Lib.hid hown
      have HB := Lib.hid hb
      have hs := hb.size
      have HPL := Lib.hid hpl
      have HBX := Lib.hid hbox
      have HVT := Lib.hid hvt
      have HBW := Lib.hid (HBL.out.trans (hb.mono (by omega)))
      clear hown hpl hbox hvt hb
      by_cases hlt2 : j < ln
      · obtain ⟨x, hx⟩ : ∃ x, l[j]? = some x := ⟨_, List.getElem?_eq_getElem (by rw [← HLN.out]; exact hlt2)⟩
        obtain ⟨b, o, A', c', rfl, hbl2, c0, c1, c2, c3, hKx⟩ := EKids.get_ HK.out wr HBW.out j x hx
        have hMx := HM.out x (List.mem_of_getElem? hx) (HMK.out x (List.mem_of_getElem? hx))
        have htk : Hid ((treeL l).take (j + 1) = (treeL l).take j ++ [treeE x]) := Lib.hid (treeL_take hx)
        obtain ⟨wx, ewx⟩ : ∃ wx, wx = wr.alloc (.cells #[.int .i64 x.k, .string x.s, .int .i64 x.n, .slice A' x.kids.length c'] 39) := ⟨_, rfl⟩
        have hbx : Below wr.heap.size wr wx := by rw [ewx]; exact (Below.refl _ _).alloc (Nat.le_refl _) _
        have hsx : wx.heap.size = wr.heap.size + 1 := by rw [ewx]; simp
        have hnx : wx.heap[wr.heap.size]? = some (.cells #[.int .i64 x.k, .string x.s, .int .i64 x.n, .slice A' x.kids.length c'] 39 (0, 0)) := by rw [ewx]; exact heap_alloc_new wr _
        have hbd : Below wr.heap.size wr wx.drew := hbx.drew
        have HCL := Lib.hid (hMx A' c' wx.drew ((hKx.low hbd).more hbd.size))
        have HXB := Lib.hid ((hbx.block (wm.heap.size + 1) (by omega)).trans HBX.out)
        have HOX := Lib.hid (own_below HO.out hbx)
        have HBXX := Lib.hid hbx
        have HWX := Lib.hid ewx
        have HNX := Lib.hid hnx
        have hex1 : x.kids.length = x.kids.length := rfl
        obtain ⟨y, hy⟩ : ∃ y, y = treeE x := ⟨_, rfl⟩
        rw [← hy] at HCL htk
        clear ewx hbx hnx hx hKx hMx hbd hy hex1
        obtain ⟨xk, xs, xn, xl⟩ := x
        obtain ⟨tk, ts, tn, tl, ta⟩ := y
        simp only [E.val, E.k, E.s, E.n, E.kids, T.val, T.k, T.s, T.n, T.kids, T.at_] at c0 c1 c2 c3 HCL HWX HNX
        generalize xl.length = xm at *
        obtain ⟨⟨n0, n1, n2, n3⟩, _, _, _, _⟩ := cell4 HNX.out
        obtain ⟨⟨k0, k1, k2, k3, k4⟩, f0, f1, f2, f3, f4⟩ := cell5 HXB.out
        go_upto_region 14 with (fail)
        rw [← HWX.out]
        go_region_law (first
          | (refine step_append_lies _ rfl _ _ _ rfl wm.heap.size 24 i0 _ 5 64 Tryd.underlying22 hi hz0 hz1 hz2 rfl (by decide) _ _ _ rfl (HO3.out.alloc _) ⟨w3.heap.size, 0, none⟩ 1 1 (TP.cs ((.mk tk ts tn tl ta : T), A3, c3')) rfl rfl (World.news_of_block (heap_alloc_new w3 _)) (by rw [← flatT_one]; exact flatT_ones _) (by decide) (by unfold maxLen; omega) (by omega) (by simp; omega) _ rfl ?_; intro g cap w5 hown5 hgrow hat hlt
             have HO5 := Lib.hid hown5
             have HG5 : Hid (w3.grownBy w5 v.ownBlock) := Lib.hid ((World.grownBy_alloc _ _ _).trans hgrow)
             have hat5 : Hid ((Value.slice (some ⟨g, 0, none⟩) (j + 1 + 1) cap).ownBlock = v.ownBlock ∨ ∃ n, (Value.slice (some ⟨g, 0, none⟩) (j + 1 + 1) cap).ownBlock = some n ∧ w3.heap.size ≤ n) := Lib.hid (hat.imp (fun h => h.symm) fun h => ⟨g, rfl, by rw [h]; simp⟩)
             have HE5 := Lib.hid ((HG5.out.block (wm.heap.size + 1) (by omega) (fun e => HVT.out e.symm)).trans hbx3.out)
             obtain ⟨⟨p0, p1, p2, p3, p4⟩, q0, q1, q2, q3, q4⟩ := cell5 HE5.out
             clear hown5 hgrow hat)
          | (go_simp; go_at_call 15; refine (HCL.out).mono ?_; rintro e w3 ⟨⟨A3, c3', rfl, hc3, hX⟩, hb3⟩
             have HX3 := Lib.hid hX
             have HB3 : Hid (Below wr.heap.size wr w3) := Lib.hid ((HBXX.out.drew).trans (hb3.mono (by simp; omega)))
             have HO3 := Lib.hid (own_below HO.out HB3.out)
             have hw3s : wr.heap.size + 1 ≤ w3.heap.size := by have := hb3.size; simp at this; omega
             have hbx3 := Lib.hid ((HB3.out.block (wm.heap.size + 1) (by omega)).trans HBX.out)
             have g3 : w3.cell? ⟨wm.heap.size + 1, 3, none⟩ = some v := (cell5 hbx3.out).1.2.2.2.1
             have g3b : (w3.alloc (.cells #[.int .i64 tk, .string ts, .int .i64 tn, .slice A3 tl.length c3', .int .i64 ta] 24)).cell? ⟨wm.heap.size + 1, 3, none⟩ = some v := (World.cell?_alloc_some _ _ _ (by rw [g3]; rfl)).trans g3
             clear hX hb3))
        all_goals
          go_wp2_with fail
          go_roundw
          case measure => simp [intOf]; omega
          case rel =>
            have hs5 := HG5.out.size
            have hgt : g ≠ wm.heap.size + 1 := fun e => by
              rcases hat5.out with h | ⟨n, h, h2⟩
              · exact HVT.out (by rw [← h]; simp [Value.ownBlock, e])
              · have : n = g := by simpa [Value.ownBlock] using h.symm
                omega
            have hother : ∀ k, k ≠ wm.heap.size + 1 → k < w3.heap.size → v.ownBlock ≠ some k → (w5.setCell ⟨wm.heap.size + 1, 3, none⟩ (.slice (some ⟨g, 0, none⟩) (j + 1 + 1) cap)).heap[k]? = w3.heap[k]? := fun k h1 h2 h3 =>
              (Below.heap_setCell w5 ⟨wm.heap.size + 1, 3, none⟩ _ k h1).trans (HG5.out.block k (by omega) fun e => h3 e.symm)
            refine ⟨j + 1, ps ++ [((.mk tk ts tn tl ta : T), A3, c3')], .slice (some ⟨g, 0, none⟩) (j + 1 + 1) cap, by omega, by rw [List.length_append, HPL.out]; rfl, by go_num, set5c (k := 3) HE5.out, ?_, by simpa [Value.ownBlock] using hgt, Lib.hid ?_, ?_, Lib.hid ?_⟩
            · rw [flatT_append, flatT_one]
              exact own_far HO5.out (Below.heap_setCell w5 ⟨wm.heap.size + 1, 3, none⟩ _ g hgt)
            · refine xt_round hxk.out hc3 (HX3.out.mono fun k hk => ⟨by have := hk.1; simp at this; omega, hk.2⟩) (by omega) (fun k h1 h2 h3 => (hother k (by omega) (by omega) h3).trans (HB3.out.block k h2)) (fun k h1 h2 => hother k (by omega) (by omega) fun e => by have := (HO.out.lt _ e).2; omega) (by omega) ?_ (fun k e => (HO.out.lt _ e).2) hat5.out
              simp only [World.setCell, Array.size_modify]
              omega
            · exact ((HB.out.trans (HB3.out.mono (by omega))).grown HG5.out (by omega) (fun g hg => by have := (HO.out.lt g hg).1; omega)).setCell (p := ⟨wm.heap.size + 1, 3, none⟩) (by show wm.heap.size ≤ wm.heap.size + 1; omega) _
            · rw [htk.out, List.map_append, hzl.out]; rfl
      · obtain rfl : j = ln := by omega
        have hps : ps.map Prod.fst = .mk 2 s 0 [] 0 :: treeL l := by rw [hzl.out, HLN.out, ← treeL_length, List.take_length]
        have hO2 : wr.ownsRow wm.heap.size 24 5 v ps.length (flatT ps) := by rw [HPL.out]; exact HO.out
        obtain ⟨A9, c9, rfl, hc9, hX9⟩ := own_trees hO2 (by rw [HPL.out]; omega) (S := fun k => w.heap.size + 2 ≤ k ∧ k < wr.heap.size) (fun g u1 u2 => ⟨by omega, u2⟩) (fun p hp => ⟨(hxk.out p hp).1, (hxk.out p hp).2.mono (fun k hk => ⟨by have := hk.1; omega, hk.2.1⟩)⟩)
        rw [hps] at hc9 hX9 HBX
        have HX9 := Lib.hid hX9
        have HC9 := Lib.hid hc9
        have hR9 : Hid (wr.heap[w.heap.size + 1]? = some (.cells #[.int .i64 0, .string ⟨#[]⟩, .int .i64 0, .slice none 0 0, .int .i64 0] 24 (0, 0))) := Lib.hid ((HB.out.block _ (by omega)).trans HRL.out)
        obtain ⟨⟨k0, k1, k2, k3, k4⟩, f0, f1, f2, f3, f4⟩ := cell5 HBX.out
        obtain ⟨⟨q0, q1, q2, q3, q4⟩, e0, e1, e2, e3, e4⟩ := cell5 hR9.out
        clear hO2 hX9 hxk hzl hps hc9
        go_wp2_with fail
        refine bodyPost_ret (results_tree rfl rfl (put5_block hR9.out)) rfl ?_
        rw [HTR.out, tree_app]
        refine ⟨⟨A9, c9, rfl, HC9.out, ?_⟩, put5_below HBW.out (Nat.le_succ _)⟩
        exact (HX9.out.kept (fun k hk => put5_other (by have := hk.1; omega))).mono (fun k hk => ⟨by have := hk.1; omega, Nat.lt_of_lt_of_eq hk.2 put5_size.symm⟩)
theorem tree_any : ∀ e, TreeOk e := E.ind (fun k s n l h => tree_step k s n l h)
end Go.Proofs.YtldleckgkgeclaaDoor
/-
  Memory: a slice that reads as a list, a block known whole, an append onto a row of the call's own (turned from the kit's extra words). No program in sight.
-/
set_option linter.unusedVariables false
set_option linter.unusedSimpArgs false
namespace Go.Proofs.YtldleckgkgeclaaDoor
open Go.RowKit
theorem block_of_add (a : Addr) (n : Nat) : (a.add n).block = a.block := by unfold Addr.add; split <;> rfl
theorem add_of_add (a : Addr) (i j : Nat) : (a.add i).add j = a.add (i + j) := by
  unfold Addr.add
  by_cases hi : i = 0 <;> by_cases hj : j = 0 <;> simp [hi, hj, Nat.add_assoc]

def Reads (w : World) (B size : Nat) (A : Option Addr) (n : Nat) (xs : List Value) : Prop :=
  xs.length = n * size ∧ (0 < n → ∃ ad, A = some ad ∧ ad.block < B ∧ ∀ j u, xs[j]? = some u → w.cell? (ad.add j) = some u)

section
variable {w w' : World} {B B' size n : Nat} {A : Option Addr} {xs : List Value}
theorem Reads.none_ : Reads w B size A 0 [] := ⟨by simp, fun h => absurd h (by omega)⟩
theorem Reads.at_ {k : Nat} (h : Reads w B 1 A n xs) (hk : k < n) : ∃ ad u, A = some ad ∧ ad.block < B ∧ xs[k]? = some u ∧ w.cell? (ad.add k) = some u := by
  obtain ⟨ad, e, hb, hc⟩ := h.2 (by omega)
  have hl : k < xs.length := by have := h.1; omega
  exact ⟨ad, xs[k], e, hb, List.getElem?_eq_getElem hl, hc k _ (List.getElem?_eq_getElem hl)⟩
theorem Reads.keep (h : Reads w B size A n xs) (hk : ∀ p : Addr, p.block < B → w'.cell? p = w.cell? p) : Reads w' B size A n xs :=
  ⟨h.1, fun hn => by
    obtain ⟨ad, e, hb, hc⟩ := h.2 hn
    exact ⟨ad, e, hb, fun j u hu => (hk _ (by rw [block_of_add]; exact hb)).trans (hc j u hu)⟩⟩
theorem Reads.more (h : Reads w B size A n xs) (hB : B ≤ B') : Reads w B' size A n xs :=
  ⟨h.1, fun hn => by
    obtain ⟨ad, e, hb, hc⟩ := h.2 hn
    exact ⟨ad, e, by omega, hc⟩⟩
theorem Reads.below (h : Reads w B size A n xs) (hb : Below B w w') : Reads w' B size A n xs := h.keep fun _ hp => hb.cell hp
theorem Reads.drew (h : Reads w B size A n xs) : Reads w.drew B size A n xs := h
theorem Reads.drewN (h : Reads w B size A n xs) (k : Nat) : Reads (w.drewN k) B size A n xs := h
theorem Reads.alloc (h : Reads w B size A n xs) (hB : B ≤ w.heap.size) (o : Obj) : Reads (w.alloc o) B size A n xs := h.keep fun p hp => World.cell?_alloc_lt w o p (by omega)
theorem Reads.setCell (h : Reads w B size A n xs) {p : Addr} (hB : B ≤ p.block) (u : Value) : Reads (w.setCell p u) B size A n xs :=
  h.keep fun q hq => World.cell?_setCell_other w p q u (fun e => by subst e; omega)
theorem Reads.grown (h : Reads w B size A n xs) {row : Option Nat} (hg : w.grownBy w' row) (hB : B ≤ w.heap.size) (hr : ∀ g, row = some g → B ≤ g) : Reads w' B size A n xs :=
  h.keep fun p hp => World.cell?_of_block (hg.block p.block (by omega) (fun e => by have := hr _ e.symm; omega))
theorem Reads.cut (h : Reads w B size A n xs) {k cap : Nat} (hk : k ≤ n) (hc : n ≤ cap) :
    Reads w B size (if cap = k then A else A.map (·.add (k * size))) (n - k) (xs.drop (k * size)) := by
  refine ⟨by rw [List.length_drop, h.1, Nat.sub_mul], fun hn => ?_⟩
  obtain ⟨ad, rfl, hb, hcell⟩ := h.2 (by omega)
  rw [if_neg (by omega)]
  refine ⟨ad.add (k * size), rfl, by rw [block_of_add]; exact hb, fun j u hu => ?_⟩
  rw [add_of_add]
  exact hcell _ u (by rw [← hu, List.getElem?_drop])
theorem Reads.of_own {base : Nat} {e : TypeId} {c : Nat} (h : w.ownsRow base e size (.slice A n c) n xs) : Reads w w.heap.size size A n xs := by
  refine ⟨h.1, fun hn => ?_⟩
  obtain ⟨g, cap, hv, _, hlt⟩ := h.form hn
  have hA : A = some ⟨g, 0, none⟩ := by injection hv
  subst hA
  exact ⟨_, rfl, hlt, h.cells (g := g) rfl⟩
end
def Blk (w : World) (g : Nat) (t : TypeId) (cs : Array Value) : Prop := w.heap[g]? = some (.cells cs t (0, 0))

section
variable {w w' : World} {g : Nat} {t : TypeId} {cs : Array Value}
theorem Blk.lt (h : Blk w g t cs) : g < w.heap.size := by
  rcases Nat.lt_or_ge g w.heap.size with hlt | hge
  · exact hlt
  · unfold Blk at h; rw [Array.getElem?_eq_none hge] at h; cases h
theorem Blk.cell (h : Blk w g t cs) (i : Nat) : w.cell? ⟨g, i, none⟩ = cs[i]? := cell_of_row w g i cs t (0, 0) h
theorem Blk.frozen (h : Blk w g t cs) (i : Nat) : w.frozen? ⟨g, i, none⟩ = false := by
  unfold Blk at h
  simp [World.frozen?, h]
theorem Blk.new (w : World) (t : TypeId) (cs : Array Value) : Blk (w.alloc (.cells cs t)) w.heap.size t cs := heap_alloc_new w _
theorem Blk.drew (h : Blk w g t cs) : Blk w.drew g t cs := h
theorem Blk.drewN (h : Blk w g t cs) (n : Nat) : Blk (w.drewN n) g t cs := h
theorem Blk.alloc (h : Blk w g t cs) (o : Obj) : Blk (w.alloc o) g t cs := (Below.heap_alloc w o g h.lt).trans h
theorem Blk.set_ (h : Blk w g t cs) (i : Nat) (u : Value) : Blk (w.setCell ⟨g, i, none⟩ u) g t (cs.setIfInBounds i u) := by
  unfold Blk at h ⊢
  simp [World.setCell, Array.getElem?_modify, h]
theorem Blk.far (h : Blk w g t cs) {p : Addr} (hp : g ≠ p.block) (u : Value) : Blk (w.setCell p u) g t cs := (Below.heap_setCell w p u g hp).trans h
theorem Blk.below {B : Nat} (h : Blk w g t cs) (hb : Below B w w') (hg : g < B) : Blk w' g t cs := (hb.block g hg).trans h
theorem Blk.grown {row : Option Nat} (h : Blk w g t cs) (hb : w.grownBy w' row) (hg : some g ≠ row) : Blk w' g t cs := (hb.block g h.lt hg).trans h
theorem Blk.ne_ {g' : Nat} {t' : TypeId} {cs' : Array Value} (h : Blk w g t cs) (h' : Blk w g' t' cs') (hne : t ≠ t') : g ≠ g' := by
  rintro rfl
  unfold Blk at h h'
  rw [h] at h'
  injection h' with h'
  injection h' with _ ht
  exact hne ht
theorem own_blk_ne {base : Nat} {e : TypeId} {size n : Nat} {v : Value} {xs : List Value} (h : w.ownsRow base e size v n xs) (hg : Blk w g t cs) (hne : e ≠ t) : v.ownBlock ≠ some g := by
  rcases h.2 with ⟨rfl, _⟩ | ⟨g', cap, cur, rfl, _, hh, _⟩
  · simp [Value.ownBlock]
  · intro he
    have : g' = g := by simpa [Value.ownBlock] using he
    subst this
    exact Blk.ne_ (t := e) hh hg hne rfl
end
section
variable {P : Program} (w : World)

theorem run_append_of_nil (base : Nat) (t ty e : TypeId) (i : TypeInfo) (size : Nat) (ht : P.underlying t = some (.slice e)) (hi : P.info? e = some i)
    (v : Value) (n : Nat) (xs : List Value) (hown : w.ownsRow base e size v n xs) (c : Nat) : (Builtin.append_ #[t, t] ty #[v, .slice none 0 c]).run P w = .ok v w := by
  rcases hown.2 with ⟨rfl, rfl⟩ | ⟨g, cap, cur, rfl, _, _, hnc, _⟩
  · simp [Builtin.append_, run_underlying ht, sizeOf, typeInfo, hi, Builtin.lenOf, Builtin.firstCells]
  · simp [Builtin.append_, run_underlying ht, sizeOf, typeInfo, hi, Builtin.lenOf, Builtin.firstCells, hnc, storeCells]

theorem run_append_any (base : Nat) (t ty e : TypeId) (i : TypeInfo) (z : Value) (size bytes : Nat) (ht : P.underlying t = some (.slice e)) (hi : P.info? e = some i) (hz : i.zero = some z)
    (hsize : i.size = size) (hby : i.bytes = bytes) (hzs : z.cells.size = size) (hsz : 0 < size)
    (v : Value) (n : Nat) (xs : List Value) (hown : w.ownsRow base e size v n xs)
    (B : Nat) (A : Option Addr) (m c : Nat) (news : List Value) (hr : Reads w B size A m news) (h1 : ∀ u ∈ news, u.oneCell' = true)
    (h63 : n + m ≤ maxLen) (hbytes : (n + m) * bytes ≤ 140737488355328) (hbase : base ≤ w.heap.size) :
    ∃ v' w', (Builtin.append_ #[t, t] ty #[v, .slice A m c]).run P w = .ok v' w' ∧ w'.ownsRow base e size v' (n + m) (xs ++ news) ∧ w.grownBy w' v.ownBlock ∧
      (v'.ownBlock = v.ownBlock ∨ v'.ownBlock = some w.heap.size) := by
  rcases A with _ | ad
  · have hm : m = 0 := by
      rcases Nat.eq_zero_or_pos m with h0 | h0
      · exact h0
      · obtain ⟨ad, h, _⟩ := hr.2 h0
        cases h
    subst hm
    have hn : news = [] := List.eq_nil_of_length_eq_zero (by simpa using hr.1)
    subst hn
    exact ⟨v, w, run_append_of_nil w base t ty e i size ht hi v n xs hown c, by simpa using hown, World.grownBy.refl w _, .inl rfl⟩
  · have hcells : ∀ j u, news[j]? = some u → w.cell? (ad.add j) = some u := by
      intro j u hu
      rcases Nat.eq_zero_or_pos m with h0 | h0
      · subst h0
        have hn : news = [] := List.eq_nil_of_length_eq_zero (by simpa using hr.1)
        subst hn
        simp at hu
      · obtain ⟨ad', h, _, hc⟩ := hr.2 h0
        injection h with h
        subst h
        exact hc j u hu
    obtain ⟨v', w', hrun, h2, h3, _, h5⟩ := run_append_own_at (P := P) w base t ty e i z size bytes ht hi hz hsize hby hzs hsz v n xs hown ad m c news hr.1 hcells h1 h63 hbytes hbase
    exact ⟨v', w', hrun, h2, h3, h5⟩

theorem wp_append_any {o : Oper} {a : Act} {K : Act → World → Prop} {Q : Exit → Act → World → Prop} (s x : Operand) (t : TypeId)
    (ho : o.op = .call { callee := .builtin .append, args := #[s, x], argTypes := #[t, t] })
    (base : Nat) (e : TypeId) (i : TypeInfo) (z : Value) (size bytes : Nat) (ht : P.underlying t = some (.slice e)) (hi : P.info? e = some i) (hz : i.zero = some z)
    (hsize : i.size = size) (hby : i.bytes = bytes) (hzs : z.cells.size = size) (hsz : 0 < size)
    (v : Value) (n : Nat) (xs : List Value) (hs : a.eval s = v) (hown : w.ownsRow base e size v n xs)
    (B : Nat) (A : Option Addr) (m c : Nat) (news : List Value) (hx : a.eval x = .slice A m c) (hr : Reads w B size A m news) (h1 : ∀ u ∈ news, u.oneCell' = true)
    (h63 : n + m ≤ maxLen) (hbytes : (n + m) * bytes ≤ 140737488355328) (hbase : base ≤ w.heap.size)
    (h : ∀ v' w', w'.ownsRow base e size v' (n + m) (xs ++ news) → w.grownBy w' v.ownBlock → (v'.ownBlock = v.ownBlock ∨ v'.ownBlock = some w.heap.size) → K (a.put o.dst v') w') : o.wp P a w K Q := by
  obtain ⟨v', w', hrun, h2, h3, h4⟩ := run_append_any (P := P) w base t o.type e i z size bytes ht hi hz hsize hby hzs hsz v n xs hown B A m c news hr h1 h63 hbytes hbase
  unfold Oper.wp execOp
  simp only [ho, resolve, invoke, builtin, Sem.run_bind, Sem.run_pure, Result.andThen_ok, List.map_toArray, List.map_cons, List.map_nil, hs, hx, hrun]
  exact h v' w' h2 h3 h4

theorem wpList_append_any {ops : Array Oper} {rest : List Oper} {o : Oper} {a : Act} {Q : Exit → Act → World → Prop} (hgd : o.guard = none) (s x : Operand) (t : TypeId)
    (ho : o.op = .call { callee := .builtin .append, args := #[s, x], argTypes := #[t, t] })
    (base : Nat) (e : TypeId) (i : TypeInfo) (z : Value) (size bytes : Nat) (ht : P.underlying t = some (.slice e)) (hi : P.info? e = some i) (hz : i.zero = some z)
    (hsize : i.size = size) (hby : i.bytes = bytes) (hzs : z.cells.size = size) (hsz : 0 < size)
    (v : Value) (n : Nat) (xs : List Value) (hs : a.eval s = v) (hown : w.ownsRow base e size v n xs)
    (B : Nat) (A : Option Addr) (m c : Nat) (news : List Value) (hx : a.eval x = .slice A m c) (hr : Reads w B size A m news) (h1 : ∀ u ∈ news, u.oneCell' = true)
    (h63 : n + m ≤ maxLen) (hbytes : (n + m) * bytes ≤ 140737488355328) (hbase : base ≤ w.heap.size)
    (h : ∀ v' w', w'.ownsRow base e size v' (n + m) (xs ++ news) → w.grownBy w' v.ownBlock → (v'.ownBlock = v.ownBlock ∨ v'.ownBlock = some w.heap.size) → wpList P ops Q rest (a.put o.dst v') w') : wpList P ops Q (o :: rest) a w :=
  wpList_plain hgd fun _ hK => wp_append_any w s x t ho base e i z size bytes ht hi hz hsize hby hzs hsz v n xs hs hown B A m c news hx hr h1 h63 hbytes hbase fun v' w' h2 h3 h4 => hK _ _ (h v' w' h2 h3 h4)

theorem step_append_any {ops : Array Oper} {o : Oper} {a : Act} {K : Act → World → Prop} {Q : Exit → Act → World → Prop} {E : Prop} (hgd : o.guard = none) (s x : Operand) (t : TypeId)
    (ho : o.op = .call { callee := .builtin .append, args := #[s, x], argTypes := #[t, t] })
    (base : Nat) (e : TypeId) (i : TypeInfo) (z : Value) (size bytes : Nat) (ht : P.underlying t = some (.slice e)) (hi : P.info? e = some i) (hz : i.zero = some z)
    (hsize : i.size = size) (hby : i.bytes = bytes) (hzs : z.cells.size = size) (hsz : 0 < size)
    (v : Value) (n : Nat) (xs : List Value) (hs : a.eval s = v) (hown : w.ownsRow base e size v n xs)
    (B : Nat) (A : Option Addr) (m c : Nat) (news : List Value) (hx : a.eval x = .slice A m c) (hr : Reads w B size A m news) (h1 : ∀ u ∈ news, u.oneCell' = true)
    (h63 : n + m ≤ maxLen) (hbytes : (n + m) * bytes ≤ 140737488355328) (hbase : base ≤ w.heap.size)
    (h : ∀ v' w', w'.ownsRow base e size v' (n + m) (xs ++ news) → w.grownBy w' v.ownBlock → (v'.ownBlock = v.ownBlock ∨ v'.ownBlock = some w.heap.size) → K (a.put o.dst v') w') :
    if Region.wanted o (yielded ops a.tmps) = true then Oper.wp P o a w K Q else E := by
  have hw : Region.wanted o (yielded ops a.tmps) = true := by simp [Region.wanted, hgd]
  rw [if_pos hw]
  exact wp_append_any w s x t ho base e i z size bytes ht hi hz hsize hby hzs hsz v n xs hs hown B A m c news hx hr h1 h63 hbytes hbase h
end
end Go.Proofs.YtldleckgkgeclaaDoor
/-
  Bytes that are read; bytes in new memory. (XBytes without the wire.)
-/
namespace Go.Proofs.YtldleckgkgeclaaDoor
open Go.RowKit
theorem u8_info : (Tryd.prog.info? 5).map (fun i => (i.zero, i.size, i.bytes)) = some (some (.int .u8 0), 1, 1) := by kernel_rfl
def u8s (l : List UInt8) : List Value := l.map fun c => .int .u8 c.toNat
theorem u8s_len (l : List UInt8) : (u8s l).length = l.length := by simp [u8s]
theorem u8s_append (a b : List UInt8) : u8s (a ++ b) = u8s a ++ u8s b := by simp [u8s]
theorem u8s_ones (l : List UInt8) : ∀ u ∈ u8s l, u.oneCell' = true := by
  intro u hu
  obtain ⟨c, _, rfl⟩ := List.mem_map.1 hu
  rfl
/-- bytes that are read -/
def BR (w : World) (A : Option Addr) (l : List UInt8) : Prop := Reads w w.heap.size 1 A l.length (u8s l)
/-- bytes in new memory -/
def OwnB (B : Nat) (w : World) (v : Value) (l : List UInt8) : Prop := w.ownsRow B 5 1 v l.length (u8s l)
theorem BR.nil_ (w : World) (A : Option Addr) : BR w A [] := ⟨rfl, fun h => absurd h (by simp)⟩
theorem BR.kept {w w' : World} {A : Option Addr} {l : List UInt8} (h : BR w A l) (hw : Below w.heap.size w w') : BR w' A l := (h.below hw).more hw.size
theorem OwnB.slice {B : Nat} {w : World} {v : Value} {l : List UInt8} (h : OwnB B w v l) : ∃ A c, v = .slice A l.length c ∧ l.length ≤ c ∧ BR w A l ∧ (∀ k, v.ownBlock = some k → B ≤ k ∧ k < w.heap.size) := by
  rcases id h.2 with ⟨rfl, h0⟩ | ⟨g, cap, cur, rfl, h1, hh, hle, _, _⟩
  · obtain rfl : l = [] := List.eq_nil_of_length_eq_zero h0
    exact ⟨none, 0, rfl, Nat.le_refl _, BR.nil_ _ _, h.lt⟩
  · exact ⟨_, _, rfl, hle, Reads.of_own h, h.lt⟩
theorem OwnB.form {B : Nat} {w : World} {v : Value} {l : List UInt8} (h : OwnB B w v l) : ∃ A n c, v = .slice A n c := by
  obtain ⟨A, c, e, _⟩ := h.slice
  exact ⟨A, _, c, e⟩
theorem own_base {w : World} {B B' n : Nat} {e : TypeId} {z : Nat} {v : Value} {xs : List Value} (h : w.ownsRow B e z v n xs) (hB : B' ≤ B) : w.ownsRow B' e z v n xs := by
  rcases h with ⟨h1, h2⟩
  refine ⟨h1, ?_⟩
  rcases h2 with h2 | ⟨g, cap, cur, rfl, h3, h4⟩
  · exact .inl h2
  · exact .inr ⟨g, cap, cur, rfl, by omega, h4⟩
theorem own_up {w : World} {B B' n : Nat} {e : TypeId} {z : Nat} {v : Value} {xs : List Value} (h : w.ownsRow B e z v n xs) (hB : ∀ k, v.ownBlock = some k → B' ≤ k) : w.ownsRow B' e z v n xs := by
  rcases h with ⟨h1, h2⟩
  refine ⟨h1, ?_⟩
  rcases h2 with h2 | ⟨g, cap, cur, rfl, h3, h4⟩
  · exact .inl h2
  · exact .inr ⟨g, cap, cur, rfl, hB g rfl, h4⟩
theorem ownB_of {w : World} {B m : Nat} {v : Value} {xs : List Value} {l : List UInt8} (h : w.ownsRow B 5 1 v m xs) (hx : xs = u8s l) : OwnB B w v l := by
  subst hx
  have h1 := h.1
  rw [u8s_len, Nat.mul_one] at h1
  subst h1
  exact h
set_option maxRecDepth 100000 in
theorem own_conv {w : World} {B : Nat} {v : Value} {l : List UInt8} (h : OwnB B w v l) : (convert 49 9 v).run Tryd.prog w = .ok (.string ⟨l.toArray⟩) w := by
  unfold OwnB at h
  rcases id h.2 with ⟨rfl, h0⟩ | ⟨g, cap, cur, rfl, _⟩
  · have e0 : l = [] := List.eq_nil_of_length_eq_zero h0
    subst e0
    rw [run_convert_bytes_nil (P := Tryd.prog) w 49 5 Tryd.underlying49 Tryd.underlying5 _ _ 9 Tryd.underlying9]
    rfl
  · exact run_convert_bytes_back (P := Tryd.prog) w 49 9 5 ⟨g, 0, none⟩ cap l Tryd.underlying49 Tryd.underlying5 Tryd.underlying9 (fun q hq => h.cells rfl q _ (by simp [u8s, hq]))
end Go.Proofs.YtldleckgkgeclaaDoor
/-
  Package value's Show: its contract.
-/
namespace Go.Proofs.YtldleckgkgeclaaDoor
open Go.RowKit
def hexL : List UInt8 := [48, 49, 50, 51, 52, 53, 54, 55, 56, 57, 97, 98, 99, 100, 101, 102]
def hexD (n : Nat) : UInt8 := hexL.getD n 0
def plainC (c : UInt8) : Bool := ((decide (32 ≤ (c.toNat : Int)) && decide ((c.toNat : Int) ≤ 126)) && (c.toNat : Int) != 34) && (c.toNat : Int) != 92
def qB (c : UInt8) : List UInt8 := if plainC c then [c] else [92, hexD (c.toNat / 16), hexD (c.toNat % 16)]
def quoteL (l : List UInt8) : List UInt8 := 34 :: l.flatMap qB ++ [34]
def showL (v : V) : List UInt8 := if V.okB v then (if v.k == 1 then Lib.itoa v.n else quoteL v.s.data.toList) else [63]
theorem and15_fin : ∀ c : Fin 256, bits BinOp.and IntKind.u8 ((c.val : Nat) : Int) 15 = ((c.val : Nat) : Int) % 16 := by decide +kernel
theorem and15 (c : UInt8) : bits BinOp.and IntKind.u8 (c.toNat : Int) 15 = (c.toNat : Int) % 16 := and15_fin ⟨c.toNat, c.toNat_lt⟩
theorem hex_fin : ∀ i : Fin 16, ∀ h, (ByteArray.mk #[48, 49, 50, 51, 52, 53, 54, 55, 56, 57, 97, 98, 99, 100, 101, 102])[i.val]'h = hexD i.val := by decide +kernel
theorem hex_hi (c : UInt8) : ∀ h, (ByteArray.mk #[48, 49, 50, 51, 52, 53, 54, 55, 56, 57, 97, 98, 99, 100, 101, 102])[((c.toNat : Int) / 16).toNat]'h = hexD (c.toNat / 16) := by
  intro h
  have e : ((c.toNat : Int) / 16).toNat = c.toNat / 16 := by omega
  have hl : c.toNat / 16 < 16 := by have := c.toNat_lt; omega
  have := hex_fin ⟨c.toNat / 16, hl⟩ (show c.toNat / 16 < 16 from hl)
  simpa only [e] using this
theorem hex_lo (c : UInt8) : ∀ h, (ByteArray.mk #[48, 49, 50, 51, 52, 53, 54, 55, 56, 57, 97, 98, 99, 100, 101, 102])[((c.toNat : Int) % 16).toNat]'h = hexD (c.toNat % 16) := by
  intro h
  have e : ((c.toNat : Int) % 16).toNat = c.toNat % 16 := by omega
  have hl : c.toNat % 16 < 16 := by omega
  have := hex_fin ⟨c.toNat % 16, hl⟩ (show c.toNat % 16 < 16 from hl)
  simpa only [e] using this
theorem take_q (s : ByteArray) (k : Nat) (h : k < s.size) : (s.data.toList.take (k + 1)).flatMap qB = (s.data.toList.take k).flatMap qB ++ qB s[k] := by
  rw [List.take_succ_eq_append_getElem (by simpa using h), List.flatMap_append]
  simp
  rfl
theorem qB_le (c : UInt8) : (qB c).length ≤ 3 := by unfold qB; split <;> simp
theorem fq_le (l : List UInt8) : (l.flatMap qB).length ≤ 3 * l.length := by
  induction l with
  | nil => simp
  | cons c l ih => have := qB_le c; simp only [List.flatMap_cons, List.length_append, List.length_cons]; omega

set_option maxRecDepth 100000 in
set_option maxHeartbeats 1000000 in
theorem show_text (s : ByteArray) (hs : s.size ≤ 40) (n : Int) (k : Int) (hk : (k == 2) = true) (hok : V.okB ⟨k, n, s⟩ = true) (w : World) :
    Calls Tryd.prog 36 #[.agg #[.int .i64 k, .int .i64 n, .string s]] w fun e w' => e = .returned (.string ⟨(quoteL s.data.toList).toArray⟩) ∧ Below w.heap.size w w' := by
  obtain ⟨i0, hi0, hz0, hz1, hz2⟩ := info_parts u8_info
  have hr := Lib.hid (value_right k n s)
  have hk1 : (k == 1) = false := by simp at hk ⊢; omega
  rw [hok] at hr
  clear hok
  go_enter Tryd.func36, Tryd.ntmps36
  go_wp2_with fail
  refine (hr.out _).mono ?_
  rintro e w' ⟨rfl, rfl⟩
  go_wp2_with fail
  obtain ⟨W0, hW0⟩ : ∃ W0, W0 = w.alloc (.cells #[.int .i64 k, .int .i64 n, .string s] 60) := ⟨_, rfl⟩
  have hbox : Hid (∀ w1, Below W0.heap.size W0 w1 → w1.cell? ⟨w.heap.size, 2, none⟩ = some (.string s)) := Lib.hid fun w1 h1 => by
    subst hW0
    rw [h1.cell (by simp)]
    simp
  have hsz : W0.heap.size = w.heap.size + 1 := by subst hW0; simp
  have hsz' := Lib.hid hsz
  have hB0 : Hid (Below w.heap.size w W0) := Lib.hid (by subst hW0; exact (Below.refl _ _).alloc (Nat.le_refl _) _)
  have hstart : Hid (OwnB W0.heap.size ((W0.alloc (.cells #[.int .i64 k, .int .i64 n, .string s] 60)).alloc (.cells #[.int .u8 34] 5)) (.slice (some ⟨w.heap.size + 1 + 1, 0, none⟩) 1 1) [34]) := Lib.hid (by
    have := World.ownsRow_lit (base := W0.heap.size) (e := 5) (size := 1) (W0.alloc (.cells #[.int .i64 k, .int .i64 n, .string s] 60)) #[.int .u8 34] 1 (by simp) (by decide) rfl
    have e : (W0.alloc (.cells #[.int .i64 k, .int .i64 n, .string s] 60)).heap.size = w.heap.size + 1 + 1 := by simp [hsz]
    rw [e] at this
    exact this)
  have hB1 : Hid (Below W0.heap.size W0 ((W0.alloc (.cells #[.int .i64 k, .int .i64 n, .string s] 60)).alloc (.cells #[.int .u8 34] 5))) := Lib.hid (((Below.refl _ _).alloc (Nat.le_refl _) _).alloc (by simp) _)
  rw [← hW0]
  clear hW0 hsz
  go_loopw [3, 22] (fun v i wr => ∃ j : Nat, j ≤ s.size ∧ i = .int .i64 j ∧ OwnB W0.heap.size wr v (34 :: (s.data.toList.take j).flatMap qB) ∧ Below W0.heap.size W0 wr) (fun _ i _ => s.size - (intOf i).toNat)
  case atStart => exact ⟨0, Nat.zero_le _, rfl, hstart.out, hB1.out⟩
  case round =>
    obtain ⟨j, hj, rfl, hown, hb⟩ := hrel
    have HO := Lib.hid hown
    have HB := Lib.hid hb
    have hc := hbox.out wr hb
    have hlen : Hid ((34 :: (s.data.toList.take j).flatMap qB).length ≤ 200) := Lib.hid (by
      have := fq_le (s.data.toList.take j)
      have h2 : (s.data.toList.take j).length ≤ j := List.length_take_le _ _
      simp only [List.length_cons]
      omega)
    clear hown hb hstart hB1
    by_cases hlt : j < s.size
    · have hst : Hid (34 :: (s.data.toList.take (j + 1)).flatMap qB = (34 :: (s.data.toList.take j).flatMap qB) ++ qB s[j]) := Lib.hid (by rw [take_q s j hlt]; rfl)
      generalize (34 :: (s.data.toList.take j).flatMap qB) = cs at *
      generalize hcs2 : (34 :: (s.data.toList.take (j + 1)).flatMap qB) = cs2 at *
      have Hcs2 := Lib.hid hcs2
      clear hcs2
      obtain ⟨pc, hpc⟩ : ∃ pc, pc = plainC s[j] := ⟨_, rfl⟩
      have Hpc := Lib.hid hpc
      clear hpc
      go_upto_region 12 with (fail)
      go_cut [42] (fun s42 wx => s42 = .bool pc ∧ wx = wr)
      case first =>
        by_cases p1 : 32 ≤ (s[j].toNat : Int)
        · by_cases p2 : (s[j].toNat : Int) ≤ 126
          · by_cases p3 : ((s[j].toNat : Int) != 34) = true
            · obtain rfl : pc = ((s[j].toNat : Int) != 92) := by rw [Hpc.out, plainC, decide_eq_true p1, decide_eq_true p2, p3]; rfl
              clear Hpc
              go_wp2_with fail
              go_meet
              exact ⟨rfl, rfl⟩
            · have p3' : ((s[j].toNat : Int) != 34) = false := by simpa using p3
              obtain rfl : pc = false := by rw [Hpc.out, plainC, p3']; simp
              clear Hpc p3
              go_wp2_with fail
              go_meet
              exact ⟨rfl, rfl⟩
          · obtain rfl : pc = false := by rw [Hpc.out, plainC, decide_eq_false p2]; simp
            clear Hpc
            go_wp2_with fail
            go_meet
            exact ⟨rfl, rfl⟩
        · obtain rfl : pc = false := by rw [Hpc.out, plainC, decide_eq_false p1]; simp
          clear Hpc
          go_wp2_with fail
          go_meet
          exact ⟨rfl, rfl⟩
      case rest =>
      obtain ⟨rfl, hwc⟩ := hcut
      obtain rfl : wr = wc := hwc.symm
      clear hwc
      cases pc
      · have hq : Hid (qB s[j] = [92, hexD (s[j].toNat / 16), hexD (s[j].toNat % 16)]) := Lib.hid (by unfold qB; rw [← Hpc.out]; rfl)
        have c0 : (0 : Int) ≤ (s[j].toNat : Int) := by omega
        have c1 : (s[j].toNat : Int) < 256 := by have := s[j].toNat_lt; omega
        have c2 : (0 : Int) ≤ (s[j].toNat : Int) / 16 := by omega
        have c3 : (s[j].toNat : Int) / 16 < 16 := by omega
        have c4 : (0 : Int) ≤ (s[j].toNat : Int) % 16 := by omega
        have c5 : (s[j].toNat : Int) % 16 < 16 := by omega
        have x1 := hex_hi s[j]
        have x2 := hex_lo s[j]
        have x3 := and15 s[j]
        go_wp2_with fail
        go_region_law (refine step_append_any _ (by rfl) _ _ _ (by rfl) W0.heap.size 5 i0 _ 1 1 Tryd.underlying49 hi0 hz0 hz1 hz2 rfl (by omega) u3 _ _ (by rfl) ((HO.out.alloc _).drew) (wr.heap.size + 1) (some ⟨wr.heap.size, 0, none⟩) 3 3 [.int .u8 92, .int .u8 (hexD (s[j].toNat / 16)).toNat, .int .u8 (hexD (s[j].toNat % 16)).toNat] (by rfl) ⟨rfl, fun _ => ⟨_, rfl, by simp, World.news_of_block (cs := #[.int .u8 92, .int .u8 (hexD (s[j].toNat / 16)).toNat, .int .u8 (hexD (s[j].toNat % 16)).toNat]) (t := 5) (fr := (0, 0)) (heap_alloc_new wr _)⟩⟩ (by simp [Value.oneCell']) (by have := hlen.out; unfold maxLen; omega) (by have := hlen.out; omega) (by have := HB.out.size; simp; omega) ?_; intro v2 w2 hown2 hg2 hat2)
        all_goals
          have hb3 := (HB.out.alloc HB.out.size (.cells #[.int .u8 92, .int .u8 (hexD (s[j].toNat / 16)).toNat, .int .u8 (hexD (s[j].toNat % 16)).toNat] 5)).drew.grown hg2 (by have := HB.out.size; simp; omega) (fun k hk => (HO.out.lt k hk).1)
          have hown3 : OwnB W0.heap.size w2 v2 cs2 := ownB_of hown2 (by rw [hst.out, hq.out, u8s_append]; rfl)
          have HO2 := Lib.hid hown3
          have HB3 := Lib.hid hb3
          clear hown2 hg2 hat2 hb3 hown3 x1 x2 x3
          go_wp2_with fail
          go_roundw
          case rel => exact ⟨j + 1, by omega, by go_num, by rw [Hcs2.out]; exact HO2.out, HB3.out⟩
          case measure => simp [intOf]; omega
      · have hq : Hid (qB s[j] = [s[j]]) := Lib.hid (by unfold qB; rw [← Hpc.out]; rfl)
        go_wp2_with (at_builtin; refine wpList_append_any _ rfl _ _ 49 rfl W0.heap.size 5 i0 _ 1 1 Tryd.underlying49 hi0 hz0 hz1 hz2 rfl (by decide) _ _ _ rfl (HO.out.alloc _) (wr.heap.size + 1) (some ⟨wr.heap.size, 0, none⟩) 1 1 [.int .u8 s[j].toNat] rfl ?d0 ?d4 ?d1 ?d2 ?d3 ?_)
        case d0 => exact ⟨rfl, fun _ => ⟨_, rfl, by simp, World.news_of_block (cs := #[.int .u8 s[j].toNat]) (t := 5) (fr := (0, 0)) (heap_alloc_new wr _)⟩⟩
        case d4 => intro u hu; simp at hu; subst hu; rfl
        case d1 => have := hlen.out; unfold maxLen; omega
        case d2 => have := hlen.out; omega
        case d3 => have := HB.out.size; simp; omega
        intro v2 w2 hown2 hg2 hat2
        have hb3 := (HB.out.alloc HB.out.size (.cells #[.int .u8 s[j].toNat] 5)).grown hg2 (by have := HB.out.size; simp; omega) (fun k hk => (HO.out.lt k hk).1)
        have hown3 : OwnB W0.heap.size w2 v2 cs2 := ownB_of hown2 (by rw [hst.out, hq.out, u8s_append]; rfl)
        have HO2 := Lib.hid hown3
        have HB3 := Lib.hid hb3
        clear hown2 hg2 hat2 hb3 hown3
        go_wp2_with fail
        go_roundw
        case rel => exact ⟨j + 1, by omega, by go_num, by rw [Hcs2.out]; exact HO2.out, HB3.out⟩
        case measure => simp [intOf]; omega
    · obtain rfl : j = s.size := by omega
      have hcs : Hid ((34 :: (s.data.toList.take s.size).flatMap qB) = 34 :: s.data.toList.flatMap qB) := Lib.hid (by rw [List.take_of_length_le (by simp)])
      have hend : Hid ((34 :: (s.data.toList.take s.size).flatMap qB) ++ [34] = quoteL s.data.toList) := Lib.hid (by rw [hcs.out]; rfl)
      generalize (34 :: (s.data.toList.take s.size).flatMap qB) = cs at *
      clear hcs hlt hj
      go_wp2_with (at_builtin; refine wpList_append_any _ rfl _ _ 49 rfl W0.heap.size 5 i0 _ 1 1 Tryd.underlying49 hi0 hz0 hz1 hz2 rfl (by decide) _ _ _ rfl (HO.out.alloc _) (wr.heap.size + 1) (some ⟨wr.heap.size, 0, none⟩) 1 1 [.int .u8 34] rfl ?d0 ?d4 ?d1 ?d2 ?d3 ?_)
      case d0 => exact ⟨rfl, fun _ => ⟨_, rfl, by simp, World.news_of_block (cs := #[.int .u8 34]) (t := 5) (fr := (0, 0)) (heap_alloc_new wr _)⟩⟩
      case d4 => intro u hu; simp at hu; subst hu; rfl
      case d1 => have := hlen.out; unfold maxLen; omega
      case d2 => have := hlen.out; omega
      case d3 => have := HB.out.size; simp; omega
      intro v2 w2 hown2 hg2 hat2
      have hb3 := (HB.out.alloc HB.out.size (.cells #[.int .u8 34] 5)).grown hg2 (by have := HB.out.size; simp; omega) (fun k hk => (HO.out.lt k hk).1)
      have hown3 : OwnB W0.heap.size w2 v2 (quoteL s.data.toList) := ownB_of hown2 (by rw [← hend.out, u8s_append]; rfl)
      have HB3 := Lib.hid (hB0.out.trans (hb3.mono hB0.out.size))
      have hcv := own_conv hown3
      clear hown2 hg2 hat2 hb3 hown3 hend
      go_wp2_with fail
      go_ret
      exact ⟨rfl, HB3.out⟩
end Go.Proofs.YtldleckgkgeclaaDoor
/-
  The reference's reader of brackets: signs.
-/
namespace Go.Proofs.YtldleckgkgeclaaDoor
open Go.RowKit
def letB (c : UInt8) : Bool := decide (97 ≤ (c.toNat : Int)) && decide ((c.toNat : Int) ≤ 122)
def digB (c : UInt8) : Bool := decide (48 ≤ (c.toNat : Int)) && decide ((c.toNat : Int) ≤ 57)
theorem letter_any (c : UInt8) (w : World) : Calls Tryd.prog 22 #[.int .u8 (c.toNat : Int)] w fun e w' => e = .returned (.bool (letB c)) ∧ w = w' := by
  unfold letB
  cases a1 : decide (97 ≤ (c.toNat : Int))
  · go_enter Tryd.func22, Tryd.ntmps22
    go_wp2
    go_ret
    exact ⟨rfl, rfl⟩
  · cases a2 : decide ((c.toNat : Int) ≤ 122)
    all_goals
      go_enter Tryd.func22, Tryd.ntmps22
      go_wp2
      go_ret
      exact ⟨rfl, rfl⟩
theorem digit_any (c : UInt8) (w : World) : Calls Tryd.prog 23 #[.int .u8 (c.toNat : Int)] w fun e w' => e = .returned (.bool (digB c)) ∧ w = w' := by
  unfold digB
  cases a1 : decide (48 ≤ (c.toNat : Int))
  · go_enter Tryd.func23, Tryd.ntmps23
    go_wp2
    go_ret
    exact ⟨rfl, rfl⟩
  · cases a2 : decide ((c.toNat : Int) ≤ 57)
    all_goals
      go_enter Tryd.func23, Tryd.ntmps23
      go_wp2
      go_ret
      exact ⟨rfl, rfl⟩
/-- a sign's number, or -1 -/
theorem hex_any (c : UInt8) (w : World) : Calls Tryd.prog 63 #[.int .u8 (c.toNat : Int)] w fun e w' => (∃ h : Int, e = .returned (.int .i64 h) ∧ -1 ≤ h ∧ h ≤ 15) ∧ w = w' := by
  have hD := Lib.hid (digit_any c w)
  by_cases h1 : digB c = true
  · have h1' := h1
    rw [h1] at hD
    unfold digB at h1
    simp only [Bool.and_eq_true, decide_eq_true_eq] at h1
    obtain ⟨b1, b2⟩ := h1
    clear h1'
    go_enter Tryd.func63, Tryd.ntmps63
    go_wp2_with fail
    refine (hD.out).mono ?_
    rintro e w' ⟨rfl, rfl⟩
    go_wp2_with fail
    go_ret
    exact ⟨⟨_, rfl, by omega, by omega⟩, rfl⟩
  · have h1' : digB c = false := by simpa using h1
    rw [h1'] at hD
    clear h1 h1'
    by_cases a1 : 97 ≤ (c.toNat : Int)
    · by_cases a2 : (c.toNat : Int) ≤ 102
      · go_enter Tryd.func63, Tryd.ntmps63
        go_wp2_with fail
        refine (hD.out).mono ?_
        rintro e w' ⟨rfl, rfl⟩
        go_wp2_with fail
        go_ret
        exact ⟨⟨_, rfl, by omega, by omega⟩, rfl⟩
      · go_enter Tryd.func63, Tryd.ntmps63
        go_wp2_with fail
        refine (hD.out).mono ?_
        rintro e w' ⟨rfl, rfl⟩
        go_wp2_with fail
        go_ret
        exact ⟨⟨_, rfl, by omega, by omega⟩, rfl⟩
    · go_enter Tryd.func63, Tryd.ntmps63
      go_wp2_with fail
      refine (hD.out).mono ?_
      rintro e w' ⟨rfl, rfl⟩
      go_wp2_with fail
      go_ret
      exact ⟨⟨_, rfl, by omega, by omega⟩, rfl⟩
end Go.Proofs.YtldleckgkgeclaaDoor
