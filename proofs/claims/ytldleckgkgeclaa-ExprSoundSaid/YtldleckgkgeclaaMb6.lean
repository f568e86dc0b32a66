/-
  The law's own copy of a tree: out.
-/
import Derived.Test.YtldleckgkgeclaaMb5
import Derived.Deep.RegionLaw
import Derived.Deep.AppendLies
import Derived.Deep.RegionHeld
import Derived.WalkKit
import Derived.WalkSpells
import Derived.Lib.Hide
import Derived.Below
import Derived.Laws.OwnMore
import Derived.Laws.Rows
import Derived.Maps.AppendAt
import Derived.Deep.Draws
import Derived.RegionTactic
import Derived.OwnWalk
import Derived.OrdersHeld
import Derived.KernelRfl
set_option linter.unusedVariables false
set_option linter.unusedSimpArgs false
namespace Go.Proofs.Ytldleckgkgeclaa
open Go.RowKit
theorem set5c {w : World} {g k : Nat} {a b c d e u : Value} {t : TypeId} (h : w.heap[g]? = some (.cells #[a, b, c, d, e] t (0, 0))) : (w.setCell ⟨g, k, none⟩ u).heap[g]? = some (.cells (#[a, b, c, d, e].set! k u) t (0, 0)) := by
  show (w.heap.modify g _)[g]? = _
  rw [Array.getElem?_modify]
  simp [h]
def put5 (w : World) (p : Nat) (x0 x1 x2 x3 x4 : Value) : World := ((((w.setCell ⟨p, 0, none⟩ x0).setCell ⟨p, 1, none⟩ x1).setCell ⟨p, 2, none⟩ x2).setCell ⟨p, 3, none⟩ x3).setCell ⟨p, 4, none⟩ x4
theorem put5_block {w : World} {p : Nat} {a b c d e x0 x1 x2 x3 x4 : Value} {t : TypeId} (h : w.heap[p]? = some (.cells #[a, b, c, d, e] t (0, 0))) : (put5 w p x0 x1 x2 x3 x4).heap[p]? = some (.cells #[x0, x1, x2, x3, x4] t (0, 0)) :=
  set5c (k := 4) (set5c (k := 3) (set5c (k := 2) (set5c (k := 1) (set5c (k := 0) h))))
theorem put5_below {w a : World} {p B : Nat} {x0 x1 x2 x3 x4 : Value} (h : Below B a w) (hp : B ≤ p) : Below B a (put5 w p x0 x1 x2 x3 x4) :=
  ((((h.setCell (p := ⟨p, 0, none⟩) hp x0).setCell (p := ⟨p, 1, none⟩) hp x1).setCell (p := ⟨p, 2, none⟩) hp x2).setCell (p := ⟨p, 3, none⟩) hp x3).setCell (p := ⟨p, 4, none⟩) hp x4
theorem put5_other {w : World} {p k : Nat} {x0 x1 x2 x3 x4 : Value} (h : k ≠ p) : (put5 w p x0 x1 x2 x3 x4).heap[k]? = w.heap[k]? := by
  simp only [put5, World.setCell, Array.getElem?_modify]
  rw [if_neg (by omega), if_neg (by omega), if_neg (by omega), if_neg (by omega), if_neg (by omega)]
theorem put5_size {w : World} {p : Nat} {x0 x1 x2 x3 x4 : Value} : (put5 w p x0 x1 x2 x3 x4).heap.size = w.heap.size := by simp [put5, World.setCell]
theorem cell5 {w : World} {g : Nat} {a b c d e : Value} {t : TypeId} (h : w.heap[g]? = some (.cells #[a, b, c, d, e] t (0, 0))) :
    (w.cell? ⟨g, 0, none⟩ = some a ∧ w.cell? ⟨g, 1, none⟩ = some b ∧ w.cell? ⟨g, 2, none⟩ = some c ∧ w.cell? ⟨g, 3, none⟩ = some d ∧ w.cell? ⟨g, 4, none⟩ = some e) ∧ w.frozen? ⟨g, 0, none⟩ = false ∧ w.frozen? ⟨g, 1, none⟩ = false ∧ w.frozen? ⟨g, 2, none⟩ = false ∧ w.frozen? ⟨g, 3, none⟩ = false ∧ w.frozen? ⟨g, 4, none⟩ = false := by
  simp [World.cell?, World.frozen?, h]
/-- a tree in a cell: what is returned -/
theorem results_tree {fn : Func} {p : Tmp} (h : fn.results = #[.cell p 56]) {tmps : Array Value} {w : World} {g : Nat} {x0 x1 x2 x3 x4 : Value} {t : TypeId}
    (hp : tmps.getD p undef = .pointer (some ⟨g, 0, none⟩)) (hg : w.heap[g]? = some (.cells #[x0, x1, x2, x3, x4] t (0, 0))) : (results fn tmps).run Try.prog w = .ok (.agg #[x0, x1, x2, x3, x4]) w := by
  have hp' : tmps[p]?.getD undef = .pointer (some ⟨g, 0, none⟩) := by simpa using hp
  have hl := run_loadVar_row (P := Try.prog) w g t 56 #[x0, x1, x2, x3, x4] (0, 0) _ hg Try.underlying56 rfl (by show _ = some 5; kernel_rfl)
  simp [results, h, hp', asAddr, hl]
theorem tree_info : (Try.prog.info? 56).map (fun i => (i.zero, i.size, i.bytes)) = some (some (.agg #[.int .i64 0, .string ByteArray.empty, .int .i64 0, .slice none 0 0, .int .i64 0]), 5, 64) := by kernel_rfl
inductive T.Few : T → Prop
  | mk (k : Int) (s : ByteArray) (n : Int) (l : List T) (a : Int) (h : l.length ≤ 1048576) (hk : ∀ e ∈ l, T.Few e) : T.Few (.mk k s n l a)
def OutT (t : T) : Prop := t.Few → ∀ (A : Option Addr) (c : Nat) (w : World), t.kids.length ≤ c → TKids w w.heap.size A t.kids →
  Calls Try.prog 21 #[t.val A c] w fun r w' => (∃ A' c', r = .returned (t.val A' c') ∧ t.kids.length ≤ c' ∧ XTK w' (fun k => w.heap.size ≤ k ∧ k < w'.heap.size) A' t.kids) ∧ Below w.heap.size w w'
set_option maxRecDepth 100000 in
set_option maxHeartbeats 1000000 in
theorem out_step (k : Int) (s : ByteArray) (n : Int) (l : List T) (a : Int) (hM : ∀ t ∈ l, OutT t) : OutT (.mk k s n l a) := by
  intro hfew A c w hcap hA
  obtain ⟨_, _, _, _, _, hl6, hfk⟩ := hfew
  simp only [T.val, T.k, T.s, T.n, T.kids, T.at_] at hcap hA ⊢
  obtain ⟨ln, eln⟩ : ∃ ln, ln = l.length := ⟨_, rfl⟩
  have hlen : l.length ≤ 9223372036854775807 := hA.len
  rw [← eln] at hcap hlen hl6 ⊢
  obtain ⟨w1, ew1⟩ : ∃ w1, w1 = ((w.alloc (.cells #[.int .i64 k, .string s, .int .i64 n, .slice A ln c, .int .i64 a] 49)).alloc (.cells #[.int .i64 0, .string ⟨#[]⟩, .int .i64 0, .slice none 0 0, .int .i64 0] 56)).alloc (.cells #[.int .i64 k, .string s, .int .i64 n, .slice none 0 0, .int .i64 a] 56) := ⟨_, rfl⟩
  have hb1 : Below w.heap.size w w1 := by rw [ew1]; exact (((Below.refl _ _).alloc (Nat.le_refl _) _).alloc (by simp) _).alloc (by simp; omega) _
  have hws : w1.heap.size = w.heap.size + 3 := by rw [ew1]; simp
  have HW1 := Lib.hid ew1
  have HLN := Lib.hid eln
  have HK := Lib.hid hA
  have HF := Lib.hid hfk
  have HB1 := Lib.hid hb1
  have HM := Lib.hid hM
  obtain ⟨wa, ewa⟩ : ∃ wa, wa = w.alloc (.cells #[.int .i64 k, .string s, .int .i64 n, .slice A ln c, .int .i64 a] 49) := ⟨_, rfl⟩
  have hwa : wa.heap.size = w.heap.size + 1 := by rw [ewa]; simp
  have hda : wa.heap[w.heap.size]? = some (.cells #[.int .i64 k, .string s, .int .i64 n, .slice A ln c, .int .i64 a] 49 (0, 0)) := by rw [ewa]; exact heap_alloc_new w _
  obtain ⟨wb, ewb⟩ : ∃ wb, wb = wa.alloc (.cells #[.int .i64 0, .string ⟨#[]⟩, .int .i64 0, .slice none 0 0, .int .i64 0] 56) := ⟨_, rfl⟩
  have hwb : wb.heap.size = w.heap.size + 2 := by rw [ewb]; show (wa.heap.push _).size = _; rw [Array.size_push, hwa]
  have hrb : wb.heap[w.heap.size + 1]? = some (.cells #[.int .i64 0, .string ⟨#[]⟩, .int .i64 0, .slice none 0 0, .int .i64 0] 56 (0, 0)) := by rw [ewb, ← hwa]; exact heap_alloc_new wa _
  have ew2 : w1 = wb.alloc (.cells #[.int .i64 k, .string s, .int .i64 n, .slice none 0 0, .int .i64 a] 56) := by rw [ew1, ewb, ewa]
  have HR : Hid (w1.heap[w.heap.size + 1]? = some (.cells #[.int .i64 0, .string ⟨#[]⟩, .int .i64 0, .slice none 0 0, .int .i64 0] 56 (0, 0))) := Lib.hid (by
    rw [ew2]
    exact (((Below.refl wb.heap.size wb).alloc (Nat.le_refl _) _).block _ (by omega)).trans hrb)
  have HX : Hid (w1.heap[w.heap.size + 2]? = some (.cells #[.int .i64 k, .string s, .int .i64 n, .slice none 0 0, .int .i64 a] 56 (0, 0))) := Lib.hid (by
    rw [ew2, ← hwb]
    exact heap_alloc_new wb _)
  have HD : Hid (w1.cell? ⟨w.heap.size, 3, none⟩ = some (.slice A ln c)) := Lib.hid (by
    refine (cell5 (t := 49) (a := .int .i64 k) (b := .string s) (c := .int .i64 n) (e := .int .i64 a) ?_).1.2.2.2.1
    rw [ew2]
    refine (((Below.refl wb.heap.size wb).alloc (Nat.le_refl _) _).block _ (by omega)).trans ?_
    rw [ewb]
    exact (((Below.refl wa.heap.size wa).alloc (Nat.le_refl _) _).block _ (by omega)).trans hda)
  clear ewa hwa hda ewb hwb hrb ew2 wa wb
  obtain ⟨i0, hi, hz0, hz1, hz2⟩ := info_parts tree_info
  clear hA hM eln ew1 hb1 hfk
  go_enter Try.func21, Try.ntmps21
  go_upto_region 2 with (fail)
  rw [← HW1.out]
  go_wp2_with fail
  go_loopw [4] (fun i wr => ∃ (j : Nat) (ps : List TP) (v : Value), j ≤ ln ∧ ps.length = j ∧ i = .int .i64 j ∧ wr.heap[w.heap.size + 2]? = some (.cells #[.int .i64 k, .string s, .int .i64 n, v, .int .i64 a] 56 (0, 0)) ∧
      wr.ownsRow w1.heap.size 56 5 v j (flatT ps) ∧ Hid (∀ p ∈ ps, p.1.kids.length ≤ p.2.2 ∧ XTK wr (fun k => w1.heap.size ≤ k ∧ k < wr.heap.size ∧ v.ownBlock ≠ some k) p.2.1 p.1.kids) ∧ Below (w.heap.size + 2) w1 wr ∧ Hid (ps.map Prod.fst = l.take j)) (fun i _ => ln - (intOf i).toNat)
  case atStart => exact ⟨0, [], .slice none 0 0, Nat.zero_le _, rfl, rfl, HX.out, World.ownsRow_nil _ _ _ _, Lib.hid (fun p hp => by cases hp), Below.refl _ _, Lib.hid (by simp)⟩
  case round =>
    obtain ⟨j, ps, v, hj, hpl, rfl, hbox, hown, hxk, hb, hzl⟩ := hrel
    have HO := Lib.hid hown
    have HB := Lib.hid hb
    have hs := hb.size
    have HPL := Lib.hid hpl
    have HBX := Lib.hid hbox
    have d3 : wr.cell? ⟨w.heap.size, 3, none⟩ = some (.slice A ln c) := (hb.cell (p := ⟨w.heap.size, 3, none⟩) (show w.heap.size < _ by omega)).trans HD.out
    clear hown hpl hbox
    by_cases hlt2 : j < ln
    · obtain ⟨x, hx⟩ : ∃ x, l[j]? = some x := ⟨_, List.getElem?_eq_getElem (by rw [← HLN.out]; exact hlt2)⟩
      have hbw : Below w.heap.size w wr := HB1.out.trans (hb.mono (by omega))
      obtain ⟨b, o, A', c', rfl, hbl, c1, c2, c3, c4, c5, hcx, hKx⟩ := HK.out.get_ wr hbw j x hx
      have hMx := HM.out x (List.mem_of_getElem? hx) (HF.out x (List.mem_of_getElem? hx))
      have htk : Hid (l.take (j + 1) = l.take j ++ [x]) := Lib.hid (by
        obtain ⟨g1, g2⟩ := List.getElem?_eq_some_iff.1 hx
        rw [List.take_succ_eq_append_getElem g1, g2])
      have hbd : Below wr.heap.size wr wr.drew := (Below.refl _ _).drew
      have HCL := Lib.hid (hMx A' c' wr.drew hcx ((hKx.low hbd).more hbd.size))
      clear hx hKx hMx hbd hbw
      obtain ⟨tk, ts, tn, tl, ta⟩ := x
      simp only [T.val, T.k, T.s, T.n, T.kids, T.at_] at c1 c2 c3 c4 c5 HCL hcx
      have hwrs : w.heap.size + 3 ≤ wr.heap.size := by omega
      obtain ⟨⟨k0, k1, k2, k3, k4⟩, f0, f1, f2, f3, f4⟩ := cell5 HBX.out
      go_upto_region 5 with (fail)
      go_region_law (first
        | (refine step_append_lies _ rfl _ _ _ rfl w1.heap.size 56 i0 _ 5 64 Try.underlying54 hi hz0 hz1 hz2 rfl (by decide) _ _ _ rfl (HO3.out.alloc _) ⟨w3.heap.size, 0, none⟩ 1 1 (TP.cs ((.mk tk ts tn tl ta : T), A3, c3')) rfl rfl (World.news_of_block (heap_alloc_new w3 _)) (by rw [← flatT_one]; exact flatT_ones _) (by decide) (by unfold maxLen; omega) (by omega) (by simp; omega) _ rfl ?_; intro g cap w5 hown5 hgrow hat hlt
           have HO5 := Lib.hid hown5
           have HG5 : Hid (w3.grownBy w5 v.ownBlock) := Lib.hid ((World.grownBy_alloc _ _ _).trans hgrow)
           have hat5 : Hid ((Value.slice (some ⟨g, 0, none⟩) (j + 1) cap).ownBlock = v.ownBlock ∨ ∃ n, (Value.slice (some ⟨g, 0, none⟩) (j + 1) cap).ownBlock = some n ∧ w3.heap.size ≤ n) := Lib.hid (hat.imp (fun h => h.symm) fun h => ⟨g, rfl, by rw [h]; simp⟩)
           have HE5 := Lib.hid ((HG5.out.block (w.heap.size + 2) (by omega) (fun e => by have := (HO.out.lt _ e.symm).1; omega)).trans hbx3.out)
           obtain ⟨⟨p0, p1, p2, p3, p4⟩, q0, q1, q2, q3, q4⟩ := cell5 HE5.out
           clear hown5 hgrow hat)
        | (go_simp; go_at_call 21; refine (HCL.out).mono ?_; rintro e w3 ⟨⟨A3, c3', rfl, hc3, hX⟩, hb3⟩
           have HX3 := Lib.hid hX
           have HB3 : Hid (Below wr.heap.size wr w3) := Lib.hid (((Below.refl wr.heap.size wr).drew).trans hb3)
           have HO3 := Lib.hid (own_below HO.out HB3.out)
           have hw3s : wr.heap.size ≤ w3.heap.size := HB3.out.size
           have hbx3 := Lib.hid ((HB3.out.block (w.heap.size + 2) (by omega)).trans HBX.out)
           have g3 : w3.cell? ⟨w.heap.size + 2, 3, none⟩ = some v := (cell5 hbx3.out).1.2.2.2.1
           have g3b : (w3.alloc (.cells #[.int .i64 tk, .string ts, .int .i64 tn, .slice A3 tl.length c3', .int .i64 ta] 56)).cell? ⟨w.heap.size + 2, 3, none⟩ = some v := (World.cell?_alloc_some _ _ _ (by rw [g3]; rfl)).trans g3
           clear hX hb3))
      all_goals
        go_wp2_with fail
        go_roundw
        case measure => simp [intOf]; omega
        case rel =>
          have hs5 := HG5.out.size
          have hother : ∀ k, k ≠ w.heap.size + 2 → k < w3.heap.size → v.ownBlock ≠ some k → (w5.setCell ⟨w.heap.size + 2, 3, none⟩ (.slice (some ⟨g, 0, none⟩) (j + 1) cap)).heap[k]? = w3.heap[k]? := fun k h1 h2 h3 =>
            (Below.heap_setCell w5 ⟨w.heap.size + 2, 3, none⟩ _ k h1).trans (HG5.out.block k (by omega) fun e => h3 e.symm)
          refine ⟨j + 1, ps ++ [((.mk tk ts tn tl ta : T), A3, c3')], .slice (some ⟨g, 0, none⟩) (j + 1) cap, by omega, by rw [List.length_append, HPL.out]; rfl, by go_num, set5c (k := 3) HE5.out, own_set (by rw [flatT_append, flatT_one]; exact HO5.out) _ (by show w.heap.size + 2 < w1.heap.size; omega), Lib.hid ?_, ?_, Lib.hid ?_⟩
          · refine xt_round hxk.out hc3 (HX3.out.mono fun k hk => ⟨hk.1, hk.2⟩) hs (fun k h1 h2 h3 => (hother k (by omega) (by omega) h3).trans (HB3.out.block k h2)) (fun k h1 h2 => hother k (by omega) (by omega) fun e => by have := (HO.out.lt _ e).2; omega) hw3s ?_ (fun k e => (HO.out.lt _ e).2) hat5.out
            simp only [World.setCell, Array.size_modify]
            omega
          · exact ((HB.out.trans (HB3.out.mono (by omega))).grown HG5.out (by omega) (fun g hg => by have := (HO.out.lt g hg).1; omega)).setCell (p := ⟨w.heap.size + 2, 3, none⟩) (Nat.le_refl _) _
          · rw [htk.out, List.map_append, hzl.out]; rfl
    · obtain rfl : j = ln := by omega
      have hps : ps.map Prod.fst = l := by rw [hzl.out, HLN.out, List.take_length]
      have hO2 : wr.ownsRow w1.heap.size 56 5 v ps.length (flatT ps) := by rw [HPL.out]; exact HO.out
      have hlj : ps.length ≤ 9223372036854775807 := by rw [HPL.out]; omega
      obtain ⟨A9, c9, rfl, hc9, hX9⟩ := own_trees hO2 hlj (S := fun k => w1.heap.size ≤ k ∧ k < wr.heap.size) (fun g u1 u2 => ⟨u1, u2⟩) (fun p hp => ⟨(hxk.out p hp).1, (hxk.out p hp).2.mono (fun k hk => ⟨hk.1, hk.2.1⟩)⟩)
      rw [hps] at hc9 hX9 HBX
      have HX9 := Lib.hid hX9
      have hR9 : Hid (wr.heap[w.heap.size + 1]? = some (.cells #[.int .i64 0, .string ⟨#[]⟩, .int .i64 0, .slice none 0 0, .int .i64 0] 56 (0, 0))) := Lib.hid ((HB.out.block _ (by omega)).trans HR.out)
      obtain ⟨⟨k0, k1, k2, k3, k4⟩, f0, f1, f2, f3, f4⟩ := cell5 HBX.out
      obtain ⟨⟨q0, q1, q2, q3, q4⟩, e0, e1, e2, e3, e4⟩ := cell5 hR9.out
      clear hO2 hlj hX9 hxk hzl hps
      go_wp2_with fail
      refine bodyPost_ret (results_tree rfl rfl (put5_block hR9.out)) rfl ?_
      have hsz := HB.out.size
      refine ⟨⟨A9, c9, by rw [HLN.out], by rw [HLN.out]; exact hc9, ?_⟩, put5_below (HB1.out.trans (HB.out.mono (by omega))) (Nat.le_succ _)⟩
      exact (HX9.out.kept (fun k hk => put5_other (by have := hk.1; omega))).mono (fun k hk => ⟨by have := hk.1; omega, Nat.lt_of_lt_of_eq hk.2 put5_size.symm⟩)
/-- the law's out: the same tree, in new memory -/
theorem out_any : ∀ t, OutT t := T.ind out_step
end Go.Proofs.Ytldleckgkgeclaa
/-
  The reference's reader of brackets: leaves.
-/
namespace Go.Proofs.Ytldleckgkgeclaa
open Go.RowKit
theorem results_leaf {fn : Func} {p q r u : Tmp} (h : fn.results = #[.cell p 49, .tmp q, .tmp r, .tmp u]) {tmps : Array Value} {w : World} {g : Nat} {x0 x1 x2 x3 x4 a b c : Value} {t : TypeId}
    (hp : tmps.getD p undef = .pointer (some ⟨g, 0, none⟩)) (hq : tmps.getD q undef = a) (hr : tmps.getD r undef = b) (hu : tmps.getD u undef = c) (hg : w.heap[g]? = some (.cells #[x0, x1, x2, x3, x4] t (0, 0))) : (results fn tmps).run Try.prog w = .ok (.tuple #[.agg #[x0, x1, x2, x3, x4], a, b, c]) w := by
  have hp' : tmps[p]?.getD undef = .pointer (some ⟨g, 0, none⟩) := by simpa using hp
  have hq' : tmps[q]?.getD undef = a := by simpa using hq
  have hr' : tmps[r]?.getD undef = b := by simpa using hr
  have hu' : tmps[u]?.getD undef = c := by simpa using hu
  have hl := run_loadVar_row (P := Try.prog) w g t 49 #[x0, x1, x2, x3, x4] (0, 0) _ hg Try.underlying49 rfl (by show _ = some 5; kernel_rfl)
  simp [results, h, hp', hq', hr', hu', asAddr, hl]
/-- what leaf gives: a tree without kids; it ends behind where it began, if it is one -/
def LeafEnd (s : ByteArray) (p : Nat) (e : Ending) : Prop := ∃ (k n a : Int) (x : ByteArray) (i : Nat) (why at_ : Int), e = .returned (.tuple #[.agg #[.int .i64 k, .string x, .int .i64 n, .slice none 0 0, .int .i64 a], .int .i64 (i : Int), .int .i64 why, .int .i64 at_]) ∧ i ≤ s.size ∧ x.size ≤ 600 ∧ (k = 4 → x.size ≤ 40) ∧ -9223372036854775808 ≤ n ∧ n ≤ 9223372036854775807 ∧ (why = 0 → p < i)
set_option maxRecDepth 100000 in
set_option maxHeartbeats 2000000 in
theorem leaf_any (s : ByteArray) (p : Nat) (hp : p < s.size) (hs : s.size ≤ 600) (w : World) : Calls Try.prog 43 #[.string s, .int .i64 (p : Int)] w fun e w' => LeafEnd s p e ∧ Below w.heap.size w w' := by
  obtain ⟨w1, ew1⟩ : ∃ w1, w1 = w.alloc (.cells #[.int .i64 0, .string ⟨#[]⟩, .int .i64 0, .slice none 0 0, .int .i64 0] 49) := ⟨_, rfl⟩
  have hb1 : Below w.heap.size w w1 := by rw [ew1]; exact (Below.refl _ _).alloc (Nat.le_refl _) _
  have hws : w1.heap.size = w.heap.size + 1 := by rw [ew1]; simp
  have hB : Hid (w1.heap[w.heap.size]? = some (.cells #[.int .i64 0, .string ⟨#[]⟩, .int .i64 0, .slice none 0 0, .int .i64 0] 49 (0, 0))) := Lib.hid (by rw [ew1]; exact heap_alloc_new w _)
  have HB1 := Lib.hid hb1
  have HW1 := Lib.hid ew1
  have hT := Lib.hid (text_any s p hp hs w1)
  have hN := Lib.hid (number_any s p hp hs w1)
  have hL := Lib.hid (fun c => letter_any c w1)
  clear ew1 hb1
  cases h34 : ((s[p].toNat : Int) == 34)
  · cases hlt : letB s[p]
    · have hlp := Lib.hid (hL.out s[p])
      rw [hlt] at hlp
      go_enter Try.func43, Try.ntmps43
      go_upto_region 1 with (fail)
      rw [← HW1.out]
      go_wp2_with fail
      refine (hlp.out).mono ?_
      rintro e w' ⟨rfl, rfl⟩
      go_wp2_with fail
      refine (hN.out).mono ?_
      rintro e w' ⟨⟨n, i, ok, rfl, hi, hok, hn1, hn2⟩, rfl⟩
      obtain ⟨⟨k0, k1, k2, k3, k4⟩, f0, f1, f2, f3, f4⟩ := cell5 hB.out
      cases ok
      · go_wp2_with fail
        refine bodyPost_ret (results_leaf rfl rfl rfl rfl rfl (put5_block hB.out)) rfl ?_
        exact ⟨⟨_, _, _, _, 0, _, _, rfl, by omega, by decide, by intro h; simp at h, by omega, by omega, by intro h; simp at h⟩, put5_below HB1.out (Nat.le_refl _)⟩
      · go_wp2_with fail
        refine bodyPost_ret (results_leaf rfl rfl rfl rfl rfl (put5_block hB.out)) rfl ?_
        exact ⟨⟨_, _, _, _, i, _, _, rfl, hi, by decide, by intro h; simp at h, hn1, hn2, fun _ => by simpa using hok⟩, put5_below HB1.out (Nat.le_refl _)⟩
    · have hlp := Lib.hid (hL.out s[p])
      rw [hlt] at hlp
      have HLT := Lib.hid hlt
      clear hlt
      go_enter Try.func43, Try.ntmps43
      go_upto_region 1 with (fail)
      rw [← HW1.out]
      go_wp2_with fail
      refine (hlp.out).mono ?_
      rintro e w' ⟨rfl, rfl⟩
      go_wp2_with fail
      go_loop [12] (fun i => ∃ k : Nat, p ≤ k ∧ k ≤ s.size ∧ i = .int .i64 k) (fun i => s.size - (intOf i).toNat)
      case atStart => exact ⟨p, by omega, by omega, rfl⟩
      case round =>
        obtain ⟨k, hk1, hk2, rfl⟩ := hrel
        by_cases hks : k < s.size
        · have hlk := Lib.hid (hL.out s[k])
          cases hlt : letB s[k]
          · rw [hlt] at hlk
            have hne : p < k := by
              rcases Nat.lt_or_ge p k with h | h
              · exact h
              · obtain rfl : k = p := by omega
                rw [HLT.out] at hlt
                cases hlt
            clear hlt
            go_wp2_with fail
            refine (hlk.out).mono ?_
            rintro e w' ⟨rfl, rfl⟩
            obtain ⟨⟨k0, k1, k2, k3, k4⟩, f0, f1, f2, f3, f4⟩ := cell5 hB.out
            go_wp2_with fail
            refine bodyPost_ret (results_leaf rfl rfl rfl rfl rfl (put5_block hB.out)) rfl ?_
            exact ⟨⟨_, _, _, s.extract p k, k, _, _, rfl, by omega, by simp [ByteArray.size_extract]; omega, by intro h; simp at h, by omega, by omega, fun _ => hne⟩, put5_below HB1.out (Nat.le_refl _)⟩
          · rw [hlt] at hlk
            go_wp2_with fail
            refine (hlk.out).mono ?_
            rintro e w' ⟨rfl, rfl⟩
            go_wp2_with fail
            go_round
            case rel => exact ⟨k + 1, by omega, by omega, by go_num⟩
            case measure => simp [intOf]; omega
        · obtain rfl : k = s.size := by omega
          obtain ⟨⟨k0, k1, k2, k3, k4⟩, f0, f1, f2, f3, f4⟩ := cell5 hB.out
          go_wp2_with fail
          refine bodyPost_ret (results_leaf rfl rfl rfl rfl rfl (put5_block hB.out)) rfl ?_
          exact ⟨⟨_, _, _, s.extract p s.size, s.size, _, _, rfl, by omega, by simp [ByteArray.size_extract]; omega, by intro h; simp at h, by omega, by omega, fun _ => hp⟩, put5_below HB1.out (Nat.le_refl _)⟩
  · go_enter Try.func43, Try.ntmps43
    go_upto_region 1 with (fail)
    rw [← HW1.out]
    go_wp2_with fail
    refine (hT.out).mono ?_
    rintro e w2 ⟨⟨x, i, why, at_, rfl, hi, hx, hw⟩, hb2⟩
    have hB2 : Hid (w2.heap[w.heap.size]? = some (.cells #[.int .i64 0, .string ⟨#[]⟩, .int .i64 0, .slice none 0 0, .int .i64 0] 49 (0, 0))) := Lib.hid ((hb2.block _ (by omega)).trans hB.out)
    have HB2 := Lib.hid hb2
    clear hb2
    obtain ⟨⟨k0, k1, k2, k3, k4⟩, f0, f1, f2, f3, f4⟩ := cell5 hB2.out
    go_wp2_with fail
    refine bodyPost_ret (results_leaf rfl rfl rfl rfl rfl (put5_block hB2.out)) rfl ?_
    exact ⟨⟨_, _, _, x, i, why, at_, rfl, hi, by omega, fun _ => hx, by omega, by omega, hw⟩, put5_below (HB1.out.trans (HB2.out.mono (by omega))) (Nat.le_refl _)⟩
end Go.Proofs.Ytldleckgkgeclaa
/-
  Memory: a slice that reads as a list, a block known whole, an append onto a row of the call's own (turned from the kit's extra words). No program in sight.
-/
namespace Go.Proofs.Ytldleckgkgeclaa
open Go.RowKit
theorem block_of_add (a : Addr) (n : Nat) : (a.add n).block = a.block := by unfold Addr.add; split <;> rfl
theorem add_of_add (a : Addr) (i j : Nat) : (a.add i).add j = a.add (i + j) := by
  unfold Addr.add
  by_cases hi : i = 0 <;> by_cases hj : j = 0 <;> simp [hi, hj, Nat.add_assoc]

def Reads (w : World) (B size : Nat) (A : Option Addr) (n : Nat) (xs : List Value) : Prop :=
  xs.length = n * size ∧ (0 < n → ∃ ad, A = some ad ∧ ad.block < B ∧ ∀ j u, xs[j]? = some u → w.cell? (ad.add j) = some u)

section
variable {w w' : World} {B B' size n : Nat} {A : Option Addr} {xs : List Value}
theorem Reads.none_ : Reads w B size A 0 [] := ⟨by simp, fun h => absurd h (by omega)⟩
theorem Reads.at_ {k : Nat} (h : Reads w B 1 A n xs) (hk : k < n) : ∃ ad u, A = some ad ∧ ad.block < B ∧ xs[k]? = some u ∧ w.cell? (ad.add k) = some u := by
  obtain ⟨ad, e, hb, hc⟩ := h.2 (by omega)
  have hl : k < xs.length := by have := h.1; omega
  exact ⟨ad, xs[k], e, hb, List.getElem?_eq_getElem hl, hc k _ (List.getElem?_eq_getElem hl)⟩
theorem Reads.keep (h : Reads w B size A n xs) (hk : ∀ p : Addr, p.block < B → w'.cell? p = w.cell? p) : Reads w' B size A n xs :=
  ⟨h.1, fun hn => by
    obtain ⟨ad, e, hb, hc⟩ := h.2 hn
    exact ⟨ad, e, hb, fun j u hu => (hk _ (by rw [block_of_add]; exact hb)).trans (hc j u hu)⟩⟩
theorem Reads.more (h : Reads w B size A n xs) (hB : B ≤ B') : Reads w B' size A n xs :=
  ⟨h.1, fun hn => by
    obtain ⟨ad, e, hb, hc⟩ := h.2 hn
    exact ⟨ad, e, by omega, hc⟩⟩
theorem Reads.below (h : Reads w B size A n xs) (hb : Below B w w') : Reads w' B size A n xs := h.keep fun _ hp => hb.cell hp
theorem Reads.drew (h : Reads w B size A n xs) : Reads w.drew B size A n xs := h
theorem Reads.drewN (h : Reads w B size A n xs) (k : Nat) : Reads (w.drewN k) B size A n xs := h
theorem Reads.alloc (h : Reads w B size A n xs) (hB : B ≤ w.heap.size) (o : Obj) : Reads (w.alloc o) B size A n xs := h.keep fun p hp => World.cell?_alloc_lt w o p (by omega)
theorem Reads.setCell (h : Reads w B size A n xs) {p : Addr} (hB : B ≤ p.block) (u : Value) : Reads (w.setCell p u) B size A n xs :=
  h.keep fun q hq => World.cell?_setCell_other w p q u (fun e => by subst e; omega)
theorem Reads.grown (h : Reads w B size A n xs) {row : Option Nat} (hg : w.grownBy w' row) (hB : B ≤ w.heap.size) (hr : ∀ g, row = some g → B ≤ g) : Reads w' B size A n xs :=
  h.keep fun p hp => World.cell?_of_block (hg.block p.block (by omega) (fun e => by have := hr _ e.symm; omega))
theorem Reads.cut (h : Reads w B size A n xs) {k cap : Nat} (hk : k ≤ n) (hc : n ≤ cap) :
    Reads w B size (if cap = k then A else A.map (·.add (k * size))) (n - k) (xs.drop (k * size)) := by
  refine ⟨by rw [List.length_drop, h.1, Nat.sub_mul], fun hn => ?_⟩
  obtain ⟨ad, rfl, hb, hcell⟩ := h.2 (by omega)
  rw [if_neg (by omega)]
  refine ⟨ad.add (k * size), rfl, by rw [block_of_add]; exact hb, fun j u hu => ?_⟩
  rw [add_of_add]
  exact hcell _ u (by rw [← hu, List.getElem?_drop])
theorem Reads.of_own {base : Nat} {e : TypeId} {c : Nat} (h : w.ownsRow base e size (.slice A n c) n xs) : Reads w w.heap.size size A n xs := by
  refine ⟨h.1, fun hn => ?_⟩
  obtain ⟨g, cap, hv, _, hlt⟩ := h.form hn
  have hA : A = some ⟨g, 0, none⟩ := by injection hv
  subst hA
  exact ⟨_, rfl, hlt, h.cells (g := g) rfl⟩
end
def Blk (w : World) (g : Nat) (t : TypeId) (cs : Array Value) : Prop := w.heap[g]? = some (.cells cs t (0, 0))

section
variable {w w' : World} {g : Nat} {t : TypeId} {cs : Array Value}
theorem Blk.lt (h : Blk w g t cs) : g < w.heap.size := by
  rcases Nat.lt_or_ge g w.heap.size with hlt | hge
  · exact hlt
  · unfold Blk at h; rw [Array.getElem?_eq_none hge] at h; cases h
theorem Blk.cell (h : Blk w g t cs) (i : Nat) : w.cell? ⟨g, i, none⟩ = cs[i]? := cell_of_row w g i cs t (0, 0) h
theorem Blk.frozen (h : Blk w g t cs) (i : Nat) : w.frozen? ⟨g, i, none⟩ = false := by
  unfold Blk at h
  simp [World.frozen?, h]
theorem Blk.new (w : World) (t : TypeId) (cs : Array Value) : Blk (w.alloc (.cells cs t)) w.heap.size t cs := heap_alloc_new w _
theorem Blk.drew (h : Blk w g t cs) : Blk w.drew g t cs := h
theorem Blk.drewN (h : Blk w g t cs) (n : Nat) : Blk (w.drewN n) g t cs := h
theorem Blk.alloc (h : Blk w g t cs) (o : Obj) : Blk (w.alloc o) g t cs := (Below.heap_alloc w o g h.lt).trans h
theorem Blk.set_ (h : Blk w g t cs) (i : Nat) (u : Value) : Blk (w.setCell ⟨g, i, none⟩ u) g t (cs.setIfInBounds i u) := by
  unfold Blk at h ⊢
  simp [World.setCell, Array.getElem?_modify, h]
theorem Blk.far (h : Blk w g t cs) {p : Addr} (hp : g ≠ p.block) (u : Value) : Blk (w.setCell p u) g t cs := (Below.heap_setCell w p u g hp).trans h
theorem Blk.below {B : Nat} (h : Blk w g t cs) (hb : Below B w w') (hg : g < B) : Blk w' g t cs := (hb.block g hg).trans h
theorem Blk.grown {row : Option Nat} (h : Blk w g t cs) (hb : w.grownBy w' row) (hg : some g ≠ row) : Blk w' g t cs := (hb.block g h.lt hg).trans h
theorem Blk.ne_ {g' : Nat} {t' : TypeId} {cs' : Array Value} (h : Blk w g t cs) (h' : Blk w g' t' cs') (hne : t ≠ t') : g ≠ g' := by
  rintro rfl
  unfold Blk at h h'
  rw [h] at h'
  injection h' with h'
  injection h' with _ ht
  exact hne ht
theorem own_blk_ne {base : Nat} {e : TypeId} {size n : Nat} {v : Value} {xs : List Value} (h : w.ownsRow base e size v n xs) (hg : Blk w g t cs) (hne : e ≠ t) : v.ownBlock ≠ some g := by
  rcases h.2 with ⟨rfl, _⟩ | ⟨g', cap, cur, rfl, _, hh, _⟩
  · simp [Value.ownBlock]
  · intro he
    have : g' = g := by simpa [Value.ownBlock] using he
    subst this
    exact Blk.ne_ (t := e) hh hg hne rfl
end
section
variable {P : Program} (w : World)

theorem run_append_of_nil (base : Nat) (t ty e : TypeId) (i : TypeInfo) (size : Nat) (ht : P.underlying t = some (.slice e)) (hi : P.info? e = some i)
    (v : Value) (n : Nat) (xs : List Value) (hown : w.ownsRow base e size v n xs) (c : Nat) : (Builtin.append_ #[t, t] ty #[v, .slice none 0 c]).run P w = .ok v w := by
  rcases hown.2 with ⟨rfl, rfl⟩ | ⟨g, cap, cur, rfl, _, _, hnc, _⟩
  · simp [Builtin.append_, run_underlying ht, sizeOf, typeInfo, hi, Builtin.lenOf, Builtin.firstCells]
  · simp [Builtin.append_, run_underlying ht, sizeOf, typeInfo, hi, Builtin.lenOf, Builtin.firstCells, hnc, storeCells]

theorem run_append_any (base : Nat) (t ty e : TypeId) (i : TypeInfo) (z : Value) (size bytes : Nat) (ht : P.underlying t = some (.slice e)) (hi : P.info? e = some i) (hz : i.zero = some z)
    (hsize : i.size = size) (hby : i.bytes = bytes) (hzs : z.cells.size = size) (hsz : 0 < size)
    (v : Value) (n : Nat) (xs : List Value) (hown : w.ownsRow base e size v n xs)
    (B : Nat) (A : Option Addr) (m c : Nat) (news : List Value) (hr : Reads w B size A m news) (h1 : ∀ u ∈ news, u.oneCell' = true)
    (h63 : n + m ≤ maxLen) (hbytes : (n + m) * bytes ≤ 140737488355328) (hbase : base ≤ w.heap.size) :
    ∃ v' w', (Builtin.append_ #[t, t] ty #[v, .slice A m c]).run P w = .ok v' w' ∧ w'.ownsRow base e size v' (n + m) (xs ++ news) ∧ w.grownBy w' v.ownBlock ∧
      (v'.ownBlock = v.ownBlock ∨ v'.ownBlock = some w.heap.size) := by
  rcases A with _ | ad
  · have hm : m = 0 := by
      rcases Nat.eq_zero_or_pos m with h0 | h0
      · exact h0
      · obtain ⟨ad, h, _⟩ := hr.2 h0
        cases h
    subst hm
    have hn : news = [] := List.eq_nil_of_length_eq_zero (by simpa using hr.1)
    subst hn
    exact ⟨v, w, run_append_of_nil w base t ty e i size ht hi v n xs hown c, by simpa using hown, World.grownBy.refl w _, .inl rfl⟩
  · have hcells : ∀ j u, news[j]? = some u → w.cell? (ad.add j) = some u := by
      intro j u hu
      rcases Nat.eq_zero_or_pos m with h0 | h0
      · subst h0
        have hn : news = [] := List.eq_nil_of_length_eq_zero (by simpa using hr.1)
        subst hn
        simp at hu
      · obtain ⟨ad', h, _, hc⟩ := hr.2 h0
        injection h with h
        subst h
        exact hc j u hu
    obtain ⟨v', w', hrun, h2, h3, _, h5⟩ := run_append_own_at (P := P) w base t ty e i z size bytes ht hi hz hsize hby hzs hsz v n xs hown ad m c news hr.1 hcells h1 h63 hbytes hbase
    exact ⟨v', w', hrun, h2, h3, h5⟩

theorem wp_append_any {o : Oper} {a : Act} {K : Act → World → Prop} {Q : Exit → Act → World → Prop} (s x : Operand) (t : TypeId)
    (ho : o.op = .call { callee := .builtin .append, args := #[s, x], argTypes := #[t, t] })
    (base : Nat) (e : TypeId) (i : TypeInfo) (z : Value) (size bytes : Nat) (ht : P.underlying t = some (.slice e)) (hi : P.info? e = some i) (hz : i.zero = some z)
    (hsize : i.size = size) (hby : i.bytes = bytes) (hzs : z.cells.size = size) (hsz : 0 < size)
    (v : Value) (n : Nat) (xs : List Value) (hs : a.eval s = v) (hown : w.ownsRow base e size v n xs)
    (B : Nat) (A : Option Addr) (m c : Nat) (news : List Value) (hx : a.eval x = .slice A m c) (hr : Reads w B size A m news) (h1 : ∀ u ∈ news, u.oneCell' = true)
    (h63 : n + m ≤ maxLen) (hbytes : (n + m) * bytes ≤ 140737488355328) (hbase : base ≤ w.heap.size)
    (h : ∀ v' w', w'.ownsRow base e size v' (n + m) (xs ++ news) → w.grownBy w' v.ownBlock → (v'.ownBlock = v.ownBlock ∨ v'.ownBlock = some w.heap.size) → K (a.put o.dst v') w') : o.wp P a w K Q := by
  obtain ⟨v', w', hrun, h2, h3, h4⟩ := run_append_any (P := P) w base t o.type e i z size bytes ht hi hz hsize hby hzs hsz v n xs hown B A m c news hr h1 h63 hbytes hbase
  unfold Oper.wp execOp
  simp only [ho, resolve, invoke, builtin, Sem.run_bind, Sem.run_pure, Result.andThen_ok, List.map_toArray, List.map_cons, List.map_nil, hs, hx, hrun]
  exact h v' w' h2 h3 h4

theorem wpList_append_any {ops : Array Oper} {rest : List Oper} {o : Oper} {a : Act} {Q : Exit → Act → World → Prop} (hgd : o.guard = none) (s x : Operand) (t : TypeId)
    (ho : o.op = .call { callee := .builtin .append, args := #[s, x], argTypes := #[t, t] })
    (base : Nat) (e : TypeId) (i : TypeInfo) (z : Value) (size bytes : Nat) (ht : P.underlying t = some (.slice e)) (hi : P.info? e = some i) (hz : i.zero = some z)
    (hsize : i.size = size) (hby : i.bytes = bytes) (hzs : z.cells.size = size) (hsz : 0 < size)
    (v : Value) (n : Nat) (xs : List Value) (hs : a.eval s = v) (hown : w.ownsRow base e size v n xs)
    (B : Nat) (A : Option Addr) (m c : Nat) (news : List Value) (hx : a.eval x = .slice A m c) (hr : Reads w B size A m news) (h1 : ∀ u ∈ news, u.oneCell' = true)
    (h63 : n + m ≤ maxLen) (hbytes : (n + m) * bytes ≤ 140737488355328) (hbase : base ≤ w.heap.size)
    (h : ∀ v' w', w'.ownsRow base e size v' (n + m) (xs ++ news) → w.grownBy w' v.ownBlock → (v'.ownBlock = v.ownBlock ∨ v'.ownBlock = some w.heap.size) → wpList P ops Q rest (a.put o.dst v') w') : wpList P ops Q (o :: rest) a w :=
  wpList_plain hgd fun _ hK => wp_append_any w s x t ho base e i z size bytes ht hi hz hsize hby hzs hsz v n xs hs hown B A m c news hx hr h1 h63 hbytes hbase fun v' w' h2 h3 h4 => hK _ _ (h v' w' h2 h3 h4)

theorem step_append_any {ops : Array Oper} {o : Oper} {a : Act} {K : Act → World → Prop} {Q : Exit → Act → World → Prop} {E : Prop} (hgd : o.guard = none) (s x : Operand) (t : TypeId)
    (ho : o.op = .call { callee := .builtin .append, args := #[s, x], argTypes := #[t, t] })
    (base : Nat) (e : TypeId) (i : TypeInfo) (z : Value) (size bytes : Nat) (ht : P.underlying t = some (.slice e)) (hi : P.info? e = some i) (hz : i.zero = some z)
    (hsize : i.size = size) (hby : i.bytes = bytes) (hzs : z.cells.size = size) (hsz : 0 < size)
    (v : Value) (n : Nat) (xs : List Value) (hs : a.eval s = v) (hown : w.ownsRow base e size v n xs)
    (B : Nat) (A : Option Addr) (m c : Nat) (news : List Value) (hx : a.eval x = .slice A m c) (hr : Reads w B size A m news) (h1 : ∀ u ∈ news, u.oneCell' = true)
    (h63 : n + m ≤ maxLen) (hbytes : (n + m) * bytes ≤ 140737488355328) (hbase : base ≤ w.heap.size)
    (h : ∀ v' w', w'.ownsRow base e size v' (n + m) (xs ++ news) → w.grownBy w' v.ownBlock → (v'.ownBlock = v.ownBlock ∨ v'.ownBlock = some w.heap.size) → K (a.put o.dst v') w') :
    if Region.wanted o (yielded ops a.tmps) = true then Oper.wp P o a w K Q else E := by
  have hw : Region.wanted o (yielded ops a.tmps) = true := by simp [Region.wanted, hgd]
  rw [if_pos hw]
  exact wp_append_any w s x t ho base e i z size bytes ht hi hz hsize hby hzs hsz v n xs hs hown B A m c news hx hr h1 h63 hbytes hbase h
end
end Go.Proofs.Ytldleckgkgeclaa
/-
  Rows of trees that grow: kids read out of memory, a kid's cell turned, a row cut. No program in sight.
-/
namespace Go.Proofs.Ytldleckgkgeclaa
open Go.RowKit
theorem flatT_at (l : List TP) : ∀ (j : Nat) (u : Value), (flatT l)[j]? = some u → ∃ v, l[j / 5]? = some v ∧ (TP.cs v)[j % 5]? = some u := by
  induction l with
  | nil => intro j u h; simp [flatT] at h
  | cons x l ih =>
    intro j u h
    have e : flatT (x :: l) = TP.cs x ++ flatT l := rfl
    have hl : (TP.cs x).length = 5 := rfl
    rw [e] at h
    rcases Nat.lt_or_ge j 5 with hj | hj
    · rw [List.getElem?_append_left (by omega)] at h
      exact ⟨x, by rw [Nat.div_eq_of_lt hj]; rfl, by rw [Nat.mod_eq_of_lt hj]; exact h⟩
    · rw [List.getElem?_append_right (by omega), hl] at h
      obtain ⟨v, h1, h2⟩ := ih _ _ h
      refine ⟨v, ?_, ?_⟩
      · rw [show j / 5 = (j - 5) / 5 + 1 by omega, List.getElem?_cons_succ]; exact h1
      · rw [show j % 5 = (j - 5) % 5 by omega]; exact h2
/-- what lies in memory as kids reads as a list of them -/
theorem kids_reads {w : World} {S : Nat → Prop} {B : Nat} (hSB : ∀ k, S k → k < B) {A : Option Addr} {l : List T} (h : XTK w S A l) :
    ∃ qs : List TP, qs.map Prod.fst = l ∧ Reads w B 5 A l.length (flatT qs) ∧ ∀ q ∈ qs, q.1.kids.length ≤ q.2.2 ∧ XTK w S q.2.1 q.1.kids := by
  cases h with
  | nil A => exact ⟨[], rfl, Reads.none_, fun q hq => by cases hq⟩
  | mk b off l hn hb A c h hk =>
    refine ⟨l.mapIdx fun i e => (e, A i, c i), ?_, ⟨?_, fun _ => ⟨⟨b, off, none⟩, rfl, hSB b hb, fun j u hu => ?_⟩⟩, fun q hq => ?_⟩
    · apply List.ext_getElem?
      intro i
      rw [List.getElem?_map, List.getElem?_mapIdx]
      cases l[i]? <;> rfl
    · rw [flatT_len]; simp
    · obtain ⟨v, h1, h2⟩ := flatT_at _ j u hu
      rw [List.getElem?_mapIdx] at h1
      cases hl : l[j / 5]? with
      | none => rw [hl] at h1; cases h1
      | some e =>
        rw [hl] at h1
        obtain rfl := Option.some.inj h1
        obtain ⟨g1, g2, g3, g4, g5, _⟩ := h _ e hl
        have hadd : (⟨b, off, none⟩ : Addr).add j = ⟨b, off + j, none⟩ := by unfold Addr.add; split <;> simp_all
        rw [hadd, show off + j = off + j / 5 * 5 + j % 5 by omega]
        have hr : j % 5 < 5 := Nat.mod_lt _ (by decide)
        generalize j % 5 = r at *
        match r, hr, h2 with
        | 0, _, h2 => rw [Nat.add_zero, g1, ← h2]; rfl
        | 1, _, h2 => rw [g2, ← h2]; rfl
        | 2, _, h2 => rw [g3, ← h2]; rfl
        | 3, _, h2 => rw [g4, ← h2]; rfl
        | 4, _, h2 => rw [g5, ← h2]; rfl
    · obtain ⟨i, hi⟩ := List.mem_iff_getElem?.1 hq
      rw [List.getElem?_mapIdx] at hi
      cases hl : l[i]? with
      | none => rw [hl] at hi; cases hi
      | some e =>
        rw [hl] at hi
        obtain rfl := Option.some.inj hi
        exact ⟨(h i e hl).2.2.2.2.2, hk i e hl⟩
/-- one of the row's trees gets other kids -/
theorem flatT_set (l : List TP) : ∀ (i : Nat) (v : TP) (ks : List T) (A : Option Addr) (c : Nat), l[i]? = some v →
    (flatT l).set (i * 5 + 3) (.slice A ks.length c) = flatT (l.set i ((.mk v.1.k v.1.s v.1.n ks v.1.at_ : T), A, c)) := by
  induction l with
  | nil => intro i v ks A c h; simp at h
  | cons x l ih =>
    intro i v ks A c h
    have e : flatT (x :: l) = TP.cs x ++ flatT l := rfl
    have hl : (TP.cs x).length = 5 := rfl
    cases i with
    | zero =>
      obtain rfl : x = v := by simpa using h
      rw [e, List.set_append_left _ _ (by omega), List.set_cons_zero]
      rfl
    | succ i =>
      rw [e, List.set_append_right _ _ (by omega), hl, show (i + 1) * 5 + 3 - 5 = i * 5 + 3 by omega, ih i v ks A c (by simpa using h), List.set_cons_succ]
      rfl
theorem own_set_kids {w : World} {base : Nat} {e : TypeId} {g cap m : Nat} {ps : List TP} (h : w.ownsRow base e 5 (.slice (some ⟨g, 0, none⟩) m cap) m (flatT ps)) {i : Nat} {p : TP} (hi : ps[i]? = some p) (ks : List T) (A : Option Addr) (c : Nat) :
    (w.setCell ⟨g, i * 5 + 3, none⟩ (.slice A ks.length c)).ownsRow base e 5 (.slice (some ⟨g, 0, none⟩) m cap) m (flatT (ps.set i ((.mk p.1.k p.1.s p.1.n ks p.1.at_ : T), A, c))) := by
  obtain ⟨h1, h2⟩ := h
  have hlen := flatT_len ps
  refine ⟨by rw [flatT_len, List.length_set, ← hlen]; exact h1, .inr ?_⟩
  rcases h2 with ⟨h', _⟩ | ⟨g', cap', cur, h', hb, hg, hnc, hcm, hcs, htake⟩
  · simp at h'
  · simp only [Value.slice.injEq, Option.some.injEq, Addr.mk.injEq, and_true, true_and] at h'
    obtain ⟨rfl, rfl⟩ := h'
    refine ⟨g, cap, cur.setIfInBounds (i * 5 + 3) (.slice A ks.length c), rfl, hb, Blk.set_ hg _ _, hnc, hcm, by simpa using hcs, ?_⟩
    rw [Array.toList_setIfInBounds, List.take_set, htake, flatT_set ps i p ks A c hi]
theorem own_take {w : World} {base : Nat} {e : TypeId} {g cap m : Nat} {ps : List TP} (h : w.ownsRow base e 5 (.slice (some ⟨g, 0, none⟩) m cap) m (flatT ps)) (hm : ps.length = m) {k : Nat} (hk : k ≤ m) :
    w.ownsRow base e 5 (.slice (some ⟨g, 0, none⟩) k cap) k (flatT (ps.take k)) := by
  obtain ⟨h1, h2⟩ := h
  refine ⟨by rw [flatT_len, List.length_take]; congr 1; omega, .inr ?_⟩
  rcases h2 with ⟨h', _⟩ | ⟨g', cap', cur, h', hb, hg, hnc, hcm, hcs, htake⟩
  · simp at h'
  · simp only [Value.slice.injEq, Option.some.injEq, Addr.mk.injEq, and_true, true_and] at h'
    obtain ⟨rfl, rfl⟩ := h'
    refine ⟨g, cap, cur, rfl, hb, hg, by omega, hcm, hcs, ?_⟩
    have e1 : flatT ps = flatT (ps.take k) ++ flatT (ps.drop k) := by rw [← flatT_append, List.take_append_drop]
    have e2 : (flatT (ps.take k)).length = k * 5 := by rw [flatT_len, List.length_take]; congr 1; omega
    have e3 : List.take (k * 5) cur.toList = List.take (k * 5) (List.take (m * 5) cur.toList) := by rw [List.take_take]; congr 1; omega
    rw [e3, htake, e1, List.take_left' e2]
end Go.Proofs.Ytldleckgkgeclaa
/-
  A tree that is open gets one more kid. No program in sight.
-/
namespace Go.Proofs.Ytldleckgkgeclaa
open Go.RowKit
/-- a tree as it is read: its numbers are int64's, its texts short, its kids few -/
inductive T.Good : T → Prop
  | mk (k : Int) (s : ByteArray) (n : Int) (l : List T) (a : Int) (h1 : -9223372036854775808 ≤ n) (h2 : n ≤ 9223372036854775807) (h3 : s.size ≤ 600) (h4 : k = 4 → s.size ≤ 40) (hl : l.length ≤ 600) (hk : ∀ e ∈ l, T.Good e) : T.Good (.mk k s n l a)
def T.Open (j : Nat) (t : T) : Prop := (-9223372036854775808 ≤ t.n ∧ t.n ≤ 9223372036854775807) ∧ t.s.size ≤ 600 ∧ (t.k = 4 → t.s.size ≤ 40) ∧ t.kids.length ≤ j ∧ ∀ e ∈ t.kids, T.Good e
theorem T.Open.good {j : Nat} {t : T} (h : t.Open j) (hj : j ≤ 600) : t.Good := by
  obtain ⟨k, s, n, l, a⟩ := t
  obtain ⟨⟨h1, h2⟩, h3, h4, h5, h6⟩ := h
  exact .mk k s n l a h1 h2 h3 h4 (Nat.le_trans h5 hj) h6
theorem T.Open.more {j j' : Nat} {t : T} (h : t.Open j) (hj : j ≤ j') : t.Open j' := ⟨h.1, h.2.1, h.2.2.1, Nat.le_trans h.2.2.2.1 hj, h.2.2.2.2⟩
def zeroT : T := .mk 0 ⟨#[]⟩ 0 [] 0
theorem zeroT_open (j : Nat) : zeroT.Open j := ⟨⟨by decide, by decide⟩, by decide, by decide, Nat.zero_le _, fun e he => by cases he⟩

theorem kid_round {wr w6 : World} {b1 q g m cap g6 cap6 n1 m1 j i2 : Nat} {e : TypeId} {ps qs : List TP} {tk tn ta : Int} {ts : ByteArray} {tl : List T} {A0 : Option Addr} {c0 : Nat} {x : TP}
    (hown : wr.ownsRow b1 e 5 (.slice (some ⟨g, 0, none⟩) m cap) m (flatT ps)) (hpl : ps.length = m) (hpt : ps[m1]? = some ((.mk tk ts tn tl ta : T), A0, c0))
    (hxk : ∀ p ∈ ps, p.1.Open j ∧ p.1.kids.length ≤ p.2.2 ∧ XTK wr (fun k => b1 ≤ k ∧ k < wr.heap.size ∧ k ≠ g) p.2.1 p.1.kids) (hB : Below wr.heap.size wr w6)
    (hqs : qs.map Prod.fst = tl) (hqk : ∀ p ∈ qs, p.1.kids.length ≤ p.2.2 ∧ XTK wr (fun k => b1 ≤ k ∧ k < wr.heap.size ∧ k ≠ g) p.2.1 p.1.kids)
    (hxg : x.1.Good) (hx : x.1.kids.length ≤ x.2.2 ∧ XTK wr (fun k => b1 ≤ k ∧ k < wr.heap.size ∧ k ≠ g) x.2.1 x.1.kids)
    (hO6 : w6.ownsRow q e 5 (.slice (some ⟨g6, 0, none⟩) n1 cap6) n1 (flatT qs ++ TP.cs x)) (hq : wr.heap.size ≤ q) (hn1 : n1 = tl.length + 1) (hn : n1 ≤ 600) (hj : j ≤ i2) (hi2 : n1 ≤ i2) (hb1 : b1 ≤ wr.heap.size) :
    (w6.setCell ⟨g, m1 * 5 + 3, none⟩ (.slice (some ⟨g6, 0, none⟩) n1 cap6)).ownsRow b1 e 5 (.slice (some ⟨g, 0, none⟩) m cap) m (flatT (ps.set m1 ((.mk tk ts tn (tl ++ [x.1]) ta : T), some ⟨g6, 0, none⟩, cap6))) ∧
    ∀ p ∈ ps.set m1 ((.mk tk ts tn (tl ++ [x.1]) ta : T), some ⟨g6, 0, none⟩, cap6), p.1.Open i2 ∧ p.1.kids.length ≤ p.2.2 ∧ XTK (w6.setCell ⟨g, m1 * 5 + 3, none⟩ (.slice (some ⟨g6, 0, none⟩) n1 cap6)) (fun k => b1 ≤ k ∧ k < (w6.setCell ⟨g, m1 * 5 + 3, none⟩ (.slice (some ⟨g6, 0, none⟩) n1 cap6)).heap.size ∧ k ≠ g) p.2.1 p.1.kids := by
  have hs6 := hB.size
  have hs7 : (w6.setCell ⟨g, m1 * 5 + 3, none⟩ (.slice (some ⟨g6, 0, none⟩) n1 cap6)).heap.size = w6.heap.size := by simp [World.setCell]
  have hglt : g < wr.heap.size := (hown.lt g rfl).2
  have hlen : (tl ++ [x.1]).length = n1 := by simp [hn1]
  constructor
  · have hw : w6.ownsRow b1 e 5 (.slice (some ⟨g, 0, none⟩) m cap) m (flatT ps) := by
      obtain ⟨h1, h2⟩ := hown
      refine ⟨h1, ?_⟩
      rcases h2 with h2 | ⟨g', cap', cur, e1, hb, hg, r⟩
      · exact .inl h2
      · have hgg : g = g' := by injection e1 with e1; injection e1 with e1; injection e1
        subst hgg
        exact .inr ⟨g, cap', cur, e1, hb, (hB.block g hglt).trans hg, r⟩
    have := own_set_kids hw hpt (tl ++ [x.1]) (some ⟨g6, 0, none⟩) cap6
    rw [hlen] at this
    exact this
  · have hsame : ∀ k, k < wr.heap.size → k ≠ g → (w6.setCell ⟨g, m1 * 5 + 3, none⟩ (.slice (some ⟨g6, 0, none⟩) n1 cap6)).heap[k]? = wr.heap[k]? := fun k h1 h2 => (Below.heap_setCell w6 ⟨g, m1 * 5 + 3, none⟩ _ k h2).trans (hB.block k h1)
    have keep : ∀ {A : Option Addr} {l : List T}, XTK wr (fun k => b1 ≤ k ∧ k < wr.heap.size ∧ k ≠ g) A l → XTK (w6.setCell ⟨g, m1 * 5 + 3, none⟩ (.slice (some ⟨g6, 0, none⟩) n1 cap6)) (fun k => b1 ≤ k ∧ k < (w6.setCell ⟨g, m1 * 5 + 3, none⟩ (.slice (some ⟨g6, 0, none⟩) n1 cap6)).heap.size ∧ k ≠ g) A l := fun h =>
      (h.kept fun k hk => hsame k hk.2.1 hk.2.2).mono fun k hk => ⟨hk.1, by rw [hs7]; have := hk.2.1; omega, hk.2.2⟩
    intro p hp
    rcases List.mem_or_eq_of_mem_set hp with hp | rfl
    · obtain ⟨q1, q2, q3⟩ := hxk p hp
      exact ⟨q1.more hj, q2, keep q3⟩
    · obtain ⟨⟨o1, o2, o3, o4, o5⟩, _, _⟩ := hxk _ (List.mem_of_getElem? hpt)
      have hql : (qs ++ [x]).length = n1 := by
        have e1 : (qs.map Prod.fst).length = qs.length := List.length_map _
        rw [hqs] at e1
        rw [List.length_append, ← e1, hn1]
        rfl
      have hO7 : w6.ownsRow q e 5 (.slice (some ⟨g6, 0, none⟩) n1 cap6) (qs ++ [x]).length (flatT (qs ++ [x])) := by rw [hql, flatT_append, flatT_one]; exact hO6
      obtain ⟨A, c, hv, hc, hX⟩ := own_trees hO7 (by omega) (S := fun k => b1 ≤ k ∧ k < w6.heap.size ∧ k ≠ g) (fun k h1 h2 => ⟨by omega, h2, by omega⟩) (fun y hy => by
        rcases List.mem_append.1 hy with hy | hy
        · exact ⟨(hqk y hy).1, ((hqk y hy).2.kept fun k hk => hB.block k hk.2.1).mono fun k hk => ⟨hk.1, by have := hk.2.1; omega, hk.2.2⟩⟩
        · obtain rfl : y = x := by simpa using hy
          exact ⟨hx.1, (hx.2.kept fun k hk => hB.block k hk.2.1).mono fun k hk => ⟨hk.1, by have := hk.2.1; omega, hk.2.2⟩⟩)
      have hmap : (qs ++ [x]).map Prod.fst = tl ++ [x.1] := by rw [List.map_append, hqs]; rfl
      rw [hmap] at hv hc hX
      injection hv with hA _ hcc
      subst hA hcc
      refine ⟨⟨o1, o2, o3, ?_, fun y hy => ?_⟩, hc, (hX.kept fun k hk => Below.heap_setCell w6 ⟨g, m1 * 5 + 3, none⟩ _ k hk.2.2).mono fun k hk => ⟨hk.1, by rw [hs7]; exact hk.2.1, hk.2.2⟩⟩
      · show (tl ++ [x.1]).length ≤ i2
        omega
      · rcases List.mem_append.1 hy with hy | hy
        · exact o5 y hy
        · obtain rfl : y = x.1 := by simpa using hy
          exact hxg
end Go.Proofs.Ytldleckgkgeclaa
/-
  The reference's reader of brackets: what it gives; its rows of trees.
-/
namespace Go.Proofs.Ytldleckgkgeclaa
open Go.RowKit
theorem XTK.get_ {w : World} {S : Nat → Prop} {A : Option Addr} {l : List T} (h : XTK w S A l) {i : Nat} {e : T} (he : l[i]? = some e) :
    ∃ b o A' c', A = some ⟨b, o, none⟩ ∧ S b ∧ w.cell? ⟨b, o + i * 5, none⟩ = some (.int .i64 e.k) ∧ w.cell? ⟨b, o + i * 5 + 1, none⟩ = some (.string e.s) ∧
      w.cell? ⟨b, o + i * 5 + 2, none⟩ = some (.int .i64 e.n) ∧ w.cell? ⟨b, o + i * 5 + 3, none⟩ = some (.slice A' e.kids.length c') ∧ w.cell? ⟨b, o + i * 5 + 4, none⟩ = some (.int .i64 e.at_) ∧ e.kids.length ≤ c' ∧ XTK w S A' e.kids := by
  cases h with
  | nil A => simp at he
  | mk b off l hn hlt A c h hk =>
    obtain ⟨h1, h2, h3, h4, h5, h6⟩ := h i e he
    exact ⟨b, off, A i, c i, rfl, hlt, h1, h2, h3, h4, h5, h6, hk i e he⟩
/-- the cells of one of the row's trees -/
theorem own_cells5 {w : World} {base : Nat} {e : TypeId} {g cap m : Nat} {ps : List TP} (h : w.ownsRow base e 5 (.slice (some ⟨g, 0, none⟩) m cap) m (flatT ps)) (hm : ps.length = m) {i : Nat} {p : TP} (hi : ps[i]? = some p) :
    w.cell? ⟨g, i * 5, none⟩ = some (.int .i64 p.1.k) ∧ w.cell? ⟨g, i * 5 + 1, none⟩ = some (.string p.1.s) ∧ w.cell? ⟨g, i * 5 + 2, none⟩ = some (.int .i64 p.1.n) ∧ w.cell? ⟨g, i * 5 + 3, none⟩ = some (.slice p.2.1 p.1.kids.length p.2.2) ∧ w.cell? ⟨g, i * 5 + 4, none⟩ = some (.int .i64 p.1.at_) ∧
      w.frozen? ⟨g, i * 5 + 3, none⟩ = false := by
  have hlt : i < m := by rw [← hm]; exact (List.getElem?_eq_some_iff.1 hi).1
  obtain ⟨g1, g2, g3, g4, g5⟩ := flatT_get ps i p hi
  refine ⟨by rw [h.cellAt _ (by omega), g1], by rw [h.cellAt _ (by omega), g2], by rw [h.cellAt _ (by omega), g3], by rw [h.cellAt _ (by omega), g4], by rw [h.cellAt _ (by omega), g5], ?_⟩
  rcases h.2 with ⟨h', _⟩ | ⟨g', cap', cur, h', _, hg, _⟩
  · simp at h'
  · simp only [Value.slice.injEq, Option.some.injEq, Addr.mk.injEq, and_true, true_and] at h'
    obtain ⟨rfl, rfl⟩ := h'
    exact Blk.frozen hg _
theorem own_empty (w0 : World) (e : TypeId) {base : Nat} (h : base ≤ w0.heap.size) : (w0.alloc (.cells #[] e)).ownsRow base e 5 (.slice (some ⟨w0.heap.size, 0, none⟩) 0 0) 0 [] :=
  ⟨rfl, .inr ⟨w0.heap.size, 0, #[], rfl, h, heap_alloc_new w0 _, Nat.le_refl _, by decide, rfl, rfl⟩⟩
theorem own_empty_at (w0 : World) (e : TypeId) {base q : Nat} (h : base ≤ w0.heap.size) (hq : w0.heap.size = q) : (w0.alloc (.cells #[] e)).drew.ownsRow base e 5 (.slice (some ⟨q, 0, none⟩) 0 0) 0 [] := by
  subst hq
  exact own_empty w0 e h
theorem alloc_at (w0 : World) (o : Obj) {q : Nat} (hq : w0.heap.size = q) : (w0.alloc o).drew.heap[q]? = some o := by
  subst hq
  exact heap_alloc_new w0 o
def ReadEnd (w : World) (e : Ending) (w' : World) : Prop := ∃ (t : T) (A : Option Addr) (c : Nat) (why at_ : Int), e = .returned (.tuple #[t.val A c, .int .i64 why, .int .i64 at_]) ∧ t.Good ∧ t.kids.length ≤ c ∧ XTK w' (fun k => w.heap.size ≤ k ∧ k < w'.heap.size) A t.kids
theorem results_read {fn : Func} {p q r : Tmp} (h : fn.results = #[.cell p 49, .tmp q, .tmp r]) {tmps : Array Value} {w : World} {g : Nat} {x0 x1 x2 x3 x4 a b : Value} {t : TypeId}
    (hp : tmps.getD p undef = .pointer (some ⟨g, 0, none⟩)) (hq : tmps.getD q undef = a) (hr : tmps.getD r undef = b) (hg : w.heap[g]? = some (.cells #[x0, x1, x2, x3, x4] t (0, 0))) : (results fn tmps).run Try.prog w = .ok (.tuple #[.agg #[x0, x1, x2, x3, x4], a, b]) w := by
  have hp' : tmps[p]?.getD undef = .pointer (some ⟨g, 0, none⟩) := by simpa using hp
  have hq' : tmps[q]?.getD undef = a := by simpa using hq
  have hr' : tmps[r]?.getD undef = b := by simpa using hr
  have hl := run_loadVar_row (P := Try.prog) w g t 49 #[x0, x1, x2, x3, x4] (0, 0) _ hg Try.underlying49 rfl (by show _ = some 5; kernel_rfl)
  simp [results, h, hp', hq', hr', asAddr, hl]
theorem readEnd_zero (w w' : World) (why at_ : Int) : ReadEnd w (.returned (.tuple #[.agg #[.int .i64 0, .string ⟨#[]⟩, .int .i64 0, .slice none 0 0, .int .i64 0], .int .i64 why, .int .i64 at_])) w' :=
  ⟨zeroT, none, 0, why, at_, rfl, (zeroT_open 0).good (by decide), Nat.le_refl _, .nil _⟩
theorem tree7_info : (Try.prog.info? 49).map (fun i => (i.zero, i.size, i.bytes)) = some (some (.agg #[.int .i64 0, .string ByteArray.empty, .int .i64 0, .slice none 0 0, .int .i64 0]), 5, 64) := by kernel_rfl
end Go.Proofs.Ytldleckgkgeclaa
/-
  The reference's reader of brackets, once more: its trees are no deeper than 13.
-/
namespace Go.Proofs.Ytldleckgkgeclaa
open Go.RowKit
/-- a tree no deeper than so much -/
inductive T.Deep : Nat → T → Prop
  | mk (d : Nat) (k : Int) (s : ByteArray) (n : Int) (l : List T) (a : Int) (h : ∀ e ∈ l, T.Deep d e) : T.Deep (d + 1) (.mk k s n l a)
theorem T.Deep.mono {d d' : Nat} {t : T} (h : t.Deep d) (hd : d ≤ d') : t.Deep d' := by
  induction h generalizing d' with
  | mk d k s n l a h ih =>
    obtain ⟨d2, rfl⟩ : ∃ d2, d' = d2 + 1 := ⟨d' - 1, by omega⟩
    exact .mk d2 k s n l a fun e he => ih e he (by omega)
theorem T.Deep.leaf {d : Nat} (hd : 0 < d) (k : Int) (s : ByteArray) (n a : Int) : T.Deep d (.mk k s n [] a) := by
  obtain ⟨d2, rfl⟩ : ∃ d2, d = d2 + 1 := ⟨d - 1, by omega⟩
  exact .mk d2 k s n [] a fun e he => by cases he
/-- the kids of what is open, by how many are open below it -/
def DeepAt (ps : List TP) : Prop := ∀ (q : Nat) (p : TP), ps[q]? = some p → ∀ e ∈ p.1.kids, T.Deep (13 - q) e
theorem DeepAt.one : DeepAt [(zeroT, none, 0)] := fun q p hp e he => by
  match q, hp with
  | 0, hp =>
    obtain rfl : (zeroT, none, 0) = p := by simpa using hp
    cases he
theorem DeepAt.push {ps : List TP} (h : DeepAt ps) (j : Int) : DeepAt (ps ++ [((.mk 1 ⟨#[]⟩ 0 [] j : T), none, 0)]) := fun q p hp e he => by
  rcases Nat.lt_or_ge q ps.length with hq | hq
  · rw [List.getElem?_append_left hq] at hp
    exact h q p hp e he
  · rw [List.getElem?_append_right hq] at hp
    have := List.mem_of_getElem? hp
    obtain rfl : p = ((.mk 1 ⟨#[]⟩ 0 [] j : T), none, 0) := by simpa using this
    cases he
theorem DeepAt.kid {ps : List TP} (h : DeepAt ps) {m1 : Nat} {tk tn ta : Int} {ts : ByteArray} {tl : List T} {A0 A1 : Option Addr} {c0 c1 : Nat} (hp : ps[m1]? = some ((.mk tk ts tn tl ta : T), A0, c0)) {x : T} (hx : x.Deep (13 - m1)) :
    DeepAt (ps.set m1 ((.mk tk ts tn (tl ++ [x]) ta : T), A1, c1)) := fun q p hq e he => by
  by_cases e1 : m1 = q
  · subst e1
    have hlt : m1 < ps.length := (List.getElem?_eq_some_iff.1 hp).1
    rw [List.getElem?_set_self hlt] at hq
    obtain rfl := Option.some.inj hq
    rcases List.mem_append.1 (show e ∈ tl ++ [x] from he) with he | he
    · exact h m1 _ hp e he
    · obtain rfl : e = x := by simpa using he
      exact hx
  · rw [List.getElem?_set_ne e1] at hq
    exact h q p hq e he
theorem DeepAt.take {ps : List TP} (h : DeepAt ps) (n : Nat) : DeepAt (ps.take n) := fun q p hq e he => by
  rcases Nat.lt_or_ge q n with h' | h'
  · rw [List.getElem?_take_of_lt h'] at hq
    exact h q p hq e he
  · rw [List.getElem?_take_eq_none h'] at hq; cases hq
theorem DeepAt.top {ps : List TP} (h : DeepAt ps) {m : Nat} {k n a : Int} {s : ByteArray} {l : List T} {A : Option Addr} {c : Nat} (hp : ps[m]? = some ((.mk k s n l a : T), A, c)) : T.Deep (13 - m + 1) (.mk k s n l a) :=
  .mk _ k s n l a fun e he => h m _ hp e he
def ReadEnd7 (w : World) (e : Ending) (w' : World) : Prop := ∃ (t : T) (A : Option Addr) (c : Nat) (why at_ : Int), e = .returned (.tuple #[t.val A c, .int .i64 why, .int .i64 at_]) ∧ (t.Good ∧ t.Deep 13) ∧ t.kids.length ≤ c ∧ XTK w' (fun k => w.heap.size ≤ k ∧ k < w'.heap.size) A t.kids
theorem readEnd7_zero (w w' : World) (why at_ : Int) : ReadEnd7 w (.returned (.tuple #[.agg #[.int .i64 0, .string ⟨#[]⟩, .int .i64 0, .slice none 0 0, .int .i64 0], .int .i64 why, .int .i64 at_])) w' :=
  ⟨zeroT, none, 0, why, at_, rfl, ⟨(zeroT_open 0).good (by decide), .leaf (by decide) _ _ _ _⟩, Nat.le_refl _, .nil _⟩
end Go.Proofs.Ytldleckgkgeclaa
/-
  A region that draws its order, whose last operation (k) may write what the loads read: a load may be taken first where the cells hold until k. No program in sight.
-/
namespace Go.Proofs.Ytldleckgkgeclaa
namespace LastKit
section
variable {P : Program} {ops : Array Oper} {Q : Exit → Act → World → Prop} {md : Region.Mode} {S : World → Prop} {k : Nat}
/-- whatever order is picked from here on; S holds behind every operation but k -/
def wpAnyK (P : Program) (md : Region.Mode) (ops : Array Oper) (Q : Exit → Act → World → Prop) (S : World → Prop) (k : Nat) : Nat → Array Bool → Act → World → Prop
  | 0, listed, a, w => Region.ready md ops listed = [] ∧ Q .normal a w
  | fuel + 1, listed, a, w =>
    (Region.ready md ops listed = [] → Q .normal a w) ∧
    ∀ i ∈ Region.ready md ops listed, wpOp P ops Q i (fun a' w' => (i ≠ k → S w') ∧ wpAnyK P md ops Q S k fuel (listed.setIfInBounds i true) a' w') a w
theorem wpAny_of_last : ∀ (fuel : Nat) (listed : Array Bool) (a : Act) (w : World), wpAnyK P md ops Q S k fuel listed a w → wpAny P md ops Q fuel listed a w
  | 0, _, _, _, h => h
  | fuel + 1, _, _, _, h => ⟨h.1, fun i hi => wpOp_mono (fun a' w' h' => wpAny_of_last fuel _ a' w' h'.2) (h.2 i hi)⟩
theorem wpAnyK_first {i : Nat} {oi : Oper} {v : Value} {C : List Nat} (hi : ops[i]? = some oi) (hsel : ∀ (j : Nat) (o : Oper) cs b, ops[j]? = some o → o.op ≠ .select cs b)
    (hQ : ∀ c a w, Q (.panic c) (a.put oi.dst v) w → Q (.panic c) a w) (hkC : k ∈ C)
    (hC : ∀ c ∈ C, c ≠ i → ∀ o, ops[c]? = some o → ∃ e ∈ o.after, Region.binds md e = true ∧ e.on ∈ C) :
    ∀ (fuel : Nat) (listed : Array Bool) (a : Act) (w : World),
      (∀ j oj, ops[j]? = some oj → j ≠ i → listed.getD j true = false → (∀ e ∈ oj.after, Region.binds md e = true → e.on ≠ i) → oi.apart ops oj = true) →
      (∀ c ∈ C, listed.getD c true = false) →
      i ∈ Region.ready md ops listed → YieldsIf P ops S oi v a → S w →
      wpAnyK P md ops Q S k fuel (listed.setIfInBounds i true) (a.put oi.dst v) w → wpAnyK P md ops Q S k (fuel + 1) listed a w := by
  intro fuel
  induction fuel with
  | zero =>
    intro listed a w _ _ hr hy hS H
    refine ⟨fun h => (by rw [h] at hr; cases hr), fun j hj => ?_⟩
    by_cases hji : j = i
    · subst hji; exact hy.wpOp hi hS ⟨fun _ => hS, H⟩
    · have := ready_mono hj hji
      rw [H.1] at this
      cases this
  | succ fuel ih =>
    intro listed a w hfree hun hr hy hS H
    refine ⟨fun h => (by rw [h] at hr; cases hr), fun j hj => ?_⟩
    by_cases hji : j = i
    · subst hji; exact hy.wpOp hi hS ⟨fun _ => hS, H⟩
    · have h1 := H.2 j (ready_mono hj hji)
      obtain ⟨hjun, oj, hoj, hall⟩ := mem_ready.1 hj
      have hjC : j ∉ C := fun hm => by
        obtain ⟨e, he, hb, heC⟩ := hC j hm hji oj hoj
        have t1 := hall e he hb
        have t2 := hun e.on heC
        rcases Nat.lt_or_ge e.on listed.size with h' | h'
        · simp [h'] at t1 t2; rw [t1] at t2; cases t2
        · simp [Array.getElem?_eq_none h'] at t1
      have hjk : j ≠ k := fun e => hjC (by rw [e]; exact hkC)
      have hnot : ∀ e ∈ oj.after, Region.binds md e = true → e.on ≠ i := fun e he hb heq => by
        have h1 := hall e he hb
        have h0 := (mem_ready.1 hr).1
        rw [heq] at h1
        rcases Nat.lt_or_ge i listed.size with h' | h'
        · simp [h'] at h0 h1; rw [h0] at h1; cases h1
        · simp [Array.getElem?_eq_none h'] at h1
      have h2 := wpOp_putIf hoj (hfree j oj hoj hji hjun hnot) (fun cs b => hsel i oi cs b hi) (fun cs b => hsel j oj cs b hoj) hQ hy h1
      have hfree' : ∀ k ok, ops[k]? = some ok → k ≠ i → (listed.setIfInBounds j true).getD k true = false →
          (∀ e ∈ ok.after, Region.binds md e = true → e.on ≠ i) → oi.apart ops ok = true := fun k ok hk hki hun hno => by
        refine hfree k ok hk hki ?_ hno
        by_cases hjk : j = k
        · subst hjk; exact hjun
        · rw [getD_set_ne true hjk] at hun; exact hun
      have hun' : ∀ c ∈ C, (listed.setIfInBounds j true).getD c true = false := fun c hc => by
        have hne : j ≠ c := fun e => hjC (by rw [e]; exact hc)
        rw [getD_set_ne true hne]; exact hun c hc
      refine wpOp_mono (fun a' w' h3 => ⟨h3.2.1, ih (listed.setIfInBounds j true) a' w' hfree' hun' (ready_mono hr (Ne.symm hji)) h3.1 (h3.2.1 hjk) ?_⟩) h2
      rw [Array.setIfInBounds_comm _ _ hji]
      exact h3.2.2
/-- every one of C but i waits for one of C; none of them is listed; k is one of them -/
def chainOk (md : Region.Mode) (ops : Array Oper) (listed : Array Bool) (C : List Nat) (i k : Nat) : Bool :=
  C.contains k && C.all fun c => (!(listed.getD c true)) && (Nat.beq c i || match ops[c]? with
    | some o => o.after.any fun e => Region.binds md e && C.contains e.on
    | none => true)
theorem wpAnyK_take {i : Nat} {oi : Oper} {v : Value} {C : List Nat} {fuel : Nat} {listed : Array Bool} {a : Act} {w : World} (hi : ops[i]? = some oi)
    (hs : Region.noSelect ops = true) (hf : Region.free md ops listed i = true) (hr : (Region.ready md ops listed).contains i = true) (hc : chainOk md ops listed C i k = true)
    (hQ : ∀ c a w, Q (.panic c) (a.put oi.dst v) w → Q (.panic c) a w) (hy : YieldsIf P ops S oi v a) (hS : S w)
    (h : wpAnyK P md ops Q S k fuel (listed.setIfInBounds i true) (a.put oi.dst v) w) : wpAnyK P md ops Q S k (fuel + 1) listed a w := by
  unfold chainOk at hc
  simp only [Bool.and_eq_true, List.all_eq_true, Bool.or_eq_true, Nat.beq_eq] at hc
  obtain ⟨hk, hc⟩ := hc
  refine wpAnyK_first hi (Region.noSelect_spec hs) hQ (by simpa using hk) (fun c hm hne o ho => ?_) fuel listed a w (Region.free_spec hi hf) (fun c hm => by have := (hc c hm).1; simpa using this) (by simpa using hr) hy hS h
  rcases (hc c hm).2 with h' | h'
  · exact absurd h' hne
  · rw [ho] at h'
    simp only [Array.any_eq_true, Bool.and_eq_true] at h'
    obtain ⟨n, hn, hb, hcn⟩ := h'
    exact ⟨o.after[n], Array.getElem_mem hn, hb, by simpa using hcn⟩
def AllReadyK (P : Program) (md : Region.Mode) (ops : Array Oper) (Q : Exit → Act → World → Prop) (S : World → Prop) (k : Nat) (fuel : Nat) (listed : Array Bool) (a : Act) (w : World) (rs : List Nat) : Prop :=
  ∀ i ∈ rs, wpOp P ops Q i (fun a' w' => (i ≠ k → S w') ∧ wpAnyK P md ops Q S k fuel (listed.setIfInBounds i true) a' w') a w
theorem AllReadyK.nil {fuel : Nat} {listed : Array Bool} {a : Act} {w : World} : AllReadyK P md ops Q S k fuel listed a w [] := fun _ h => by cases h
theorem AllReadyK.cons {fuel : Nat} {listed : Array Bool} {a : Act} {w : World} {i : Nat} {o : Oper} {rs : List Nat} (ho : ops[i]? = some o)
    (h : ∀ K' : Act → World → Prop, Shut (∀ a w, S w → (S w → wpAnyK P md ops Q S k fuel (listed.setIfInBounds i true) a w) → K' a w) → if Region.wanted o (yielded ops a.tmps) = true then Oper.wp P o a w K' Q else K' (a.put o.dst undef) w)
    (hs : AllReadyK P md ops Q S k fuel listed a w rs) : AllReadyK P md ops Q S k fuel listed a w (i :: rs) := fun j hj => by
  rcases List.mem_cons.1 hj with rfl | hj
  · exact wpOp_step ho (fun K' hK => h K' (fun a w hS hW => hK a w ⟨fun _ => hS, hW hS⟩))
  · exact hs j hj
/-- the last one: S is not asked behind it -/
theorem AllReadyK.last {fuel : Nat} {listed : Array Bool} {a : Act} {w : World} {o : Oper} (ho : ops[k]? = some o)
    (h : ∀ K' : Act → World → Prop, Shut (∀ a w, wpAnyK P md ops Q S k fuel (listed.setIfInBounds k true) a w → K' a w) → if Region.wanted o (yielded ops a.tmps) = true then Oper.wp P o a w K' Q else K' (a.put o.dst undef) w) :
    AllReadyK P md ops Q S k fuel listed a w [k] := fun j hj => by
  obtain rfl : j = k := by simpa using hj
  exact wpOp_step ho (fun K' hK => h K' (fun a w hW => hK a w ⟨fun e => absurd rfl e, hW⟩))
theorem wpAnyK_ready {rs : List Nat} {fuel : Nat} {listed : Array Bool} {a : Act} {w : World} (hr : Region.ready md ops listed = rs) (hne : rs ≠ [])
    (h : AllReadyK P md ops Q S k fuel listed a w rs) : wpAnyK P md ops Q S k (fuel + 1) listed a w := ⟨fun h0 => absurd (hr ▸ h0) hne, hr ▸ h⟩
theorem wpAnyK_done {listed : Array Bool} {a : Act} {w : World} (hr : Region.ready md ops listed = []) (h : Q .normal a w) :
    ∀ fuel, wpAnyK P md ops Q S k fuel listed a w
  | 0 => ⟨hr, h⟩
  | _ + 1 => ⟨fun _ => h, by rw [hr]; simp⟩
theorem wp_region_last {id : Nat} {a : Act} {w : World} (S : World → Prop) (k : Nat) (hm : P.follows .mixedOrders = true) (hS : S w.drew)
    (h : S w.drew → wpAnyK P .any ops Q S k ops.size (Array.replicate ops.size false) a w.drew) : (Code.region id ops true).wp P Q a w :=
  wp_region_any hm (wpAny_of_last _ _ _ _ (h hS))
end
end LastKit
end Go.Proofs.Ytldleckgkgeclaa
/-
  One operation of a region that draws: a row literal of no tree or of one tree. (The walk's own simp is slow for the kernel in a large context.)
-/
namespace Go.Proofs.Ytldleckgkgeclaa
open Go.RowKit
set_option maxRecDepth 100000 in
set_option maxHeartbeats 4000000 in
theorem step_build5 {ops : Array Oper} {a : Act} {w : World} {K : Act → World → Prop} {Q : Exit → Act → World → Prop} {E : Prop} (o : Oper) (hg : o.guard = none) (x : Tmp) (ho : o.op = .buildSlice 47 1 #[(0, .tmp x)])
   (k n l : Int) (s : ByteArray) (A : Option Addr) (m c : Nat) (hv : a.eval (.tmp x) = .agg #[.int .i64 k, .string s, .int .i64 n, .slice A m c, .int .i64 l])
   (h : K (a.put o.dst (.slice (some ⟨w.heap.size, 0, none⟩) 1 1)) (w.alloc (.cells #[.int .i64 k, .string s, .int .i64 n, .slice A m c, .int .i64 l] 49))) :
   if Region.wanted o (yielded ops a.tmps) = true then Oper.wp Try.prog o a w K Q else E := by
  have hw : Region.wanted o (yielded ops a.tmps) = true := by simp [Region.wanted, hg]
  rw [if_pos hw]
  have hv' : a.tmps[x]?.getD undef = .agg #[.int .i64 k, .string s, .int .i64 n, .slice A m c, .int .i64 l] := by simpa [Act.eval] using hv
  clear hv hw
  obtain ⟨d, op, ty, p, af, gd⟩ := o
  simp only at ho hg h
  subst ho hg
  go_simp
  exact h
set_option maxRecDepth 100000 in
set_option maxHeartbeats 4000000 in
theorem step_build0 {ops : Array Oper} {a : Act} {w : World} {K : Act → World → Prop} {Q : Exit → Act → World → Prop} {E : Prop} (o : Oper) (hg : o.guard = none) (ho : o.op = .buildSlice 47 0 #[])
   (h : K (a.put o.dst (.slice (some ⟨w.heap.size, 0, none⟩) 0 0)) (w.alloc (.cells #[] 49))) :
   if Region.wanted o (yielded ops a.tmps) = true then Oper.wp Try.prog o a w K Q else E := by
  have hw : Region.wanted o (yielded ops a.tmps) = true := by simp [Region.wanted, hg]
  rw [if_pos hw]
  clear hw
  obtain ⟨d, op, ty, p, af, gd⟩ := o
  simp only at ho hg h
  subst ho hg
  go_simp
  exact h
end Go.Proofs.Ytldleckgkgeclaa
