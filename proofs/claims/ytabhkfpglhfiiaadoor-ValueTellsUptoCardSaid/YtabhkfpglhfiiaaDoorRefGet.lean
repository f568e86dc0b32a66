/-
  Package confluenceref4's Get: the same as value's.
-/
import Derived.Test.YtabhkfpglhfiiaaDoorRefRd2
namespace Go.Proofs.YtabhkfpglhfiiaaDoor
open Go.RowKit
theorem RRd.setOther {w : World} {S : Nat → Prop} {g : Nat} {R : RS} (h : RRd w S g R) {p : Addr} (hp : S p.block) (hne : g ≠ p.block) (u : Value) : RRd (w.setCell p u) S g R := by
  obtain ⟨h1, h2, h3, v, hg, hv⟩ := h
  exact ⟨h1, h2, h3, v, (Below.heap_setCell w p u g hne).trans hg, hv.out ((Out.refl S w).setCell hp u)⟩
theorem put3_rrd {w : World} {S : Nat → Prop} {g p : Nat} {R : RS} {x0 x1 x2 : Value} (h : RRd w S g R) (hp : S p) (hne : g ≠ p) : RRd (put3 w p x0 x1 x2) S g R :=
  ((h.setOther (p := ⟨p, 0, none⟩) hp hne x0).setOther (p := ⟨p, 1, none⟩) hp hne x1).setOther (p := ⟨p, 2, none⟩) hp hne x2
theorem rget_results {tmps : Array Value} {p : Nat} {x0 x1 x2 : Value} {w : World} (hp : tmps.getD 2 undef = .pointer (some ⟨p, 0, none⟩)) (hg : w.heap[p]? = some (.cells #[x0, x1, x2] 24 (0, 0))) :
    (results Tryd.f19 tmps).run Tryd.prog w = .ok (.agg #[x0, x1, x2]) w :=
  results_cell_row (P := Tryd.prog) (p := 2) (ty := 24) rfl tmps w p _ _ _ _ hp hg Tryd.underlying24 rfl (by show _ = some 3; kernel_rfl)
theorem get_refused (R : RS) (n : Nat) (h : ((R.take n).why == 0) = false) : R.get n = 0 := by rw [RS.get, takeL_refused R n h]; rfl

set_option maxRecDepth 100000 in
theorem ref4_get (S : Nat → Prop) (g : Nat) (R : RS) (w : World) (hS : ∀ k, w.heap.size ≤ k → S k) (hR : RRd w S g R) :
    Calls Tryd.prog 19 #[.pointer (some ⟨g, 0, none⟩)] w fun e w' => e = .returned R.getV.val ∧ RRd w' S g R.getR ∧ Only g w w' := by
  have hg := hR.lt
  have ha : Below w.heap.size w (w.alloc (.cells #[.int .i64 0, .int .i64 0, .string ⟨#[]⟩] 24)) := (Below.refl _ _).alloc (Nat.le_refl _) _
  have hp := Lib.hid (rr_Byte S g R _ (hR.kept ha))
  have HA := Lib.hid (only_of_below (g := g) ha)
  have hSw : Hid (S w.heap.size) := Lib.hid (hS _ (Nat.le_refl _))
  have hnew : (w.alloc (.cells #[.int .i64 0, .int .i64 0, .string ⟨#[]⟩] 24)).heap[w.heap.size]? = some (.cells #[.int .i64 0, .int .i64 0, .string ⟨#[]⟩] 24) := heap_alloc_new w _
  have Hn := Lib.hid hnew
  have hV : Hid (R.getV = if R.get 1 = 1 then (if ((R.take 1).take 8).why != 0 then V.zero else ⟨1, i64 ((R.take 1).get 8), ⟨#[]⟩⟩)
    else if R.get 1 = 2 then (if ((R.take 1).text 40).why != 0 then V.zero else ⟨2, 0, (R.take 1).textS 40⟩) else V.zero) := Lib.hid rfl
  have hQ : Hid (R.getR = if R.get 1 = 1 then (R.take 1).take 8 else if R.get 1 = 2 then (R.take 1).text 40 else (R.take 1).refuse 12 (R.take 1).at_) := Lib.hid rfl
  have hz : Hid (((R.take 1).why == 0) = false → R.get 1 = 0) := Lib.hid (get_refused R 1)
  generalize R.getV = V0 at *
  generalize R.getR = Q0 at *
  generalize R.get 1 = k at *
  generalize R.take 1 = R1 at *
  clear ha hR hS hnew
  go_enter Tryd.func19, Tryd.ntmps19
  go_wp2_with fail
  refine hp.out.mono ?_
  rintro e w1 ⟨rfl, h1, h2⟩
  have hs1 := h2.size
  simp at hs1
  have H1 := Lib.hid h1
  have HO1 := Lib.hid (HA.out.trans h2)
  have hb : w1.heap[w.heap.size]? = some (.cells #[.int .i64 0, .int .i64 0, .string ⟨#[]⟩] 24) := (h2.block _ (by simp) (by omega)).trans Hn.out
  have Hb := Lib.hid hb
  obtain ⟨⟨b0, b1, b2⟩, fb0, fb1, fb2⟩ := cell3 hb
  obtain ⟨_, _, _, v', hg', _⟩ := id h1
  obtain ⟨⟨_, _, d2, _, _⟩, _⟩ := cell5 hg'
  clear h1 h2 hp Hn hb HA hg'
  by_cases hw1 : (R1.why == 0) = true
  · have hw1' : (R1.why != 0) = false := by simp at hw1 ⊢; exact hw1
    rw [hw1'] at d2
    clear hw1 hw1' hz
    by_cases hk1 : k = 1
    · subst hk1
      have hl := Lib.hid (rr_Long S g R1 _ H1.out)
      go_wp2_with fail
      refine hl.out.mono ?_
      rintro e w2 ⟨rfl, h3, h4⟩
      have H3 := Lib.hid h3
      have HO2 := Lib.hid (HO1.out.trans h4)
      have hb2 : w2.heap[w.heap.size]? = some (.cells #[.int .i64 0, .int .i64 0, .string ⟨#[]⟩] 24) := (h4.block _ (by omega) (by omega)).trans Hb.out
      have Hb2 := Lib.hid hb2
      obtain ⟨⟨b0, b1, b2⟩, fb0, fb1, fb2⟩ := cell3 hb2
      obtain ⟨_, _, _, v', hg', _⟩ := id h3
      obtain ⟨⟨_, _, d2, _, _⟩, _⟩ := cell5 hg'
      clear h3 h4 hl hb2 H1 HO1 Hb hg'
      generalize i64 (R1.get 8) = N at *
      generalize R1.take 8 = Q at *
      by_cases hwhy : (Q.why != 0) = true
      · obtain rfl : V0 = V.zero := by rw [hV.out]; simp [hwhy]
        obtain rfl : Q0 = Q := by rw [hQ.out]; simp
        rw [hwhy] at d2
        clear hV hQ hwhy
        go_wp2_with fail
        refine bodyPost_ret (rget_results rfl (put3_block Hb2.out)) rfl ?_
        exact ⟨rfl, put3_rrd H3.out hSw.out (by omega), put3_only HO2.out (Nat.le_refl _)⟩
      · have hwhy' : (Q.why != 0) = false := by simpa using hwhy
        obtain rfl : V0 = ⟨1, N, ⟨#[]⟩⟩ := by rw [hV.out]; simp [hwhy']
        obtain rfl : Q0 = Q := by rw [hQ.out]; simp
        rw [hwhy'] at d2
        clear hV hQ hwhy hwhy'
        go_wp2_with fail
        refine bodyPost_ret (rget_results rfl (put3_block Hb2.out)) rfl ?_
        exact ⟨rfl, put3_rrd H3.out hSw.out (by omega), put3_only HO2.out (Nat.le_refl _)⟩
    · have hq1 : ((k : Int) == 1) = false := by simp; omega
      by_cases hk2 : k = 2
      · subst hk2
        have hl := Lib.hid (rr_Text S g R1 _ H1.out)
        go_wp2_with fail
        refine hl.out.mono ?_
        rintro e w2 ⟨rfl, h3, h4⟩
        have H3 := Lib.hid h3
        have HO2 := Lib.hid (HO1.out.trans h4)
        have hb2 : w2.heap[w.heap.size]? = some (.cells #[.int .i64 0, .int .i64 0, .string ⟨#[]⟩] 24) := (h4.block _ (by omega) (by omega)).trans Hb.out
        have Hb2 := Lib.hid hb2
        obtain ⟨⟨b0, b1, b2⟩, fb0, fb1, fb2⟩ := cell3 hb2
        obtain ⟨_, _, _, v', hg', _⟩ := id h3
        obtain ⟨⟨_, _, d2, _, _⟩, _⟩ := cell5 hg'
        clear h3 h4 hl hb2 H1 HO1 Hb hg'
        generalize R1.textS 40 = N at *
        generalize R1.text 40 = Q at *
        by_cases hwhy : (Q.why != 0) = true
        · obtain rfl : V0 = V.zero := by rw [hV.out]; simp [hwhy]
          obtain rfl : Q0 = Q := by rw [hQ.out]; simp
          rw [hwhy] at d2
          clear hV hQ hwhy
          go_wp2_with fail
          refine bodyPost_ret (rget_results rfl (put3_block Hb2.out)) rfl ?_
          exact ⟨rfl, put3_rrd H3.out hSw.out (by omega), put3_only HO2.out (Nat.le_refl _)⟩
        · have hwhy' : (Q.why != 0) = false := by simpa using hwhy
          obtain rfl : V0 = ⟨2, 0, N⟩ := by rw [hV.out]; simp [hwhy']
          obtain rfl : Q0 = Q := by rw [hQ.out]; simp
          rw [hwhy'] at d2
          clear hV hQ hwhy hwhy'
          go_wp2_with fail
          refine bodyPost_ret (rget_results rfl (put3_block Hb2.out)) rfl ?_
          exact ⟨rfl, put3_rrd H3.out hSw.out (by omega), put3_only HO2.out (Nat.le_refl _)⟩
      · have hq2 : ((k : Int) == 2) = false := by simp; omega
        have hl := Lib.hid (rr_Fail S g R1 12 (by decide) _ H1.out)
        obtain rfl : V0 = V.zero := by rw [hV.out, if_neg hk1, if_neg hk2]
        obtain rfl : Q0 = R1.refuse 12 R1.at_ := by rw [hQ.out, if_neg hk1, if_neg hk2]
        clear hV hQ
        go_wp2_with fail
        refine hl.out.mono ?_
        rintro e w2 ⟨rfl, h3, h4⟩
        have H3 := Lib.hid h3
        have HO2 := Lib.hid (HO1.out.trans h4)
        have hb2 : w2.heap[w.heap.size]? = some (.cells #[.int .i64 0, .int .i64 0, .string ⟨#[]⟩] 24) := (h4.block _ (by omega) (by omega)).trans Hb.out
        have Hb2 := Lib.hid hb2
        obtain ⟨⟨b0, b1, b2⟩, fb0, fb1, fb2⟩ := cell3 hb2
        clear h3 h4 hl hb2 H1 HO1 Hb
        go_wp2_with fail
        refine bodyPost_ret (rget_results rfl (put3_block Hb2.out)) rfl ?_
        exact ⟨rfl, put3_rrd H3.out hSw.out (by omega), put3_only HO2.out (Nat.le_refl _)⟩
  · have hw1' : (R1.why != 0) = true := by simp at hw1 ⊢; exact hw1
    rw [hw1'] at d2
    obtain rfl : k = 0 := hz.out (by simpa using hw1)
    obtain rfl : V0 = V.zero := by rw [hV.out]; rfl
    obtain rfl : Q0 = R1 := by rw [hQ.out, if_neg (by decide), if_neg (by decide), RS.refuse, if_neg hw1]
    clear hV hQ hw1 hw1' hz
    go_wp2_with fail
    refine bodyPost_ret (rget_results rfl (put3_block Hb.out)) rfl ?_
    exact ⟨rfl, put3_rrd H1.out hSw.out (by omega), put3_only HO1.out (Nat.le_refl _)⟩
end Go.Proofs.YtabhkfpglhfiiaaDoor
