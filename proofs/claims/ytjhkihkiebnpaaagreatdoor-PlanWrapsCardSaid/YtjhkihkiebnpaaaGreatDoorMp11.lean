/-
  The document's Same (confluenceref9), confluencekeep's Plan and Texts of one and the same plan or texts: they say so.
-/
import Derived.Test.YtjhkihkiebnpaaaGreatDoorMp7
import Derived.StillTailTactics
import Derived.IntWalk
import Derived.Test.YtjhkihkiebnpaaaGreatDoorMp10
import Derived.Test.YtjhkihkiebnpaaaGreatDoorCards
import Derived.Test.YtjhkihkiebnpaaaGreatDoorTie
import Derived.WalkKit
import Derived.ProofKit
import Derived.OpenShut
import Derived.Deep.DeepHandedRow
import Derived.Lib.LaidTab
import Derived.Lib.AppendIntMem
import Derived.Test.YtjhkihkiebnpaaaGreatDoorMp0
import Derived.Deep.Slices
import Derived.Deep.Fields
import Derived.ChangeSame
import Derived.Carry
set_option linter.unusedVariables false
set_option linter.unusedSimpArgs false
namespace Go.Proofs.YtjhkihkiebnpaaaGreatDoor
open Go.RowKit
set_option linter.unusedVariables false
set_option linter.unusedSimpArgs false
def SameR (l : List E) : Prop := ∀ (A B : Option Addr) (c d : Nat) (w : World), EKids w w.heap.size A l → EKids w w.heap.size B l →
  Calls Tryz.prog 69 #[.slice A l.length c, .slice B l.length d] w fun e w' => e = .returned (.bool true) ∧ ∃ n, w' = w.drewN n
set_option maxRecDepth 100000 in
set_option maxHeartbeats 1000000 in
theorem samer_step (l : List E) (hM0 : ∀ e ∈ l, SameR e.kids) : SameR l := by
  intro A B c d w hA hB
  have hn := hA.len
  have HA := Lib.hid hA.get_
  have HB := Lib.hid hB.get_
  obtain ⟨m, em⟩ : ∃ m, m = l.length := ⟨_, rfl⟩
  have HEM := Lib.hid em
  have HM := Lib.hid hM0
  rw [← em] at hn ⊢
  clear hA hB hM0 em
  go_enter Tryz.func69, Tryz.ntmps69
  go_wp2_with fail
  go_loopw [5] (fun i wr => ∃ (j n : Nat), j ≤ m ∧ i = .int .i64 j ∧ wr = w.drewN n) (fun i _ => m - (intOf i).toNat)
  case atStart => exact ⟨0, 0, Nat.zero_le _, rfl, rfl⟩
  case round =>
    obtain ⟨j, n, hj, rfl, hwr⟩ := hrel
    have HWR := Lib.hid hwr
    have hbw : Below w.heap.size w wr := by rw [hwr]; exact below_drewN (Below.refl _ _) _
    clear hwr
    by_cases hlt : j < m
    · obtain ⟨x, hx⟩ : ∃ x, l[j]? = some x := ⟨_, List.getElem?_eq_getElem (by rw [← HEM.out]; exact hlt)⟩
      obtain ⟨b, o, A', c', rfl, _, a0, a1, a2, a3, hKa⟩ := HA.out _ hbw j x hx
      obtain ⟨b2, o2, B', d', rfl, _, b0, b1, b2, b3, hKb⟩ := HB.out _ hbw j x hx
      have hMx := Lib.hid (HM.out x (List.mem_of_getElem? hx))
      clear hx
      obtain ⟨xk, xs, xn, xl⟩ := x
      simp only [E.k, E.s, E.n, E.kids] at a0 a1 a2 a3 b0 b1 b2 b3 hKa hKb hMx
      have HC := Lib.hid (fun n => hMx.out A' B' c' d' (wr.drewN n) (hKa.low (below_drewN (Below.refl _ _) n)) (hKb.low (below_drewN (Below.refl _ _) n)))
      generalize xl.length = xm at *
      clear hKa hKb hMx hbw
      go_upto_region 6 with (fail)
      go_quiet ((go_at_call 69; exact Calls.quiet_of (HC.out _)))
      go_wp2_with fail
      go_roundw
      case rel => exact ⟨j + 1, n + nq, by omega, by go_num, by rw [HWR.out, World.drewN_drewN]⟩
      case measure => simp [intOf]; omega
    · go_wp2_with fail
      go_ret
      exact ⟨rfl, n, HWR.out⟩
theorem samer_any (l : List E) : SameR l := by
  have h : ∀ e : E, SameR e.kids := E.ind fun k s n l ih => samer_step l ih
  exact samer_step l fun e _ => h e
set_option maxRecDepth 100000 in
set_option maxHeartbeats 1000000 in
theorem texts_self (l : List ByteArray) (hn : l.length ≤ 9223372036854775807) (A B : Option Addr) (c d : Nat) (w : World) (hA : Lies w (LT w) A (strs l)) (hB : Lies w (LT w) B (strs l)) :
    Calls Tryz.prog 70 #[.slice A l.length c, .slice B l.length d] w fun e w' => e = .returned (.bool true) ∧ Below w.heap.size w w' := by
  have HA := Lib.hid hA
  have HB := Lib.hid hB
  obtain ⟨m, em⟩ : ∃ m, m = l.length := ⟨_, rfl⟩
  have HEM := Lib.hid em
  rw [← em] at hn ⊢
  clear hA hB em
  go_enter Tryz.func70, Tryz.ntmps70
  go_wp2_with fail
  go_loopw [5] (fun i wr => ∃ j : Nat, j ≤ m ∧ i = .int .i64 j ∧ Below w.heap.size w wr) (fun i _ => m - (intOf i).toNat)
  case atStart => exact ⟨0, Nat.zero_le _, rfl, Below.refl _ _⟩
  case round =>
    obtain ⟨j, hj, rfl, hb⟩ := hrel
    by_cases hlt : j < m
    · obtain ⟨x, hx⟩ := get_some' HEM.out hlt
      obtain ⟨b, o, rfl, h1, c1⟩ := lies_at HA.out hx
      obtain ⟨b2, o2, rfl, h2, c2⟩ := lies_at HB.out hx
      have c1' := (hb.cell (p := ⟨b, o + j, none⟩) h1).trans c1
      have c2' := (hb.cell (p := ⟨b2, o2 + j, none⟩) h2).trans c2
      have HBB := Lib.hid hb
      have hj1 : wrap64 ((j : Int) + 1) = (j : Int) + 1 := IntWalk.wrap64_in _ (by omega)
      clear c1 c2 hx hb
      go_upto_region 6 with (fail)
      go_quiet (fail)
      go_wp2_with fail
      go_roundw
      case measure => exact meas_jj hlt
      case rel => exact ⟨j + 1, hlt, by simp, below_drewN HBB.out _⟩
    · have HBB := Lib.hid hb
      go_wp2_with fail
      go_ret
      exact ⟨rfl, HBB.out⟩
def SameRP (p : P) : Prop := ∀ (a b : PA) (w : World), PAt w (LT w) p a → PAt w (LT w) p b → Calls Tryz.prog 34 #[p.val a, p.val b] w fun r w' => r = .returned (.bool true) ∧ Below w.heap.size w w'
set_option maxRecDepth 100000 in
set_option maxHeartbeats 4000000 in
theorem samerp_step (k : Int) (nm : ByteArray) (ex : List E) (cols left right : List ByteArray) (ag : List Ag) (kids : List P) (hM : ∀ p ∈ kids, SameRP p) : SameRP (.mk k nm ex cols left right ag kids) := by
  intro a b w hA hB
  obtain ⟨⟨hE, hC, hLf, hR, hG, q1, q2, q3, q4, q5⟩, hKd⟩ := hA
  obtain ⟨⟨gE, gC, gLf, gR, gG, _, _, _, _, _⟩, gKd⟩ := hB
  obtain ⟨ea, ec, ca, cc, la, lc, ra, rc, ga, gc, ka, kc⟩ := a
  obtain ⟨ea', ec', ca', cc', la', lc', ra', rc', ga', gc', ka', kc'⟩ := b
  simp only [P.val, P.k, P.nm, P.ex, P.cols, P.left, P.right, P.ag, P.kids] at hE hC hLf hR hG hKd gE gC gLf gR gG gKd q1 q2 q3 q4 q5 ⊢
  have q6 := hKd.len
  obtain ⟨n1, en1⟩ : ∃ n, n = ex.length := ⟨_, rfl⟩
  obtain ⟨n2, en2⟩ : ∃ n, n = cols.length := ⟨_, rfl⟩
  obtain ⟨n3, en3⟩ : ∃ n, n = left.length := ⟨_, rfl⟩
  obtain ⟨n4, en4⟩ : ∃ n, n = right.length := ⟨_, rfl⟩
  obtain ⟨n5, en5⟩ : ∃ n, n = ag.length := ⟨_, rfl⟩
  obtain ⟨n6, en6⟩ : ∃ n, n = kids.length := ⟨_, rfl⟩
  rw [← en1, ← en2, ← en3, ← en4, ← en5, ← en6]
  obtain ⟨w1, ew1⟩ : ∃ w1, w1 = (w.alloc (.cells #[.int .i64 k, .string nm, .slice ea n1 ec, .slice ca n2 cc, .slice la n3 lc, .slice ra n4 rc, .slice ga n5 gc, .slice ka n6 kc] 27)).alloc (.cells #[.int .i64 k, .string nm, .slice ea' n1 ec', .slice ca' n2 cc', .slice la' n3 lc', .slice ra' n4 rc', .slice ga' n5 gc', .slice ka' n6 kc'] 27) := ⟨_, rfl⟩
  have hb1 : Below w.heap.size w w1 := by rw [ew1]; exact ((Below.refl _ _).alloc (Nat.le_refl _) _).alloc (by simp) _
  have hs1 : w1.heap.size = w.heap.size + 2 := by rw [ew1]; simp
  have HX1 : Hid (w1.heap[w.heap.size]? = some (.cells #[.int .i64 k, .string nm, .slice ea n1 ec, .slice ca n2 cc, .slice la n3 lc, .slice ra n4 rc, .slice ga n5 gc, .slice ka n6 kc] 27 (0, 0))) := Lib.hid (by
    rw [ew1]
    exact (Below.heap_alloc _ _ _ (by simp)).trans (heap_alloc_new w _))
  have HX2 : Hid (w1.heap[w.heap.size + 1]? = some (.cells #[.int .i64 k, .string nm, .slice ea' n1 ec', .slice ca' n2 cc', .slice la' n3 lc', .slice ra' n4 rc', .slice ga' n5 gc', .slice ka' n6 kc'] 27 (0, 0))) := Lib.hid (by
    rw [ew1]
    have := heap_alloc_new (w.alloc (.cells #[.int .i64 k, .string nm, .slice ea n1 ec, .slice ca n2 cc, .slice la n3 lc, .slice ra n4 rc, .slice ga n5 gc, .slice ka n6 kc] 27)) (.cells #[.int .i64 k, .string nm, .slice ea' n1 ec', .slice ca' n2 cc', .slice la' n3 lc', .slice ra' n4 rc', .slice ga' n5 gc', .slice ka' n6 kc'] 27)
    simpa using this)
  have hw : ∀ w', Below w1.heap.size w1 w' → Below w.heap.size w w' := fun w' h => hb1.trans (h.mono hb1.size)
  have hlo : ∀ w', Below w1.heap.size w1 w' → ∀ A vs, Lies w (LT w) A vs → Lies w' (LT w') A vs := fun w' h A vs hl => (hl.kept fun k hk => (hw w' h).block k hk).mono fun k hk => Nat.lt_of_lt_of_le hk (hw w' h).size
  have H2 := Lib.hid (fun w' (h : Below w1.heap.size w1 w') => samer_any ex ea ea' ec ec' w' (((hE.to fun k h => h).low (hw w' h)).more (hw w' h).size) (((gE.to fun k h => h).low (hw w' h)).more (hw w' h).size))
  have H3 := Lib.hid (fun w' (h : Below w1.heap.size w1 w') => texts_self cols q2 ca ca' cc cc' w' (hlo w' h _ _ hC) (hlo w' h _ _ gC))
  have H4 := Lib.hid (fun w' (h : Below w1.heap.size w1 w') => texts_self left q3 la la' lc lc' w' (hlo w' h _ _ hLf) (hlo w' h _ _ gLf))
  have H5 := Lib.hid (fun w' (h : Below w1.heap.size w1 w') => texts_self right q4 ra ra' rc rc' w' (hlo w' h _ _ hR) (hlo w' h _ _ gR))
  rw [← en1] at H2
  rw [← en2] at H3
  rw [← en3] at H4
  rw [← en4] at H5
  have HG := Lib.hid hG
  have GG := Lib.hid gG
  have HK := Lib.hid hKd
  have GK := Lib.hid gKd
  have HM := Lib.hid hM
  have EN5 := Lib.hid en5
  have EN6 := Lib.hid en6
  rw [← en5] at q5
  rw [← en6] at q6
  have HB1 := Lib.hid hb1
  have HW1 := Lib.hid ew1
  have hz1 : w.heap.size < w1.heap.size := by omega
  have hz2 : w.heap.size + 1 < w1.heap.size := by omega
  clear hE hC hLf hR hG hKd gE gC gLf gR gG gKd q1 q2 q3 q4 ew1 hb1 hs1 hw hlo hM en1 en2 en3 en4 en5 en6
  obtain ⟨z0, z1, z2, z3, z4, z5, z6, z7, _, _, _, _, _, _, _, _⟩ := cell8 HX1.out
  obtain ⟨y0, y1, y2, y3, y4, y5, y6, y7, _, _, _, _, _, _, _, _⟩ := cell8 HX2.out
  go_enter Tryz.func34, Tryz.ntmps34
  go_upto_region 1 with (fail)
  rw [← HW1.out]
  go_wp2_with fail
  refine (H2.out w1 (Below.refl _ _)).mono ?_
  rintro e w2 ⟨rfl, n0, rfl⟩
  have B2 : Hid (Below w1.heap.size w1 (w1.drewN n0)) := Lib.hid (below_drewN (Below.refl _ _) n0)
  generalize w1.drewN n0 = w2 at *
  clear z0 z1 z2 z3 z4 z5 z6 z7 y0 y1 y2 y3 y4 y5 y6 y7
  obtain ⟨z0, z1, z2, z3, z4, z5, z6, z7, _, _, _, _, _, _, _, _⟩ := cell8 ((B2.out.block _ hz1).trans HX1.out)
  obtain ⟨y0, y1, y2, y3, y4, y5, y6, y7, _, _, _, _, _, _, _, _⟩ := cell8 ((B2.out.block _ hz2).trans HX2.out)
  go_wp2_with fail
  refine (H3.out w2 B2.out).mono ?_
  rintro e w3 ⟨rfl, hb2⟩
  have B3 := Lib.hid (B2.out.trans (hb2.mono B2.out.size))
  clear hb2
  clear z0 z1 z2 z3 z4 z5 z6 z7 y0 y1 y2 y3 y4 y5 y6 y7
  obtain ⟨z0, z1, z2, z3, z4, z5, z6, z7, _, _, _, _, _, _, _, _⟩ := cell8 ((B3.out.block _ hz1).trans HX1.out)
  obtain ⟨y0, y1, y2, y3, y4, y5, y6, y7, _, _, _, _, _, _, _, _⟩ := cell8 ((B3.out.block _ hz2).trans HX2.out)
  go_wp2_with fail
  refine (H4.out w3 B3.out).mono ?_
  rintro e w4 ⟨rfl, hb2⟩
  have B4 := Lib.hid (B3.out.trans (hb2.mono B3.out.size))
  clear hb2
  clear z0 z1 z2 z3 z4 z5 z6 z7 y0 y1 y2 y3 y4 y5 y6 y7
  obtain ⟨z0, z1, z2, z3, z4, z5, z6, z7, _, _, _, _, _, _, _, _⟩ := cell8 ((B4.out.block _ hz1).trans HX1.out)
  obtain ⟨y0, y1, y2, y3, y4, y5, y6, y7, _, _, _, _, _, _, _, _⟩ := cell8 ((B4.out.block _ hz2).trans HX2.out)
  go_wp2_with fail
  refine (H5.out w4 B4.out).mono ?_
  rintro e w5 ⟨rfl, hb2⟩
  have B5 := Lib.hid (B4.out.trans (hb2.mono B4.out.size))
  clear hb2
  clear z0 z1 z2 z3 z4 z5 z6 z7 y0 y1 y2 y3 y4 y5 y6 y7
  obtain ⟨z0, z1, z2, z3, z4, z5, z6, z7, _, _, _, _, _, _, _, _⟩ := cell8 ((B5.out.block _ hz1).trans HX1.out)
  obtain ⟨y0, y1, y2, y3, y4, y5, y6, y7, _, _, _, _, _, _, _, _⟩ := cell8 ((B5.out.block _ hz2).trans HX2.out)
  go_wp2_with fail
  clear z0 z1 z2 z3 z4 z5 z6 z7 y0 y1 y2 y3 y4 y5 y6 y7
  go_loopw [5] (fun i wr => ∃ j : Nat, j ≤ n5 ∧ i = .int .i64 j ∧ Below w1.heap.size w1 wr) (fun i _ => n5 - (intOf i).toNat)
  case atStart => exact ⟨0, Nat.zero_le _, rfl, B5.out⟩
  case round =>
    obtain ⟨j, hj, rfl, hb⟩ := hrel
    have HB := Lib.hid hb
    obtain ⟨z0, z1, z2, z3, z4, z5, z6, z7, _, _, _, _, _, _, _, _⟩ := cell8 ((hb.block _ hz1).trans HX1.out)
    obtain ⟨y0, y1, y2, y3, y4, y5, y6, y7, _, _, _, _, _, _, _, _⟩ := cell8 ((hb.block _ hz2).trans HX2.out)
    have hbw := HB1.out.trans (hb.mono HB1.out.size)
    clear hb
    by_cases hlt : j < n5
    · obtain ⟨x, hx⟩ := get_some' EN5.out hlt
      obtain ⟨b, o, rfl, h1, a0, a1, a2⟩ := lies_agx HG.out hx
      obtain ⟨b2, o2, rfl, h2, b0, b1, b2'⟩ := lies_agx GG.out hx
      have c0 := (hbw.cell (p := ⟨b, o + j * 3, none⟩) h1).trans a0
      have c1 := (hbw.cell (p := ⟨b, o + j * 3 + 1, none⟩) h1).trans a1
      have c2 := (hbw.cell (p := ⟨b, o + j * 3 + 2, none⟩) h1).trans a2
      have d0 := (hbw.cell (p := ⟨b2, o2 + j * 3, none⟩) h2).trans b0
      have d1 := (hbw.cell (p := ⟨b2, o2 + j * 3 + 1, none⟩) h2).trans b1
      have d2 := (hbw.cell (p := ⟨b2, o2 + j * 3 + 2, none⟩) h2).trans b2'
      obtain ⟨an, af, ac⟩ := x
      have hq := fun w => neq_agg an af ac w
      clear a0 a1 a2 b0 b1 b2' hx hbw
      go_upto_region 6 with (fail)
      go_quiet (fail)
      go_wp2_with fail
      go_roundw
      case measure => exact meas_jj hlt
      case rel => exact ⟨j + 1, hlt, by simp, below_drewN HB.out _⟩
    · clear hbw
      go_wp2_with fail
      go_loopw [6] (fun i wz => ∃ j : Nat, j ≤ n6 ∧ i = .int .i64 j ∧ Below w1.heap.size w1 wz) (fun i _ => n6 - (intOf i).toNat)
      case atStart => exact ⟨0, Nat.zero_le _, rfl, HB.out⟩
      case round =>
        rename World => wz
        obtain ⟨jj, hjj, rfl, hbz⟩ := hrel
        have HBZ := Lib.hid hbz
        clear z0 z1 z2 z3 z4 z5 z6 z7 y0 y1 y2 y3 y4 y5 y6 y7
        obtain ⟨z0, z1, z2, z3, z4, z5, z6, z7, _, _, _, _, _, _, _, _⟩ := cell8 ((hbz.block _ hz1).trans HX1.out)
        obtain ⟨y0, y1, y2, y3, y4, y5, y6, y7, _, _, _, _, _, _, _, _⟩ := cell8 ((hbz.block _ hz2).trans HX2.out)
        have hbw := HB1.out.trans (hbz.mono HB1.out.size)
        clear hbz
        by_cases hlt2 : jj < n6
        · obtain ⟨x, hx⟩ := get_some' EN6.out hlt2
          obtain ⟨b, o, a1, rfl, hb1, hc1, hp1⟩ := HK.out.get_ hbw hx
          have m0 := hc1 0 _ rfl
          have m1 := hc1 1 _ rfl
          have m2 := hc1 2 _ rfl
          have m3 := hc1 3 _ rfl
          have m4 := hc1 4 _ rfl
          have m5 := hc1 5 _ rfl
          have m6 := hc1 6 _ rfl
          have m7 := hc1 7 _ rfl
          rw [Nat.add_zero] at m0
          obtain ⟨b2, o2, a2, rfl, hb2, hc2, hp2⟩ := GK.out.get_ hbw hx
          have k0 := hc2 0 _ rfl
          have k1 := hc2 1 _ rfl
          have k2 := hc2 2 _ rfl
          have k3 := hc2 3 _ rfl
          have k4 := hc2 4 _ rfl
          have k5 := hc2 5 _ rfl
          have k6 := hc2 6 _ rfl
          have k7 := hc2 7 _ rfl
          rw [Nat.add_zero] at k0
          have hcl := HM.out x (List.mem_of_getElem? hx) a1 a2 wz.drew (hp1.low (Below.refl _ _).drew) (hp2.low (Below.refl _ _).drew)
          simp only [P.val] at hcl
          have HCL := Lib.hid hcl
          clear hbw hx hc1 hc2 hp1 hp2 hcl
          generalize x.k = xk at *
          generalize x.nm = xnm at *
          generalize x.ex.length = x1 at *
          generalize x.cols.length = x2 at *
          generalize x.left.length = x3 at *
          generalize x.right.length = x4 at *
          generalize x.ag.length = x5 at *
          generalize x.kids.length = x6 at *
          obtain ⟨qa, qb, qc, qd, qe, qf, qg, qh, qi, qj, qk, ql⟩ := a1
          obtain ⟨ra, rb, rc, rd, re, rf, rg, rh, ri, rj, rk, rl⟩ := a2
          simp only at m0 m1 m2 m3 m4 m5 m6 m7 k0 k1 k2 k3 k4 k5 k6 k7 HCL
          go_upto_region 11 with (fail)
          go_still_tail 10, (by kernel_rfl)
          change wpList _ _ _ _ _ wz.drew
          go_wp2_with fail
          refine (HCL.out).mono ?_
          rintro e w9 ⟨rfl, hb9⟩
          have HB9 := Lib.hid (HBZ.out.trans (((Below.refl wz.heap.size wz).drew.trans hb9).mono HBZ.out.size))
          clear hb9
          go_wp2_with fail
          go_roundw
          case measure => exact meas_jj hlt2
          case rel => exact ⟨jj + 1, hlt2, by simp, HB9.out⟩
        · have HW := Lib.hid hbw
          clear hbw
          go_wp2_with fail
          go_ret
          exact ⟨rfl, HW.out⟩
theorem samerp_any : ∀ p, SameRP p := P.ind samerp_step
set_option maxRecDepth 100000 in
theorem keepPlan_self (p : P) (a b : PA) (w : World) (hA : PAt w (LT w) p a) (hB : PAt w (LT w) p b) : Calls Tryz.prog 15 #[p.val a, p.val b] w fun r w' => r = .returned (.bool true) ∧ Below w.heap.size w w' := by
  obtain ⟨w1, ew1⟩ : ∃ w1, w1 = (w.alloc (.cells (p.bx a) 27)).alloc (.cells (p.bx b) 27) := ⟨_, rfl⟩
  have hb1 : Below w.heap.size w w1 := by rw [ew1]; exact ((Below.refl _ _).alloc (Nat.le_refl _) _).alloc (by simp) _
  have hx1 : w1.heap[w.heap.size]? = some (.cells (p.bx a) 27 (0, 0)) := by
    rw [ew1]
    exact (Below.heap_alloc _ _ _ (by simp)).trans (heap_alloc_new w _)
  have hx2 : w1.heap[w.heap.size + 1]? = some (.cells (p.bx b) 27 (0, 0)) := by
    rw [ew1]
    have := heap_alloc_new (w.alloc (.cells (p.bx a) 27)) (.cells (p.bx b) 27)
    simpa using this
  have hcl := samerp_any p a b w1 (hA.low hb1) (hB.low hb1)
  simp only [P.val, P.bx] at hcl ew1 hx1 hx2 ⊢
  have HCL := Lib.hid hcl
  have HB1 := Lib.hid hb1
  have HW1 := Lib.hid ew1
  clear hA hB ew1 hb1 hcl
  generalize p.k = xk at *
  generalize p.nm = xnm at *
  generalize p.ex.length = x1 at *
  generalize p.cols.length = x2 at *
  generalize p.left.length = x3 at *
  generalize p.right.length = x4 at *
  generalize p.ag.length = x5 at *
  generalize p.kids.length = x6 at *
  obtain ⟨qa, qb, qc, qd, qe, qf, qg, qh, qi, qj, qk, ql⟩ := a
  obtain ⟨ra, rb, rc, rd, re, rf, rg, rh, ri, rj, rk, rl⟩ := b
  simp only at HCL HW1 hx1 hx2 ⊢
  obtain ⟨z0, z1, z2, z3, z4, z5, z6, z7, _, _, _, _, _, _, _, _⟩ := cell8 hx1
  obtain ⟨y0, y1, y2, y3, y4, y5, y6, y7, _, _, _, _, _, _, _, _⟩ := cell8 hx2
  go_enter Tryz.func15, Tryz.ntmps15
  go_upto_region 1 with (fail)
  rw [← HW1.out]
  go_wp2_with fail
  refine (HCL.out).mono ?_
  rintro e w3 ⟨rfl, hb3⟩
  have HB3 := Lib.hid (HB1.out.trans (hb3.mono HB1.out.size))
  clear hb3
  go_wp2_with fail
  go_ret
  exact ⟨rfl, HB3.out⟩
set_option maxRecDepth 100000 in
set_option maxHeartbeats 1000000 in
theorem keepTexts_self (l : List ByteArray) (hn : l.length ≤ 9223372036854775807) (A B : Option Addr) (c d : Nat) (w : World) (hA : Lies w (LT w) A (strs l)) (hB : Lies w (LT w) B (strs l)) :
    Calls Tryz.prog 19 #[.slice A l.length c, .slice B l.length d] w fun e w' => e = .returned (.bool true) ∧ Below w.heap.size w w' := by
  have HA := Lib.hid hA
  have HB := Lib.hid hB
  obtain ⟨m, em⟩ : ∃ m, m = l.length := ⟨_, rfl⟩
  have HEM := Lib.hid em
  rw [← em] at hn ⊢
  clear hA hB em
  go_enter Tryz.func19, Tryz.ntmps19
  go_wp2_with fail
  go_loopw [5] (fun i wr => ∃ j : Nat, j ≤ m ∧ i = .int .i64 j ∧ Below w.heap.size w wr) (fun i _ => m - (intOf i).toNat)
  case atStart => exact ⟨0, Nat.zero_le _, rfl, Below.refl _ _⟩
  case round =>
    obtain ⟨j, hj, rfl, hb⟩ := hrel
    by_cases hlt : j < m
    · obtain ⟨x, hx⟩ := get_some' HEM.out hlt
      obtain ⟨b, o, rfl, h1, c1⟩ := lies_at HA.out hx
      obtain ⟨b2, o2, rfl, h2, c2⟩ := lies_at HB.out hx
      have c1' := (hb.cell (p := ⟨b, o + j, none⟩) h1).trans c1
      have c2' := (hb.cell (p := ⟨b2, o2 + j, none⟩) h2).trans c2
      have HBB := Lib.hid hb
      have hj1 : wrap64 ((j : Int) + 1) = (j : Int) + 1 := IntWalk.wrap64_in _ (by omega)
      clear c1 c2 hx hb
      go_upto_region 6 with (fail)
      go_quiet (fail)
      go_wp2_with fail
      go_roundw
      case measure => exact meas_jj hlt
      case rel => exact ⟨j + 1, hlt, by simp, below_drewN HBB.out _⟩
    · have HBB := Lib.hid hb
      go_wp2_with fail
      go_ret
      exact ⟨rfl, HBB.out⟩
end Go.Proofs.YtjhkihkiebnpaaaGreatDoor
/-
  Law 9, PlanBack: it says true.
-/
namespace Go.Proofs.YtjhkihkiebnpaaaGreatDoor
open Go.RowKit
set_option linter.unusedVariables false
set_option linter.unusedSimpArgs false
theorem planL_size : ∀ (l : List T), (∀ t ∈ l, ∀ s : RSt, sizeP (planT t s).1 ≤ costT t) → ∀ s : RSt, sizePL (planL l 0 s).1 ≤ costL l
  | [], _, s => by rw [planL]; simp [sizePL]
  | x :: l, h, s => by
    rw [planL, costL]
    simp only [sizePL]
    have h1 := h x List.mem_cons_self s
    have h2 := planL_size l (fun t ht => h t (List.mem_cons_of_mem _ ht)) (planT x s).2
    omega
theorem costL_drop (l : List T) (m : Nat) : costL (l.drop m) ≤ costL l := by
  have := costL_append (l.take m) (l.drop m)
  rw [List.take_append_drop] at this
  omega
theorem size_put (p : P) (ks : List P) : sizeP (p.put ks) = 1 + sizePL ks := by
  unfold P.put
  rw [sizeP]
theorem size_cost {t : T} (h : OkT t) : ∀ s : RSt, sizeP (planT t s).1 ≤ costT t := by
  have leaf : ∀ (k : Int) (b : ByteArray) (n a : Int) (s : RSt), sizeP (planT (.mk k b n [] a) s).1 = 1 := fun k b n a s => by
    rw [planT, size_put, planL]
    rfl
  induction h with
  | atom w a h0 h => intro s; rw [leaf]; exact cost_pos (.atom w a h0 h)
  | num n a h1 h2 => intro s; rw [leaf]; exact cost_pos (.num n a h1 h2)
  | str w a h => intro s; rw [leaf]; exact cost_pos (.str w a h)
  | node l a h ih =>
    intro s
    rw [planT, size_put, cost_node, planL_skip]
    have h1 := planL_size (l.drop (l.length - kidsN (kindT (.mk 1 ⟨#[]⟩ 0 l a)))) (fun t ht => ih t (List.mem_of_mem_drop ht)) (baseR (kindT (.mk 1 ⟨#[]⟩ 0 l a)) l a s)
    have h2 := costL_drop l (l.length - kidsN (kindT (.mk 1 ⟨#[]⟩ 0 l a)))
    omega
theorem tabs_size : ∀ p : P, (tabsP p).length ≤ sizeP p := P.ind fun k nm ex cols left right ag kids ih => by
  have h : ∀ l : List P, (∀ p ∈ l, (tabsP p).length ≤ sizeP p) → (tabsPL l).length ≤ sizePL l := by
    intro l
    induction l with
    | nil => intro _; simp [tabsPL, sizePL]
    | cons x l ih2 =>
      intro h
      have h1 := h x List.mem_cons_self
      have h2 := ih2 fun p hp => h p (List.mem_cons_of_mem _ hp)
      rw [tabsPL, sizePL, List.length_append]
      omega
  have := h kids ih
  rw [tabsP, sizeP, List.length_append]
  split
  · simp; omega
  · simp; omega
theorem planOf_size {t : T} {p : P} (h : PlanOf t p) : sizeP p ≤ 600 := by
  have h1 := size_cost h.ok (0, 0)
  rw [h.plan] at h1
  have := h.cost
  simp only at h1
  omega
theorem planOf_tabs {t : T} {p : P} (h : PlanOf t p) : (tabsP p).length ≤ 1000000 := by
  have := planOf_size h
  have := tabs_size p
  omega
theorem size_node (p : P) : sizeP p = 1 + sizePL p.kids := by
  obtain ⟨k, nm, ex, cols, left, right, ag, kids⟩ := p
  rw [sizeP]
  rfl
theorem dist_bytes {t : T} {p : P} (h : PlanOf t p) : (⟨#[40, 100, 105, 115, 116, 105, 110, 99, 116, 32]⟩ : ByteArray) ++ prP p ++ ⟨#[41]⟩ = ⟨(headB 0 ++ prT t ++ [41]).toArray⟩ := by
  unfold prP
  rw [planOf_pr h]
  apply ByteArray.ext
  simp [ByteArray.data_append, headB]
theorem ne_empty {s : ByteArray} (h : 0 < s.size) : (s.toList == ([] : List UInt8)) = false := by
  rw [beq_eq_false_iff_ne]
  intro e
  rw [ByteArray.toList_eq] at e
  have : s.data.size = 0 := by rw [← Array.length_toList, e]; rfl
  have h2 : s.size = s.data.size := rfl
  omega
set_option maxRecDepth 100000 in
set_option maxHeartbeats 8000000 in
theorem planBack_any (s : ByteArray) (W : World) (hE : Env W) : Calls Tryz.prog 5 #[.string s] W fun e W' => e = .returned (.bool true) ∧ Below W.heap.size W W' := by
  have HE := Lib.hid hE
  clear hE
  go_enter Tryz.func5, Tryz.ntmps5
  go_upto_if 17 with (fail)
  go_cut [0] (fun v wx => (∃ s' : ByteArray, s'.size ≤ 700 ∧ v = .string s') ∧ wx = W)
  case first =>
    cases h6 : decide (700 < (s.size : Int))
    · have h6' : s.size ≤ 700 := by have := of_decide_eq_false h6; omega
      go_wp2_with fail
      go_meet
      exact ⟨⟨s, h6', rfl⟩, rfl⟩
    · have h6' : 700 ≤ s.size := by have := of_decide_eq_true h6; omega
      go_wp2_with fail
      go_meet
      exact ⟨⟨_, by simp only [ByteArray.size_extract]; omega, rfl⟩, rfl⟩
  case rest =>
  obtain ⟨⟨s', hs', rfl⟩, hwc⟩ := hcut
  obtain rfl : W = wc := hwc.symm
  clear hwc
  have HR := Lib.hid (planRead_any s' (by omega) W HE.out)
  have HKN := Lib.hid (fun w (hb : Below W.heap.size W w) => known9_any w (HE.out.low hb))
  have hok := Lib.hid (fun h => readP_of (s := s') h)
  have hbad := Lib.hid (fun h => readP_bad (s := s') h)
  generalize readP s' = R at *
  obtain ⟨p, why, pl⟩ := R
  simp only [PReadIs] at HR hok hbad
  go_wp2_with fail
  refine (HR.out).mono ?_
  rintro e w1 ⟨⟨a, rfl, hP⟩, hb1⟩
  simp only [P.val]
  obtain ⟨w2, ew2⟩ : ∃ w2, w2 = w1.alloc (.cells #[.int .i64 p.k, .string p.nm, .slice a.ea p.ex.length a.ec, .slice a.ca p.cols.length a.cc, .slice a.la p.left.length a.lc, .slice a.ra p.right.length a.rc, .slice a.ga p.ag.length a.gc, .slice a.ka p.kids.length a.kc] 27) := ⟨_, rfl⟩
  have hb2 : Below w1.heap.size w1 w2 := by rw [ew2]; exact (Below.refl _ _).alloc (Nat.le_refl _) _
  have hx2 : w2.heap[w1.heap.size]? = some (.cells #[.int .i64 p.k, .string p.nm, .slice a.ea p.ex.length a.ec, .slice a.ca p.cols.length a.cc, .slice a.la p.left.length a.lc, .slice a.ra p.right.length a.rc, .slice a.ga p.ag.length a.gc, .slice a.ka p.kids.length a.kc] 27 (0, 0)) := by rw [ew2]; exact heap_alloc_new w1 _
  have HW2 := Lib.hid ew2
  clear ew2
  have hP2 := (hP.mono (S' := LT w1) fun k hk => hk.2).low hb2
  have HB2 := Lib.hid (hb1.trans (hb2.mono hb1.size))
  have hz1 : w1.heap.size < w2.heap.size := (Array.getElem?_eq_some_iff.1 hx2).1
  have HX2 := Lib.hid hx2
  have HP2 := Lib.hid hP2
  clear hb1 hb2 hP hP2 hx2
  go_upto_region 4 with (fail)
  rw [← HW2.out]
  by_cases hw : why = 0
  · subst hw
    obtain ⟨t, hof, hl, _, _⟩ := hok.out rfl
    have HOF := Lib.hid hof
    have hsz := planOf_size hof
    have HSZ := Lib.hid (fun b w' (hA : PAt w' (LT w') p b) => size_any p (Nat.le_trans hsz (by decide)) b w' hA)
    have HTB := Lib.hid (fun b w' (hA : PAt w' (LT w') p b) => tabsTop_any p (planOf_tabs hof) b w' hA)
    have HPR := Lib.hid (fun b w' (hA : PAt w' (LT w') p b) (hb : Below W.heap.size W w') => planPrint_any hof hl b w' hA (HE.out.low hb))
    have HRD := Lib.hid (fun w' (hb : Below W.heap.size W w') => planRead_any (prP p) (prP_size hof) w' (HE.out.low hb))
    rw [print_read hof hl] at HRD
    have HKP := Lib.hid (fun b w' (hA : PAt w' (LT w') p a) (hB : PAt w' (LT w') p b) => keepPlan_self p a b w' hA hB)
    have HRU := Lib.hid (fun w' (hb : Below W.heap.size W w') => planRead_any ((⟨#[40, 100, 105, 115, 116, 105, 110, 99, 116, 32]⟩ : ByteArray) ++ prP p ++ ⟨#[41]⟩) (by rw [ByteArray.size_append, ByteArray.size_append]; show 10 + (prP p).size + 1 ≤ 1000000; omega) w' (HE.out.low hb))
    have HU : Hid ((readP ((⟨#[40, 100, 105, 115, 116, 105, 110, 99, 116, 32]⟩ : ByteArray) ++ prP p ++ ⟨#[41]⟩)).2.1 ≠ 0 ∨ (readP ((⟨#[40, 100, 105, 115, 116, 105, 110, 99, 116, 32]⟩ : ByteArray) ++ prP p ++ ⟨#[41]⟩) = (wrapP 0 p, 0, 0) ∧ PlanOf (wrapT 0 (era t)) (wrapP 0 p))) := Lib.hid (by
      rw [dist_bytes hof]
      rcases wrap_read (k := 0) (by decide) hof with ⟨_, h | h⟩ | ⟨h, h2, _, _⟩
      · left; rw [h]; decide
      · left; rw [h]; decide
      · exact .inr ⟨h, h2⟩)
    have hpos := prP_pos hof
    have hne := ne_empty hpos
    have hne2 : ((prP p).size == 0) = false := by rw [beq_eq_false_iff_ne]; omega
    have hz10 : ((⟨#[40, 100, 105, 115, 116, 105, 110, 99, 116, 32]⟩ : ByteArray) ++ prP p).size = 10 + (prP p).size := by rw [ByteArray.size_append]; rfl
    have hsn := Lib.hid (size_node p)
    have HKID := Lib.hid (fun q (hq : q ∈ p.kids) => planOf_kid hof hq)
    have hkl : Hid (p.kids.length ≤ 9223372036854775807) := Lib.hid HP2.out.kids.len
    have HS6 := Lib.hid hsz
    generalize hpp : prP p = pp at *
    have HPP := Lib.hid hpp
    clear hpp hsz hof hok hbad
    obtain ⟨z0, z1, z2, z3, z4, z5, z6, z7, _, _, _, _, _, _, _, _⟩ := cell8 (HX2.out)
    go_wp2_with fail
    refine (HPR.out a w2 HP2.out HB2.out).mono ?_
    rintro e w3 ⟨rfl, hb3⟩
    have HB23 := Lib.hid hb3
    have HB3 := Lib.hid (HB2.out.trans (hb3.mono HB2.out.size))
    clear hb3
    go_wp2_with fail
    refine (HRD.out w3 HB3.out).mono ?_
    rintro e w4 ⟨⟨b, rfl, hP4⟩, hb4⟩
    simp only [P.val]
    obtain ⟨w5, ew5⟩ : ∃ w5, w5 = w4.alloc (.cells #[.int .i64 p.k, .string p.nm, .slice b.ea p.ex.length b.ec, .slice b.ca p.cols.length b.cc, .slice b.la p.left.length b.lc, .slice b.ra p.right.length b.rc, .slice b.ga p.ag.length b.gc, .slice b.ka p.kids.length b.kc] 27) := ⟨_, rfl⟩
    have hb5 : Below w4.heap.size w4 w5 := by rw [ew5]; exact (Below.refl _ _).alloc (Nat.le_refl _) _
    have hx5 : w5.heap[w4.heap.size]? = some (.cells #[.int .i64 p.k, .string p.nm, .slice b.ea p.ex.length b.ec, .slice b.ca p.cols.length b.cc, .slice b.la p.left.length b.lc, .slice b.ra p.right.length b.rc, .slice b.ga p.ag.length b.gc, .slice b.ka p.kids.length b.kc] 27 (0, 0)) := by rw [ew5]; exact heap_alloc_new w4 _
    have HW5 := Lib.hid ew5
    clear ew5
    have HB25 := Lib.hid (HB23.out.trans ((hb4.trans (hb5.mono hb4.size)).mono HB23.out.size))
    have HB5 := Lib.hid (HB2.out.trans (HB25.out.mono HB2.out.size))
    have HX5 := Lib.hid hx5
    have HQ5 := Lib.hid ((hP4.mono (S' := LT w4) fun k hk => hk.2).low hb5)
    have HP5 := Lib.hid (HP2.out.low HB25.out)
    have hz4 : w4.heap.size < w5.heap.size := (Array.getElem?_eq_some_iff.1 hx5).1
    clear hb4 hb5 hx5 hP4 z0 z1 z2 z3 z4 z5 z6 z7
    obtain ⟨z0, z1, z2, z3, z4, z5, z6, z7, _, _, _, _, _, _, _, _⟩ := cell8 ((HB25.out.block _ hz1).trans HX2.out)
    obtain ⟨y0, y1, y2, y3, y4, y5, y6, y7, _, _, _, _, _, _, _, _⟩ := cell8 (HX5.out)
    have hkp := HKP.out b w5 HP5.out HQ5.out
    simp only [P.val] at hkp
    have HK5 := Lib.hid hkp
    clear hkp
    go_upto_region 10 with (fail)
    rw [← HW5.out]
    go_wp2_with fail
    refine (HK5.out).mono ?_
    rintro e w6 ⟨rfl, hb6⟩
    have HB56 := Lib.hid hb6
    have HB26 := Lib.hid (HB25.out.trans (hb6.mono HB25.out.size))
    have HB6 := Lib.hid (HB2.out.trans (HB26.out.mono HB2.out.size))
    have HQ6 := Lib.hid (HQ5.out.low hb6)
    clear hb6 z0 z1 z2 z3 z4 z5 z6 z7 y0 y1 y2 y3 y4 y5 y6 y7
    obtain ⟨z0, z1, z2, z3, z4, z5, z6, z7, _, _, _, _, _, _, _, _⟩ := cell8 ((HB26.out.block _ hz1).trans HX2.out)
    obtain ⟨y0, y1, y2, y3, y4, y5, y6, y7, _, _, _, _, _, _, _, _⟩ := cell8 ((HB56.out.block _ hz4).trans HX5.out)
    have hpq := HPR.out b w6 HQ6.out HB6.out
    simp only [P.val] at hpq
    have HPQ := Lib.hid hpq
    clear hpq
    go_wp2_with fail
    refine (HPQ.out).mono ?_
    rintro e w7 ⟨rfl, hb7⟩
    have HB27 := Lib.hid (HB26.out.trans (hb7.mono HB26.out.size))
    clear hb7 z0 z1 z2 z3 z4 z5 z6 z7 y0 y1 y2 y3 y4 y5 y6 y7
    obtain ⟨kl, hkl2⟩ : ∃ kl, kl = p.kids.length := ⟨_, rfl⟩
    have HKL := Lib.hid hkl2
    rw [← hkl2] at hkl
    have hkl' := hkl.out
    go_wp2_with fail
    go_loopw [10, 11] (fun n i wr => ∃ j t : Nat, j ≤ kl ∧ i = .int .i64 j ∧ n = .int .i64 (t : Int) ∧ Hid (t = 1 + sizePL (p.kids.take j)) ∧ Below w2.heap.size w2 wr) (fun _ i _ => kl - (intOf i).toNat)
    case atStart => exact ⟨0, 1, Nat.zero_le _, rfl, rfl, Lib.hid (by simp [sizePL]), HB27.out⟩
    case round =>
      obtain ⟨j, n, hj, rfl, rfl, hn, hb⟩ := hrel
      have HB := Lib.hid hb
      have HBW := Lib.hid (HB2.out.trans (hb.mono HB2.out.size))
      obtain ⟨z0, z1, z2, z3, z4, z5, z6, z7, _, _, _, _, _, _, _, _⟩ := cell8 ((hb.block _ hz1).trans HX2.out)
      rw [← hkl2] at z7
      by_cases hlt : j < kl
      · obtain ⟨x, hx⟩ := get_some' HKL.out hlt
        obtain ⟨xt, hxo, hxl⟩ := HKID.out x (List.mem_of_getElem? hx)
        obtain ⟨f1, f2, f3⟩ := size_facts (l := p.kids) (by have := HS6.out; rw [hsn.out] at this; omega) hx hn.out
        obtain ⟨bk, ok, ak, eka, hbk, hck, hpk⟩ := (HP2.out.kids).get_ hb hx
        have m0 := hck 0 _ rfl
        have m1 := hck 1 _ rfl
        have m2 := hck 2 _ rfl
        have m3 := hck 3 _ rfl
        have m4 := hck 4 _ rfl
        have m5 := hck 5 _ rfl
        have m6 := hck 6 _ rfl
        have m7 := hck 7 _ rfl
        rw [Nat.add_zero] at m0
        rw [eka] at z7
        have EKA := Lib.hid eka
        clear eka
        have hsx := size_any x f1 ak wr hpk
        simp only [P.val] at hsx
        have HSX := Lib.hid hsx
        have HPX := Lib.hid (fun w' (h : Below wr.heap.size wr w') => planPrint_any hxo (by have := hl; omega) ak w' (hpk.low h) (HE.out.low (HBW.out.trans (h.mono HBW.out.size))))
        simp only [P.val] at HPX
        have hxn := ne_empty (prP_pos hxo)
        have HCK := Lib.hid hck
        have F2 := Lib.hid f2
        clear hx hpk hsx f1 f2 hxl hb
        generalize prP x = px at *
        generalize sizeP x = sx at *
        go_wp2_with fail
        refine (HSX.out).mono ?_
        rintro e w8 ⟨rfl, hb8⟩
        have HB8 := Lib.hid (HB.out.trans (hb8.mono HB.out.size))
        have hm : ∀ i u, (P.cs x ak)[i]? = some u → w8.cell? ⟨bk, ok + j * 8 + i, none⟩ = some u := fun i u hu => (hb8.cell (p := ⟨bk, ok + j * 8 + i, none⟩) (Nat.lt_of_lt_of_le hbk HB.out.size)).trans (HCK.out i u hu)
        have HPC := Lib.hid (HPX.out w8 hb8)
        clear m0 m1 m2 m3 m4 m5 m6 m7 hb8 z0 z1 z2 z3 z4 z5 z6 z7
        have m0 := hm 0 _ rfl
        have m1 := hm 1 _ rfl
        have m2 := hm 2 _ rfl
        have m3 := hm 3 _ rfl
        have m4 := hm 4 _ rfl
        have m5 := hm 5 _ rfl
        have m6 := hm 6 _ rfl
        have m7 := hm 7 _ rfl
        rw [Nat.add_zero] at m0
        clear hm
        obtain ⟨z0, z1, z2, z3, z4, z5, z6, z7, _, _, _, _, _, _, _, _⟩ := cell8 ((HB8.out.block _ hz1).trans HX2.out)
        rw [← hkl2, EKA.out] at z7
        go_wp2_with fail
        refine (HPC.out).mono ?_
        rintro e w9 ⟨rfl, hb9⟩
        have HB9 := Lib.hid (HB8.out.trans (hb9.mono HB8.out.size))
        clear hb9
        go_wp2_with fail
        go_roundw
        case measure => exact meas_jj hlt
        case rel => exact ⟨j + 1, n + sx, hlt, by simp, by simp [f3], F2, HB9.out⟩
      · have hnn : Hid (n = sizeP p) := Lib.hid (by rw [hn.out, hsn.out, List.take_of_length_le (by have := HKL.out; omega)])
        obtain ⟨z0, z1, z2, z3, z4, z5, z6, z7, _, _, _, _, _, _, _, _⟩ := cell8 ((HB.out.block _ hz1).trans HX2.out)
        clear hb
        go_wp2_with fail
        refine (HRU.out wr HBW.out).mono ?_
        rintro e w8 ⟨⟨c, rfl, hPu⟩, hb8⟩
        simp only [P.val]
        clear z0 z1 z2 z3 z4 z5 z6 z7
        generalize hRU : readP ((⟨#[40, 100, 105, 115, 116, 105, 110, 99, 116, 32]⟩ : ByteArray) ++ pp ++ ⟨#[41]⟩) = RU at *
        clear hRU
        obtain ⟨u, uw, ul⟩ := RU
        simp only at hPu HU ⊢
        obtain ⟨w9, ew9⟩ : ∃ w9, w9 = w8.alloc (.cells #[.int .i64 u.k, .string u.nm, .slice c.ea u.ex.length c.ec, .slice c.ca u.cols.length c.cc, .slice c.la u.left.length c.lc, .slice c.ra u.right.length c.rc, .slice c.ga u.ag.length c.gc, .slice c.ka u.kids.length c.kc] 27) := ⟨_, rfl⟩
        have hb9 : Below w8.heap.size w8 w9 := by rw [ew9]; exact (Below.refl _ _).alloc (Nat.le_refl _) _
        have hx9 : w9.heap[w8.heap.size]? = some (.cells #[.int .i64 u.k, .string u.nm, .slice c.ea u.ex.length c.ec, .slice c.ca u.cols.length c.cc, .slice c.la u.left.length c.lc, .slice c.ra u.right.length c.rc, .slice c.ga u.ag.length c.gc, .slice c.ka u.kids.length c.kc] 27 (0, 0)) := by rw [ew9]; exact heap_alloc_new w8 _
        have HW9 := Lib.hid ew9
        clear ew9
        have HB9 := Lib.hid (HB.out.trans ((hb8.trans (hb9.mono hb8.size)).mono HB.out.size))
        have HB9W := Lib.hid (HB2.out.trans (HB9.out.mono HB2.out.size))
        have HX9 := Lib.hid hx9
        have HU9 := Lib.hid ((hPu.mono (S' := LT w8) fun k hk => hk.2).low hb9)
        have HP9 := Lib.hid (HP2.out.low HB9.out)
        have hz9 : w8.heap.size < w9.heap.size := (Array.getElem?_eq_some_iff.1 hx9).1
        clear hb8 hb9 hx9 hPu
        have hnk : Hid (n = sizeP p) := hnn
        go_upto_region 20 with (fail)
        rw [← HW9.out]
        go_cut [105] (fun s105 wx => s105 = .bool false ∧ Below w9.heap.size w9 wx)
        case first =>
          have hw1 : w9.cell? ⟨w1.heap.size, 0, none⟩ = w9.cell? ⟨w1.heap.size, 0, none⟩ := rfl
          by_cases hu : uw = 0
          · subst hu
            obtain ⟨hu2, huo⟩ : (u, (0 : Int), ul) = (wrapP 0 p, 0, 0) ∧ PlanOf (wrapT 0 (era t)) (wrapP 0 p) := by
              rcases HU.out with h | h
              · exact absurd rfl h
              · exact h
            obtain rfl : u = wrapP 0 p := by injection hu2
            have hsu : sizeP (wrapP 0 p) = sizeP p + 1 := by rw [wrap_size (by decide), if_neg (by decide)]
            have htu : tabsU (wrapP 0 p) = tabsU p := by unfold tabsU; rw [wrap_tabs (by decide)]
            have H1 := Lib.hid (fun w' (h : Below w9.heap.size w9 w') => size_any (wrapP 0 p) (by have := HS6.out; rw [hsu]; omega) c w' (HU9.out.low h))
            have H2 := Lib.hid (fun w' (h : Below w9.heap.size w9 w') => tabsTop_any (wrapP 0 p) (planOf_tabs huo) c w' (HU9.out.low h))
            have H3 := Lib.hid (fun w' (h : Below w9.heap.size w9 w') => HTB.out a w' (HP9.out.low h))
            rw [hsu] at H1
            rw [htu] at H2
            simp only [P.val] at H1 H2 H3
            have H4 := Lib.hid (fun A B c d w' (hA : Lies w' (LT w') A (strs (tabsU p))) (hB : Lies w' (LT w') B (strs (tabsU p))) => keepTexts_self (tabsU p) (by have := tabsU_len p; have := tabs_size p; have := HS6.out; omega) A B c d w' hA hB)
            have hwr2 : wrap64 ((n : Int) + 1) = (n : Int) + 1 := IntWalk.wrap64_in _ (by have := hnn.out; have := HS6.out; omega)
            have hwr3 : IntKind.i64.wrap ((n : Int) + 1) = (n : Int) + 1 := (IntWalk.i64_left _).trans hwr2
            rw [← hnn.out] at H1
            have he : (((n + 1 : Nat) : Int) != (n : Int) + 1) = false := by simp
            generalize tabsU p = tu at *
            generalize hcu : wrapP 0 p = cu at *
            clear hcu hu2 htu hsu huo
            have HALL : Hid (∀ w', Below w9.heap.size w9 w' → C8 w' w1.heap.size (.int .i64 p.k) (.string p.nm) (.slice a.ea p.ex.length a.ec) (.slice a.ca p.cols.length a.cc) (.slice a.la p.left.length a.lc) (.slice a.ra p.right.length a.rc) (.slice a.ga p.ag.length a.gc) (.slice a.ka p.kids.length a.kc) ∧ C8 w' w8.heap.size (.int .i64 cu.k) (.string cu.nm) (.slice c.ea cu.ex.length c.ec) (.slice c.ca cu.cols.length c.cc) (.slice c.la cu.left.length c.lc) (.slice c.ra cu.right.length c.rc) (.slice c.ga cu.ag.length c.gc) (.slice c.ka cu.kids.length c.kc)) :=
              Lib.hid fun w' h => ⟨cell8 ((h.block _ (Nat.lt_of_lt_of_le hz1 HB9.out.size)).trans ((HB9.out.block _ hz1).trans HX2.out)), cell8 ((h.block _ hz9).trans HX9.out)⟩
            refine wp_region_held_drew (S := fun w' => Below w9.heap.size w9 w') (by kernel_rfl) ((Below.refl _ _).drew) (fun hHeld => ?_)
            refine wpAnyH_take (i := 0) (v := .int .i64 0) rfl (by kernel_rfl) (by kernel_rfl) (by kernel_rfl) (fun _ _ _ h => h) (Or.inl ⟨by rfl, fun w1' hSw => by (go_simp)⟩) (by assumption) ?_
            simp only [List.getElem_toArray, List.getElem_cons_zero, Act.put, List.setIfInBounds_toArray, List.set_cons_zero, List.set_cons_succ]
            refine wpAnyH_take (i := 1) (v := .bool true) rfl (by kernel_rfl) (by kernel_rfl) (by kernel_rfl) (fun _ _ _ h => h) (Or.inl ⟨by rfl, fun w1' hSw => by (go_simp)⟩) (by assumption) ?_
            simp only [List.getElem_toArray, List.getElem_cons_succ, List.getElem_cons_zero, Act.put, List.setIfInBounds_toArray, List.set_cons_zero, List.set_cons_succ]
            refine wpAnyH_take (i := 2) (v := .bool true) rfl (by kernel_rfl) (by kernel_rfl) (by kernel_rfl) (fun _ _ _ h => h) (Or.inl ⟨by rfl, fun w1' hSw => by (go_simp)⟩) (by assumption) ?_
            simp only [List.getElem_toArray, List.getElem_cons_succ, List.getElem_cons_zero, Act.put, List.setIfInBounds_toArray, List.set_cons_zero, List.set_cons_succ]
            refine wpAnyH_take (i := 3) (v := (.agg #[.int .i64 cu.k, .string cu.nm, .slice c.ea cu.ex.length c.ec, .slice c.ca cu.cols.length c.cc, .slice c.la cu.left.length c.lc, .slice c.ra cu.right.length c.rc, .slice c.ga cu.ag.length c.gc, .slice c.ka cu.kids.length c.kc])) rfl (by kernel_rfl) (by kernel_rfl) (by kernel_rfl) (fun _ _ _ h => h) (Or.inl ⟨by rfl, fun w1' hSw => by (obtain ⟨⟨z0, z1, z2, z3, z4, z5, z6, z7, _, _, _, _, _, _, _, _⟩, ⟨y0, y1, y2, y3, y4, y5, y6, y7, _, _, _, _, _, _, _, _⟩⟩ := HALL.out _ hSw; go_simp)⟩) (by assumption) ?_
            simp only [List.getElem_toArray, List.getElem_cons_succ, List.getElem_cons_zero, Act.put, List.setIfInBounds_toArray, List.set_cons_zero, List.set_cons_succ]
            refine wpAnyH_take (i := 5) (v := .int .i64 (n : Int)) rfl (by kernel_rfl) (by kernel_rfl) (by kernel_rfl) (fun _ _ _ h => h) (Or.inl ⟨by rfl, fun w1' hSw => by (go_simp)⟩) (by assumption) ?_
            simp only [List.getElem_toArray, List.getElem_cons_succ, List.getElem_cons_zero, Act.put, List.setIfInBounds_toArray, List.set_cons_zero, List.set_cons_succ]
            refine wpAnyH_take (i := 6) (v := .int .i64 ((n : Int) + 1)) rfl (by kernel_rfl) (by kernel_rfl) (by kernel_rfl) (fun _ _ _ h => h) (Or.inl ⟨by rfl, fun w1' hSw => by (go_simp)⟩) (by assumption) ?_
            simp only [List.getElem_toArray, List.getElem_cons_succ, List.getElem_cons_zero, Act.put, List.setIfInBounds_toArray, List.set_cons_zero, List.set_cons_succ]
            refine wpAnyH_ready (rs := [4]) (by kernel_rfl) (by simp) ?_
            refine AllReadyH.cons rfl (fun K hK => ?_) AllReadyH.nil
            simp only [List.getElem_toArray, List.getElem_cons_succ, List.getElem_cons_zero]
            go_simp
            refine (H1.out w9.drew (Below.refl _ _).drew).mono ?_
            rintro e wa ⟨rfl, hba⟩
            go_wp2_with fail
            have HBA : Hid (Below w9.heap.size w9 wa) := Lib.hid ((Below.refl w9.heap.size w9).drew.trans hba)
            refine hK.out _ _ HBA.out (fun hHeld => ?_)
            clear hK K hba
            refine wpAnyH_take (i := 7) (v := .bool false) rfl (by kernel_rfl) (by kernel_rfl) (by kernel_rfl) (fun _ _ _ h => h) (Or.inl ⟨by rfl, fun w1' hSw => by (go_simp)⟩) (by assumption) ?_
            simp only [List.getElem_toArray, List.getElem_cons_succ, List.getElem_cons_zero, Act.put, List.setIfInBounds_toArray, List.set_cons_zero, List.set_cons_succ]
            refine wpAnyH_take (i := 8) (v := .bool false) rfl (by kernel_rfl) (by kernel_rfl) (by kernel_rfl) (fun _ _ _ h => h) (Or.inl ⟨by rfl, fun w1' hSw => by (go_simp)⟩) (by assumption) ?_
            simp only [List.getElem_toArray, List.getElem_cons_succ, List.getElem_cons_zero, Act.put, List.setIfInBounds_toArray, List.set_cons_zero, List.set_cons_succ]
            refine wpAnyH_take (i := 9) (v := (.agg #[.int .i64 cu.k, .string cu.nm, .slice c.ea cu.ex.length c.ec, .slice c.ca cu.cols.length c.cc, .slice c.la cu.left.length c.lc, .slice c.ra cu.right.length c.rc, .slice c.ga cu.ag.length c.gc, .slice c.ka cu.kids.length c.kc])) rfl (by kernel_rfl) (by kernel_rfl) (by kernel_rfl) (fun _ _ _ h => h) (Or.inl ⟨by rfl, fun w1' hSw => by (obtain ⟨⟨z0, z1, z2, z3, z4, z5, z6, z7, _, _, _, _, _, _, _, _⟩, ⟨y0, y1, y2, y3, y4, y5, y6, y7, _, _, _, _, _, _, _, _⟩⟩ := HALL.out _ hSw; go_simp)⟩) (by assumption) ?_
            simp only [List.getElem_toArray, List.getElem_cons_succ, List.getElem_cons_zero, Act.put, List.setIfInBounds_toArray, List.set_cons_zero, List.set_cons_succ]
            refine wpAnyH_take (i := 11) (v := (.agg #[.int .i64 p.k, .string p.nm, .slice a.ea p.ex.length a.ec, .slice a.ca p.cols.length a.cc, .slice a.la p.left.length a.lc, .slice a.ra p.right.length a.rc, .slice a.ga p.ag.length a.gc, .slice a.ka p.kids.length a.kc])) rfl (by kernel_rfl) (by kernel_rfl) (by kernel_rfl) (fun _ _ _ h => h) (Or.inl ⟨by rfl, fun w1' hSw => by (obtain ⟨⟨z0, z1, z2, z3, z4, z5, z6, z7, _, _, _, _, _, _, _, _⟩, ⟨y0, y1, y2, y3, y4, y5, y6, y7, _, _, _, _, _, _, _, _⟩⟩ := HALL.out _ hSw; go_simp)⟩) (by assumption) ?_
            simp only [List.getElem_toArray, List.getElem_cons_succ, List.getElem_cons_zero, Act.put, List.setIfInBounds_toArray, List.set_cons_zero, List.set_cons_succ]
            refine wpAnyH_ready (rs := [10]) (by kernel_rfl) (by simp) ?_
            refine AllReadyH.cons rfl (fun K hK => ?_) AllReadyH.nil
            simp only [List.getElem_toArray, List.getElem_cons_succ, List.getElem_cons_zero]
            go_simp
            refine (H2.out wa HBA.out).mono ?_
            rintro e wb ⟨⟨At, ct, rfl, hLt⟩, hbb⟩
            go_wp2_with fail
            have HBB : Hid (Below w9.heap.size w9 wb) := Lib.hid (HBA.out.trans (hbb.mono HBA.out.size))
            have HLT := Lib.hid hLt
            refine hK.out _ _ HBB.out (fun hHeld => ?_)
            clear hK K hbb hLt
            refine wpAnyH_ready (rs := [12]) (by kernel_rfl) (by simp) ?_
            refine AllReadyH.cons rfl (fun K hK => ?_) AllReadyH.nil
            simp only [List.getElem_toArray, List.getElem_cons_succ, List.getElem_cons_zero]
            go_simp
            refine (H3.out wb HBB.out).mono ?_
            rintro e wd ⟨⟨Au, cu', rfl, hLu⟩, hbd⟩
            go_wp2_with fail
            have HBD : Hid (Below w9.heap.size w9 wd) := Lib.hid (HBB.out.trans (hbd.mono HBB.out.size))
            have H4' := Lib.hid (H4.out At Au ct cu' wd ((HLT.out.kept fun k hk => hbd.block k hk.2).mono fun k hk => Nat.lt_of_lt_of_le hk.2 hbd.size) (hLu.mono fun k hk => hk.2))
            refine hK.out _ _ HBD.out (fun hHeld => ?_)
            clear hK K hbd hLu
            refine wpAnyH_ready (rs := [13]) (by kernel_rfl) (by simp) ?_
            refine AllReadyH.cons rfl (fun K hK => ?_) AllReadyH.nil
            simp only [List.getElem_toArray, List.getElem_cons_succ, List.getElem_cons_zero]
            go_simp
            refine (H4'.out).mono ?_
            rintro e we ⟨rfl, hbe⟩
            go_wp2_with fail
            have HBE : Hid (Below w9.heap.size w9 we) := Lib.hid (HBD.out.trans (hbe.mono HBD.out.size))
            refine hK.out _ _ HBE.out (fun hHeld => ?_)
            clear hK K hbe
            refine wpAnyH_take (i := 14) (v := .bool false) rfl (by kernel_rfl) (by kernel_rfl) (by kernel_rfl) (fun _ _ _ h => h) (Or.inl ⟨by rfl, fun w1' hSw => by (go_simp)⟩) (by assumption) ?_
            simp only [List.getElem_toArray, List.getElem_cons_succ, List.getElem_cons_zero, Act.put, List.setIfInBounds_toArray, List.set_cons_zero, List.set_cons_succ]
            refine wpAnyH_take (i := 15) (v := .bool false) rfl (by kernel_rfl) (by kernel_rfl) (by kernel_rfl) (fun _ _ _ h => h) (Or.inl ⟨by rfl, fun w1' hSw => by (go_simp)⟩) (by assumption) ?_
            simp only [List.getElem_toArray, List.getElem_cons_succ, List.getElem_cons_zero, Act.put, List.setIfInBounds_toArray, List.set_cons_zero, List.set_cons_succ]
            refine wpAnyH_take (i := 16) (v := .bool false) rfl (by kernel_rfl) (by kernel_rfl) (by kernel_rfl) (fun _ _ _ h => h) (Or.inl ⟨by rfl, fun w1' hSw => by (go_simp)⟩) (by assumption) ?_
            simp only [List.getElem_toArray, List.getElem_cons_succ, List.getElem_cons_zero, Act.put, List.setIfInBounds_toArray, List.set_cons_zero, List.set_cons_succ]
            refine wpAnyH_done (by kernel_rfl) ?_ _
            go_wp2_with fail
            go_meet
            case rel => exact ⟨rfl, HBE.out⟩
          · have hu' : (uw == 0) = false := by simpa using hu
            go_quiet (fail)
            go_wp2_with fail
            go_meet
            case rel => exact ⟨rfl, below_drewN (Below.refl _ _) _⟩
        case rest =>
          obtain ⟨rfl, hbc⟩ := hcut
          have HC := Lib.hid (HB9.out.trans (hbc.mono HB9.out.size))
          obtain ⟨z0, z1, z2, z3, z4, z5, z6, z7, _, _, _, _, _, _, _, _⟩ := cell8 ((HC.out.block _ hz1).trans HX2.out)
          have hs22 := HSZ.out a wc (HP2.out.low HC.out)
          simp only [P.val] at hs22
          rw [← hnn.out] at hs22
          have HS22 := Lib.hid hs22
          clear hs22 hbc
          go_wp2_with fail
          refine (HS22.out).mono ?_
          rintro e wf ⟨rfl, hbf⟩
          have HF := Lib.hid (HB2.out.trans ((HC.out.trans (hbf.mono HC.out.size)).mono HB2.out.size))
          clear hbf
          go_wp2_with fail
          refine (HKN.out wf HF.out).mono ?_
          rintro e wg ⟨rfl, hbg⟩
          have HG := Lib.hid (HF.out.trans (hbg.mono HF.out.size))
          clear hbg
          go_wp2_with fail
          go_ret
          exact ⟨rfl, HG.out⟩
  · have hw' : (why == 0) = false := by simpa using hw
    have hz := hbad.out hw
    (try simp only at hz)
    subst hz
    have HKP := Lib.hid (keepPlan_self zeroP a noPA w2 HP2.out ⟨parts_none _ _ _ _, .nil _⟩)
    simp only [P.val] at HKP
    obtain ⟨z0, z1, z2, z3, z4, z5, z6, z7, _, _, _, _, _, _, _, _⟩ := cell8 (HX2.out)
    go_wp2_with fail
    refine (HKP.out).mono ?_
    rintro e w3 ⟨rfl, hb3⟩
    have HB3 := Lib.hid (HB2.out.trans (hb3.mono HB2.out.size))
    clear hb3
    go_wp2_with fail
    refine (HKN.out w3 HB3.out).mono ?_
    rintro e w4 ⟨rfl, hb4⟩
    have HB4 := Lib.hid (HB3.out.trans (hb4.mono HB3.out.size))
    clear hb4
    go_wp2_with fail
    go_ret
    exact ⟨rfl, HB4.out⟩
end Go.Proofs.YtjhkihkiebnpaaaGreatDoor
/-
  What the listed tables give: strconv's two errors and its powers of ten are there; a world for the witness.
-/
set_option linter.unusedVariables false
set_option linter.unusedSimpArgs false
namespace Go.Proofs.YtjhkihkiebnpaaaGreatDoor
open Go.ChangeShapes Go.WideShapes Go.ChangeAt Go.RowKit
theorem gRange : Tryz.prog.globalNamed "strconv.ErrRange" = some 3 := by kernel_rfl
theorem gSyntax : Tryz.prog.globalNamed "strconv.ErrSyntax" = some 2 := by kernel_rfl
theorem gRangeType : (Tryz.prog.globals[3]?).map (·.type) = some 163 := by kernel_rfl
theorem gSyntaxType : (Tryz.prog.globals[2]?).map (·.type) = some 163 := by kernel_rfl
theorem trod_err {H : Type} {enc : TypeId × Value → H} {P : Program} {w : World} {base : Nat} {sp : Nat → Bool} {held : Bool} {fuel : Nat} {t : TypeId} {cs : List Value} {d : DataW H} {p : List MemPlace} {ms}
    (hu : P.underlying t = some (.interface ms)) (h : DataW.trod enc P w base sp held fuel t cs = some (d, p)) : ∃ u, cs = [u] ∧ (u = .nilIface ∨ ∃ te pe, u = .iface te pe) := by
  cases fuel with
  | zero => simp [DataW.trod] at h
  | succ f =>
    unfold DataW.trod at h
    split at h <;> first | exact ⟨_, rfl, .inl rfl⟩ | exact ⟨_, rfl, .inr ⟨_, _, rfl⟩⟩ | simp_all
theorem var_at {W : World} {n : String} {g : Nat} {cs : Array Value} (hg : Tryz.prog.globalNamed n = some g) (h : W.var? Tryz.prog n = some cs) : g < W.heap.size ∧ ∀ (i : Nat) v, cs[i]? = some v → W.cell? ⟨g, i, none⟩ = some v := by
  unfold World.var? at h
  rw [hg] at h
  simp only [Option.bind_some] at h
  split at h
  · rename_i c t fr hc
    obtain rfl := Option.some.inj h
    refine ⟨(Array.getElem?_eq_some_iff.1 hc).1, fun i v hv => ?_⟩
    unfold World.cell?
    rw [hc]
    simpa using hv
  · cases h
theorem errsLaid {W : World} (h : laidMetH Tryz.prog Rows.planBackRow.laid W) : Errs W := by
  have h : laidMet Tryz.prog [("math/bits.deBruijn32tab", Rows.laid_math_bits_deBruijn32tab), ("math/bits.deBruijn64tab", Rows.laid_math_bits_deBruijn64tab), ("internal/strconv.uint64pow10", Rows.laid_internal_strconv_uint64pow10), ("strconv.ErrRange", Rows.laid_strconv_ErrRange), ("strconv.ErrSyntax", Rows.laid_strconv_ErrSyntax)] W := h
  obtain ⟨ps, ⟨_, _, _, _, _, q1, _, _, _, _, h1, _⟩, _⟩ := h
  obtain ⟨_, _, _, _, _, q2, _, _, _, _, h2, _⟩ := h1
  obtain ⟨_, _, _, _, _, q, _, _, _, _, h3, _⟩ := h2
  obtain ⟨g3, t3, cs3, fuel3, p3, q3, hg3, ht3, hvar3, hd3, h4, _⟩ := h3
  obtain ⟨g4, t4, cs4, fuel4, p4, q4, hg4, ht4, hvar4, hd4, _, _⟩ := h4
  obtain rfl := Option.some.inj (gRange.symm.trans hg3)
  obtain rfl := Option.some.inj (gRangeType.symm.trans ht3)
  obtain rfl := Option.some.inj (gSyntax.symm.trans hg4)
  obtain rfl := Option.some.inj (gSyntaxType.symm.trans ht4)
  have hr := var_at gRange hvar3
  have hs := var_at gSyntax hvar4
  obtain ⟨u3, hu3, ho3⟩ := trod_err Tryz.underlying163 hd3
  obtain ⟨u4, hu4, ho4⟩ := trod_err Tryz.underlying163 hd4
  exact ⟨⟨hs.1, u4, hs.2 0 u4 (by rw [← Array.getElem?_toList, hu4]; rfl), ho4⟩, ⟨hr.1, u3, hr.2 0 u3 (by rw [← Array.getElem?_toList, hu3]; rfl), ho3⟩⟩
theorem gPow : Tryz.prog.globalNamed "internal/strconv.uint64pow10" = some 0 := by kernel_rfl
theorem gPowType : (Tryz.prog.globals[0]?).map (·.type) = some 215 := by kernel_rfl
theorem cellsPow : Tryz.prog.cellsOf 215 = 20 := by kernel_rfl
theorem cellsU64 : Tryz.prog.cellsOf 178 = 1 := by kernel_rfl
theorem powData : (Rows.laid_internal_strconv_uint64pow10 : DataW Unit) = Lib.tabData .u64 Lib.pow10Tab := by kernel_rfl
theorem table {W : World} (h : laidMetH Tryz.prog Rows.planBackRow.laid W) : Lib.TabIs Tryz.prog W "internal/strconv.uint64pow10" .u64 Lib.pow10Tab := by
  have h : laidMet Tryz.prog [("math/bits.deBruijn32tab", Rows.laid_math_bits_deBruijn32tab), ("math/bits.deBruijn64tab", Rows.laid_math_bits_deBruijn64tab), ("internal/strconv.uint64pow10", Rows.laid_internal_strconv_uint64pow10), ("strconv.ErrRange", Rows.laid_strconv_ErrRange), ("strconv.ErrSyntax", Rows.laid_strconv_ErrSyntax)] W := h
  obtain ⟨ps, ⟨_, _, _, _, _, q1, _, _, _, _, h1, _⟩, _⟩ := h
  obtain ⟨_, _, _, _, _, q2, _, _, _, _, h2, _⟩ := h1
  obtain ⟨g', t', cs, fuel, p, q, hg', ht', hvar, hd, _, _⟩ := h2
  obtain rfl := Option.some.inj (gPow.symm.trans hg')
  obtain rfl := Option.some.inj (gPowType.symm.trans ht')
  rw [powData] at hd
  unfold Lib.TabIs
  rw [hvar, ← Lib.cells_of_tab Tryz.underlying215 Tryz.underlying178 cellsU64 cellsPow hd]
theorem envLaid {W : World} (h : laidMetH Tryz.prog Rows.planBackRow.laid W) : Env W := ⟨errsLaid h, fun w' hw => Lib.tabBelow_of_tabIs (table h) w' hw⟩
def cellsOfData {H : Type} : DataW H → List Value
  | .agg parts => parts.map fun d => match d with | .lit (.int k n) => Value.int k n | _ => undef
  | _ => []
def setBlock (w : World) (g : Nat) (cs : Array Value) : World := { w with heap := w.heap.modify g fun
  | .cells _ t frozen => .cells cs t frozen
  | o => o }
def textOf {H : Type} : DataW H → ByteArray
  | .iface _ (.ptr (.agg [.lit (.string l)])) => ⟨l.toArray⟩
  | _ => ⟨#[]⟩
/-- a new block that holds the error's text; the variable holds its address -/
def setErr (w : World) (g : Nat) (s : ByteArray) : World :=
  let w1 : World := { w with heap := w.heap.push (.cells #[.string s] 237 (0, 0)) }
  setBlock w1 g #[.iface 235 (.pointer (some ⟨w.heap.size, 0, none⟩))]
noncomputable def laidWorld (os : Os) : World :=
  setErr (setErr (setBlock (setBlock (setBlock (World.holding Tryz.prog os ⟨#[], #[], []⟩) 4 (cellsOfData (H := Unit) Rows.laid_math_bits_deBruijn32tab).toArray) 5 (cellsOfData (H := Unit) Rows.laid_math_bits_deBruijn64tab).toArray) 0 (cellsOfData (H := Unit) Rows.laid_internal_strconv_uint64pow10).toArray)
    3 (textOf (H := Unit) Rows.laid_strconv_ErrRange)) 2 (textOf (H := Unit) Rows.laid_strconv_ErrSyntax)
theorem laid_try (os : Os) : laidMet Tryz.prog Rows.planBackRow.laid ((laidWorld os).forCall (fun _ _ => 0) ⟨#[], #[], []⟩).memory :=
  laidMet_of_run' 8 (by kernel_rfl) (by kernel_rfl)
theorem laid_tryW (os : Os) : laidMet Tryz.prog Rows.planWrapsRow.laid ((laidWorld os).forCall (fun _ _ => 0) ⟨#[], #[], []⟩).memory := laid_try os
end Go.Proofs.YtjhkihkiebnpaaaGreatDoor
/-
  Arguments opened: a slice of columns, a row; a law's end: all arguments read as they did. No program in sight.
-/
namespace Go.Proofs.YtjhkihkiebnpaaaGreatDoor
open Go.ChangeShapes Go.WideShapes Go.Deep Go.RowKit

theorem list_of {α : Type} {n : Nat} {p : Nat → α → Prop} (h : ∀ i, i < n → ∃ x, p i x) : ∃ l : List α, l.length = n ∧ ∀ i x, l[i]? = some x → p i x := by
  induction n with
  | zero => exact ⟨[], rfl, fun i x hx => by simp at hx⟩
  | succ n ih =>
    obtain ⟨l, hl, hp⟩ := ih fun i hi => h i (by omega)
    obtain ⟨y, hy⟩ := h n (by omega)
    refine ⟨l ++ [y], by simp [hl], fun i x hx => ?_⟩
    by_cases hi : i < n
    · exact hp i x (by rwa [List.getElem?_append_left (by omega)] at hx)
    · have hlen : i < (l ++ [y]).length := (List.getElem?_eq_some_iff.1 hx).1
      have : i = n := by simp [hl] at hlen; omega
      subst this
      rw [List.getElem?_append_right (by omega), hl] at hx
      simp at hx
      subst hx
      exact hy

section
variable {H : Type} {enc : TypeId × Value → H} {P : Program} {w : World} {base : Nat} {spare : Nat → Bool} {held : Bool}
/-- a slice of structs of one-cell fields -/
theorem open_fields {t e : TypeId} {fs : Array Field} {fuel : Nat} {cs : List Value} {x : DataW H × List MemPlace} (ht : P.underlying t = some (.slice e)) (he : P.underlying e = some (.struct fs))
    (hone : oneCellFields P fs = true) (hC : P.cellsOf e = fs.size) (h : DataW.trod enc P w base spare held fuel t cs = some x) :
    (cs = [.slice none 0 0]) ∨
    ∃ (a : Addr) (len cap m : Nat), cs = [.slice (some a) len cap] ∧ len ≤ cap ∧ cap ≤ maxLen ∧ m = (if spare a.block then cap else len) ∧
      ∀ i, i < m → ∃ (n : Nat), ∀ (j : Nat) (f : Field), fs[j]? = some f → ∃ (v : Value) (y : DataW H × List MemPlace), w.cell? (a.add (i * fs.size + j)) = some v ∧ DataW.trod enc P w base spare held n f.type [v] = some y := by
  rcases open_slice ht h with ⟨h0, _⟩ | ⟨a, len, cap, m, n, D, Pl, hcs, hb, hl, hm, hmm, hx, hi⟩
  · exact .inl h0
  · refine .inr ⟨a, len, cap, m, hcs, hl, hm, hmm, fun i him => ?_⟩
    obtain ⟨cs', hc, ht'⟩ := hi i him
    rw [hC] at hc
    obtain ⟨ys, n', hn', hy, hlen, hyl, hf⟩ := DataW.trod_struct he ht'
    obtain ⟨_, hcl, hat⟩ := World.cells?_some hc
    refine ⟨n', fun j f hj => ?_⟩
    obtain ⟨ho, hk⟩ := hone_of hone j f hj
    have hjl : j < fs.size := (Array.getElem?_eq_some_iff.1 hj).1
    have hcell := hat j hjl
    have hv : cs'[j]? = some (cs'[j]'(by omega)) := List.getElem?_eq_getElem (by omega)
    have h1 := hf j f hj
    rw [ho, hk] at h1
    have hone' : (cs'.drop j).take 1 = [cs'[j]'(by omega)] := by
      rw [List.drop_eq_getElem_cons (by omega)]
      rfl
    rw [hone'] at h1
    have hys : ys[j]? = some (ys[j]'(by omega)) := List.getElem?_eq_getElem (by omega)
    refine ⟨_, _, ?_, h1.trans hys⟩
    rw [← Go.Deep.add_add, hcell, hv]

def V.wf (v : V) : Prop := (Lit.int .i64 v.k).wf = true ∧ (Lit.int .i64 v.n).wf = true ∧ v.s.size ≤ maxLen
def C.wf (c : C) : Prop := c.nm.size ≤ maxLen ∧ (Lit.int .i64 c.k).wf = true

theorem add_pos {b off n : Nat} : (⟨b, off, none⟩ : Addr).add n = ⟨b, off + n, none⟩ := by
  unfold Addr.add; split
  · subst_vars; rfl
  · rfl

/-- a row that came in -/
theorem open_row {t e : TypeId} {f0 f1 f2 : Field} (ht : P.underlying t = some (.slice e)) (he : P.underlying e = some (.struct #[f0, f1, f2])) (hone : oneCellFields P #[f0, f1, f2] = true) (hC : P.cellsOf e = 3)
    (u0 : P.underlying f0.type = some (.int .i64)) (u1 : P.underlying f1.type = some (.int .i64)) (u2 : P.underlying f2.type = some .string)
    {A : Option Addr} {len cap : Nat} {d : DataW H} {ps : List MemPlace} (h : DataW.Trod enc P w base (fun _ => true) held t (.slice A len cap) d ps) :
    ∃ l : List V, l.length = len ∧ len ≤ cap ∧ cap ≤ maxLen ∧ VRow w w.heap.size A l ∧ ∀ x ∈ l, x.wf := by
  obtain ⟨fuel, hf⟩ := h
  simp only [Value.cells] at hf
  rcases open_fields ht he hone hC hf with hcs | ⟨a, len', cap', m, hcs, hl, hm, hmm, hi⟩
  · simp at hcs
    obtain ⟨rfl, rfl, rfl⟩ := hcs
    exact ⟨[], rfl, Nat.le_refl _, Nat.zero_le _, .inl rfl, fun x hx => by cases hx⟩
  · simp at hcs
    obtain ⟨rfl, rfl, rfl⟩ := hcs
    simp only [if_true] at hmm
    subst hmm
    obtain ⟨l, hll, hp⟩ : ∃ l : List V, l.length = len ∧ ∀ i x, l[i]? = some x → x.wf ∧ w.cell? (a.add (i * 3)) = some (.int .i64 x.k) ∧ w.cell? (a.add (i * 3 + 1)) = some (.int .i64 x.n) ∧ w.cell? (a.add (i * 3 + 2)) = some (.string x.s) := by
      refine list_of fun i hil => ?_
      obtain ⟨n, hg⟩ := hi i (by omega)
      obtain ⟨v0, y0, c0, t0⟩ := hg 0 f0 rfl
      obtain ⟨v1, y1, c1, t1⟩ := hg 1 f1 rfl
      obtain ⟨v2, y2, c2, t2⟩ := hg 2 f2 rfl
      obtain ⟨k, e0, _, wk⟩ := DataW.trod_int u0 t0
      obtain ⟨z, e1, _, wz⟩ := DataW.trod_int u1 t1
      obtain ⟨s, e2, _, ws⟩ := DataW.trod_string u2 t2
      simp only [List.cons.injEq, and_true] at e0 e1 e2
      subst e0 e1 e2
      exact ⟨⟨k, z, s⟩, ⟨wk, wz, ws⟩, c0, c1, c2⟩
    refine ⟨l, hll, hl, hm, ?_, fun x hx => ?_⟩
    · rcases Nat.eq_zero_or_pos len with h0 | h0
      · exact .inl (List.eq_nil_of_length_eq_zero (by omega))
      · obtain ⟨x, hx⟩ : ∃ x, l[0]? = some x := ⟨_, List.getElem?_eq_getElem (by omega)⟩
        obtain ⟨_, c0, _, _⟩ := hp 0 x hx
        have c0' : w.cell? a = some (.int .i64 x.k) := by simpa [Addr.add] using c0
        obtain ⟨b, off, spot⟩ := a
        have hsp : spot = none := World.cell?_spot c0'
        subst hsp
        refine .inr ⟨b, off, rfl, block_lt_of_cell c0', fun i y hy => ?_⟩
        obtain ⟨_, d0, d1, d2⟩ := hp i y hy
        rw [add_pos] at d0 d1 d2
        exact ⟨d0, by rw [Nat.add_assoc]; exact d1, by rw [Nat.add_assoc]; exact d2⟩
    · obtain ⟨i, hil, rfl⟩ := List.mem_iff_getElem.1 hx
      exact (hp i _ (List.getElem?_eq_getElem hil)).1

/-- columns that came in -/
theorem open_cols {t e : TypeId} {f0 f1 : Field} (ht : P.underlying t = some (.slice e)) (he : P.underlying e = some (.struct #[f0, f1])) (hone : oneCellFields P #[f0, f1] = true) (hC : P.cellsOf e = 2)
    (u0 : P.underlying f0.type = some .string) (u1 : P.underlying f1.type = some (.int .i64))
    {A : Option Addr} {len cap : Nat} {d : DataW H} {ps : List MemPlace} (h : DataW.Trod enc P w base (fun _ => true) held t (.slice A len cap) d ps) :
    ∃ l : List C, l.length = len ∧ len ≤ cap ∧ cap ≤ maxLen ∧ CRow w w.heap.size A l ∧ ∀ x ∈ l, x.wf := by
  obtain ⟨fuel, hf⟩ := h
  simp only [Value.cells] at hf
  rcases open_fields ht he hone hC hf with hcs | ⟨a, len', cap', m, hcs, hl, hm, hmm, hi⟩
  · simp at hcs
    obtain ⟨rfl, rfl, rfl⟩ := hcs
    exact ⟨[], rfl, Nat.le_refl _, Nat.zero_le _, .inl rfl, fun x hx => by cases hx⟩
  · simp at hcs
    obtain ⟨rfl, rfl, rfl⟩ := hcs
    simp only [if_true] at hmm
    subst hmm
    obtain ⟨l, hll, hp⟩ : ∃ l : List C, l.length = len ∧ ∀ i x, l[i]? = some x → x.wf ∧ w.cell? (a.add (i * 2)) = some (.string x.nm) ∧ w.cell? (a.add (i * 2 + 1)) = some (.int .i64 x.k) := by
      refine list_of fun i hil => ?_
      obtain ⟨n, hg⟩ := hi i (by omega)
      obtain ⟨v0, y0, c0, t0⟩ := hg 0 f0 rfl
      obtain ⟨v1, y1, c1, t1⟩ := hg 1 f1 rfl
      obtain ⟨s, e0, _, ws⟩ := DataW.trod_string u0 t0
      obtain ⟨k, e1, _, wk⟩ := DataW.trod_int u1 t1
      simp only [List.cons.injEq, and_true] at e0 e1
      subst e0 e1
      exact ⟨⟨s, k⟩, ⟨ws, wk⟩, c0, c1⟩
    refine ⟨l, hll, hl, hm, ?_, fun x hx => ?_⟩
    · rcases Nat.eq_zero_or_pos len with h0 | h0
      · exact .inl (List.eq_nil_of_length_eq_zero (by omega))
      · obtain ⟨x, hx⟩ : ∃ x, l[0]? = some x := ⟨_, List.getElem?_eq_getElem (by omega)⟩
        obtain ⟨_, c0, _⟩ := hp 0 x hx
        have c0' : w.cell? a = some (.string x.nm) := by simpa [Addr.add] using c0
        obtain ⟨b, off, spot⟩ := a
        have hsp : spot = none := World.cell?_spot c0'
        subst hsp
        refine .inr ⟨b, off, rfl, block_lt_of_cell c0', fun i y hy => ?_⟩
        obtain ⟨_, d0, d1⟩ := hp i y hy
        rw [add_pos] at d0 d1
        exact ⟨d0, by rw [Nat.add_assoc]; exact d1⟩
    · obtain ⟨i, hil, rfl⟩ := List.mem_iff_getElem.1 hx
      exact (hp i _ (List.getElem?_eq_getElem hil)).1

/-- all arguments read behind the call as they did -/
theorem trodAll_below (hl : laidOutB P = true) {W W' : World} (hb : Below W.heap.size W W') : ∀ (ts : List TypeId) (vs : List Value) (ds : List (DataW H)) (ps : List MemPlace), (ts.all fun t => P.readableRec t && decide (t < P.types.size)) = true →
    DataW.TrodAll enc P W 0 (fun _ => true) true ts vs ds ps → (∀ x ∈ ps, x.block < W.heap.size) → DataW.TrodAll enc P W' 0 (fun b => decide (b < W.heap.size)) true ts vs ds ps := by
  intro ts
  induction ts with
  | nil =>
    intro vs ds ps _ h _
    cases vs <;> cases ds <;> first | exact h | exact h.elim
  | cons t ts ih =>
    intro vs ds ps hr h hlt
    cases vs with
    | nil => cases ds <;> exact h.elim
    | cons v vs =>
      cases ds with
      | nil => exact h.elim
      | cons d ds =>
        obtain ⟨p, q, h1, h2, rfl⟩ := h
        rw [List.all_cons, Bool.and_eq_true, Bool.and_eq_true, decide_eq_true_eq] at hr
        exact ⟨p, q, Below.trod hl hr.1.1 hr.1.2 h1 hb (fun x hx => hlt x (List.mem_append_left _ hx)), ih vs ds q hr.2 h2 (fun x hx => hlt x (List.mem_append_right _ hx)), rfl⟩

/-- THE END OF A LAW: it returned true, and below the heap's old size nothing has turned -/
theorem law_post {f : Func} {s : ChangeSpec} {W W' : World} {args : Array Value} {ds gs : List (DataW H)} {before : List MemPlace} {tb : TypeId}
    (hl : laidOutB P = true) (hr : (f.params.toList.all fun t => P.readableRec t && decide (t < P.types.size)) = true) (hb : P.underlying tb = some .bool) (hres : f.resultTypes = #[tb]) (hvars : s.vars = [])
    (hW : DataW.Whole enc P f.params.toList s.vars false W args.toList ds gs before) (h1 : (s.fn H (ds ++ gs)).results = [.lit (.bool true)]) (h2 : (s.fn H (ds ++ gs)).args = ds) (h3 : (s.fn H (ds ++ gs)).vars = [])
    (hbelow : Below W.heap.size W W') : s.post enc P f false true false false W args (.bool true) W' := by
  have hW' := hW
  obtain ⟨p, q, hA, hV, rfl, hfz, hnd⟩ := hW
  rw [hvars] at hV
  have hq : q = [] := by
    cases gs with
    | nil => exact hV
    | cons g gs => exact hV.elim
  subst hq
  have hlt : ∀ x ∈ p, x.block < W.heap.size := fun x hx => by simpa using hW'.lt x (by simpa using hx)
  refine ⟨ds, gs, p ++ [], [], p, [], hW', ?_, ?_, ?_, hbelow.frame _, fun h => by cases h⟩
  · rw [h1, hres]
    exact trodAll_cons_mk (shut_bool hb _) trodAll_mk0
  · rw [h2]
    exact trodAll_below hl hbelow _ _ _ _ hr hA hlt
  · rw [h3, hvars]; rfl
end
end Go.Proofs.YtjhkihkiebnpaaaGreatDoor
