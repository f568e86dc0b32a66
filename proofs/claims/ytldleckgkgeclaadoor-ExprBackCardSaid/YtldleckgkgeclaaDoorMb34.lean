/-
  The reference's reader of brackets: it ends with a refusal, or with some tree in new memory.
-/
import Derived.Test.YtldleckgkgeclaaDoorMb8
import Derived.Test.YtldleckgkgeclaaDoorMb33
set_option linter.unusedVariables false
set_option linter.unusedSimpArgs false
namespace Go.Proofs.YtldleckgkgeclaaDoor
open Go.RowKit
set_option maxRecDepth 100000 in
set_option maxHeartbeats 40000000 in
theorem read7_deep (s : ByteArray) (w : World) : Calls Tryd.prog 10 #[.string s] w fun e w' => ReadEnd7 w e w' ∧ Below w.heap.size w w' := by
  obtain ⟨w1, ew1⟩ : ∃ w1, w1 = w.alloc (.cells #[.int .i64 0, .string ⟨#[]⟩, .int .i64 0, .slice none 0 0, .int .i64 0] 34) := ⟨_, rfl⟩
  have hb1 : Below w.heap.size w w1 := by rw [ew1]; exact (Below.refl _ _).alloc (Nat.le_refl _) _
  have hws : w1.heap.size = w.heap.size + 1 := by rw [ew1]; simp
  have hB : Hid (w1.heap[w.heap.size]? = some (.cells #[.int .i64 0, .string ⟨#[]⟩, .int .i64 0, .slice none 0 0, .int .i64 0] 34 (0, 0))) := Lib.hid (by rw [ew1]; exact heap_alloc_new w _)
  have HB1 := Lib.hid hb1
  have HW1 := Lib.hid ew1
  cases h600 : decide (600 < (s.size : Int))
  · have hs : s.size ≤ 600 := by simp at h600; omega
    have hl0 := Lib.hid (fun c w => letter_any c w)
    have hd0 := Lib.hid (fun c w => digit_any c w)
    have hf0 := Lib.hid (fun p hp w => leaf_any s p hp hs w)
    have HO0 : Hid ((w1.alloc (.cells #[.int .i64 0, .string ⟨#[]⟩, .int .i64 0, .slice none 0 0, .int .i64 0] 34)).ownsRow w1.heap.size 34 5 (.slice (some ⟨w1.heap.size, 0, none⟩) 1 1) 1 (flatT [(zeroT, none, 0)])) :=
      Lib.hid ⟨rfl, .inr ⟨w1.heap.size, 1, _, rfl, Nat.le_refl _, heap_alloc_new w1 _, Nat.le_refl _, by decide, rfl, rfl⟩⟩
    have HB0 : Hid (Below w1.heap.size w1 (w1.alloc (.cells #[.int .i64 0, .string ⟨#[]⟩, .int .i64 0, .slice none 0 0, .int .i64 0] 34))) := Lib.hid ((Below.refl _ _).alloc (Nat.le_refl _) _)
    obtain ⟨i0, hi, hz0, hz1, hz2⟩ := info_parts tree7_info
    clear ew1 hb1
    go_enter Tryd.func10, Tryd.ntmps10
    go_upto_region 1 with (fail)
    rw [← HW1.out]
    go_upto_region 4 with (fail)
    go_wp2_with fail
    go_loopw [5, 6] (fun v i wr => ∃ (j m g cap : Nat) (ps : List TP), j ≤ s.size ∧ i = .int .i64 j ∧ v = .slice (some ⟨g, 0, none⟩) m cap ∧ 1 ≤ m ∧ m ≤ 13 ∧ ps.length = m ∧ wr.ownsRow w1.heap.size 34 5 v m (flatT ps) ∧
        Hid (∀ p ∈ ps, p.1.Open j ∧ p.1.kids.length ≤ p.2.2 ∧ XTK wr (fun k => w1.heap.size ≤ k ∧ k < wr.heap.size ∧ k ≠ g) p.2.1 p.1.kids) ∧ Below w1.heap.size w1 wr ∧ Hid (DeepAt ps)) (fun _ i _ => s.size - (intOf i).toNat)
    case atStart => exact ⟨0, 1, w1.heap.size, 1, [(zeroT, none, 0)], Nat.zero_le _, rfl, by rw [hws], Nat.le_refl _, by decide, rfl, by rw [← hws]; exact HO0.out, Lib.hid (fun p hp => by obtain rfl : p = (zeroT, none, 0) := (by simpa using hp); exact ⟨zeroT_open 0, Nat.le_refl _, .nil _⟩), HB0.out, Lib.hid DeepAt.one⟩
    case round =>
      obtain ⟨j, m, g, cap, ps, hj, rfl, rfl, hm1, hm2, hpl, hown, hxk, hb, hdp⟩ := hrel
      have HO := Lib.hid hown
      have HB := Lib.hid hb
      have HPL := Lib.hid hpl
      have hs1 := hb.size
      have hBw : Hid (wr.heap[w.heap.size]? = some (.cells #[.int .i64 0, .string ⟨#[]⟩, .int .i64 0, .slice none 0 0, .int .i64 0] 34 (0, 0))) := Lib.hid ((hb.block _ (by omega)).trans hB.out)
      clear hown hb hpl
      by_cases hlt : j < s.size
      · have hdj : decide (s.size ≤ j) = false := by simp; omega
        obtain ⟨cc, hcc⟩ : ∃ cc : Int, (s[j].toNat : Int) = cc := ⟨_, rfl⟩
        cases h32 : (cc == 32)
        · cases h10 : (cc == 10)
          · cases h41 : (cc == 41)
            · -- no closing sign
              have hLj : Hid (∀ w, Calls Tryd.prog 22 #[.int .u8 cc] w fun e w' => e = .returned (.bool (letB s[j])) ∧ w = w') := Lib.hid (fun w => by rw [← hcc]; exact hl0.out _ w)
              have hDj : Hid (∀ w, Calls Tryd.prog 23 #[.int .u8 cc] w fun e w' => e = .returned (.bool (digB s[j])) ∧ w = w') := Lib.hid (fun w => by rw [← hcc]; exact hd0.out _ w)
              have hbad : ∀ (h40 : (cc == 40) = false) (h34 : (cc == 34) = false) (h45 : (cc == 45) = false) (hl : letB s[j] = false) (hd : digB s[j] = false), True := fun _ _ _ _ _ => trivial
              by_cases hok : (cc == 40) = true ∨ (cc == 34) = true ∨ (cc == 45) = true ∨ letB s[j] = true ∨ digB s[j] = true
              · clear hbad
                go_upto_region 16 with (fail)
                go_cut [86] from 67 to 86 (fun r wx => r = .bool false ∧ wx = wr)
                case first =>
                  cases h40 : (cc == 40)
                  · as_aux_lemma =>
                    have h40' : (cc != 40) = true := by simp [bne, h40]
                    cases h34 : (cc == 34)
                    · have h34' : (cc != 34) = true := by simp [bne, h34]
                      cases h45 : (cc == 45)
                      · have h45' : (cc != 45) = true := by simp [bne, h45]
                        cases hlb : letB s[j]
                        · rw [hlb] at hLj
                          have hdb : digB s[j] = true := by simpa [h40, h34, h45, hlb] using hok
                          rw [hdb] at hDj
                          clear hok
                          go_wp2_with fail
                          refine (hLj.out _).mono ?_
                          rintro e w' ⟨rfl, rfl⟩
                          go_wp2_with fail
                          refine (hDj.out _).mono ?_
                          rintro e w' ⟨rfl, rfl⟩
                          go_wp2_with fail
                          go_meet
                          exact ⟨rfl, rfl⟩
                        · rw [hlb] at hLj
                          clear hok
                          go_wp2_with fail
                          refine (hLj.out _).mono ?_
                          rintro e w' ⟨rfl, rfl⟩
                          go_wp2_with fail
                          go_meet
                          exact ⟨rfl, rfl⟩
                      · have h45' : (cc != 45) = false := by simp [bne, h45]
                        clear hok
                        go_wp2_with fail
                        go_meet
                        exact ⟨rfl, rfl⟩
                    · have h34' : (cc != 34) = false := by simp [bne, h34]
                      clear hok
                      go_wp2_with fail
                      go_meet
                      exact ⟨rfl, rfl⟩
                  · as_aux_lemma =>
                    have h40' : (cc != 40) = false := by simp [bne, h40]
                    clear hok
                    go_wp2_with fail
                    go_meet
                    exact ⟨rfl, rfl⟩
                case rest =>
                  obtain ⟨rfl, hwc⟩ := hcut
                  obtain rfl : wr = wc := hwc.symm
                  clear hwc hok
                  obtain ⟨p0, hp0⟩ : ∃ p0, ps[0]? = some p0 := ⟨_, List.getElem?_eq_getElem (by rw [HPL.out]; omega)⟩
                  have hz3 : wr.cell? ⟨g, 3, none⟩ = some (.slice p0.2.1 p0.1.kids.length p0.2.2) := by simpa using (own_cells5 HO.out HPL.out hp0).2.2.2.1
                  clear hp0
                  generalize p0.1.kids.length = n0 at *
                  go_upto_region 18 with (fail)
                  go_cut [98] from 89 to 98 (fun r wx => (∃ b : Bool, r = .bool b) ∧ wx = wr)
                  case first =>
                    cases hm0 : ((m : Int) - 1 == 0)
                    · go_wp2_with fail
                      go_meet
                      exact ⟨⟨_, rfl⟩, rfl⟩
                    · go_wp2_with fail
                      go_meet
                      exact ⟨⟨_, rfl⟩, rfl⟩
                  case rest =>
                    obtain ⟨⟨bt, rfl⟩, hwc⟩ := hcut
                    obtain rfl : wr = wc := hwc.symm
                    clear hwc hz3 p0
                    cases bt
                    · cases h40 : (cc == 40)
                      · as_aux_lemma =>
                        have hlf := Lib.hid (hf0.out j hlt wr)
                        obtain ⟨m1, hm1'⟩ : ∃ m1, m = m1 + 1 := ⟨m - 1, by omega⟩
                        have e0 : (m : Int) - 1 = (m1 : Int) := by omega
                        have l1 : m1 < m := by omega
                        obtain ⟨pt, hpt⟩ : ∃ pt, ps[m1]? = some pt := ⟨_, List.getElem?_eq_getElem (by rw [HPL.out]; exact l1)⟩
                        have HPT := Lib.hid hpt
                        have HM1 := Lib.hid hm1'
                        have hcell := (own_cells5 HO.out HPL.out hpt).2.2.2.1
                        have hfroz := (own_cells5 HO.out HPL.out hpt).2.2.2.2.2
                        have HPK := Lib.hid (hxk.out pt (List.mem_of_getElem? hpt))
                        have hglt : g < wr.heap.size := ((HO.out).lt g rfl).2
                        have hgge : w1.heap.size ≤ g := ((HO.out).lt g rfl).1
                        clear hpt hm1'
                        obtain ⟨⟨tk, ts, tn, tl, ta⟩, A0, c0⟩ := pt
                        simp only [T.kids] at hcell HPK
                        obtain ⟨qs, hq1, hq2, hq3⟩ := kids_reads (B := wr.heap.size) (fun k hk => hk.2.1) HPK.out.2.2
                        have hkl : tl.length ≤ j := HPK.out.1.2.2.2.1
                        have HQ := Lib.hid (And.intro hq1 (And.intro hq2 hq3))
                        clear hq1 hq2 hq3
                        generalize htn : tl.length = n0 at *
                        go_upto_region 25 with (fail)
                        go_wp2_with fail
                        refine (hlf.out).mono ?_
                        rintro e w4 ⟨⟨lk, ln, la, lx, i2, why, at_, rfl, hi2, hlx, hl4, hn1, hn2, hji⟩, hb4⟩
                        have HB4 := Lib.hid hb4
                        have hs4 := hb4.size
                        have hBw4 : Hid (w4.heap[w.heap.size]? = some (.cells #[.int .i64 0, .string ⟨#[]⟩, .int .i64 0, .slice none 0 0, .int .i64 0] 34 (0, 0))) := Lib.hid ((hb4.block _ (by omega)).trans hBw.out)
                        clear hb4
                        cases hwy : (why != 0)
                        · obtain ⟨wq, ewq⟩ : ∃ wq, wq = w4.alloc (.cells #[.int .i64 lk, .string lx, .int .i64 ln, .slice none 0 0, .int .i64 la] 34) := ⟨_, rfl⟩
                          have hbq : Below w4.heap.size w4 wq := by rw [ewq]; exact (Below.refl _ _).alloc (Nat.le_refl _) _
                          have HBX : Hid (wq.heap[w4.heap.size]? = some (.cells #[.int .i64 lk, .string lx, .int .i64 ln, .slice none 0 0, .int .i64 la] 34 (0, 0))) := Lib.hid (by rw [ewq]; exact heap_alloc_new w4 _)
                          have hsq : wq.heap.size = w4.heap.size + 1 := by rw [ewq]; simp
                          have HEQ := Lib.hid ewq
                          have HBQ : Hid (Below wr.heap.size wr wq) := Lib.hid (HB4.out.trans (hbq.mono hs4))
                          have hcq : wq.cell? ⟨g, m1 * 5 + 3, none⟩ = some (.slice A0 n0 c0) := (HBQ.out.cell (p := ⟨g, m1 * 5 + 3, none⟩) hglt).trans hcell
                          have hfq : wq.frozen? ⟨g, m1 * 5 + 3, none⟩ = false := (HBQ.out.frozen (p := ⟨g, m1 * 5 + 3, none⟩) hglt).trans hfroz
                          have hgq : g < wq.heap.size := by omega
                          have hRq : Reads wq wr.heap.size 5 A0 n0 (flatT qs) := (HQ.out.2.1).below HBQ.out
                          have hE1 : Hid ((wq.alloc (.cells #[] 34)).drew.ownsRow wq.heap.size 34 5 (.slice (some ⟨wq.heap.size, 0, none⟩) 0 0) 0 []) := Lib.hid (own_empty wq 34 (Nat.le_refl _))
                          have hE2 : Hid (((wq.alloc (.cells #[] 34)).alloc (.cells #[.int .i64 lk, .string lx, .int .i64 ln, .slice none 0 0, .int .i64 la] 34)).drew.ownsRow wq.heap.size 34 5 (.slice (some ⟨wq.heap.size, 0, none⟩) 0 0) 0 []) := Lib.hid ((own_empty wq 34 (Nat.le_refl _)).alloc _)
                          have hE3 : Hid (((wq.alloc (.cells #[.int .i64 lk, .string lx, .int .i64 ln, .slice none 0 0, .int .i64 la] 34)).alloc (.cells #[] 34)).drew.ownsRow wq.heap.size 34 5 (.slice (some ⟨wq.heap.size + 1, 0, none⟩) 0 0) 0 []) := Lib.hid (own_empty_at (wq.alloc (.cells #[.int .i64 lk, .string lx, .int .i64 ln, .slice none 0 0, .int .i64 la] 34)) 34 (by simp) (by simp))
                          have hBE1 : Hid (Below wq.heap.size wq (wq.alloc (.cells #[] 34)).drew) := Lib.hid (((Below.refl wq.heap.size wq).alloc (Nat.le_refl _) _).drew)
                          have hBE2 : Hid (Below wq.heap.size wq ((wq.alloc (.cells #[] 34)).alloc (.cells #[.int .i64 lk, .string lx, .int .i64 ln, .slice none 0 0, .int .i64 la] 34)).drew) := Lib.hid ((((Below.refl wq.heap.size wq).alloc (Nat.le_refl _) _).alloc (by simp) _).drew)
                          have hBE3 : Hid (Below wq.heap.size wq ((wq.alloc (.cells #[.int .i64 lk, .string lx, .int .i64 ln, .slice none 0 0, .int .i64 la] 34)).alloc (.cells #[] 34)).drew) := Lib.hid ((((Below.refl wq.heap.size wq).alloc (Nat.le_refl _) _).alloc (by simp) _).drew)
                          have hR1 := Lib.hid (hRq.below (hBE1.out.mono (B := wq.heap.size) (by omega)))
                          have hR2 := Lib.hid (hRq.below (hBE2.out.mono (B := wq.heap.size) (by omega)))
                          have hR3 := Lib.hid (hRq.below (hBE3.out.mono (B := wq.heap.size) (by omega)))
                          have hX2 : Hid (((wq.alloc (.cells #[] 34)).alloc (.cells #[.int .i64 lk, .string lx, .int .i64 ln, .slice none 0 0, .int .i64 la] 34)).drew.heap[wq.heap.size + 1]? = some (.cells #[.int .i64 lk, .string lx, .int .i64 ln, .slice none 0 0, .int .i64 la] 34 (0, 0))) := Lib.hid (alloc_at (wq.alloc (.cells #[] 34)) (.cells #[.int .i64 lk, .string lx, .int .i64 ln, .slice none 0 0, .int .i64 la] 34) (by simp))
                          have hX3 : Hid (((wq.alloc (.cells #[.int .i64 lk, .string lx, .int .i64 ln, .slice none 0 0, .int .i64 la] 34)).alloc (.cells #[] 34)).drew.heap[wq.heap.size]? = some (.cells #[.int .i64 lk, .string lx, .int .i64 ln, .slice none 0 0, .int .i64 la] 34 (0, 0))) := Lib.hid ((((Below.refl (wq.heap.size + 1) (wq.alloc (.cells #[.int .i64 lk, .string lx, .int .i64 ln, .slice none 0 0, .int .i64 la] 34))).alloc (by simp) _).block _ (by omega)).trans (heap_alloc_new wq _))
                          have hcA : (wq.alloc (.cells #[] 34)).cell? ⟨g, m1 * 5 + 3, none⟩ = some (.slice A0 n0 c0) := (hBE1.out.cell (p := ⟨g, m1 * 5 + 3, none⟩) hgq).trans hcq
                          have hcB : (wq.alloc (.cells #[.int .i64 lk, .string lx, .int .i64 ln, .slice none 0 0, .int .i64 la] 34)).cell? ⟨g, m1 * 5 + 3, none⟩ = some (.slice A0 n0 c0) := (((Below.refl wq.heap.size wq).alloc (Nat.le_refl _) _).cell (p := ⟨g, m1 * 5 + 3, none⟩) hgq).trans hcq
                          have hcC : ((wq.alloc (.cells #[] 34)).alloc (.cells #[.int .i64 lk, .string lx, .int .i64 ln, .slice none 0 0, .int .i64 la] 34)).cell? ⟨g, m1 * 5 + 3, none⟩ = some (.slice A0 n0 c0) := (hBE2.out.cell (p := ⟨g, m1 * 5 + 3, none⟩) hgq).trans hcq
                          have hcD : ((wq.alloc (.cells #[.int .i64 lk, .string lx, .int .i64 ln, .slice none 0 0, .int .i64 la] 34)).alloc (.cells #[] 34)).cell? ⟨g, m1 * 5 + 3, none⟩ = some (.slice A0 n0 c0) := (hBE3.out.cell (p := ⟨g, m1 * 5 + 3, none⟩) hgq).trans hcq
                          obtain ⟨⟨x0, x1, x2, x3, x4⟩, _, _, _, _, _⟩ := cell5 (((hBE1.out.block w4.heap.size (by omega)).trans HBX.out : (wq.alloc (.cells #[] 34)).heap[w4.heap.size]? = _))
                          obtain ⟨⟨y0, y1, y2, y3, y4⟩, z0, z1, z2, z3, z4⟩ := cell5 HBX.out
                          go_upto_region 28 with (fail)
                          rw [← HEQ.out]
                          have hw4q : w4.heap.size < wq.heap.size := by omega
                          have HSQ := Lib.hid hsq
                          have HWS := Lib.hid hws
                          clear ewq hbq hcell hfroz hsq
                          have hSB : Hid (∀ w', Below wq.heap.size wq w' → w'.cell? ⟨g, m1 * 5 + 3, none⟩ = some (.slice A0 n0 c0) ∧ w'.cell? ⟨w4.heap.size, 0, none⟩ = some (.int .i64 lk) ∧ w'.cell? ⟨w4.heap.size, 1, none⟩ = some (.string lx) ∧ w'.cell? ⟨w4.heap.size, 2, none⟩ = some (.int .i64 ln) ∧ w'.cell? ⟨w4.heap.size, 3, none⟩ = some (.slice none 0 0) ∧ w'.cell? ⟨w4.heap.size, 4, none⟩ = some (.int .i64 la)) := Lib.hid (fun w' hb => ⟨(hb.cell (p := ⟨g, m1 * 5 + 3, none⟩) hgq).trans hcq, (hb.cell (p := ⟨w4.heap.size, 0, none⟩) hw4q).trans y0, (hb.cell (p := ⟨w4.heap.size, 1, none⟩) hw4q).trans y1, (hb.cell (p := ⟨w4.heap.size, 2, none⟩) hw4q).trans y2, (hb.cell (p := ⟨w4.heap.size, 3, none⟩) hw4q).trans y3, (hb.cell (p := ⟨w4.heap.size, 4, none⟩) hw4q).trans y4⟩)
                          refine LastKit.wp_region_last (fun w' => w'.cell? ⟨g, m1 * 5 + 3, none⟩ = some (.slice A0 n0 c0) ∧ w'.cell? ⟨w4.heap.size, 0, none⟩ = some (.int .i64 lk) ∧ w'.cell? ⟨w4.heap.size, 1, none⟩ = some (.string lx) ∧ w'.cell? ⟨w4.heap.size, 2, none⟩ = some (.int .i64 ln) ∧ w'.cell? ⟨w4.heap.size, 3, none⟩ = some (.slice none 0 0) ∧ w'.cell? ⟨w4.heap.size, 4, none⟩ = some (.int .i64 la)) 14 (by kernel_rfl) (hSB.out _ (Below.refl _ _).drew) (fun hHeld => ?_)
                          refine LastKit.wpAnyK_take (i := 0) (C := [0, 12, 13, 14]) (v := ?v28_1) rfl (by kernel_rfl) (by kernel_rfl) (by kernel_rfl) (by kernel_rfl) (fun _ _ _ h => h) (Or.inl ⟨by rfl, ?hy28_1⟩) (by assumption) ?_
                          case hy28_1 => (intro w1 hSw; (try dsimp only at hSw); go_simp; try with_reducible rfl)
                          simp only [List.getElem_toArray, List.getElem_cons_zero, Act.put, List.setIfInBounds_toArray, List.set_cons_zero, List.set_cons_succ]
                          refine LastKit.wpAnyK_take (i := 1) (C := [1, 12, 13, 14]) (v := ?v28_2) rfl (by kernel_rfl) (by kernel_rfl) (by kernel_rfl) (by kernel_rfl) (fun _ _ _ h => h) (Or.inl ⟨by rfl, ?hy28_2⟩) (by assumption) ?_
                          case hy28_2 => (intro w1 hSw; (try dsimp only at hSw); go_simp; try with_reducible rfl)
                          simp only [List.getElem_toArray, List.getElem_cons_succ, List.getElem_cons_zero, Act.put, List.setIfInBounds_toArray, List.set_cons_zero, List.set_cons_succ]
                          refine LastKit.wpAnyK_take (i := 3) (C := [3, 5, 6, 7, 8, 11, 14]) (v := ?v28_3) rfl (by kernel_rfl) (by kernel_rfl) (by kernel_rfl) (by kernel_rfl) (fun _ _ _ h => h) (Or.inl ⟨by rfl, ?hy28_3⟩) (by assumption) ?_
                          case hy28_3 => (intro w1 hSw; (try dsimp only at hSw); go_simp; try with_reducible rfl)
                          simp only [List.getElem_toArray, List.getElem_cons_succ, List.getElem_cons_zero, Act.put, List.setIfInBounds_toArray, List.set_cons_zero, List.set_cons_succ]
                          refine LastKit.wpAnyK_take (i := 4) (C := [4, 5, 6, 7, 8, 11, 14]) (v := ?v28_4) rfl (by kernel_rfl) (by kernel_rfl) (by kernel_rfl) (by kernel_rfl) (fun _ _ _ h => h) (Or.inl ⟨by rfl, ?hy28_4⟩) (by assumption) ?_
                          case hy28_4 => (intro w1 hSw; (try dsimp only at hSw); go_simp; try with_reducible rfl)
                          simp only [List.getElem_toArray, List.getElem_cons_succ, List.getElem_cons_zero, Act.put, List.setIfInBounds_toArray, List.set_cons_zero, List.set_cons_succ]
                          refine LastKit.wpAnyK_take (i := 5) (C := [5, 6, 7, 8, 11, 14]) (v := ?v28_5) rfl (by kernel_rfl) (by kernel_rfl) (by kernel_rfl) (by kernel_rfl) (fun _ _ _ h => h) (Or.inl ⟨by rfl, ?hy28_5⟩) (by assumption) ?_
                          case hy28_5 => (intro w1 hSw; (try dsimp only at hSw); go_simp; try with_reducible rfl)
                          simp only [List.getElem_toArray, List.getElem_cons_succ, List.getElem_cons_zero, Act.put, List.setIfInBounds_toArray, List.set_cons_zero, List.set_cons_succ]
                          refine LastKit.wpAnyK_take (i := 6) (C := [6, 7, 8, 11, 14]) (v := ?v28_6) rfl (by kernel_rfl) (by kernel_rfl) (by kernel_rfl) (by kernel_rfl) (fun _ _ _ h => h) (Or.inl ⟨by rfl, ?hy28_6⟩) (by assumption) ?_
                          case hy28_6 => (intro w1 hSw; (try dsimp only at hSw); go_simp; try with_reducible rfl)
                          simp only [List.getElem_toArray, List.getElem_cons_succ, List.getElem_cons_zero, Act.put, List.setIfInBounds_toArray, List.set_cons_zero, List.set_cons_succ]
                          refine LastKit.wpAnyK_take (i := 7) (C := [7, 8, 11, 14]) (v := ?v28_7) rfl (by kernel_rfl) (by kernel_rfl) (by kernel_rfl) (by kernel_rfl) (fun _ _ _ h => h) (Or.inl ⟨by rfl, ?hy28_7⟩) (by assumption) ?_
                          case hy28_7 => (intro w1 hSw; (try dsimp only at hSw); go_simp; try with_reducible rfl)
                          simp only [List.getElem_toArray, List.getElem_cons_succ, List.getElem_cons_zero, Act.put, List.setIfInBounds_toArray, List.set_cons_zero, List.set_cons_succ]
                          refine LastKit.wpAnyK_take (i := 9) (C := [9, 10, 11, 14]) (v := ?v28_8) rfl (by kernel_rfl) (by kernel_rfl) (by kernel_rfl) (by kernel_rfl) (fun _ _ _ h => h) (Or.inl ⟨by rfl, ?hy28_8⟩) (by assumption) ?_
                          case hy28_8 => (intro w1 hSw; (try dsimp only at hSw); go_simp; try with_reducible rfl)
                          simp only [List.getElem_toArray, List.getElem_cons_succ, List.getElem_cons_zero, Act.put, List.setIfInBounds_toArray, List.set_cons_zero, List.set_cons_succ]
                          refine LastKit.wpAnyK_ready (rs := [2, 10]) (by kernel_rfl) (by simp) ?_
                          refine LastKit.AllReadyK.cons rfl (fun K hK => ?_) (LastKit.AllReadyK.cons rfl (fun K hK => ?_) LastKit.AllReadyK.nil)
                          refine step_build0 _ rfl rfl ?_
                          refine hK.out _ _ (hSB.out _ hBE1.out) (fun hHeld => ?_)
                          clear hK K
                          simp only [List.getElem_toArray, List.getElem_cons_succ, List.getElem_cons_zero, Act.put, List.setIfInBounds_toArray, List.set_cons_zero, List.set_cons_succ, World.size_alloc, World.size_drew]
                          refine LastKit.wpAnyK_ready (rs := [8, 10]) (by kernel_rfl) (by simp) ?_
                          refine LastKit.AllReadyK.cons rfl (fun K hK => ?_) (LastKit.AllReadyK.cons rfl (fun K hK => ?_) LastKit.AllReadyK.nil)
                          refine step_append_any _ rfl _ _ 32 rfl wq.heap.size 34 i0 _ 5 64 Tryd.underlying32 hi hz0 hz1 hz2 rfl (by decide) _ _ _ rfl hE1.out wr.heap.size A0 n0 c0 (flatT qs) rfl hR1.out (flatT_ones _) ?a1 ?a2 ?a3 ?_
                          case a1 => (unfold maxLen; omega)
                          case a2 => omega
                          case a3 => (first | omega | (simp; done) | (simp; omega))
                          intro v5 w5 hown5 hgrow5 hat5
                          have HO5 : Hid (w5.ownsRow wq.heap.size 34 5 v5 n0 (flatT qs)) := Lib.hid (by rw [Nat.zero_add, List.nil_append] at hown5; exact hown5)
                          have HB5 : Hid (Below wq.heap.size wq w5) := Lib.hid (hBE1.out.grown hgrow5 hBE1.out.size (fun k e => by have he : wq.heap.size + 0 = k := Option.some.inj e; omega))
                          have hs5 := HB5.out.size
                          clear hown5 hgrow5 hat5
                          refine hK.out _ _ (hSB.out _ HB5.out) (fun hHeld => ?_)
                          clear hK K
                          simp only [List.getElem_toArray, List.getElem_cons_succ, List.getElem_cons_zero, Act.put, List.setIfInBounds_toArray, List.set_cons_zero, List.set_cons_succ]
                          refine LastKit.wpAnyK_ready (rs := [10]) (by kernel_rfl) (by simp) ?_
                          refine LastKit.AllReadyK.cons rfl (fun K hK => ?_) LastKit.AllReadyK.nil
                          refine step_build5 _ rfl 138 rfl lk ln la lx none 0 0 rfl ?_
                          refine hK.out _ _ (hSB.out _ (HB5.out.alloc hs5 _)) (fun hHeld => ?_)
                          clear hK K
                          simp only [List.getElem_toArray, List.getElem_cons_succ, List.getElem_cons_zero, Act.put, List.setIfInBounds_toArray, List.set_cons_zero, List.set_cons_succ, World.size_alloc, World.size_drew]
                          refine LastKit.wpAnyK_ready (rs := [11]) (by kernel_rfl) (by simp) ?_
                          refine LastKit.AllReadyK.cons rfl (fun K hK => ?_) LastKit.AllReadyK.nil
                          refine step_append_any _ rfl _ _ 32 rfl wq.heap.size 34 i0 _ 5 64 Tryd.underlying32 hi hz0 hz1 hz2 rfl (by decide) _ _ _ rfl (HO5.out.alloc _) (w5.heap.size + 1) _ _ _ (TP.cs ((.mk lk lx ln [] la : T), none, 0)) rfl ⟨rfl, fun _ => ⟨_, rfl, Nat.lt_succ_self _, World.news_of_block (heap_alloc_new w5 _)⟩⟩ ?b1 ?b2 ?b3 ?b4 ?_
                          case b1 => (rw [← flatT_one]; exact flatT_ones _)
                          case b2 => (unfold maxLen; omega)
                          case b3 => omega
                          case b4 => (first | omega | (simp; done) | (simp; omega))
                          intro v6 w6 hown6 hgrow6 hat6
                          obtain ⟨g6, cap6, rfl, hg6a, hg6b⟩ := hown6.form (Nat.succ_pos _)
                          have HO6 := Lib.hid hown6
                          have HB6 : Hid (Below wq.heap.size wq w6) := Lib.hid ((HB5.out.alloc hs5 _).grown hgrow6 (HB5.out.alloc hs5 _).size (fun k e => (HO5.out.lt k e).1))
                          have hc6 : w6.cell? ⟨g, m1 * 5 + 3, none⟩ = some (.slice A0 n0 c0) := (HB6.out.cell (p := ⟨g, m1 * 5 + 3, none⟩) hgq).trans hcq
                          have hf6 : w6.frozen? ⟨g, m1 * 5 + 3, none⟩ = false := (HB6.out.frozen (p := ⟨g, m1 * 5 + 3, none⟩) hgq).trans hfq
                          clear hown6 hgrow6 hat6
                          refine hK.out _ _ (hSB.out _ HB6.out) (fun hHeld => ?_)
                          clear hK K
                          simp only [List.getElem_toArray, List.getElem_cons_succ, List.getElem_cons_zero, Act.put, List.setIfInBounds_toArray, List.set_cons_zero, List.set_cons_succ]
                          refine LastKit.wpAnyK_take (i := 12) (C := [12, 13, 14]) (v := ?v28_9) rfl (by kernel_rfl) (by kernel_rfl) (by kernel_rfl) (by kernel_rfl) (fun _ _ _ h => h) (Or.inl ⟨by rfl, ?hy28_9⟩) (by assumption) ?_
                          case hy28_9 => (intro w1 hSw; (try dsimp only at hSw); go_simp; try with_reducible rfl)
                          simp only [List.getElem_toArray, List.getElem_cons_succ, List.getElem_cons_zero, Act.put, List.setIfInBounds_toArray, List.set_cons_zero, List.set_cons_succ]
                          refine LastKit.wpAnyK_take (i := 13) (C := [13, 14]) (v := ?v28_10) rfl (by kernel_rfl) (by kernel_rfl) (by kernel_rfl) (by kernel_rfl) (fun _ _ _ h => h) (Or.inl ⟨by rfl, ?hy28_10⟩) (by assumption) ?_
                          case hy28_10 => (intro w1 hSw; (try dsimp only at hSw); go_simp; try with_reducible rfl)
                          simp only [List.getElem_toArray, List.getElem_cons_succ, List.getElem_cons_zero, Act.put, List.setIfInBounds_toArray, List.set_cons_zero, List.set_cons_succ]
                          refine LastKit.wpAnyK_ready (rs := [14]) (by kernel_rfl) (by simp) ?_
                          refine LastKit.AllReadyK.last rfl (fun K hK => ?_)
                          simp only [List.getElem_toArray, List.getElem_cons_succ, List.getElem_cons_zero]
                          go_simp
                          refine hK.out _ _ ?_
                          clear hK K
                          refine LastKit.wpAnyK_done (by kernel_rfl) ?_ _
                          rotate_left
                          refine step_build5 _ rfl 138 rfl lk ln la lx none 0 0 rfl ?_
                          refine hK.out _ _ (hSB.out _ hBE2.out) (fun hHeld => ?_)
                          clear hK K
                          simp only [List.getElem_toArray, List.getElem_cons_succ, List.getElem_cons_zero, Act.put, List.setIfInBounds_toArray, List.set_cons_zero, List.set_cons_succ, World.size_alloc, World.size_drew]
                          refine LastKit.wpAnyK_ready (rs := [8]) (by kernel_rfl) (by simp) ?_
                          refine LastKit.AllReadyK.cons rfl (fun K hK => ?_) LastKit.AllReadyK.nil
                          refine step_append_any _ rfl _ _ 32 rfl wq.heap.size 34 i0 _ 5 64 Tryd.underlying32 hi hz0 hz1 hz2 rfl (by decide) _ _ _ rfl hE2.out wr.heap.size A0 n0 c0 (flatT qs) rfl hR2.out (flatT_ones _) ?a1 ?a2 ?a3 ?_
                          case a1 => (unfold maxLen; omega)
                          case a2 => omega
                          case a3 => (first | omega | (simp; done) | (simp; omega))
                          intro v5 w5 hown5 hgrow5 hat5
                          have HO5 : Hid (w5.ownsRow wq.heap.size 34 5 v5 n0 (flatT qs)) := Lib.hid (by rw [Nat.zero_add, List.nil_append] at hown5; exact hown5)
                          have HB5 : Hid (Below wq.heap.size wq w5) := Lib.hid (hBE2.out.grown hgrow5 hBE2.out.size (fun k e => by have he : wq.heap.size + 0 = k := Option.some.inj e; omega))
                          have hs5 := HB5.out.size
                          have HX5 := Lib.hid ((hgrow5.block (wq.heap.size + 1) (by first | omega | (simp; done) | (simp; omega)) (fun e => by have he : wq.heap.size + 1 = wq.heap.size := Option.some.inj e; omega)).trans hX2.out)
                          clear hown5 hgrow5 hat5
                          refine hK.out _ _ (hSB.out _ HB5.out) (fun hHeld => ?_)
                          clear hK K
                          simp only [List.getElem_toArray, List.getElem_cons_succ, List.getElem_cons_zero, Act.put, List.setIfInBounds_toArray, List.set_cons_zero, List.set_cons_succ]
                          refine LastKit.wpAnyK_ready (rs := [11]) (by kernel_rfl) (by simp) ?_
                          refine LastKit.AllReadyK.cons rfl (fun K hK => ?_) LastKit.AllReadyK.nil
                          refine step_append_any _ rfl _ _ 32 rfl wq.heap.size 34 i0 _ 5 64 Tryd.underlying32 hi hz0 hz1 hz2 rfl (by decide) _ _ _ rfl HO5.out (wq.heap.size + 1 + 1) _ _ _ (TP.cs ((.mk lk lx ln [] la : T), none, 0)) rfl ⟨rfl, fun _ => ⟨_, rfl, Nat.lt_succ_self _, World.news_of_block HX5.out⟩⟩ ?b1 ?b2 ?b3 ?b4 ?_
                          case b1 => (rw [← flatT_one]; exact flatT_ones _)
                          case b2 => (unfold maxLen; omega)
                          case b3 => omega
                          case b4 => (first | omega | (simp; done) | (simp; omega))
                          intro v6 w6 hown6 hgrow6 hat6
                          obtain ⟨g6, cap6, rfl, hg6a, hg6b⟩ := hown6.form (Nat.succ_pos _)
                          have HO6 := Lib.hid hown6
                          have HB6 : Hid (Below wq.heap.size wq w6) := Lib.hid (HB5.out.grown hgrow6 HB5.out.size (fun k e => (HO5.out.lt k e).1))
                          have hc6 : w6.cell? ⟨g, m1 * 5 + 3, none⟩ = some (.slice A0 n0 c0) := (HB6.out.cell (p := ⟨g, m1 * 5 + 3, none⟩) hgq).trans hcq
                          have hf6 : w6.frozen? ⟨g, m1 * 5 + 3, none⟩ = false := (HB6.out.frozen (p := ⟨g, m1 * 5 + 3, none⟩) hgq).trans hfq
                          clear hown6 hgrow6 hat6
                          refine hK.out _ _ (hSB.out _ HB6.out) (fun hHeld => ?_)
                          clear hK K
                          simp only [List.getElem_toArray, List.getElem_cons_succ, List.getElem_cons_zero, Act.put, List.setIfInBounds_toArray, List.set_cons_zero, List.set_cons_succ]
                          refine LastKit.wpAnyK_take (i := 12) (C := [12, 13, 14]) (v := ?v28_11) rfl (by kernel_rfl) (by kernel_rfl) (by kernel_rfl) (by kernel_rfl) (fun _ _ _ h => h) (Or.inl ⟨by rfl, ?hy28_11⟩) (by assumption) ?_
                          case hy28_11 => (intro w1 hSw; (try dsimp only at hSw); go_simp; try with_reducible rfl)
                          simp only [List.getElem_toArray, List.getElem_cons_succ, List.getElem_cons_zero, Act.put, List.setIfInBounds_toArray, List.set_cons_zero, List.set_cons_succ]
                          refine LastKit.wpAnyK_take (i := 13) (C := [13, 14]) (v := ?v28_12) rfl (by kernel_rfl) (by kernel_rfl) (by kernel_rfl) (by kernel_rfl) (fun _ _ _ h => h) (Or.inl ⟨by rfl, ?hy28_12⟩) (by assumption) ?_
                          case hy28_12 => (intro w1 hSw; (try dsimp only at hSw); go_simp; try with_reducible rfl)
                          simp only [List.getElem_toArray, List.getElem_cons_succ, List.getElem_cons_zero, Act.put, List.setIfInBounds_toArray, List.set_cons_zero, List.set_cons_succ]
                          refine LastKit.wpAnyK_ready (rs := [14]) (by kernel_rfl) (by simp) ?_
                          refine LastKit.AllReadyK.last rfl (fun K hK => ?_)
                          simp only [List.getElem_toArray, List.getElem_cons_succ, List.getElem_cons_zero]
                          go_simp
                          refine hK.out _ _ ?_
                          clear hK K
                          refine LastKit.wpAnyK_done (by kernel_rfl) ?_ _
                          rotate_left
                          refine step_build5 _ rfl 138 rfl lk ln la lx none 0 0 rfl ?_
                          refine hK.out _ _ (hSB.out _ (((Below.refl wq.heap.size wq).alloc (Nat.le_refl _) _).drew)) (fun hHeld => ?_)
                          clear hK K
                          simp only [List.getElem_toArray, List.getElem_cons_succ, List.getElem_cons_zero, Act.put, List.setIfInBounds_toArray, List.set_cons_zero, List.set_cons_succ, World.size_alloc, World.size_drew]
                          refine LastKit.wpAnyK_ready (rs := [2]) (by kernel_rfl) (by simp) ?_
                          refine LastKit.AllReadyK.cons rfl (fun K hK => ?_) LastKit.AllReadyK.nil
                          refine step_build0 _ rfl rfl ?_
                          refine hK.out _ _ (hSB.out _ hBE3.out) (fun hHeld => ?_)
                          clear hK K
                          simp only [List.getElem_toArray, List.getElem_cons_succ, List.getElem_cons_zero, Act.put, List.setIfInBounds_toArray, List.set_cons_zero, List.set_cons_succ, World.size_alloc, World.size_drew]
                          refine LastKit.wpAnyK_ready (rs := [8]) (by kernel_rfl) (by simp) ?_
                          refine LastKit.AllReadyK.cons rfl (fun K hK => ?_) LastKit.AllReadyK.nil
                          refine step_append_any _ rfl _ _ 32 rfl wq.heap.size 34 i0 _ 5 64 Tryd.underlying32 hi hz0 hz1 hz2 rfl (by decide) _ _ _ rfl hE3.out wr.heap.size A0 n0 c0 (flatT qs) rfl hR3.out (flatT_ones _) ?a1 ?a2 ?a3 ?_
                          case a1 => (unfold maxLen; omega)
                          case a2 => omega
                          case a3 => (first | omega | (simp; done) | (simp; omega))
                          intro v5 w5 hown5 hgrow5 hat5
                          have HO5 : Hid (w5.ownsRow wq.heap.size 34 5 v5 n0 (flatT qs)) := Lib.hid (by rw [Nat.zero_add, List.nil_append] at hown5; exact hown5)
                          have HB5 : Hid (Below wq.heap.size wq w5) := Lib.hid (hBE3.out.grown hgrow5 hBE3.out.size (fun k e => by have he : wq.heap.size + 1 = k := Option.some.inj e; omega))
                          have hs5 := HB5.out.size
                          have HX5 := Lib.hid ((hgrow5.block wq.heap.size (by first | omega | (simp; done) | (simp; omega)) (fun e => by have he : wq.heap.size = wq.heap.size + 1 := Option.some.inj e; omega)).trans hX3.out)
                          clear hown5 hgrow5 hat5
                          refine hK.out _ _ (hSB.out _ HB5.out) (fun hHeld => ?_)
                          clear hK K
                          simp only [List.getElem_toArray, List.getElem_cons_succ, List.getElem_cons_zero, Act.put, List.setIfInBounds_toArray, List.set_cons_zero, List.set_cons_succ]
                          refine LastKit.wpAnyK_ready (rs := [11]) (by kernel_rfl) (by simp) ?_
                          refine LastKit.AllReadyK.cons rfl (fun K hK => ?_) LastKit.AllReadyK.nil
                          refine step_append_any _ rfl _ _ 32 rfl wq.heap.size 34 i0 _ 5 64 Tryd.underlying32 hi hz0 hz1 hz2 rfl (by decide) _ _ _ rfl HO5.out (wq.heap.size + 1) _ _ _ (TP.cs ((.mk lk lx ln [] la : T), none, 0)) rfl ⟨rfl, fun _ => ⟨_, rfl, Nat.lt_succ_self _, World.news_of_block HX5.out⟩⟩ ?b1 ?b2 ?b3 ?b4 ?_
                          case b1 => (rw [← flatT_one]; exact flatT_ones _)
                          case b2 => (unfold maxLen; omega)
                          case b3 => omega
                          case b4 => (first | omega | (simp; done) | (simp; omega))
                          intro v6 w6 hown6 hgrow6 hat6
                          obtain ⟨g6, cap6, rfl, hg6a, hg6b⟩ := hown6.form (Nat.succ_pos _)
                          have HO6 := Lib.hid hown6
                          have HB6 : Hid (Below wq.heap.size wq w6) := Lib.hid (HB5.out.grown hgrow6 HB5.out.size (fun k e => (HO5.out.lt k e).1))
                          have hc6 : w6.cell? ⟨g, m1 * 5 + 3, none⟩ = some (.slice A0 n0 c0) := (HB6.out.cell (p := ⟨g, m1 * 5 + 3, none⟩) hgq).trans hcq
                          have hf6 : w6.frozen? ⟨g, m1 * 5 + 3, none⟩ = false := (HB6.out.frozen (p := ⟨g, m1 * 5 + 3, none⟩) hgq).trans hfq
                          clear hown6 hgrow6 hat6
                          refine hK.out _ _ (hSB.out _ HB6.out) (fun hHeld => ?_)
                          clear hK K
                          simp only [List.getElem_toArray, List.getElem_cons_succ, List.getElem_cons_zero, Act.put, List.setIfInBounds_toArray, List.set_cons_zero, List.set_cons_succ]
                          refine LastKit.wpAnyK_take (i := 12) (C := [12, 13, 14]) (v := ?v28_13) rfl (by kernel_rfl) (by kernel_rfl) (by kernel_rfl) (by kernel_rfl) (fun _ _ _ h => h) (Or.inl ⟨by rfl, ?hy28_13⟩) (by assumption) ?_
                          case hy28_13 => (intro w1 hSw; (try dsimp only at hSw); go_simp; try with_reducible rfl)
                          simp only [List.getElem_toArray, List.getElem_cons_succ, List.getElem_cons_zero, Act.put, List.setIfInBounds_toArray, List.set_cons_zero, List.set_cons_succ]
                          refine LastKit.wpAnyK_take (i := 13) (C := [13, 14]) (v := ?v28_14) rfl (by kernel_rfl) (by kernel_rfl) (by kernel_rfl) (by kernel_rfl) (fun _ _ _ h => h) (Or.inl ⟨by rfl, ?hy28_14⟩) (by assumption) ?_
                          case hy28_14 => (intro w1 hSw; (try dsimp only at hSw); go_simp; try with_reducible rfl)
                          simp only [List.getElem_toArray, List.getElem_cons_succ, List.getElem_cons_zero, Act.put, List.setIfInBounds_toArray, List.set_cons_zero, List.set_cons_succ]
                          refine LastKit.wpAnyK_ready (rs := [14]) (by kernel_rfl) (by simp) ?_
                          refine LastKit.AllReadyK.last rfl (fun K hK => ?_)
                          simp only [List.getElem_toArray, List.getElem_cons_succ, List.getElem_cons_zero]
                          go_simp
                          refine hK.out _ _ ?_
                          clear hK K
                          refine LastKit.wpAnyK_done (by kernel_rfl) ?_ _
                          rotate_left
                          all_goals
                            have hwy0 : why = 0 := by simpa using hwy
                            have hji' : j < i2 := hji hwy0
                            clear hwy0
                            go_wp2_with fail
                            go_roundw
                            case measure => simp [intOf]; omega
                            case rel =>
                              obtain ⟨r1, r2⟩ := kid_round (x := ((.mk lk lx ln [] la : T), none, 0)) (n1 := n0 + 1) (m1 := m1) (i2 := i2) HO.out HPL.out HPT.out hxk.out (HBQ.out.trans (HB6.out.mono HBQ.out.size)) HQ.out.1 HQ.out.2.2 (.mk lk lx ln [] la hn1 hn2 hlx hl4 (by simp) (fun e he => by cases he)) ⟨Nat.le_refl _, .nil _⟩ HO6.out HBQ.out.size (by rw [htn]) (by omega) (by omega) (by omega) hs1
                              exact ⟨i2, m, g, cap, _, hi2, rfl, rfl, hm1, hm2, by rw [List.length_set]; exact HPL.out, r1, Lib.hid r2, (HB.out.trans ((HBQ.out.trans (HB6.out.mono HBQ.out.size)).mono hs1)).setCell (p := ⟨g, m1 * 5 + 3, none⟩) hgge _, Lib.hid (hdp.out.kid HPT.out (.leaf (by have := HM1.out; omega) _ _ _ _))⟩
                        · have hBw5 : Hid ((w4.alloc (.cells #[.int .i64 lk, .string lx, .int .i64 ln, .slice none 0 0, .int .i64 la] 34)).heap[w.heap.size]? = some (.cells #[.int .i64 0, .string ⟨#[]⟩, .int .i64 0, .slice none 0 0, .int .i64 0] 34 (0, 0))) := Lib.hid ((((Below.refl w4.heap.size w4).alloc (Nat.le_refl _) _).block _ (by omega)).trans hBw4.out)
                          obtain ⟨⟨k0, k1, k2, k3, k4⟩, f0, f1, f2, f3, f4⟩ := cell5 hBw5.out
                          go_wp2_with fail
                          refine bodyPost_ret (results_read rfl rfl rfl rfl (put5_block hBw5.out)) rfl ?_
                          exact ⟨readEnd7_zero _ _ _ _, put5_below (((HB1.out.trans (HB.out.mono (by omega))).trans (HB4.out.mono (by omega))).alloc (by omega) _) (Nat.le_refl _)⟩
                      · as_aux_lemma =>
                        cases h12 : decide (12 ≤ (m : Int) - 1)
                        · as_aux_lemma =>
                          have hm12 : m ≤ 12 := by simp at h12; omega
                          have hRo : Hid (Reads wr wr.heap.size 5 (some ⟨g, 0, none⟩) m (flatT ps)) := Lib.hid (Reads.of_own HO.out)
                          go_upto_region 23 with (fail)
                          go_wp2_with (at_builtin; refine wpList_append_any _ rfl _ _ 32 rfl w1.heap.size 34 i0 _ 5 64 Tryd.underlying32 hi hz0 hz1 hz2 rfl (by decide) _ _ _ rfl (own_empty wr 34 hs1) wr.heap.size _ _ _ (flatT ps) rfl (hRo.out.alloc (Nat.le_refl _) _) ?c1 ?c2 ?c3 ?c4 ?_)
                          case c1 => exact flatT_ones _
                          case c2 => unfold maxLen; omega
                          case c3 => omega
                          case c4 => simp; omega
                          intro v5 w5 hown5 hgrow5 hat5
                          have HO5 : Hid (w5.ownsRow w1.heap.size 34 5 v5 m (flatT ps)) := Lib.hid (by rw [hws]; simpa using hown5)
                          have HB5 : Hid (Below wr.heap.size wr w5) := Lib.hid (((Below.refl wr.heap.size wr).alloc (Nat.le_refl _) _).grown hgrow5 (by simp) (fun k e => by have := Option.some.inj e; simp at this; omega))
                          have hat5' : Hid (∀ k, v5.ownBlock = some k → wr.heap.size ≤ k) := Lib.hid (fun k e => by
                            rcases hat5 with h | h
                            · rw [h] at e; have he : wr.heap.size = k := Option.some.inj e; omega
                            · rw [h] at e; have := Option.some.inj e; first | omega | (simp at this; omega))
                          have hs5 := HB5.out.size
                          clear hown5 hgrow5 hat5
                          obtain ⟨g5, cap5, rfl, hg5a, hg5b⟩ := HO5.out.form (by omega)
                          go_wp2_with (at_builtin; refine wpList_append_any _ rfl _ _ 32 rfl w1.heap.size 34 i0 _ 5 64 Tryd.underlying32 hi hz0 hz1 hz2 rfl (by decide) _ _ _ rfl (HO5.out.alloc _) (w5.heap.size + 1) _ _ _ (TP.cs ((.mk 1 ⟨#[]⟩ 0 [] (j : Int) : T), none, 0)) rfl ⟨rfl, fun _ => ⟨_, rfl, Nat.lt_succ_self _, World.news_of_block (heap_alloc_new w5 _)⟩⟩ ?d1 ?d2 ?d3 ?d4 ?_)
                          case d1 => rw [← flatT_one]; exact flatT_ones _
                          case d2 => unfold maxLen; omega
                          case d3 => omega
                          case d4 => simp; omega
                          intro v6 w6 hown6 hgrow6 hat6
                          have hg5 : wr.heap.size ≤ g5 := hat5'.out g5 rfl
                          have HO6 : Hid (w6.ownsRow w1.heap.size 34 5 v6 (m + 1) (flatT (ps ++ [((.mk 1 ⟨#[]⟩ 0 [] (j : Int) : T), none, 0)]))) := Lib.hid (by rw [flatT_append, flatT_one, hws]; exact hown6)
                          have HB6 : Hid (Below wr.heap.size wr w6) := Lib.hid ((HB5.out.alloc hs5 _).grown hgrow6 (by simp; omega) (fun k e => by have he : g5 = k := Option.some.inj e; omega))
                          obtain ⟨g6, cap6, rfl, hg6a, hg6b⟩ := hown6.form (by omega)
                          have hg6 : wr.heap.size ≤ g6 := by
                            rcases hat6 with h | h
                            · have he : g6 = g5 := Option.some.inj h; omega
                            · have he : g6 = w5.heap.size + 1 := Option.some.inj h; omega
                          have hs6 := HB6.out.size
                          clear hown6 hgrow6 hat6
                          go_wp2_with fail
                          go_roundw
                          case rel =>
                            refine ⟨j + 1, m + 1, g6, cap6, ps ++ [((.mk 1 ⟨#[]⟩ 0 [] (j : Int) : T), none, 0)], by omega, by go_num, rfl, by omega, by omega, by rw [List.length_append, HPL.out]; rfl, HO6.out, Lib.hid fun p hp => ?_, HB.out.trans (HB6.out.mono hs1), Lib.hid (hdp.out.push _)⟩
                            rcases List.mem_append.1 hp with hp | hp
                            · obtain ⟨q1, q2, q3⟩ := hxk.out p hp
                              exact ⟨q1.more (Nat.le_succ _), q2, (q3.kept fun k hk => HB6.out.block k hk.2.1).mono fun k hk => ⟨hk.1, by have := hk.2.1; omega, by have := hk.2.1; omega⟩⟩
                            · obtain rfl : p = ((.mk 1 ⟨#[]⟩ 0 [] (j : Int) : T), none, 0) := by simpa using hp
                              exact ⟨⟨⟨(show (-9223372036854775808 : Int) ≤ 0 by decide), (show (0 : Int) ≤ 9223372036854775807 by decide)⟩, (show (⟨#[]⟩ : ByteArray).size ≤ 600 by decide), (show (1 : Int) = 4 → (⟨#[]⟩ : ByteArray).size ≤ 40 by decide), Nat.zero_le _, fun e he => by cases he⟩, Nat.le_refl _, .nil _⟩
                          case measure => simp [intOf]; omega
                        · obtain ⟨⟨k0, k1, k2, k3, k4⟩, f0, f1, f2, f3, f4⟩ := cell5 hBw.out
                          go_wp2_with fail
                          refine bodyPost_ret (results_read rfl rfl rfl rfl (put5_block hBw.out)) rfl ?_
                          exact ⟨readEnd7_zero _ _ _ _, put5_below (HB1.out.trans (HB.out.mono (by omega))) (Nat.le_refl _)⟩
                    · obtain ⟨⟨k0, k1, k2, k3, k4⟩, f0, f1, f2, f3, f4⟩ := cell5 hBw.out
                      go_wp2_with fail
                      refine bodyPost_ret (results_read rfl rfl rfl rfl (put5_block hBw.out)) rfl ?_
                      exact ⟨readEnd7_zero _ _ _ _, put5_below (HB1.out.trans (HB.out.mono (by omega))) (Nat.le_refl _)⟩
              · obtain ⟨h40, h34, h45, hlb, hdb⟩ : (cc == 40) = false ∧ (cc == 34) = false ∧ (cc == 45) = false ∧ letB s[j] = false ∧ digB s[j] = false := by
                  refine ⟨?_, ?_, ?_, ?_, ?_⟩
                  all_goals (apply Bool.eq_false_iff.2; intro h; exact hok (by simp [h]))
                clear hok hbad
                have h40' : (cc != 40) = true := by simp [bne, h40]
                have h34' : (cc != 34) = true := by simp [bne, h34]
                have h45' : (cc != 45) = true := by simp [bne, h45]
                rw [hlb] at hLj
                rw [hdb] at hDj
                obtain ⟨⟨k0, k1, k2, k3, k4⟩, f0, f1, f2, f3, f4⟩ := cell5 hBw.out
                go_wp2_with fail
                refine (hLj.out _).mono ?_
                rintro e w' ⟨rfl, rfl⟩
                go_wp2_with fail
                refine (hDj.out _).mono ?_
                rintro e w' ⟨rfl, rfl⟩
                go_wp2_with fail
                refine bodyPost_ret (results_read rfl rfl rfl rfl (put5_block hBw.out)) rfl ?_
                exact ⟨readEnd7_zero _ _ _ _, put5_below (HB1.out.trans (HB.out.mono (by omega))) (Nat.le_refl _)⟩
            · -- a closing sign
              cases hm0 : ((m : Int) - 1 == 0)
              · as_aux_lemma =>
                obtain ⟨m1, hm1'⟩ : ∃ m1, m = m1 + 2 := ⟨m - 2, by have := hm0; simp at this; omega⟩
                obtain ⟨mt, hmt⟩ : ∃ mt, mt = m1 + 1 := ⟨_, rfl⟩
                have e0 : (m : Int) - 1 = (mt : Int) := by omega
                have e1 : (mt : Int) - 1 = (m1 : Int) := by omega
                have e2 : IntKind.i64.wrap ((mt : Int) - 1) = (m1 : Int) := by rw [e1]; unfold IntKind.wrap; simp [IntKind.bits, IntKind.signed]; omega
                have e3 : IntKind.i64.wrap (m1 : Int) = (m1 : Int) := by rw [← e1]; exact e2.trans e1.symm
                have hmt0 : ((mt : Int) == 0) = false := by simp; omega
                have l1 : m1 < m := by omega
                have l2 : mt < m := by omega
                obtain ⟨pt, hpt⟩ : ∃ pt, ps[m1]? = some pt := ⟨_, List.getElem?_eq_getElem (by rw [HPL.out]; exact l1)⟩
                obtain ⟨pc, hpc⟩ : ∃ pc, ps[mt]? = some pc := ⟨_, List.getElem?_eq_getElem (by rw [HPL.out]; exact l2)⟩
                have HPT := Lib.hid hpt
                have HM1 := Lib.hid (And.intro hm1' hmt)
                have hcell := (own_cells5 HO.out HPL.out hpt).2.2.2.1
                have hfroz := (own_cells5 HO.out HPL.out hpt).2.2.2.2.2
                obtain ⟨y0, y1, y2, y3, y4, _⟩ := own_cells5 HO.out HPL.out hpc
                have HPK := Lib.hid (hxk.out pt (List.mem_of_getElem? hpt))
                have HCK := Lib.hid (hxk.out pc (List.mem_of_getElem? hpc))
                have hglt : g < wr.heap.size := ((HO.out).lt g rfl).2
                have hgge : w1.heap.size ≤ g := ((HO.out).lt g rfl).1
                have hmcap : m ≤ cap := by
                  rcases HO.out.2 with ⟨h', _⟩ | ⟨g', cap', cur, h', _, _, hnc, _⟩
                  · simp at h'
                  · simp only [Value.slice.injEq, Option.some.injEq, Addr.mk.injEq, and_true, true_and] at h'
                    obtain ⟨_, rfl⟩ := h'
                    exact hnc
                have HPC := Lib.hid hpc
                clear hpt hpc hm0 hm1' hmt
                obtain ⟨⟨tk, ts, tn, tl, ta⟩, A0, c0⟩ := pt
                obtain ⟨⟨ck, cs, cn, cl, ca⟩, C0, cc0⟩ := pc
                simp only [T.kids] at hcell HPK HCK
                simp only [T.k, T.s, T.n, T.kids, T.at_] at y0 y1 y2 y3 y4
                obtain ⟨qs, hq1, hq2, hq3⟩ := kids_reads (B := wr.heap.size) (fun k hk => hk.2.1) HPK.out.2.2
                have hkl : tl.length ≤ j := HPK.out.1.2.2.2.1
                have HQ := Lib.hid (And.intro hq1 (And.intro hq2 hq3))
                clear hq1 hq2 hq3
                generalize htn : tl.length = n0 at *
                obtain ⟨wq, ewq⟩ : ∃ wq, wq = wr := ⟨_, rfl⟩
                have HEQ := Lib.hid ewq
                have HBQ : Hid (Below wr.heap.size wr wq) := Lib.hid (by rw [ewq]; exact Below.refl _ _)
                have hcq : wq.cell? ⟨g, m1 * 5 + 3, none⟩ = some (.slice A0 n0 c0) := by rw [ewq]; exact hcell
                have hfq : wq.frozen? ⟨g, m1 * 5 + 3, none⟩ = false := by rw [ewq]; exact hfroz
                have hgq : g < wq.heap.size := by rw [ewq]; exact hglt
                rw [← ewq] at y0 y1 y2 y3 y4
                have hRq : Reads wq wr.heap.size 5 A0 n0 (flatT qs) := (HQ.out.2.1).below HBQ.out
                have hwq : wr.heap.size ≤ wq.heap.size := HBQ.out.size
                have hE1 : Hid ((wq.alloc (.cells #[] 34)).drew.ownsRow wq.heap.size 34 5 (.slice (some ⟨wq.heap.size, 0, none⟩) 0 0) 0 []) := Lib.hid (own_empty wq 34 (Nat.le_refl _))
                have hE2 : Hid (((wq.alloc (.cells #[] 34)).alloc (.cells #[.int .i64 ck, .string cs, .int .i64 cn, .slice C0 cl.length cc0, .int .i64 ca] 34)).drew.ownsRow wq.heap.size 34 5 (.slice (some ⟨wq.heap.size, 0, none⟩) 0 0) 0 []) := Lib.hid ((own_empty wq 34 (Nat.le_refl _)).alloc _)
                have hE3 : Hid (((wq.alloc (.cells #[.int .i64 ck, .string cs, .int .i64 cn, .slice C0 cl.length cc0, .int .i64 ca] 34)).alloc (.cells #[] 34)).drew.ownsRow wq.heap.size 34 5 (.slice (some ⟨wq.heap.size + 1, 0, none⟩) 0 0) 0 []) := Lib.hid (own_empty_at (wq.alloc (.cells #[.int .i64 ck, .string cs, .int .i64 cn, .slice C0 cl.length cc0, .int .i64 ca] 34)) 34 (by simp) (by simp))
                have hBE1 : Hid (Below wq.heap.size wq (wq.alloc (.cells #[] 34)).drew) := Lib.hid (((Below.refl wq.heap.size wq).alloc (Nat.le_refl _) _).drew)
                have hBE2 : Hid (Below wq.heap.size wq ((wq.alloc (.cells #[] 34)).alloc (.cells #[.int .i64 ck, .string cs, .int .i64 cn, .slice C0 cl.length cc0, .int .i64 ca] 34)).drew) := Lib.hid ((((Below.refl wq.heap.size wq).alloc (Nat.le_refl _) _).alloc (by simp) _).drew)
                have hBE3 : Hid (Below wq.heap.size wq ((wq.alloc (.cells #[.int .i64 ck, .string cs, .int .i64 cn, .slice C0 cl.length cc0, .int .i64 ca] 34)).alloc (.cells #[] 34)).drew) := Lib.hid ((((Below.refl wq.heap.size wq).alloc (Nat.le_refl _) _).alloc (by simp) _).drew)
                have hR1 := Lib.hid (hRq.below (hBE1.out.mono (B := wq.heap.size) hwq))
                have hR2 := Lib.hid (hRq.below (hBE2.out.mono (B := wq.heap.size) hwq))
                have hR3 := Lib.hid (hRq.below (hBE3.out.mono (B := wq.heap.size) hwq))
                have hX2 : Hid (((wq.alloc (.cells #[] 34)).alloc (.cells #[.int .i64 ck, .string cs, .int .i64 cn, .slice C0 cl.length cc0, .int .i64 ca] 34)).drew.heap[wq.heap.size + 1]? = some (.cells #[.int .i64 ck, .string cs, .int .i64 cn, .slice C0 cl.length cc0, .int .i64 ca] 34)) := Lib.hid (alloc_at (wq.alloc (.cells #[] 34)) (.cells #[.int .i64 ck, .string cs, .int .i64 cn, .slice C0 cl.length cc0, .int .i64 ca] 34) (by simp))
                have hX3 : Hid (((wq.alloc (.cells #[.int .i64 ck, .string cs, .int .i64 cn, .slice C0 cl.length cc0, .int .i64 ca] 34)).alloc (.cells #[] 34)).drew.heap[wq.heap.size]? = some (.cells #[.int .i64 ck, .string cs, .int .i64 cn, .slice C0 cl.length cc0, .int .i64 ca] 34)) := Lib.hid ((((Below.refl (wq.heap.size + 1) (wq.alloc (.cells #[.int .i64 ck, .string cs, .int .i64 cn, .slice C0 cl.length cc0, .int .i64 ca] 34))).alloc (by simp) _).block _ (by omega)).trans (heap_alloc_new wq _))
                have hcA : (wq.alloc (.cells #[] 34)).cell? ⟨g, m1 * 5 + 3, none⟩ = some (.slice A0 n0 c0) := (hBE1.out.cell (p := ⟨g, m1 * 5 + 3, none⟩) hgq).trans hcq
                have hcB : (wq.alloc (.cells #[.int .i64 ck, .string cs, .int .i64 cn, .slice C0 cl.length cc0, .int .i64 ca] 34)).cell? ⟨g, m1 * 5 + 3, none⟩ = some (.slice A0 n0 c0) := (((Below.refl wq.heap.size wq).alloc (Nat.le_refl _) _).cell (p := ⟨g, m1 * 5 + 3, none⟩) hgq).trans hcq
                have hcC : ((wq.alloc (.cells #[] 34)).alloc (.cells #[.int .i64 ck, .string cs, .int .i64 cn, .slice C0 cl.length cc0, .int .i64 ca] 34)).cell? ⟨g, m1 * 5 + 3, none⟩ = some (.slice A0 n0 c0) := (hBE2.out.cell (p := ⟨g, m1 * 5 + 3, none⟩) hgq).trans hcq
                have hcD : ((wq.alloc (.cells #[.int .i64 ck, .string cs, .int .i64 cn, .slice C0 cl.length cc0, .int .i64 ca] 34)).alloc (.cells #[] 34)).cell? ⟨g, m1 * 5 + 3, none⟩ = some (.slice A0 n0 c0) := (hBE3.out.cell (p := ⟨g, m1 * 5 + 3, none⟩) hgq).trans hcq
                have x0 : (wq.alloc (.cells #[] 34)).cell? ⟨g, mt * 5, none⟩ = some (.int .i64 ck) := (hBE1.out.cell (p := ⟨g, mt * 5, none⟩) hgq).trans y0
                have x1 : (wq.alloc (.cells #[] 34)).cell? ⟨g, mt * 5 + 1, none⟩ = some (.string cs) := (hBE1.out.cell (p := ⟨g, mt * 5 + 1, none⟩) hgq).trans y1
                have x2 : (wq.alloc (.cells #[] 34)).cell? ⟨g, mt * 5 + 2, none⟩ = some (.int .i64 cn) := (hBE1.out.cell (p := ⟨g, mt * 5 + 2, none⟩) hgq).trans y2
                have x3 : (wq.alloc (.cells #[] 34)).cell? ⟨g, mt * 5 + 3, none⟩ = some (.slice C0 cl.length cc0) := (hBE1.out.cell (p := ⟨g, mt * 5 + 3, none⟩) hgq).trans y3
                have x4 : (wq.alloc (.cells #[] 34)).cell? ⟨g, mt * 5 + 4, none⟩ = some (.int .i64 ca) := (hBE1.out.cell (p := ⟨g, mt * 5 + 4, none⟩) hgq).trans y4
                have HWS := Lib.hid hws
                go_upto_region 13 with (fail)
                rw [← HEQ.out]
                clear ewq hcell hfroz
                have hSB : Hid (∀ w', Below wq.heap.size wq w' → w'.cell? ⟨g, m1 * 5 + 3, none⟩ = some (.slice A0 n0 c0) ∧ w'.cell? ⟨g, mt * 5, none⟩ = some (.int .i64 ck) ∧ w'.cell? ⟨g, mt * 5 + 1, none⟩ = some (.string cs) ∧ w'.cell? ⟨g, mt * 5 + 2, none⟩ = some (.int .i64 cn) ∧ w'.cell? ⟨g, mt * 5 + 3, none⟩ = some (.slice C0 cl.length cc0) ∧ w'.cell? ⟨g, mt * 5 + 4, none⟩ = some (.int .i64 ca)) := Lib.hid (fun w' hb => ⟨(hb.cell (p := ⟨g, m1 * 5 + 3, none⟩) hgq).trans hcq, (hb.cell (p := ⟨g, mt * 5, none⟩) hgq).trans y0, (hb.cell (p := ⟨g, mt * 5 + 1, none⟩) hgq).trans y1, (hb.cell (p := ⟨g, mt * 5 + 2, none⟩) hgq).trans y2, (hb.cell (p := ⟨g, mt * 5 + 3, none⟩) hgq).trans y3, (hb.cell (p := ⟨g, mt * 5 + 4, none⟩) hgq).trans y4⟩)
                refine LastKit.wp_region_last (fun w' => w'.cell? ⟨g, m1 * 5 + 3, none⟩ = some (.slice A0 n0 c0) ∧ w'.cell? ⟨g, mt * 5, none⟩ = some (.int .i64 ck) ∧ w'.cell? ⟨g, mt * 5 + 1, none⟩ = some (.string cs) ∧ w'.cell? ⟨g, mt * 5 + 2, none⟩ = some (.int .i64 cn) ∧ w'.cell? ⟨g, mt * 5 + 3, none⟩ = some (.slice C0 cl.length cc0) ∧ w'.cell? ⟨g, mt * 5 + 4, none⟩ = some (.int .i64 ca)) 19 (by kernel_rfl) (hSB.out _ (Below.refl _ _).drew) (fun hHeld => ?_)
                refine LastKit.wpAnyK_take (i := 0) (C := [0, 17, 18, 19]) (v := ?v13_1) rfl (by kernel_rfl) (by kernel_rfl) (by kernel_rfl) (by kernel_rfl) (fun _ _ _ h => h) (Or.inl ⟨by rfl, ?hy13_1⟩) (by assumption) ?_
                case hy13_1 => (intro w1 hSw; (try dsimp only at hSw); go_simp; try with_reducible rfl)
                simp only [List.getElem_toArray, List.getElem_cons_zero, Act.put, List.setIfInBounds_toArray, List.set_cons_zero, List.set_cons_succ]
                refine LastKit.wpAnyK_take (i := 1) (C := [1, 2, 17, 18, 19]) (v := ?v13_2) rfl (by kernel_rfl) (by kernel_rfl) (by kernel_rfl) (by kernel_rfl) (fun _ _ _ h => h) (Or.inl ⟨by rfl, ?hy13_2⟩) (by assumption) ?_
                case hy13_2 => (intro w1 hSw; (try dsimp only at hSw); go_simp; try with_reducible rfl)
                simp only [List.getElem_toArray, List.getElem_cons_succ, List.getElem_cons_zero, Act.put, List.setIfInBounds_toArray, List.set_cons_zero, List.set_cons_succ]
                refine LastKit.wpAnyK_take (i := 2) (C := [2, 17, 18, 19]) (v := ?v13_3) rfl (by kernel_rfl) (by kernel_rfl) (by kernel_rfl) (by kernel_rfl) (fun _ _ _ h => h) (Or.inl ⟨by rfl, ?hy13_3⟩) (by assumption) ?_
                case hy13_3 => (intro w1 hSw; (try dsimp only at hSw); go_simp; try with_reducible rfl)
                simp only [List.getElem_toArray, List.getElem_cons_succ, List.getElem_cons_zero, Act.put, List.setIfInBounds_toArray, List.set_cons_zero, List.set_cons_succ]
                refine LastKit.wpAnyK_take (i := 4) (C := [4, 7, 8, 9, 10, 16, 19]) (v := ?v13_4) rfl (by kernel_rfl) (by kernel_rfl) (by kernel_rfl) (by kernel_rfl) (fun _ _ _ h => h) (Or.inl ⟨by rfl, ?hy13_4⟩) (by assumption) ?_
                case hy13_4 => (intro w1 hSw; (try dsimp only at hSw); go_simp; try with_reducible rfl)
                simp only [List.getElem_toArray, List.getElem_cons_succ, List.getElem_cons_zero, Act.put, List.setIfInBounds_toArray, List.set_cons_zero, List.set_cons_succ]
                refine LastKit.wpAnyK_take (i := 5) (C := [5, 6, 7, 8, 9, 10, 16, 19]) (v := ?v13_5) rfl (by kernel_rfl) (by kernel_rfl) (by kernel_rfl) (by kernel_rfl) (fun _ _ _ h => h) (Or.inl ⟨by rfl, ?hy13_5⟩) (by assumption) ?_
                case hy13_5 => (intro w1 hSw; (try dsimp only at hSw); go_simp; try with_reducible rfl)
                simp only [List.getElem_toArray, List.getElem_cons_succ, List.getElem_cons_zero, Act.put, List.setIfInBounds_toArray, List.set_cons_zero, List.set_cons_succ]
                refine LastKit.wpAnyK_take (i := 6) (C := [6, 7, 8, 9, 10, 16, 19]) (v := ?v13_6) rfl (by kernel_rfl) (by kernel_rfl) (by kernel_rfl) (by kernel_rfl) (fun _ _ _ h => h) (Or.inl ⟨by rfl, ?hy13_6⟩) (by assumption) ?_
                case hy13_6 => (intro w1 hSw; (try dsimp only at hSw); go_simp; try with_reducible rfl)
                simp only [List.getElem_toArray, List.getElem_cons_succ, List.getElem_cons_zero, Act.put, List.setIfInBounds_toArray, List.set_cons_zero, List.set_cons_succ]
                refine LastKit.wpAnyK_take (i := 7) (C := [7, 8, 9, 10, 16, 19]) (v := ?v13_7) rfl (by kernel_rfl) (by kernel_rfl) (by kernel_rfl) (by kernel_rfl) (fun _ _ _ h => h) (Or.inl ⟨by rfl, ?hy13_7⟩) (by assumption) ?_
                case hy13_7 => (intro w1 hSw; (try dsimp only at hSw); go_simp; try with_reducible rfl)
                simp only [List.getElem_toArray, List.getElem_cons_succ, List.getElem_cons_zero, Act.put, List.setIfInBounds_toArray, List.set_cons_zero, List.set_cons_succ]
                refine LastKit.wpAnyK_take (i := 8) (C := [8, 9, 10, 16, 19]) (v := ?v13_8) rfl (by kernel_rfl) (by kernel_rfl) (by kernel_rfl) (by kernel_rfl) (fun _ _ _ h => h) (Or.inl ⟨by rfl, ?hy13_8⟩) (by assumption) ?_
                case hy13_8 => (intro w1 hSw; (try dsimp only at hSw); go_simp; try with_reducible rfl)
                simp only [List.getElem_toArray, List.getElem_cons_succ, List.getElem_cons_zero, Act.put, List.setIfInBounds_toArray, List.set_cons_zero, List.set_cons_succ]
                refine LastKit.wpAnyK_take (i := 9) (C := [9, 10, 16, 19]) (v := ?v13_9) rfl (by kernel_rfl) (by kernel_rfl) (by kernel_rfl) (by kernel_rfl) (fun _ _ _ h => h) (Or.inl ⟨by rfl, ?hy13_9⟩) (by assumption) ?_
                case hy13_9 => (intro w1 hSw; (try dsimp only at hSw); go_simp; try with_reducible rfl)
                simp only [List.getElem_toArray, List.getElem_cons_succ, List.getElem_cons_zero, Act.put, List.setIfInBounds_toArray, List.set_cons_zero, List.set_cons_succ]
                refine LastKit.wpAnyK_take (i := 11) (C := [11, 13, 14, 15, 16, 19]) (v := ?v13_10) rfl (by kernel_rfl) (by kernel_rfl) (by kernel_rfl) (by kernel_rfl) (fun _ _ _ h => h) (Or.inl ⟨by rfl, ?hy13_10⟩) (by assumption) ?_
                case hy13_10 => (intro w1 hSw; (try dsimp only at hSw); go_simp; try with_reducible rfl)
                simp only [List.getElem_toArray, List.getElem_cons_succ, List.getElem_cons_zero, Act.put, List.setIfInBounds_toArray, List.set_cons_zero, List.set_cons_succ]
                refine LastKit.wpAnyK_take (i := 12) (C := [12, 13, 14, 15, 16, 19]) (v := ?v13_11) rfl (by kernel_rfl) (by kernel_rfl) (by kernel_rfl) (by kernel_rfl) (fun _ _ _ h => h) (Or.inl ⟨by rfl, ?hy13_11⟩) (by assumption) ?_
                case hy13_11 => (intro w1 hSw; (try dsimp only at hSw); go_simp; try with_reducible rfl)
                simp only [List.getElem_toArray, List.getElem_cons_succ, List.getElem_cons_zero, Act.put, List.setIfInBounds_toArray, List.set_cons_zero, List.set_cons_succ]
                refine LastKit.wpAnyK_take (i := 13) (C := [13, 14, 15, 16, 19]) (v := ?v13_12) rfl (by kernel_rfl) (by kernel_rfl) (by kernel_rfl) (by kernel_rfl) (fun _ _ _ h => h) (Or.inl ⟨by rfl, ?hy13_12⟩) (by assumption) ?_
                case hy13_12 => (intro w1 hSw; (try dsimp only at hSw); go_simp; try with_reducible rfl)
                simp only [List.getElem_toArray, List.getElem_cons_succ, List.getElem_cons_zero, Act.put, List.setIfInBounds_toArray, List.set_cons_zero, List.set_cons_succ]
                refine LastKit.wpAnyK_take (i := 14) (C := [14, 15, 16, 19]) (v := ?v13_13) rfl (by kernel_rfl) (by kernel_rfl) (by kernel_rfl) (by kernel_rfl) (fun _ _ _ h => h) (Or.inl ⟨by rfl, ?hy13_13⟩) (by assumption) ?_
                case hy13_13 => (intro w1 hSw; (try dsimp only at hSw); go_simp; try with_reducible rfl)
                simp only [List.getElem_toArray, List.getElem_cons_succ, List.getElem_cons_zero, Act.put, List.setIfInBounds_toArray, List.set_cons_zero, List.set_cons_succ]
                refine LastKit.wpAnyK_ready (rs := [3, 15]) (by kernel_rfl) (by simp) ?_
                refine LastKit.AllReadyK.cons rfl (fun K hK => ?_) (LastKit.AllReadyK.cons rfl (fun K hK => ?_) LastKit.AllReadyK.nil)
                refine step_build0 _ rfl rfl ?_
                refine hK.out _ _ (hSB.out _ hBE1.out) (fun hHeld => ?_)
                clear hK K
                simp only [List.getElem_toArray, List.getElem_cons_succ, List.getElem_cons_zero, Act.put, List.setIfInBounds_toArray, List.set_cons_zero, List.set_cons_succ, World.size_alloc, World.size_drew]
                refine LastKit.wpAnyK_ready (rs := [10, 15]) (by kernel_rfl) (by simp) ?_
                refine LastKit.AllReadyK.cons rfl (fun K hK => ?_) (LastKit.AllReadyK.cons rfl (fun K hK => ?_) LastKit.AllReadyK.nil)
                refine step_append_any _ rfl _ _ 32 rfl wq.heap.size 34 i0 _ 5 64 Tryd.underlying32 hi hz0 hz1 hz2 rfl (by decide) _ _ _ rfl hE1.out wr.heap.size A0 n0 c0 (flatT qs) rfl hR1.out (flatT_ones _) ?a1 ?a2 ?a3 ?_
                case a1 => (unfold maxLen; omega)
                case a2 => omega
                case a3 => (first | omega | (simp; done) | (simp; omega))
                intro v5 w5 hown5 hgrow5 hat5
                have HO5 : Hid (w5.ownsRow wq.heap.size 34 5 v5 n0 (flatT qs)) := Lib.hid (by rw [Nat.zero_add, List.nil_append] at hown5; exact hown5)
                have HB5 : Hid (Below wq.heap.size wq w5) := Lib.hid (hBE1.out.grown hgrow5 hBE1.out.size (fun k e => by have he : wq.heap.size + 0 = k := Option.some.inj e; omega))
                have hs5 := HB5.out.size
                clear hown5 hgrow5 hat5
                refine hK.out _ _ (hSB.out _ HB5.out) (fun hHeld => ?_)
                clear hK K
                simp only [List.getElem_toArray, List.getElem_cons_succ, List.getElem_cons_zero, Act.put, List.setIfInBounds_toArray, List.set_cons_zero, List.set_cons_succ]
                refine LastKit.wpAnyK_ready (rs := [15]) (by kernel_rfl) (by simp) ?_
                refine LastKit.AllReadyK.cons rfl (fun K hK => ?_) LastKit.AllReadyK.nil
                refine step_build5 _ rfl 57 rfl ck cn ca cs C0 cl.length cc0 rfl ?_
                refine hK.out _ _ (hSB.out _ (HB5.out.alloc hs5 _)) (fun hHeld => ?_)
                clear hK K
                simp only [List.getElem_toArray, List.getElem_cons_succ, List.getElem_cons_zero, Act.put, List.setIfInBounds_toArray, List.set_cons_zero, List.set_cons_succ, World.size_alloc, World.size_drew]
                refine LastKit.wpAnyK_ready (rs := [16]) (by kernel_rfl) (by simp) ?_
                refine LastKit.AllReadyK.cons rfl (fun K hK => ?_) LastKit.AllReadyK.nil
                refine step_append_any _ rfl _ _ 32 rfl wq.heap.size 34 i0 _ 5 64 Tryd.underlying32 hi hz0 hz1 hz2 rfl (by decide) _ _ _ rfl (HO5.out.alloc _) (w5.heap.size + 1) _ _ _ (TP.cs ((.mk ck cs cn cl ca : T), C0, cc0)) rfl ⟨rfl, fun _ => ⟨_, rfl, Nat.lt_succ_self _, World.news_of_block (heap_alloc_new w5 _)⟩⟩ ?b1 ?b2 ?b3 ?b4 ?_
                case b1 => (rw [← flatT_one]; exact flatT_ones _)
                case b2 => (unfold maxLen; omega)
                case b3 => omega
                case b4 => (first | omega | (simp; done) | (simp; omega))
                intro v6 w6 hown6 hgrow6 hat6
                obtain ⟨g6, cap6, rfl, hg6a, hg6b⟩ := hown6.form (Nat.succ_pos _)
                have HO6 := Lib.hid hown6
                have HB6 : Hid (Below wq.heap.size wq w6) := Lib.hid ((HB5.out.alloc hs5 _).grown hgrow6 (HB5.out.alloc hs5 _).size (fun k e => (HO5.out.lt k e).1))
                have hc6 : w6.cell? ⟨g, m1 * 5 + 3, none⟩ = some (.slice A0 n0 c0) := (HB6.out.cell (p := ⟨g, m1 * 5 + 3, none⟩) hgq).trans hcq
                have hf6 : w6.frozen? ⟨g, m1 * 5 + 3, none⟩ = false := (HB6.out.frozen (p := ⟨g, m1 * 5 + 3, none⟩) hgq).trans hfq
                clear hown6 hgrow6 hat6
                refine hK.out _ _ (hSB.out _ HB6.out) (fun hHeld => ?_)
                clear hK K
                simp only [List.getElem_toArray, List.getElem_cons_succ, List.getElem_cons_zero, Act.put, List.setIfInBounds_toArray, List.set_cons_zero, List.set_cons_succ]
                refine LastKit.wpAnyK_take (i := 17) (C := [17, 18, 19]) (v := ?v13_14) rfl (by kernel_rfl) (by kernel_rfl) (by kernel_rfl) (by kernel_rfl) (fun _ _ _ h => h) (Or.inl ⟨by rfl, ?hy13_14⟩) (by assumption) ?_
                case hy13_14 => (intro w1 hSw; (try dsimp only at hSw); go_simp; try with_reducible rfl)
                simp only [List.getElem_toArray, List.getElem_cons_succ, List.getElem_cons_zero, Act.put, List.setIfInBounds_toArray, List.set_cons_zero, List.set_cons_succ]
                refine LastKit.wpAnyK_take (i := 18) (C := [18, 19]) (v := ?v13_15) rfl (by kernel_rfl) (by kernel_rfl) (by kernel_rfl) (by kernel_rfl) (fun _ _ _ h => h) (Or.inl ⟨by rfl, ?hy13_15⟩) (by assumption) ?_
                case hy13_15 => (intro w1 hSw; (try dsimp only at hSw); go_simp; try with_reducible rfl)
                simp only [List.getElem_toArray, List.getElem_cons_succ, List.getElem_cons_zero, Act.put, List.setIfInBounds_toArray, List.set_cons_zero, List.set_cons_succ]
                refine LastKit.wpAnyK_ready (rs := [19]) (by kernel_rfl) (by simp) ?_
                refine LastKit.AllReadyK.last rfl (fun K hK => ?_)
                simp only [List.getElem_toArray, List.getElem_cons_succ, List.getElem_cons_zero]
                go_simp
                refine hK.out _ _ ?_
                clear hK K
                refine LastKit.wpAnyK_done (by kernel_rfl) ?_ _
                rotate_left
                refine step_build5 _ rfl 57 rfl ck cn ca cs C0 cl.length cc0 rfl ?_
                refine hK.out _ _ (hSB.out _ hBE2.out) (fun hHeld => ?_)
                clear hK K
                simp only [List.getElem_toArray, List.getElem_cons_succ, List.getElem_cons_zero, Act.put, List.setIfInBounds_toArray, List.set_cons_zero, List.set_cons_succ, World.size_alloc, World.size_drew]
                refine LastKit.wpAnyK_ready (rs := [10]) (by kernel_rfl) (by simp) ?_
                refine LastKit.AllReadyK.cons rfl (fun K hK => ?_) LastKit.AllReadyK.nil
                refine step_append_any _ rfl _ _ 32 rfl wq.heap.size 34 i0 _ 5 64 Tryd.underlying32 hi hz0 hz1 hz2 rfl (by decide) _ _ _ rfl hE2.out wr.heap.size A0 n0 c0 (flatT qs) rfl hR2.out (flatT_ones _) ?a1 ?a2 ?a3 ?_
                case a1 => (unfold maxLen; omega)
                case a2 => omega
                case a3 => (first | omega | (simp; done) | (simp; omega))
                intro v5 w5 hown5 hgrow5 hat5
                have HO5 : Hid (w5.ownsRow wq.heap.size 34 5 v5 n0 (flatT qs)) := Lib.hid (by rw [Nat.zero_add, List.nil_append] at hown5; exact hown5)
                have HB5 : Hid (Below wq.heap.size wq w5) := Lib.hid (hBE2.out.grown hgrow5 hBE2.out.size (fun k e => by have he : wq.heap.size + 0 = k := Option.some.inj e; omega))
                have hs5 := HB5.out.size
                have HX5 := Lib.hid ((hgrow5.block (wq.heap.size + 1) (by first | omega | (simp; done) | (simp; omega)) (fun e => by have he : wq.heap.size + 1 = wq.heap.size := Option.some.inj e; omega)).trans hX2.out)
                clear hown5 hgrow5 hat5
                refine hK.out _ _ (hSB.out _ HB5.out) (fun hHeld => ?_)
                clear hK K
                simp only [List.getElem_toArray, List.getElem_cons_succ, List.getElem_cons_zero, Act.put, List.setIfInBounds_toArray, List.set_cons_zero, List.set_cons_succ]
                refine LastKit.wpAnyK_ready (rs := [16]) (by kernel_rfl) (by simp) ?_
                refine LastKit.AllReadyK.cons rfl (fun K hK => ?_) LastKit.AllReadyK.nil
                refine step_append_any _ rfl _ _ 32 rfl wq.heap.size 34 i0 _ 5 64 Tryd.underlying32 hi hz0 hz1 hz2 rfl (by decide) _ _ _ rfl HO5.out (wq.heap.size + 1 + 1) _ _ _ (TP.cs ((.mk ck cs cn cl ca : T), C0, cc0)) rfl ⟨rfl, fun _ => ⟨_, rfl, Nat.lt_succ_self _, World.news_of_block HX5.out⟩⟩ ?b1 ?b2 ?b3 ?b4 ?_
                case b1 => (rw [← flatT_one]; exact flatT_ones _)
                case b2 => (unfold maxLen; omega)
                case b3 => omega
                case b4 => (first | omega | (simp; done) | (simp; omega))
                intro v6 w6 hown6 hgrow6 hat6
                obtain ⟨g6, cap6, rfl, hg6a, hg6b⟩ := hown6.form (Nat.succ_pos _)
                have HO6 := Lib.hid hown6
                have HB6 : Hid (Below wq.heap.size wq w6) := Lib.hid (HB5.out.grown hgrow6 HB5.out.size (fun k e => (HO5.out.lt k e).1))
                have hc6 : w6.cell? ⟨g, m1 * 5 + 3, none⟩ = some (.slice A0 n0 c0) := (HB6.out.cell (p := ⟨g, m1 * 5 + 3, none⟩) hgq).trans hcq
                have hf6 : w6.frozen? ⟨g, m1 * 5 + 3, none⟩ = false := (HB6.out.frozen (p := ⟨g, m1 * 5 + 3, none⟩) hgq).trans hfq
                clear hown6 hgrow6 hat6
                refine hK.out _ _ (hSB.out _ HB6.out) (fun hHeld => ?_)
                clear hK K
                simp only [List.getElem_toArray, List.getElem_cons_succ, List.getElem_cons_zero, Act.put, List.setIfInBounds_toArray, List.set_cons_zero, List.set_cons_succ]
                refine LastKit.wpAnyK_take (i := 17) (C := [17, 18, 19]) (v := ?v13_16) rfl (by kernel_rfl) (by kernel_rfl) (by kernel_rfl) (by kernel_rfl) (fun _ _ _ h => h) (Or.inl ⟨by rfl, ?hy13_16⟩) (by assumption) ?_
                case hy13_16 => (intro w1 hSw; (try dsimp only at hSw); go_simp; try with_reducible rfl)
                simp only [List.getElem_toArray, List.getElem_cons_succ, List.getElem_cons_zero, Act.put, List.setIfInBounds_toArray, List.set_cons_zero, List.set_cons_succ]
                refine LastKit.wpAnyK_take (i := 18) (C := [18, 19]) (v := ?v13_17) rfl (by kernel_rfl) (by kernel_rfl) (by kernel_rfl) (by kernel_rfl) (fun _ _ _ h => h) (Or.inl ⟨by rfl, ?hy13_17⟩) (by assumption) ?_
                case hy13_17 => (intro w1 hSw; (try dsimp only at hSw); go_simp; try with_reducible rfl)
                simp only [List.getElem_toArray, List.getElem_cons_succ, List.getElem_cons_zero, Act.put, List.setIfInBounds_toArray, List.set_cons_zero, List.set_cons_succ]
                refine LastKit.wpAnyK_ready (rs := [19]) (by kernel_rfl) (by simp) ?_
                refine LastKit.AllReadyK.last rfl (fun K hK => ?_)
                simp only [List.getElem_toArray, List.getElem_cons_succ, List.getElem_cons_zero]
                go_simp
                refine hK.out _ _ ?_
                clear hK K
                refine LastKit.wpAnyK_done (by kernel_rfl) ?_ _
                rotate_left
                refine step_build5 _ rfl 57 rfl ck cn ca cs C0 cl.length cc0 rfl ?_
                refine hK.out _ _ (hSB.out _ (((Below.refl wq.heap.size wq).alloc (Nat.le_refl _) _).drew)) (fun hHeld => ?_)
                clear hK K
                simp only [List.getElem_toArray, List.getElem_cons_succ, List.getElem_cons_zero, Act.put, List.setIfInBounds_toArray, List.set_cons_zero, List.set_cons_succ, World.size_alloc, World.size_drew]
                refine LastKit.wpAnyK_ready (rs := [3]) (by kernel_rfl) (by simp) ?_
                refine LastKit.AllReadyK.cons rfl (fun K hK => ?_) LastKit.AllReadyK.nil
                refine step_build0 _ rfl rfl ?_
                refine hK.out _ _ (hSB.out _ hBE3.out) (fun hHeld => ?_)
                clear hK K
                simp only [List.getElem_toArray, List.getElem_cons_succ, List.getElem_cons_zero, Act.put, List.setIfInBounds_toArray, List.set_cons_zero, List.set_cons_succ, World.size_alloc, World.size_drew]
                refine LastKit.wpAnyK_ready (rs := [10]) (by kernel_rfl) (by simp) ?_
                refine LastKit.AllReadyK.cons rfl (fun K hK => ?_) LastKit.AllReadyK.nil
                refine step_append_any _ rfl _ _ 32 rfl wq.heap.size 34 i0 _ 5 64 Tryd.underlying32 hi hz0 hz1 hz2 rfl (by decide) _ _ _ rfl hE3.out wr.heap.size A0 n0 c0 (flatT qs) rfl hR3.out (flatT_ones _) ?a1 ?a2 ?a3 ?_
                case a1 => (unfold maxLen; omega)
                case a2 => omega
                case a3 => (first | omega | (simp; done) | (simp; omega))
                intro v5 w5 hown5 hgrow5 hat5
                have HO5 : Hid (w5.ownsRow wq.heap.size 34 5 v5 n0 (flatT qs)) := Lib.hid (by rw [Nat.zero_add, List.nil_append] at hown5; exact hown5)
                have HB5 : Hid (Below wq.heap.size wq w5) := Lib.hid (hBE3.out.grown hgrow5 hBE3.out.size (fun k e => by have he : wq.heap.size + 1 = k := Option.some.inj e; omega))
                have hs5 := HB5.out.size
                have HX5 := Lib.hid ((hgrow5.block wq.heap.size (by first | omega | (simp; done) | (simp; omega)) (fun e => by have he : wq.heap.size = wq.heap.size + 1 := Option.some.inj e; omega)).trans hX3.out)
                clear hown5 hgrow5 hat5
                refine hK.out _ _ (hSB.out _ HB5.out) (fun hHeld => ?_)
                clear hK K
                simp only [List.getElem_toArray, List.getElem_cons_succ, List.getElem_cons_zero, Act.put, List.setIfInBounds_toArray, List.set_cons_zero, List.set_cons_succ]
                refine LastKit.wpAnyK_ready (rs := [16]) (by kernel_rfl) (by simp) ?_
                refine LastKit.AllReadyK.cons rfl (fun K hK => ?_) LastKit.AllReadyK.nil
                refine step_append_any _ rfl _ _ 32 rfl wq.heap.size 34 i0 _ 5 64 Tryd.underlying32 hi hz0 hz1 hz2 rfl (by decide) _ _ _ rfl HO5.out (wq.heap.size + 1) _ _ _ (TP.cs ((.mk ck cs cn cl ca : T), C0, cc0)) rfl ⟨rfl, fun _ => ⟨_, rfl, Nat.lt_succ_self _, World.news_of_block HX5.out⟩⟩ ?b1 ?b2 ?b3 ?b4 ?_
                case b1 => (rw [← flatT_one]; exact flatT_ones _)
                case b2 => (unfold maxLen; omega)
                case b3 => omega
                case b4 => (first | omega | (simp; done) | (simp; omega))
                intro v6 w6 hown6 hgrow6 hat6
                obtain ⟨g6, cap6, rfl, hg6a, hg6b⟩ := hown6.form (Nat.succ_pos _)
                have HO6 := Lib.hid hown6
                have HB6 : Hid (Below wq.heap.size wq w6) := Lib.hid (HB5.out.grown hgrow6 HB5.out.size (fun k e => (HO5.out.lt k e).1))
                have hc6 : w6.cell? ⟨g, m1 * 5 + 3, none⟩ = some (.slice A0 n0 c0) := (HB6.out.cell (p := ⟨g, m1 * 5 + 3, none⟩) hgq).trans hcq
                have hf6 : w6.frozen? ⟨g, m1 * 5 + 3, none⟩ = false := (HB6.out.frozen (p := ⟨g, m1 * 5 + 3, none⟩) hgq).trans hfq
                clear hown6 hgrow6 hat6
                refine hK.out _ _ (hSB.out _ HB6.out) (fun hHeld => ?_)
                clear hK K
                simp only [List.getElem_toArray, List.getElem_cons_succ, List.getElem_cons_zero, Act.put, List.setIfInBounds_toArray, List.set_cons_zero, List.set_cons_succ]
                refine LastKit.wpAnyK_take (i := 17) (C := [17, 18, 19]) (v := ?v13_18) rfl (by kernel_rfl) (by kernel_rfl) (by kernel_rfl) (by kernel_rfl) (fun _ _ _ h => h) (Or.inl ⟨by rfl, ?hy13_18⟩) (by assumption) ?_
                case hy13_18 => (intro w1 hSw; (try dsimp only at hSw); go_simp; try with_reducible rfl)
                simp only [List.getElem_toArray, List.getElem_cons_succ, List.getElem_cons_zero, Act.put, List.setIfInBounds_toArray, List.set_cons_zero, List.set_cons_succ]
                refine LastKit.wpAnyK_take (i := 18) (C := [18, 19]) (v := ?v13_19) rfl (by kernel_rfl) (by kernel_rfl) (by kernel_rfl) (by kernel_rfl) (fun _ _ _ h => h) (Or.inl ⟨by rfl, ?hy13_19⟩) (by assumption) ?_
                case hy13_19 => (intro w1 hSw; (try dsimp only at hSw); go_simp; try with_reducible rfl)
                simp only [List.getElem_toArray, List.getElem_cons_succ, List.getElem_cons_zero, Act.put, List.setIfInBounds_toArray, List.set_cons_zero, List.set_cons_succ]
                refine LastKit.wpAnyK_ready (rs := [19]) (by kernel_rfl) (by simp) ?_
                refine LastKit.AllReadyK.last rfl (fun K hK => ?_)
                simp only [List.getElem_toArray, List.getElem_cons_succ, List.getElem_cons_zero]
                go_simp
                refine hK.out _ _ ?_
                clear hK K
                refine LastKit.wpAnyK_done (by kernel_rfl) ?_ _
                rotate_left
                all_goals
                  go_wp2_with fail
                  go_roundw
                  case measure => simp [intOf]; omega
                  case rel =>
                    obtain ⟨r1, r2⟩ := kid_round (x := ((.mk ck cs cn cl ca : T), C0, cc0)) (n1 := n0 + 1) (m1 := m1) (i2 := j + 1) HO.out HPL.out HPT.out hxk.out (HBQ.out.trans (HB6.out.mono HBQ.out.size)) HQ.out.1 HQ.out.2.2 (HCK.out.1.good (by omega)) HCK.out.2 HO6.out HBQ.out.size (by rw [htn]) (by omega) (by omega) (by omega) hs1
                    refine ⟨j + 1, mt, g, cap, _, by omega, by go_num, rfl, by have := HM1.out; omega, by omega, ?_, own_take r1 (by rw [List.length_set]; exact HPL.out) (Nat.le_of_lt l2), Lib.hid (fun p hp => r2 p (List.mem_of_mem_take hp)), (HB.out.trans ((HBQ.out.trans (HB6.out.mono HBQ.out.size)).mono hs1)).setCell (p := ⟨g, m1 * 5 + 3, none⟩) hgge _, Lib.hid ((hdp.out.kid HPT.out ((hdp.out.top HPC.out).mono (by have := HM1.out; omega))).take mt)⟩
                    rw [List.length_take, List.length_set, HPL.out]
                    omega
              · as_aux_lemma =>
                obtain ⟨⟨k0, k1, k2, k3, k4⟩, f0, f1, f2, f3, f4⟩ := cell5 hBw.out
                go_wp2_with fail
                refine bodyPost_ret (results_read rfl rfl rfl rfl (put5_block hBw.out)) rfl ?_
                exact ⟨readEnd7_zero _ _ _ _, put5_below (HB1.out.trans (HB.out.mono (by omega))) (Nat.le_refl _)⟩
          · go_wp2_with fail
            go_roundw
            case rel => exact ⟨j + 1, m, g, cap, ps, by omega, by go_num, rfl, hm1, hm2, HPL.out, HO.out, Lib.hid (fun p hp => ⟨(hxk.out p hp).1.more (Nat.le_succ _), (hxk.out p hp).2⟩), HB.out, hdp⟩
            case measure => simp [intOf]; omega
        · go_wp2_with fail
          go_roundw
          case rel => exact ⟨j + 1, m, g, cap, ps, by omega, by go_num, rfl, hm1, hm2, HPL.out, HO.out, Lib.hid (fun p hp => ⟨(hxk.out p hp).1.more (Nat.le_succ _), (hxk.out p hp).2⟩), HB.out, hdp⟩
          case measure => simp [intOf]; omega
      · cases hm1' : decide (1 < (m : Int))
        · as_aux_lemma =>
          obtain rfl : m = 1 := by simp at hm1'; omega
          obtain ⟨p0, hp0⟩ : ∃ p0, ps[0]? = some p0 := ⟨_, List.getElem?_eq_getElem (by rw [HPL.out]; decide)⟩
          obtain ⟨_, _, _, c3, _, _⟩ := own_cells5 HO.out HPL.out hp0
          obtain ⟨ho0, hc0, hx0⟩ := hxk.out p0 (List.mem_of_getElem? hp0)
          have hd0 := hdp.out 0 p0 hp0
          clear hp0
          obtain ⟨⟨tk, ts, tn, tl, ta⟩, A0, c0⟩ := p0
          simp only [T.kids] at c3 hx0 hc0
          cases tl with
          | nil =>
            simp only [List.length_nil] at c3
            obtain ⟨⟨k0, k1, k2, k3, k4⟩, f0, f1, f2, f3, f4⟩ := cell5 hBw.out
            go_wp2_with fail
            refine bodyPost_ret (results_read rfl rfl rfl rfl (put5_block hBw.out)) rfl ?_
            exact ⟨readEnd7_zero _ _ _ _, put5_below (HB1.out.trans (HB.out.mono (by omega))) (Nat.le_refl _)⟩
          | cons x tl =>
            obtain ⟨b, o, A', c', rfl, hSb, x0, x1, x2, x3, x4, hcx, hxx⟩ := hx0.get_ (i := 0) (e := x) rfl
            have hgx : x.Good := ho0.2.2.2.2 x List.mem_cons_self
            obtain ⟨n0, hn0⟩ : ∃ n0, (x :: tl).length = n0 + 1 := ⟨tl.length, rfl⟩
            rw [hn0] at c3
            have hn1 : (((n0 + 1 : Nat) : Int) == 0) = false := by simp; omega
            have hHX := Lib.hid hxx
            have hGX := Lib.hid (And.intro hgx (hd0 x List.mem_cons_self))
            clear hx0 ho0 hc0 hn0 hxx hgx hd0
            obtain ⟨xk, xs, xn, xl, xa⟩ := x
            simp only [T.k, T.s, T.n, T.kids, T.at_, Nat.zero_mul, Nat.add_zero] at x0 x1 x2 x3 x4 hcx hHX
            generalize hxm : xl.length = xm at *
            obtain ⟨⟨k0, k1, k2, k3, k4⟩, f0, f1, f2, f3, f4⟩ := cell5 hBw.out
            go_wp2_with fail
            refine bodyPost_ret (results_read rfl rfl rfl rfl (put5_block hBw.out)) rfl ?_
            refine ⟨⟨.mk xk xs xn xl xa, A', c', 0, 0, by simp only [T.val, T.k, T.s, T.n, T.kids, T.at_, hxm]; rfl, hGX.out, by simp only [T.kids, hxm]; exact hcx, ?_⟩, put5_below (HB1.out.trans (HB.out.mono (by omega))) (Nat.le_refl _)⟩
            exact (hHX.out.kept fun k hk => put5_other (by have := hk.1; omega)).mono fun k hk => ⟨by have := hk.1; omega, Nat.lt_of_lt_of_eq hk.2.1 put5_size.symm⟩
        · as_aux_lemma =>
          obtain ⟨⟨k0, k1, k2, k3, k4⟩, f0, f1, f2, f3, f4⟩ := cell5 hBw.out
          go_wp2_with fail
          refine bodyPost_ret (results_read rfl rfl rfl rfl (put5_block hBw.out)) rfl ?_
          exact ⟨readEnd7_zero _ _ _ _, put5_below (HB1.out.trans (HB.out.mono (by omega))) (Nat.le_refl _)⟩
  · as_aux_lemma =>
    clear ew1 hb1
    go_enter Tryd.func10, Tryd.ntmps10
    go_upto_region 1 with (fail)
    rw [← HW1.out]
    obtain ⟨⟨k0, k1, k2, k3, k4⟩, f0, f1, f2, f3, f4⟩ := cell5 hB.out
    go_wp2_with fail
    refine bodyPost_ret (results_read rfl rfl rfl rfl (put5_block hB.out)) rfl ?_
    exact ⟨readEnd7_zero _ _ _ _, put5_below HB1.out (Nat.le_refl _)⟩
end Go.Proofs.YtldleckgkgeclaaDoor
