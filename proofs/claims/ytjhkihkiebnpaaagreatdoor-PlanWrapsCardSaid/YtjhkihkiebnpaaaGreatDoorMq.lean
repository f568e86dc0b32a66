/-
  Law 9, PlanWraps: it says true.
-/
import Derived.Test.YtjhkihkiebnpaaaGreatDoorMp11
set_option linter.unusedVariables false
set_option linter.unusedSimpArgs false
namespace Go.Proofs.YtjhkihkiebnpaaaGreatDoor
open Go.RowKit
set_option linter.unusedVariables false
set_option linter.unusedSimpArgs false
theorem wrap_kids {kk : Nat} (hk : kk ≤ 4) (p : P) : ((wrapP kk p).kids.length = 1 ∧ (wrapP kk p).kids[0]? = some p) ∨ ((wrapP kk p).kids.length = 2 ∧ (wrapP kk p).kids[1]? = some p) := by
  obtain rfl | rfl | rfl | rfl | rfl : kk = 0 ∨ kk = 1 ∨ kk = 2 ∨ kk = 3 ∨ kk = 4 := by omega
  · exact .inl ⟨rfl, rfl⟩
  · exact .inl ⟨rfl, rfl⟩
  · exact .inl ⟨rfl, rfl⟩
  · exact .inl ⟨rfl, rfl⟩
  · exact .inr ⟨rfl, rfl⟩
theorem wrap_bytes {kk : Nat} {t : T} {p : P} (h : PlanOf t p) : (⟨(headB kk).toArray⟩ : ByteArray) ++ prP p ++ ⟨#[41]⟩ = ⟨(headB kk ++ prT t ++ [41]).toArray⟩ := by
  unfold prP
  rw [planOf_pr h]
  apply ByteArray.ext
  simp [ByteArray.data_append]
theorem headB_len {kk : Nat} (hk : kk ≤ 4) : (headB kk).length ≤ 40 := by
  obtain rfl | rfl | rfl | rfl | rfl : kk = 0 ∨ kk = 1 ∨ kk = 2 ∨ kk = 3 ∨ kk = 4 := by omega
  all_goals decide
theorem rem5 (n : Int) (h : 0 < n) : ∃ kk : Nat, kk ≤ 4 ∧ Int.tmod n 5 = (kk : Int) := ⟨(Int.tmod n 5).toNat, by have := Int.tmod_lt_of_pos n (show (0 : Int) < 5 by decide); omega, by have := Int.tmod_nonneg 5 (Int.le_of_lt h); omega⟩
set_option maxRecDepth 100000 in
set_option maxHeartbeats 80000000 in
theorem planWraps_any (s : ByteArray) (n : Int) (W : World) (hE : Env W) : Calls Tryz.prog 6 #[.string s, .int .i64 n] W fun e W' => e = .returned (.bool true) ∧ Below W.heap.size W W' := by
  have HE := Lib.hid hE
  clear hE
  go_enter Tryz.func6, Tryz.ntmps6
  go_upto_if 17 with (fail)
  go_cut [0] (fun v wx => (∃ s' : ByteArray, s'.size ≤ 700 ∧ v = .string s') ∧ wx = W)
  case first =>
    cases h6 : decide (250 < (s.size : Int))
    · have h6' : s.size ≤ 250 := by have := of_decide_eq_false h6; omega
      go_wp2_with fail
      go_meet
      exact ⟨⟨s, by omega, rfl⟩, rfl⟩
    · have h6' : 250 ≤ s.size := by have := of_decide_eq_true h6; omega
      go_wp2_with fail
      go_meet
      exact ⟨⟨_, by simp only [ByteArray.size_extract]; omega, rfl⟩, rfl⟩
  case rest =>
  obtain ⟨⟨s', hs', rfl⟩, hwc⟩ := hcut
  obtain rfl : W = wc := hwc.symm
  clear hwc
  have HR := Lib.hid (planRead_any s' (by omega) W HE.out)
  have HKN := Lib.hid (fun w (hb : Below W.heap.size W w) => known9_any w (HE.out.low hb))
  have hok := Lib.hid (fun h => readP_of (s := s') h)
  generalize readP s' = R at *
  obtain ⟨p, why, pl⟩ := R
  simp only [PReadIs] at HR hok
  go_wp2_with fail
  refine (HR.out).mono ?_
  rintro e w1 ⟨⟨a, rfl, hP⟩, hb1⟩
  simp only [P.val]
  obtain ⟨w2, ew2⟩ : ∃ w2, w2 = w1.alloc (.cells #[.int .i64 p.k, .string p.nm, .slice a.ea p.ex.length a.ec, .slice a.ca p.cols.length a.cc, .slice a.la p.left.length a.lc, .slice a.ra p.right.length a.rc, .slice a.ga p.ag.length a.gc, .slice a.ka p.kids.length a.kc] 27) := ⟨_, rfl⟩
  have hb2 : Below w1.heap.size w1 w2 := by rw [ew2]; exact (Below.refl _ _).alloc (Nat.le_refl _) _
  have hx2 : w2.heap[w1.heap.size]? = some (.cells #[.int .i64 p.k, .string p.nm, .slice a.ea p.ex.length a.ec, .slice a.ca p.cols.length a.cc, .slice a.la p.left.length a.lc, .slice a.ra p.right.length a.rc, .slice a.ga p.ag.length a.gc, .slice a.ka p.kids.length a.kc] 27 (0, 0)) := by rw [ew2]; exact heap_alloc_new w1 _
  have HW2 := Lib.hid ew2
  clear ew2
  have hP2 := (hP.mono (S' := LT w1) fun k hk => hk.2).low hb2
  have HB2 := Lib.hid (hb1.trans (hb2.mono hb1.size))
  have hz1 : w1.heap.size < w2.heap.size := (Array.getElem?_eq_some_iff.1 hx2).1
  have HX2 := Lib.hid hx2
  have HP2 := Lib.hid hP2
  clear hb1 hb2 hP hP2 hx2
  go_upto_region 4 with (fail)
  rw [← HW2.out]
  by_cases hw : why = 0
  · subst hw
    obtain ⟨t, hof, hl, hpl0, _⟩ := hok.out rfl
    have hsz := planOf_size hof
    have HPR := Lib.hid (fun b w' (hA : PAt w' (LT w') p b) (hb : Below W.heap.size W w') => planPrint_any hof hl b w' hA (HE.out.low hb))
    have hpos := prP_pos hof
    have HOF := Lib.hid hof
    have HLL := Lib.hid hl
    have HS6 := Lib.hid hsz
    clear hok
    go_upto_if 30 with (fail)
    go_cut [8] (fun v wx => (∃ kk : Nat, kk ≤ 4 ∧ v = .int .i64 (kk : Int)) ∧ wx = w2)
    case first =>
      cases h0 : decide (0 < n)
      · have h0' : ¬ 0 < n := of_decide_eq_false h0
        go_wp2_with fail
        go_meet
        case rel => exact ⟨⟨0, by decide, rfl⟩, rfl⟩
      · have h0' : 0 < n := of_decide_eq_true h0
        obtain ⟨kk, hk1, hk2⟩ := rem5 n h0'
        have hwk : IntKind.i64.wrap (kk : Int) = (kk : Int) := (IntWalk.i64_left _).trans (IntWalk.wrap64_in _ (by omega))
        have hwk2 : wrap64 (kk : Int) = (kk : Int) := IntWalk.wrap64_in _ (by omega)
        go_wp2_with fail
        go_meet
        case rel => exact ⟨⟨kk, hk1, by first | rfl | rw [hk2] | simp [hk2, hwk, hwk2]⟩, rfl⟩
    case rest =>
    obtain ⟨⟨kk, hkk, rfl⟩, hwc⟩ := hcut
    obtain rfl : w2 = wc := hwc.symm
    clear hwc
    have hpr := HPR.out a w2 HP2.out HB2.out
    simp only [P.val] at hpr
    have HPA := Lib.hid hpr
    clear hpr
    obtain ⟨hd, hhd⟩ : ∃ hd, hd = (⟨(headB kk).toArray⟩ : ByteArray) := ⟨_, rfl⟩
    have hhl : hd.size ≤ 40 := by rw [hhd]; exact headB_len hkk
    have hby : Hid (hd ++ prP p ++ ⟨#[41]⟩ = ⟨(headB kk ++ prT t ++ [41]).toArray⟩) := Lib.hid (by rw [hhd]; exact wrap_bytes hof)
    have HWR := Lib.hid (wrap_read hkk hof)
    rw [← hby.out] at HWR
    have HRU := Lib.hid (fun w' (hb : Below W.heap.size W w') => planRead_any (hd ++ prP p ++ ⟨#[41]⟩) (by rw [ByteArray.size_append, ByteArray.size_append]; show hd.size + (prP p).size + 1 ≤ 1000000; omega) w' (HE.out.low hb))
    have hzz : (hd ++ prP p).size = hd.size + (prP p).size := by rw [ByteArray.size_append]
    have hl6 : (prP p).size ≤ 600 := hl
    have hq7 : ¬ 9223372036854775807 < hd.size + (prP p).size := by omega
    have hq8 : ¬ 9223372036854775807 < hd.size + (prP p).size + 1 := by omega
    have HHD := Lib.hid hhd
    clear hhd
    generalize hpp : prP p = pp at *
    clear hof hl hpp
    obtain ⟨z0, z1, z2, z3, z4, z5, z6, z7, _, _, _, _, _, _, _, _⟩ := cell8 (HX2.out)
    go_wp2_with fail
    refine (HPA.out).mono ?_
    rintro e w3 ⟨rfl, hb3⟩
    have HB23 := Lib.hid hb3
    clear hb3 z0 z1 z2 z3 z4 z5 z6 z7
    go_upto_region 10 with (fail)
    go_cut [10] (fun v wx => v = .string hd ∧ Below w3.heap.size w3 wx)
    case first =>
      obtain rfl | rfl | rfl | rfl | rfl : kk = 0 ∨ kk = 1 ∨ kk = 2 ∨ kk = 3 ∨ kk = 4 := by omega
      all_goals
        go_wp2_with fail
        go_meet
        case rel => exact ⟨by rw [HHD.out]; rfl, (Below.refl _ _).alloc (Nat.le_refl _) _⟩
    case rest =>
    obtain ⟨rfl, hb4⟩ := hcut
    obtain ⟨w4, ew4⟩ : ∃ w4, w4 = wc := ⟨_, rfl⟩
    rw [← ew4] at hb4 ⊢
    have HB24 := Lib.hid (HB23.out.trans (hb4.mono HB23.out.size))
    have HB4 := Lib.hid (HB2.out.trans (HB24.out.mono HB2.out.size))
    clear hb4 ew4
    go_wp2_with fail
    refine (HRU.out w4 HB4.out).mono ?_
    rintro e w8 ⟨⟨c, rfl, hPu⟩, hb8⟩
    simp only [P.val]
    generalize hRU : readP (hd ++ pp ++ ⟨#[41]⟩) = RU at *
    clear hRU
    obtain ⟨q, qw, ql⟩ := RU
    simp only at hPu HWR ⊢
    obtain ⟨w9, ew9⟩ : ∃ w9, w9 = w8.alloc (.cells #[.int .i64 q.k, .string q.nm, .slice c.ea q.ex.length c.ec, .slice c.ca q.cols.length c.cc, .slice c.la q.left.length c.lc, .slice c.ra q.right.length c.rc, .slice c.ga q.ag.length c.gc, .slice c.ka q.kids.length c.kc] 27) := ⟨_, rfl⟩
    have hb9 : Below w8.heap.size w8 w9 := by rw [ew9]; exact (Below.refl _ _).alloc (Nat.le_refl _) _
    have hx9 : w9.heap[w8.heap.size]? = some (.cells #[.int .i64 q.k, .string q.nm, .slice c.ea q.ex.length c.ec, .slice c.ca q.cols.length c.cc, .slice c.la q.left.length c.lc, .slice c.ra q.right.length c.rc, .slice c.ga q.ag.length c.gc, .slice c.ka q.kids.length c.kc] 27 (0, 0)) := by rw [ew9]; exact heap_alloc_new w8 _
    have HW9 := Lib.hid ew9
    clear ew9
    have HB29 := Lib.hid (HB24.out.trans ((hb8.trans (hb9.mono hb8.size)).mono HB24.out.size))
    have HB9W := Lib.hid (HB2.out.trans (HB29.out.mono HB2.out.size))
    have HX9 := Lib.hid hx9
    have HQ9 := Lib.hid ((hPu.mono (S' := LT w8) fun k hk => hk.2).low hb9)
    have HP9 := Lib.hid (HP2.out.low HB29.out)
    have hz9 : w8.heap.size < w9.heap.size := (Array.getElem?_eq_some_iff.1 hx9).1
    clear hb8 hb9 hx9 hPu
    go_upto_region 12 with (fail)
    rw [← HW9.out]
    rcases HWR.out with ⟨_, h3⟩ | ⟨hq, hof2, hpq, hl2⟩
    · have HK := Lib.hid (HKN.out w9 HB9W.out)
      rcases h3 with h3 | h3
      · subst h3
        go_wp2_with fail
        refine (HK.out).mono ?_
        rintro e wk ⟨rfl, hbk⟩
        have HBK := Lib.hid (HB9W.out.trans (hbk.mono HB9W.out.size))
        clear hbk
        go_wp2_with fail
        go_ret
        exact ⟨rfl, HBK.out⟩
      · subst h3
        go_wp2_with fail
        refine (HK.out).mono ?_
        rintro e wk ⟨rfl, hbk⟩
        have HBK := Lib.hid (HB9W.out.trans (hbk.mono HB9W.out.size))
        clear hbk
        go_wp2_with fail
        go_ret
        exact ⟨rfl, HBK.out⟩
    · injection hq with h1 h2
      injection h2 with h2 h3
      subst h2 h3
      rw [← h1] at hof2 hpq hl2
      have HQE := Lib.hid h1
      have hkds := wrap_kids hkk p
      rw [← h1] at hkds
      have hszq := wrap_size hkk p
      rw [← h1] at hszq
      clear h1
      have HKDS := Lib.hid hkds
      have HALL : Hid (∀ w', Below w9.heap.size w9 w' → C8 w' w1.heap.size (.int .i64 p.k) (.string p.nm) (.slice a.ea p.ex.length a.ec) (.slice a.ca p.cols.length a.cc) (.slice a.la p.left.length a.lc) (.slice a.ra p.right.length a.rc) (.slice a.ga p.ag.length a.gc) (.slice a.ka p.kids.length a.kc) ∧ C8 w' w8.heap.size (.int .i64 q.k) (.string q.nm) (.slice c.ea q.ex.length c.ec) (.slice c.ca q.cols.length c.cc) (.slice c.la q.left.length c.lc) (.slice c.ra q.right.length c.rc) (.slice c.ga q.ag.length c.gc) (.slice c.ka q.kids.length c.kc)) :=
        Lib.hid fun w' h => ⟨cell8 ((h.block _ (Nat.lt_of_lt_of_le hz1 HB29.out.size)).trans ((HB29.out.block _ hz1).trans HX2.out)), cell8 ((h.block _ hz9).trans HX9.out)⟩
      have HPQ := Lib.hid (fun w' (h : Below w9.heap.size w9 w') => planPrint_any hof2 hl2 c w' (HQ9.out.low h) (HE.out.low (HB9W.out.trans (h.mono HB9W.out.size))))
      rw [hpq] at HPQ
      have HSQ := Lib.hid (fun w' (h : Below w9.heap.size w9 w') => size_any q (by have := HS6.out; rw [hszq]; split <;> omega) c w' (HQ9.out.low h))
      have HSP := Lib.hid (fun w' (h : Below w9.heap.size w9 w') => size_any p (by have := HS6.out; omega) a w' (HP9.out.low h))
      have HTQ := Lib.hid (fun w' (h : Below w9.heap.size w9 w') => tabsTop_any q (planOf_tabs hof2) c w' (HQ9.out.low h))
      have HTP := Lib.hid (fun w' (h : Below w9.heap.size w9 w') => tabsTop_any p (planOf_tabs HOF.out) a w' (HP9.out.low h))
      have H4 := Lib.hid (fun A B c d w' (hA : Lies w' (LT w') A (strs (tabsU p))) (hB : Lies w' (LT w') B (strs (tabsU p))) => keepTexts_self (tabsU p) (by have := tabsU_len p; have := tabs_size p; have := HS6.out; omega) A B c d w' hA hB)
      have HTE : Hid (kk ≠ 4 → tabsU q = tabsU p) := Lib.hid (fun h => by rw [HQE.out]; unfold tabsU; rw [wrap_tabs (by omega)])
      have HKN9 := Lib.hid (fun w' (h : Below w9.heap.size w9 w') => HKN.out w' (HB9W.out.trans (h.mono HB9W.out.size)))
      simp only [P.val] at HPQ HSQ HSP HTQ HTP
      have HSE := Lib.hid hszq
      have HPE := Lib.hid hpq
      clear hof2 hpq hl2 hkds hszq
      go_upto_region 14 with (fail)
      go_cut [14] (fun v wx => v = .int .i64 q.k ∧ Below w9.heap.size w9 wx)
      case first =>
        have hqe := HQE.out
        have hqk : q.k = (wrapP kk p).k := by rw [hqe]
        have HQK := Lib.hid hqk
        clear hqe hqk
        obtain rfl | rfl | rfl | rfl | rfl : kk = 0 ∨ kk = 1 ∨ kk = 2 ∨ kk = 3 ∨ kk = 4 := by omega
        all_goals
          go_wp2_with fail
          go_meet
          case rel => exact ⟨by rw [HQK.out]; rfl, (Below.refl _ _).alloc (Nat.le_refl _) _⟩
      case rest =>
      obtain ⟨rfl, hbj⟩ := hcut
      obtain ⟨wj, ewj⟩ : ∃ wj, wj = wc := ⟨_, rfl⟩
      rw [← ewj] at hbj ⊢
      have HJ := Lib.hid hbj
      clear hbj ewj
      go_upto_region 15 with (fail)
      go_cut [94] (fun v wx => v = .bool false ∧ Below w9.heap.size w9 wx)
      case first =>
        rcases HKDS.out with ⟨hql, hkid⟩ | ⟨hql, hkid⟩
        · obtain ⟨bq, oq, ak, hka, hbq, hck, hpk⟩ := (HQ9.out.kids).get_ (Below.refl _ _) hkid
          obtain ⟨o1, ho1⟩ : ∃ o1, o1 = oq + 0 * 8 := ⟨_, rfl⟩
          rw [← ho1] at hck
          obtain rfl : o1 = oq := by omega
          have hw0 : IntKind.i64.wrap 0 = 0 := by kernel_rfl
          have hw1 : IntKind.i64.wrap 1 = 1 := by kernel_rfl
          have HKP := Lib.hid (fun w' (h : Below w9.heap.size w9 w') => keepPlan_self p ak a w' (hpk.low h) (HP9.out.low h))
          simp only [P.val] at HKP
          have HCK : Hid (∀ w', Below w9.heap.size w9 w' → w'.cell? ⟨bq, o1, none⟩ = some (.int .i64 p.k) ∧ w'.cell? ⟨bq, o1 + 1, none⟩ = some (.string p.nm) ∧ w'.cell? ⟨bq, o1 + 2, none⟩ = some (.slice ak.ea p.ex.length ak.ec) ∧ w'.cell? ⟨bq, o1 + 3, none⟩ = some (.slice ak.ca p.cols.length ak.cc) ∧ w'.cell? ⟨bq, o1 + 4, none⟩ = some (.slice ak.la p.left.length ak.lc) ∧ w'.cell? ⟨bq, o1 + 5, none⟩ = some (.slice ak.ra p.right.length ak.rc) ∧ w'.cell? ⟨bq, o1 + 6, none⟩ = some (.slice ak.ga p.ag.length ak.gc) ∧ w'.cell? ⟨bq, o1 + 7, none⟩ = some (.slice ak.ka p.kids.length ak.kc)) :=
            Lib.hid fun w' h => by
              have hm : ∀ i u, (P.cs p ak)[i]? = some u → w'.cell? ⟨bq, o1 + i, none⟩ = some u := fun i u hu => (h.cell (p := ⟨bq, o1 + i, none⟩) hbq).trans (hck i u hu)
              exact ⟨hm 0 _ rfl, hm 1 _ rfl, hm 2 _ rfl, hm 3 _ rfl, hm 4 _ rfl, hm 5 _ rfl, hm 6 _ rfl, hm 7 _ rfl⟩
          clear hck hpk ho1 hkid
          have HKA := Lib.hid hka
          have HQL := Lib.hid hql
          clear hka hql
          refine wp_region_held_drew (S := fun w' => Below w9.heap.size w9 w') (by kernel_rfl) (HJ.out.drew) (fun hHeld => ?_)
          refine wpAnyH_take (i := 0) (v := .int .i64 0) rfl (by kernel_rfl) (by kernel_rfl) (by kernel_rfl) (fun _ _ _ h => h) (Or.inl ⟨by rfl, fun w1' hSw => by (go_simp)⟩) (by assumption) ?_
          simp only [List.getElem_toArray, List.getElem_cons_zero, Act.put, List.setIfInBounds_toArray, List.set_cons_zero, List.set_cons_succ]
          refine wpAnyH_take (i := 1) (v := .bool false) rfl (by kernel_rfl) (by kernel_rfl) (by kernel_rfl) (fun _ _ _ h => h) (Or.inl ⟨by rfl, fun w1' hSw => by (go_simp)⟩) (by assumption) ?_
          simp only [List.getElem_toArray, List.getElem_cons_succ, List.getElem_cons_zero, Act.put, List.setIfInBounds_toArray, List.set_cons_zero, List.set_cons_succ]
          refine wpAnyH_take (i := 2) (v := .bool false) rfl (by kernel_rfl) (by kernel_rfl) (by kernel_rfl) (fun _ _ _ h => h) (Or.inl ⟨by rfl, fun w1' hSw => by (go_simp)⟩) (by assumption) ?_
          simp only [List.getElem_toArray, List.getElem_cons_succ, List.getElem_cons_zero, Act.put, List.setIfInBounds_toArray, List.set_cons_zero, List.set_cons_succ]
          refine wpAnyH_take (i := 3) (v := .pointer (some ⟨w8.heap.size, 0, none⟩)) rfl (by kernel_rfl) (by kernel_rfl) (by kernel_rfl) (fun _ _ _ h => h) (Or.inl ⟨by rfl, fun w1' hSw => by (go_simp)⟩) (by assumption) ?_
          simp only [List.getElem_toArray, List.getElem_cons_succ, List.getElem_cons_zero, Act.put, List.setIfInBounds_toArray, List.set_cons_zero, List.set_cons_succ]
          refine wpAnyH_take (i := 4) (v := .int .i64 q.k) rfl (by kernel_rfl) (by kernel_rfl) (by kernel_rfl) (fun _ _ _ h => h) (Or.inl ⟨by rfl, fun w1' hSw => by (obtain ⟨⟨z0, z1, z2, z3, z4, z5, z6, z7, _, _, _, _, _, _, _, _⟩, ⟨y0, y1, y2, y3, y4, y5, y6, y7, _, _, _, _, _, _, _, _⟩⟩ := HALL.out _ hSw; go_simp)⟩) (by assumption) ?_
          simp only [List.getElem_toArray, List.getElem_cons_succ, List.getElem_cons_zero, Act.put, List.setIfInBounds_toArray, List.set_cons_zero, List.set_cons_succ]
          refine wpAnyH_take (i := 5) (v := .int .i64 q.k) rfl (by kernel_rfl) (by kernel_rfl) (by kernel_rfl) (fun _ _ _ h => h) (Or.inl ⟨by rfl, fun w1' hSw => by (go_simp)⟩) (by assumption) ?_
          simp only [List.getElem_toArray, List.getElem_cons_succ, List.getElem_cons_zero, Act.put, List.setIfInBounds_toArray, List.set_cons_zero, List.set_cons_succ]
          refine wpAnyH_take (i := 6) (v := .bool false) rfl (by kernel_rfl) (by kernel_rfl) (by kernel_rfl) (fun _ _ _ h => h) (Or.inl ⟨by rfl, fun w1' hSw => by (go_simp)⟩) (by assumption) ?_
          simp only [List.getElem_toArray, List.getElem_cons_succ, List.getElem_cons_zero, Act.put, List.setIfInBounds_toArray, List.set_cons_zero, List.set_cons_succ]
          refine wpAnyH_take (i := 7) (v := .bool false) rfl (by kernel_rfl) (by kernel_rfl) (by kernel_rfl) (fun _ _ _ h => h) (Or.inl ⟨by rfl, fun w1' hSw => by (go_simp)⟩) (by assumption) ?_
          simp only [List.getElem_toArray, List.getElem_cons_succ, List.getElem_cons_zero, Act.put, List.setIfInBounds_toArray, List.set_cons_zero, List.set_cons_succ]
          refine wpAnyH_take (i := 8) (v := .bool false) rfl (by kernel_rfl) (by kernel_rfl) (by kernel_rfl) (fun _ _ _ h => h) (Or.inl ⟨by rfl, fun w1' hSw => by (go_simp)⟩) (by assumption) ?_
          simp only [List.getElem_toArray, List.getElem_cons_succ, List.getElem_cons_zero, Act.put, List.setIfInBounds_toArray, List.set_cons_zero, List.set_cons_succ]
          refine wpAnyH_take (i := 9) (v := .pointer (some ⟨w8.heap.size, 7, none⟩)) rfl (by kernel_rfl) (by kernel_rfl) (by kernel_rfl) (fun _ _ _ h => h) (Or.inl ⟨by rfl, fun w1' hSw => by (go_simp)⟩) (by assumption) ?_
          simp only [List.getElem_toArray, List.getElem_cons_succ, List.getElem_cons_zero, Act.put, List.setIfInBounds_toArray, List.set_cons_zero, List.set_cons_succ]
          refine wpAnyH_take (i := 10) (v := .slice (some ⟨bq, o1, none⟩) 1 c.kc) rfl (by kernel_rfl) (by kernel_rfl) (by kernel_rfl) (fun _ _ _ h => h) (Or.inl ⟨by rfl, fun w1' hSw => by (obtain ⟨⟨z0, z1, z2, z3, z4, z5, z6, z7, _, _, _, _, _, _, _, _⟩, ⟨y0, y1, y2, y3, y4, y5, y6, y7, _, _, _, _, _, _, _, _⟩⟩ := HALL.out _ hSw; rw [HQL.out, HKA.out] at y7; go_simp)⟩) (by assumption) ?_
          simp only [List.getElem_toArray, List.getElem_cons_succ, List.getElem_cons_zero, Act.put, List.setIfInBounds_toArray, List.set_cons_zero, List.set_cons_succ]
          refine wpAnyH_take (i := 11) (v := .int .i64 1) rfl (by kernel_rfl) (by kernel_rfl) (by kernel_rfl) (fun _ _ _ h => h) (Or.inl ⟨by rfl, fun w1' hSw => by (go_simp)⟩) (by assumption) ?_
          simp only [List.getElem_toArray, List.getElem_cons_succ, List.getElem_cons_zero, Act.put, List.setIfInBounds_toArray, List.set_cons_zero, List.set_cons_succ]
          refine wpAnyH_take (i := 12) (v := .bool false) rfl (by kernel_rfl) (by kernel_rfl) (by kernel_rfl) (fun _ _ _ h => h) (Or.inl ⟨by rfl, fun w1' hSw => by (go_simp)⟩) (by assumption) ?_
          simp only [List.getElem_toArray, List.getElem_cons_succ, List.getElem_cons_zero, Act.put, List.setIfInBounds_toArray, List.set_cons_zero, List.set_cons_succ]
          refine wpAnyH_take (i := 13) (v := .bool false) rfl (by kernel_rfl) (by kernel_rfl) (by kernel_rfl) (fun _ _ _ h => h) (Or.inl ⟨by rfl, fun w1' hSw => by (go_simp)⟩) (by assumption) ?_
          simp only [List.getElem_toArray, List.getElem_cons_succ, List.getElem_cons_zero, Act.put, List.setIfInBounds_toArray, List.set_cons_zero, List.set_cons_succ]
          refine wpAnyH_take (i := 14) (v := .bool false) rfl (by kernel_rfl) (by kernel_rfl) (by kernel_rfl) (fun _ _ _ h => h) (Or.inl ⟨by rfl, fun w1' hSw => by (go_simp)⟩) (by assumption) ?_
          simp only [List.getElem_toArray, List.getElem_cons_succ, List.getElem_cons_zero, Act.put, List.setIfInBounds_toArray, List.set_cons_zero, List.set_cons_succ]
          refine wpAnyH_take (i := 15) (v := .pointer (some ⟨w8.heap.size, 7, none⟩)) rfl (by kernel_rfl) (by kernel_rfl) (by kernel_rfl) (fun _ _ _ h => h) (Or.inl ⟨by rfl, fun w1' hSw => by (go_simp)⟩) (by assumption) ?_
          simp only [List.getElem_toArray, List.getElem_cons_succ, List.getElem_cons_zero, Act.put, List.setIfInBounds_toArray, List.set_cons_zero, List.set_cons_succ]
          refine wpAnyH_take (i := 16) (v := .slice (some ⟨bq, o1, none⟩) 1 c.kc) rfl (by kernel_rfl) (by kernel_rfl) (by kernel_rfl) (fun _ _ _ h => h) (Or.inl ⟨by rfl, fun w1' hSw => by (obtain ⟨⟨z0, z1, z2, z3, z4, z5, z6, z7, _, _, _, _, _, _, _, _⟩, ⟨y0, y1, y2, y3, y4, y5, y6, y7, _, _, _, _, _, _, _, _⟩⟩ := HALL.out _ hSw; rw [HQL.out, HKA.out] at y7; go_simp)⟩) (by assumption) ?_
          simp only [List.getElem_toArray, List.getElem_cons_succ, List.getElem_cons_zero, Act.put, List.setIfInBounds_toArray, List.set_cons_zero, List.set_cons_succ]
          refine wpAnyH_take (i := 17) (v := .pointer (some ⟨w8.heap.size, 7, none⟩)) rfl (by kernel_rfl) (by kernel_rfl) (by kernel_rfl) (fun _ _ _ h => h) (Or.inl ⟨by rfl, fun w1' hSw => by (go_simp)⟩) (by assumption) ?_
          simp only [List.getElem_toArray, List.getElem_cons_succ, List.getElem_cons_zero, Act.put, List.setIfInBounds_toArray, List.set_cons_zero, List.set_cons_succ]
          refine wpAnyH_take (i := 18) (v := .slice (some ⟨bq, o1, none⟩) 1 c.kc) rfl (by kernel_rfl) (by kernel_rfl) (by kernel_rfl) (fun _ _ _ h => h) (Or.inl ⟨by rfl, fun w1' hSw => by (obtain ⟨⟨z0, z1, z2, z3, z4, z5, z6, z7, _, _, _, _, _, _, _, _⟩, ⟨y0, y1, y2, y3, y4, y5, y6, y7, _, _, _, _, _, _, _, _⟩⟩ := HALL.out _ hSw; rw [HQL.out, HKA.out] at y7; go_simp)⟩) (by assumption) ?_
          simp only [List.getElem_toArray, List.getElem_cons_succ, List.getElem_cons_zero, Act.put, List.setIfInBounds_toArray, List.set_cons_zero, List.set_cons_succ]
          refine wpAnyH_take (i := 19) (v := .int .i64 1) rfl (by kernel_rfl) (by kernel_rfl) (by kernel_rfl) (fun _ _ _ h => h) (Or.inl ⟨by rfl, fun w1' hSw => by (go_simp)⟩) (by assumption) ?_
          simp only [List.getElem_toArray, List.getElem_cons_succ, List.getElem_cons_zero, Act.put, List.setIfInBounds_toArray, List.set_cons_zero, List.set_cons_succ]
          refine wpAnyH_take (i := 20) (v := .int .i64 0) rfl (by kernel_rfl) (by kernel_rfl) (by kernel_rfl) (fun _ _ _ h => h) (Or.inl ⟨by rfl, fun w1' hSw => by (go_simp)⟩) (by assumption) ?_
          simp only [List.getElem_toArray, List.getElem_cons_succ, List.getElem_cons_zero, Act.put, List.setIfInBounds_toArray, List.set_cons_zero, List.set_cons_succ]
          refine wpAnyH_take (i := 21) (v := .pointer (some ⟨bq, o1, none⟩)) rfl (by kernel_rfl) (by kernel_rfl) (by kernel_rfl) (fun _ _ _ h => h) (Or.inl ⟨by rfl, fun w1' hSw => by (go_simp)⟩) (by assumption) ?_
          simp only [List.getElem_toArray, List.getElem_cons_succ, List.getElem_cons_zero, Act.put, List.setIfInBounds_toArray, List.set_cons_zero, List.set_cons_succ]
          refine wpAnyH_take (i := 22) (v := (.agg #[.int .i64 p.k, .string p.nm, .slice ak.ea p.ex.length ak.ec, .slice ak.ca p.cols.length ak.cc, .slice ak.la p.left.length ak.lc, .slice ak.ra p.right.length ak.rc, .slice ak.ga p.ag.length ak.gc, .slice ak.ka p.kids.length ak.kc])) rfl (by kernel_rfl) (by kernel_rfl) (by kernel_rfl) (fun _ _ _ h => h) (Or.inl ⟨by rfl, fun w1' hSw => by (have hkc := HCK.out _ hSw; obtain ⟨k0, k1, k2, k3, k4, k5, k6, k7⟩ := hkc; go_simp)⟩) (by assumption) ?_
          simp only [List.getElem_toArray, List.getElem_cons_succ, List.getElem_cons_zero, Act.put, List.setIfInBounds_toArray, List.set_cons_zero, List.set_cons_succ]
          refine wpAnyH_take (i := 23) (v := (.agg #[.int .i64 p.k, .string p.nm, .slice a.ea p.ex.length a.ec, .slice a.ca p.cols.length a.cc, .slice a.la p.left.length a.lc, .slice a.ra p.right.length a.rc, .slice a.ga p.ag.length a.gc, .slice a.ka p.kids.length a.kc])) rfl (by kernel_rfl) (by kernel_rfl) (by kernel_rfl) (fun _ _ _ h => h) (Or.inl ⟨by rfl, fun w1' hSw => by (obtain ⟨⟨z0, z1, z2, z3, z4, z5, z6, z7, _, _, _, _, _, _, _, _⟩, ⟨y0, y1, y2, y3, y4, y5, y6, y7, _, _, _, _, _, _, _, _⟩⟩ := HALL.out _ hSw; go_simp)⟩) (by assumption) ?_
          simp only [List.getElem_toArray, List.getElem_cons_succ, List.getElem_cons_zero, Act.put, List.setIfInBounds_toArray, List.set_cons_zero, List.set_cons_succ]
          refine wpAnyH_ready (rs := [24]) (by kernel_rfl) (by simp) ?_
          refine AllReadyH.cons rfl (fun K hK => ?_) AllReadyH.nil
          simp only [List.getElem_toArray, List.getElem_cons_succ, List.getElem_cons_zero]
          go_simp
          refine (HKP.out wj.drew HJ.out.drew).mono ?_
          rintro e wa ⟨rfl, hbwa⟩
          go_wp2_with fail
          have HBA : Hid (Below w9.heap.size w9 wa) := Lib.hid (HJ.out.drew.trans (hbwa.mono HJ.out.drew.size))
          refine hK.out _ _ HBA.out (fun hHeld => ?_)
          clear hK K hbwa
          refine wpAnyH_take (i := 25) (v := .bool false) rfl (by kernel_rfl) (by kernel_rfl) (by kernel_rfl) (fun _ _ _ h => h) (Or.inl ⟨by rfl, fun w1' hSw => by (go_simp)⟩) (by assumption) ?_
          simp only [List.getElem_toArray, List.getElem_cons_succ, List.getElem_cons_zero, Act.put, List.setIfInBounds_toArray, List.set_cons_zero, List.set_cons_succ]
          refine wpAnyH_take (i := 26) (v := .bool false) rfl (by kernel_rfl) (by kernel_rfl) (by kernel_rfl) (fun _ _ _ h => h) (Or.inl ⟨by rfl, fun w1' hSw => by (go_simp)⟩) (by assumption) ?_
          simp only [List.getElem_toArray, List.getElem_cons_succ, List.getElem_cons_zero, Act.put, List.setIfInBounds_toArray, List.set_cons_zero, List.set_cons_succ]
          refine wpAnyH_take (i := 27) (v := .bool false) rfl (by kernel_rfl) (by kernel_rfl) (by kernel_rfl) (fun _ _ _ h => h) (Or.inl ⟨by rfl, fun w1' hSw => by (go_simp)⟩) (by assumption) ?_
          simp only [List.getElem_toArray, List.getElem_cons_succ, List.getElem_cons_zero, Act.put, List.setIfInBounds_toArray, List.set_cons_zero, List.set_cons_succ]
          refine wpAnyH_take (i := 28) (v := (.agg #[.int .i64 q.k, .string q.nm, .slice c.ea q.ex.length c.ec, .slice c.ca q.cols.length c.cc, .slice c.la q.left.length c.lc, .slice c.ra q.right.length c.rc, .slice c.ga q.ag.length c.gc, .slice c.ka q.kids.length c.kc])) rfl (by kernel_rfl) (by kernel_rfl) (by kernel_rfl) (fun _ _ _ h => h) (Or.inl ⟨by rfl, fun w1' hSw => by (obtain ⟨⟨z0, z1, z2, z3, z4, z5, z6, z7, _, _, _, _, _, _, _, _⟩, ⟨y0, y1, y2, y3, y4, y5, y6, y7, _, _, _, _, _, _, _, _⟩⟩ := HALL.out _ hSw; go_simp)⟩) (by assumption) ?_
          simp only [List.getElem_toArray, List.getElem_cons_succ, List.getElem_cons_zero, Act.put, List.setIfInBounds_toArray, List.set_cons_zero, List.set_cons_succ]
          refine wpAnyH_take (i := 30) (v := .string hd) rfl (by kernel_rfl) (by kernel_rfl) (by kernel_rfl) (fun _ _ _ h => h) (Or.inl ⟨by rfl, fun w1' hSw => by (go_simp)⟩) (by assumption) ?_
          simp only [List.getElem_toArray, List.getElem_cons_succ, List.getElem_cons_zero, Act.put, List.setIfInBounds_toArray, List.set_cons_zero, List.set_cons_succ]
          refine wpAnyH_take (i := 31) (v := .string pp) rfl (by kernel_rfl) (by kernel_rfl) (by kernel_rfl) (fun _ _ _ h => h) (Or.inl ⟨by rfl, fun w1' hSw => by (go_simp)⟩) (by assumption) ?_
          simp only [List.getElem_toArray, List.getElem_cons_succ, List.getElem_cons_zero, Act.put, List.setIfInBounds_toArray, List.set_cons_zero, List.set_cons_succ]
          refine wpAnyH_take (i := 32) (v := .string (hd ++ pp)) rfl (by kernel_rfl) (by kernel_rfl) (by kernel_rfl) (fun _ _ _ h => h) (Or.inl ⟨by rfl, fun w1' hSw => by (go_simp)⟩) (by assumption) ?_
          simp only [List.getElem_toArray, List.getElem_cons_succ, List.getElem_cons_zero, Act.put, List.setIfInBounds_toArray, List.set_cons_zero, List.set_cons_succ]
          refine wpAnyH_take (i := 33) (v := .string (hd ++ pp ++ ⟨#[41]⟩)) rfl (by kernel_rfl) (by kernel_rfl) (by kernel_rfl) (fun _ _ _ h => h) (Or.inl ⟨by rfl, fun w1' hSw => by (go_simp)⟩) (by assumption) ?_
          simp only [List.getElem_toArray, List.getElem_cons_succ, List.getElem_cons_zero, Act.put, List.setIfInBounds_toArray, List.set_cons_zero, List.set_cons_succ]
          refine wpAnyH_ready (rs := [29]) (by kernel_rfl) (by simp) ?_
          refine AllReadyH.cons rfl (fun K hK => ?_) AllReadyH.nil
          simp only [List.getElem_toArray, List.getElem_cons_succ, List.getElem_cons_zero]
          go_simp
          refine (HPQ.out wa HBA.out).mono ?_
          rintro e wb ⟨rfl, hbwb⟩
          go_wp2_with fail
          have HBB : Hid (Below w9.heap.size w9 wb) := Lib.hid (HBA.out.trans (hbwb.mono HBA.out.size))
          refine hK.out _ _ HBB.out (fun hHeld => ?_)
          clear hK K hbwb
          refine wpAnyH_take (i := 34) (v := .bool false) rfl (by kernel_rfl) (by kernel_rfl) (by kernel_rfl) (fun _ _ _ h => h) (Or.inl ⟨by rfl, fun w1' hSw => by (go_simp)⟩) (by assumption) ?_
          simp only [List.getElem_toArray, List.getElem_cons_succ, List.getElem_cons_zero, Act.put, List.setIfInBounds_toArray, List.set_cons_zero, List.set_cons_succ]
          refine wpAnyH_take (i := 35) (v := .bool false) rfl (by kernel_rfl) (by kernel_rfl) (by kernel_rfl) (fun _ _ _ h => h) (Or.inl ⟨by rfl, fun w1' hSw => by (go_simp)⟩) (by assumption) ?_
          simp only [List.getElem_toArray, List.getElem_cons_succ, List.getElem_cons_zero, Act.put, List.setIfInBounds_toArray, List.set_cons_zero, List.set_cons_succ]
          refine wpAnyH_done (by kernel_rfl) ?_ _
          go_wp2_with fail
          go_meet
          case rel => exact ⟨rfl, HBB.out⟩
        · obtain ⟨bq, oq, ak, hka, hbq, hck, hpk⟩ := (HQ9.out.kids).get_ (Below.refl _ _) hkid
          obtain ⟨o1, ho1⟩ : ∃ o1, o1 = oq + 1 * 8 := ⟨_, rfl⟩
          rw [← ho1] at hck
          have ho2 : oq + 8 = o1 := by omega
          have hw0 : IntKind.i64.wrap 0 = 0 := by kernel_rfl
          have hw1 : IntKind.i64.wrap 1 = 1 := by kernel_rfl
          have HKP := Lib.hid (fun w' (h : Below w9.heap.size w9 w') => keepPlan_self p ak a w' (hpk.low h) (HP9.out.low h))
          simp only [P.val] at HKP
          have HCK : Hid (∀ w', Below w9.heap.size w9 w' → w'.cell? ⟨bq, o1, none⟩ = some (.int .i64 p.k) ∧ w'.cell? ⟨bq, o1 + 1, none⟩ = some (.string p.nm) ∧ w'.cell? ⟨bq, o1 + 2, none⟩ = some (.slice ak.ea p.ex.length ak.ec) ∧ w'.cell? ⟨bq, o1 + 3, none⟩ = some (.slice ak.ca p.cols.length ak.cc) ∧ w'.cell? ⟨bq, o1 + 4, none⟩ = some (.slice ak.la p.left.length ak.lc) ∧ w'.cell? ⟨bq, o1 + 5, none⟩ = some (.slice ak.ra p.right.length ak.rc) ∧ w'.cell? ⟨bq, o1 + 6, none⟩ = some (.slice ak.ga p.ag.length ak.gc) ∧ w'.cell? ⟨bq, o1 + 7, none⟩ = some (.slice ak.ka p.kids.length ak.kc)) :=
            Lib.hid fun w' h => by
              have hm : ∀ i u, (P.cs p ak)[i]? = some u → w'.cell? ⟨bq, o1 + i, none⟩ = some u := fun i u hu => (h.cell (p := ⟨bq, o1 + i, none⟩) hbq).trans (hck i u hu)
              exact ⟨hm 0 _ rfl, hm 1 _ rfl, hm 2 _ rfl, hm 3 _ rfl, hm 4 _ rfl, hm 5 _ rfl, hm 6 _ rfl, hm 7 _ rfl⟩
          clear hck hpk ho1 hkid
          have HKA := Lib.hid hka
          have HQL := Lib.hid hql
          clear hka hql
          refine wp_region_held_drew (S := fun w' => Below w9.heap.size w9 w') (by kernel_rfl) (HJ.out.drew) (fun hHeld => ?_)
          refine wpAnyH_take (i := 0) (v := .int .i64 0) rfl (by kernel_rfl) (by kernel_rfl) (by kernel_rfl) (fun _ _ _ h => h) (Or.inl ⟨by rfl, fun w1' hSw => by (go_simp)⟩) (by assumption) ?_
          simp only [List.getElem_toArray, List.getElem_cons_zero, Act.put, List.setIfInBounds_toArray, List.set_cons_zero, List.set_cons_succ]
          refine wpAnyH_take (i := 1) (v := .bool false) rfl (by kernel_rfl) (by kernel_rfl) (by kernel_rfl) (fun _ _ _ h => h) (Or.inl ⟨by rfl, fun w1' hSw => by (go_simp)⟩) (by assumption) ?_
          simp only [List.getElem_toArray, List.getElem_cons_succ, List.getElem_cons_zero, Act.put, List.setIfInBounds_toArray, List.set_cons_zero, List.set_cons_succ]
          refine wpAnyH_take (i := 2) (v := .bool false) rfl (by kernel_rfl) (by kernel_rfl) (by kernel_rfl) (fun _ _ _ h => h) (Or.inl ⟨by rfl, fun w1' hSw => by (go_simp)⟩) (by assumption) ?_
          simp only [List.getElem_toArray, List.getElem_cons_succ, List.getElem_cons_zero, Act.put, List.setIfInBounds_toArray, List.set_cons_zero, List.set_cons_succ]
          refine wpAnyH_take (i := 3) (v := .pointer (some ⟨w8.heap.size, 0, none⟩)) rfl (by kernel_rfl) (by kernel_rfl) (by kernel_rfl) (fun _ _ _ h => h) (Or.inl ⟨by rfl, fun w1' hSw => by (go_simp)⟩) (by assumption) ?_
          simp only [List.getElem_toArray, List.getElem_cons_succ, List.getElem_cons_zero, Act.put, List.setIfInBounds_toArray, List.set_cons_zero, List.set_cons_succ]
          refine wpAnyH_take (i := 4) (v := .int .i64 q.k) rfl (by kernel_rfl) (by kernel_rfl) (by kernel_rfl) (fun _ _ _ h => h) (Or.inl ⟨by rfl, fun w1' hSw => by (obtain ⟨⟨z0, z1, z2, z3, z4, z5, z6, z7, _, _, _, _, _, _, _, _⟩, ⟨y0, y1, y2, y3, y4, y5, y6, y7, _, _, _, _, _, _, _, _⟩⟩ := HALL.out _ hSw; go_simp)⟩) (by assumption) ?_
          simp only [List.getElem_toArray, List.getElem_cons_succ, List.getElem_cons_zero, Act.put, List.setIfInBounds_toArray, List.set_cons_zero, List.set_cons_succ]
          refine wpAnyH_take (i := 5) (v := .int .i64 q.k) rfl (by kernel_rfl) (by kernel_rfl) (by kernel_rfl) (fun _ _ _ h => h) (Or.inl ⟨by rfl, fun w1' hSw => by (go_simp)⟩) (by assumption) ?_
          simp only [List.getElem_toArray, List.getElem_cons_succ, List.getElem_cons_zero, Act.put, List.setIfInBounds_toArray, List.set_cons_zero, List.set_cons_succ]
          refine wpAnyH_take (i := 6) (v := .bool false) rfl (by kernel_rfl) (by kernel_rfl) (by kernel_rfl) (fun _ _ _ h => h) (Or.inl ⟨by rfl, fun w1' hSw => by (go_simp)⟩) (by assumption) ?_
          simp only [List.getElem_toArray, List.getElem_cons_succ, List.getElem_cons_zero, Act.put, List.setIfInBounds_toArray, List.set_cons_zero, List.set_cons_succ]
          refine wpAnyH_take (i := 7) (v := .bool false) rfl (by kernel_rfl) (by kernel_rfl) (by kernel_rfl) (fun _ _ _ h => h) (Or.inl ⟨by rfl, fun w1' hSw => by (go_simp)⟩) (by assumption) ?_
          simp only [List.getElem_toArray, List.getElem_cons_succ, List.getElem_cons_zero, Act.put, List.setIfInBounds_toArray, List.set_cons_zero, List.set_cons_succ]
          refine wpAnyH_take (i := 8) (v := .bool false) rfl (by kernel_rfl) (by kernel_rfl) (by kernel_rfl) (fun _ _ _ h => h) (Or.inl ⟨by rfl, fun w1' hSw => by (go_simp)⟩) (by assumption) ?_
          simp only [List.getElem_toArray, List.getElem_cons_succ, List.getElem_cons_zero, Act.put, List.setIfInBounds_toArray, List.set_cons_zero, List.set_cons_succ]
          refine wpAnyH_take (i := 9) (v := .pointer (some ⟨w8.heap.size, 7, none⟩)) rfl (by kernel_rfl) (by kernel_rfl) (by kernel_rfl) (fun _ _ _ h => h) (Or.inl ⟨by rfl, fun w1' hSw => by (go_simp)⟩) (by assumption) ?_
          simp only [List.getElem_toArray, List.getElem_cons_succ, List.getElem_cons_zero, Act.put, List.setIfInBounds_toArray, List.set_cons_zero, List.set_cons_succ]
          refine wpAnyH_take (i := 10) (v := .slice (some ⟨bq, oq, none⟩) 2 c.kc) rfl (by kernel_rfl) (by kernel_rfl) (by kernel_rfl) (fun _ _ _ h => h) (Or.inl ⟨by rfl, fun w1' hSw => by (obtain ⟨⟨z0, z1, z2, z3, z4, z5, z6, z7, _, _, _, _, _, _, _, _⟩, ⟨y0, y1, y2, y3, y4, y5, y6, y7, _, _, _, _, _, _, _, _⟩⟩ := HALL.out _ hSw; rw [HQL.out, HKA.out] at y7; go_simp)⟩) (by assumption) ?_
          simp only [List.getElem_toArray, List.getElem_cons_succ, List.getElem_cons_zero, Act.put, List.setIfInBounds_toArray, List.set_cons_zero, List.set_cons_succ]
          refine wpAnyH_take (i := 11) (v := .int .i64 2) rfl (by kernel_rfl) (by kernel_rfl) (by kernel_rfl) (fun _ _ _ h => h) (Or.inl ⟨by rfl, fun w1' hSw => by (go_simp)⟩) (by assumption) ?_
          simp only [List.getElem_toArray, List.getElem_cons_succ, List.getElem_cons_zero, Act.put, List.setIfInBounds_toArray, List.set_cons_zero, List.set_cons_succ]
          refine wpAnyH_take (i := 12) (v := .bool false) rfl (by kernel_rfl) (by kernel_rfl) (by kernel_rfl) (fun _ _ _ h => h) (Or.inl ⟨by rfl, fun w1' hSw => by (go_simp)⟩) (by assumption) ?_
          simp only [List.getElem_toArray, List.getElem_cons_succ, List.getElem_cons_zero, Act.put, List.setIfInBounds_toArray, List.set_cons_zero, List.set_cons_succ]
          refine wpAnyH_take (i := 13) (v := .bool false) rfl (by kernel_rfl) (by kernel_rfl) (by kernel_rfl) (fun _ _ _ h => h) (Or.inl ⟨by rfl, fun w1' hSw => by (go_simp)⟩) (by assumption) ?_
          simp only [List.getElem_toArray, List.getElem_cons_succ, List.getElem_cons_zero, Act.put, List.setIfInBounds_toArray, List.set_cons_zero, List.set_cons_succ]
          refine wpAnyH_take (i := 14) (v := .bool false) rfl (by kernel_rfl) (by kernel_rfl) (by kernel_rfl) (fun _ _ _ h => h) (Or.inl ⟨by rfl, fun w1' hSw => by (go_simp)⟩) (by assumption) ?_
          simp only [List.getElem_toArray, List.getElem_cons_succ, List.getElem_cons_zero, Act.put, List.setIfInBounds_toArray, List.set_cons_zero, List.set_cons_succ]
          refine wpAnyH_take (i := 15) (v := .pointer (some ⟨w8.heap.size, 7, none⟩)) rfl (by kernel_rfl) (by kernel_rfl) (by kernel_rfl) (fun _ _ _ h => h) (Or.inl ⟨by rfl, fun w1' hSw => by (go_simp)⟩) (by assumption) ?_
          simp only [List.getElem_toArray, List.getElem_cons_succ, List.getElem_cons_zero, Act.put, List.setIfInBounds_toArray, List.set_cons_zero, List.set_cons_succ]
          refine wpAnyH_take (i := 16) (v := .slice (some ⟨bq, oq, none⟩) 2 c.kc) rfl (by kernel_rfl) (by kernel_rfl) (by kernel_rfl) (fun _ _ _ h => h) (Or.inl ⟨by rfl, fun w1' hSw => by (obtain ⟨⟨z0, z1, z2, z3, z4, z5, z6, z7, _, _, _, _, _, _, _, _⟩, ⟨y0, y1, y2, y3, y4, y5, y6, y7, _, _, _, _, _, _, _, _⟩⟩ := HALL.out _ hSw; rw [HQL.out, HKA.out] at y7; go_simp)⟩) (by assumption) ?_
          simp only [List.getElem_toArray, List.getElem_cons_succ, List.getElem_cons_zero, Act.put, List.setIfInBounds_toArray, List.set_cons_zero, List.set_cons_succ]
          refine wpAnyH_take (i := 17) (v := .pointer (some ⟨w8.heap.size, 7, none⟩)) rfl (by kernel_rfl) (by kernel_rfl) (by kernel_rfl) (fun _ _ _ h => h) (Or.inl ⟨by rfl, fun w1' hSw => by (go_simp)⟩) (by assumption) ?_
          simp only [List.getElem_toArray, List.getElem_cons_succ, List.getElem_cons_zero, Act.put, List.setIfInBounds_toArray, List.set_cons_zero, List.set_cons_succ]
          refine wpAnyH_take (i := 18) (v := .slice (some ⟨bq, oq, none⟩) 2 c.kc) rfl (by kernel_rfl) (by kernel_rfl) (by kernel_rfl) (fun _ _ _ h => h) (Or.inl ⟨by rfl, fun w1' hSw => by (obtain ⟨⟨z0, z1, z2, z3, z4, z5, z6, z7, _, _, _, _, _, _, _, _⟩, ⟨y0, y1, y2, y3, y4, y5, y6, y7, _, _, _, _, _, _, _, _⟩⟩ := HALL.out _ hSw; rw [HQL.out, HKA.out] at y7; go_simp)⟩) (by assumption) ?_
          simp only [List.getElem_toArray, List.getElem_cons_succ, List.getElem_cons_zero, Act.put, List.setIfInBounds_toArray, List.set_cons_zero, List.set_cons_succ]
          refine wpAnyH_take (i := 19) (v := .int .i64 2) rfl (by kernel_rfl) (by kernel_rfl) (by kernel_rfl) (fun _ _ _ h => h) (Or.inl ⟨by rfl, fun w1' hSw => by (go_simp)⟩) (by assumption) ?_
          simp only [List.getElem_toArray, List.getElem_cons_succ, List.getElem_cons_zero, Act.put, List.setIfInBounds_toArray, List.set_cons_zero, List.set_cons_succ]
          refine wpAnyH_take (i := 20) (v := .int .i64 1) rfl (by kernel_rfl) (by kernel_rfl) (by kernel_rfl) (fun _ _ _ h => h) (Or.inl ⟨by rfl, fun w1' hSw => by (go_simp)⟩) (by assumption) ?_
          simp only [List.getElem_toArray, List.getElem_cons_succ, List.getElem_cons_zero, Act.put, List.setIfInBounds_toArray, List.set_cons_zero, List.set_cons_succ]
          refine wpAnyH_take (i := 21) (v := .pointer (some ⟨bq, o1, none⟩)) rfl (by kernel_rfl) (by kernel_rfl) (by kernel_rfl) (fun _ _ _ h => h) (Or.inl ⟨by rfl, fun w1' hSw => by (go_simp)⟩) (by assumption) ?_
          simp only [List.getElem_toArray, List.getElem_cons_succ, List.getElem_cons_zero, Act.put, List.setIfInBounds_toArray, List.set_cons_zero, List.set_cons_succ]
          refine wpAnyH_take (i := 22) (v := (.agg #[.int .i64 p.k, .string p.nm, .slice ak.ea p.ex.length ak.ec, .slice ak.ca p.cols.length ak.cc, .slice ak.la p.left.length ak.lc, .slice ak.ra p.right.length ak.rc, .slice ak.ga p.ag.length ak.gc, .slice ak.ka p.kids.length ak.kc])) rfl (by kernel_rfl) (by kernel_rfl) (by kernel_rfl) (fun _ _ _ h => h) (Or.inl ⟨by rfl, fun w1' hSw => by (have hkc := HCK.out _ hSw; obtain ⟨k0, k1, k2, k3, k4, k5, k6, k7⟩ := hkc; go_simp)⟩) (by assumption) ?_
          simp only [List.getElem_toArray, List.getElem_cons_succ, List.getElem_cons_zero, Act.put, List.setIfInBounds_toArray, List.set_cons_zero, List.set_cons_succ]
          refine wpAnyH_take (i := 23) (v := (.agg #[.int .i64 p.k, .string p.nm, .slice a.ea p.ex.length a.ec, .slice a.ca p.cols.length a.cc, .slice a.la p.left.length a.lc, .slice a.ra p.right.length a.rc, .slice a.ga p.ag.length a.gc, .slice a.ka p.kids.length a.kc])) rfl (by kernel_rfl) (by kernel_rfl) (by kernel_rfl) (fun _ _ _ h => h) (Or.inl ⟨by rfl, fun w1' hSw => by (obtain ⟨⟨z0, z1, z2, z3, z4, z5, z6, z7, _, _, _, _, _, _, _, _⟩, ⟨y0, y1, y2, y3, y4, y5, y6, y7, _, _, _, _, _, _, _, _⟩⟩ := HALL.out _ hSw; go_simp)⟩) (by assumption) ?_
          simp only [List.getElem_toArray, List.getElem_cons_succ, List.getElem_cons_zero, Act.put, List.setIfInBounds_toArray, List.set_cons_zero, List.set_cons_succ]
          refine wpAnyH_ready (rs := [24]) (by kernel_rfl) (by simp) ?_
          refine AllReadyH.cons rfl (fun K hK => ?_) AllReadyH.nil
          simp only [List.getElem_toArray, List.getElem_cons_succ, List.getElem_cons_zero]
          go_simp
          refine (HKP.out wj.drew HJ.out.drew).mono ?_
          rintro e wa ⟨rfl, hbwa⟩
          go_wp2_with fail
          have HBA : Hid (Below w9.heap.size w9 wa) := Lib.hid (HJ.out.drew.trans (hbwa.mono HJ.out.drew.size))
          refine hK.out _ _ HBA.out (fun hHeld => ?_)
          clear hK K hbwa
          refine wpAnyH_take (i := 25) (v := .bool false) rfl (by kernel_rfl) (by kernel_rfl) (by kernel_rfl) (fun _ _ _ h => h) (Or.inl ⟨by rfl, fun w1' hSw => by (go_simp)⟩) (by assumption) ?_
          simp only [List.getElem_toArray, List.getElem_cons_succ, List.getElem_cons_zero, Act.put, List.setIfInBounds_toArray, List.set_cons_zero, List.set_cons_succ]
          refine wpAnyH_take (i := 26) (v := .bool false) rfl (by kernel_rfl) (by kernel_rfl) (by kernel_rfl) (fun _ _ _ h => h) (Or.inl ⟨by rfl, fun w1' hSw => by (go_simp)⟩) (by assumption) ?_
          simp only [List.getElem_toArray, List.getElem_cons_succ, List.getElem_cons_zero, Act.put, List.setIfInBounds_toArray, List.set_cons_zero, List.set_cons_succ]
          refine wpAnyH_take (i := 27) (v := .bool false) rfl (by kernel_rfl) (by kernel_rfl) (by kernel_rfl) (fun _ _ _ h => h) (Or.inl ⟨by rfl, fun w1' hSw => by (go_simp)⟩) (by assumption) ?_
          simp only [List.getElem_toArray, List.getElem_cons_succ, List.getElem_cons_zero, Act.put, List.setIfInBounds_toArray, List.set_cons_zero, List.set_cons_succ]
          refine wpAnyH_take (i := 28) (v := (.agg #[.int .i64 q.k, .string q.nm, .slice c.ea q.ex.length c.ec, .slice c.ca q.cols.length c.cc, .slice c.la q.left.length c.lc, .slice c.ra q.right.length c.rc, .slice c.ga q.ag.length c.gc, .slice c.ka q.kids.length c.kc])) rfl (by kernel_rfl) (by kernel_rfl) (by kernel_rfl) (fun _ _ _ h => h) (Or.inl ⟨by rfl, fun w1' hSw => by (obtain ⟨⟨z0, z1, z2, z3, z4, z5, z6, z7, _, _, _, _, _, _, _, _⟩, ⟨y0, y1, y2, y3, y4, y5, y6, y7, _, _, _, _, _, _, _, _⟩⟩ := HALL.out _ hSw; go_simp)⟩) (by assumption) ?_
          simp only [List.getElem_toArray, List.getElem_cons_succ, List.getElem_cons_zero, Act.put, List.setIfInBounds_toArray, List.set_cons_zero, List.set_cons_succ]
          refine wpAnyH_take (i := 30) (v := .string hd) rfl (by kernel_rfl) (by kernel_rfl) (by kernel_rfl) (fun _ _ _ h => h) (Or.inl ⟨by rfl, fun w1' hSw => by (go_simp)⟩) (by assumption) ?_
          simp only [List.getElem_toArray, List.getElem_cons_succ, List.getElem_cons_zero, Act.put, List.setIfInBounds_toArray, List.set_cons_zero, List.set_cons_succ]
          refine wpAnyH_take (i := 31) (v := .string pp) rfl (by kernel_rfl) (by kernel_rfl) (by kernel_rfl) (fun _ _ _ h => h) (Or.inl ⟨by rfl, fun w1' hSw => by (go_simp)⟩) (by assumption) ?_
          simp only [List.getElem_toArray, List.getElem_cons_succ, List.getElem_cons_zero, Act.put, List.setIfInBounds_toArray, List.set_cons_zero, List.set_cons_succ]
          refine wpAnyH_take (i := 32) (v := .string (hd ++ pp)) rfl (by kernel_rfl) (by kernel_rfl) (by kernel_rfl) (fun _ _ _ h => h) (Or.inl ⟨by rfl, fun w1' hSw => by (go_simp)⟩) (by assumption) ?_
          simp only [List.getElem_toArray, List.getElem_cons_succ, List.getElem_cons_zero, Act.put, List.setIfInBounds_toArray, List.set_cons_zero, List.set_cons_succ]
          refine wpAnyH_take (i := 33) (v := .string (hd ++ pp ++ ⟨#[41]⟩)) rfl (by kernel_rfl) (by kernel_rfl) (by kernel_rfl) (fun _ _ _ h => h) (Or.inl ⟨by rfl, fun w1' hSw => by (go_simp)⟩) (by assumption) ?_
          simp only [List.getElem_toArray, List.getElem_cons_succ, List.getElem_cons_zero, Act.put, List.setIfInBounds_toArray, List.set_cons_zero, List.set_cons_succ]
          refine wpAnyH_ready (rs := [29]) (by kernel_rfl) (by simp) ?_
          refine AllReadyH.cons rfl (fun K hK => ?_) AllReadyH.nil
          simp only [List.getElem_toArray, List.getElem_cons_succ, List.getElem_cons_zero]
          go_simp
          refine (HPQ.out wa HBA.out).mono ?_
          rintro e wb ⟨rfl, hbwb⟩
          go_wp2_with fail
          have HBB : Hid (Below w9.heap.size w9 wb) := Lib.hid (HBA.out.trans (hbwb.mono HBA.out.size))
          refine hK.out _ _ HBB.out (fun hHeld => ?_)
          clear hK K hbwb
          refine wpAnyH_take (i := 34) (v := .bool false) rfl (by kernel_rfl) (by kernel_rfl) (by kernel_rfl) (fun _ _ _ h => h) (Or.inl ⟨by rfl, fun w1' hSw => by (go_simp)⟩) (by assumption) ?_
          simp only [List.getElem_toArray, List.getElem_cons_succ, List.getElem_cons_zero, Act.put, List.setIfInBounds_toArray, List.set_cons_zero, List.set_cons_succ]
          refine wpAnyH_take (i := 35) (v := .bool false) rfl (by kernel_rfl) (by kernel_rfl) (by kernel_rfl) (fun _ _ _ h => h) (Or.inl ⟨by rfl, fun w1' hSw => by (go_simp)⟩) (by assumption) ?_
          simp only [List.getElem_toArray, List.getElem_cons_succ, List.getElem_cons_zero, Act.put, List.setIfInBounds_toArray, List.set_cons_zero, List.set_cons_succ]
          refine wpAnyH_done (by kernel_rfl) ?_ _
          go_wp2_with fail
          go_meet
          case rel => exact ⟨rfl, HBB.out⟩
      case rest =>
      obtain ⟨rfl, hbc⟩ := hcut
      have HC := Lib.hid hbc
      clear hbc
      obtain ⟨sz, esz⟩ : ∃ sz, sz = sizeP p := ⟨_, rfl⟩
      have h600 : sz ≤ 600 := by rw [esz]; exact HS6.out
      by_cases hk4 : kk = 4
      · subst hk4
        have hs2 : sizeP q = sz + 2 := by rw [esz, HSE.out, if_pos rfl]
        rw [hs2] at HSQ
        rw [← esz] at HSP
        have hwr2 : wrap64 ((sz : Int) + 2) = (sz : Int) + 2 := IntWalk.wrap64_in _ (by omega)
        have hwr3 : IntKind.i64.wrap ((sz : Int) + 2) = (sz : Int) + 2 := (IntWalk.i64_left _).trans hwr2
        have he : (((sz + 2 : Nat) : Int) == (sz : Int) + 2) = true := by simp
        clear hs2 esz h600
        go_upto_region 18 with (fail)
        refine wp_region_held_drew (S := fun w' => Below w9.heap.size w9 w') (by kernel_rfl) (HC.out.drew) (fun hHeld => ?_)
        refine wpAnyH_take (i := 0) (v := (.agg #[.int .i64 q.k, .string q.nm, .slice c.ea q.ex.length c.ec, .slice c.ca q.cols.length c.cc, .slice c.la q.left.length c.lc, .slice c.ra q.right.length c.rc, .slice c.ga q.ag.length c.gc, .slice c.ka q.kids.length c.kc])) rfl (by kernel_rfl) (by kernel_rfl) (by kernel_rfl) (fun _ _ _ h => h) (Or.inl ⟨by rfl, fun w1' hSw => by (obtain ⟨⟨z0, z1, z2, z3, z4, z5, z6, z7, _, _, _, _, _, _, _, _⟩, ⟨y0, y1, y2, y3, y4, y5, y6, y7, _, _, _, _, _, _, _, _⟩⟩ := HALL.out _ hSw; go_simp)⟩) (by assumption) ?_
        simp only [List.getElem_toArray, List.getElem_cons_zero, Act.put, List.setIfInBounds_toArray, List.set_cons_zero, List.set_cons_succ]
        refine wpAnyH_take (i := 2) (v := (.agg #[.int .i64 p.k, .string p.nm, .slice a.ea p.ex.length a.ec, .slice a.ca p.cols.length a.cc, .slice a.la p.left.length a.lc, .slice a.ra p.right.length a.rc, .slice a.ga p.ag.length a.gc, .slice a.ka p.kids.length a.kc])) rfl (by kernel_rfl) (by kernel_rfl) (by kernel_rfl) (fun _ _ _ h => h) (Or.inl ⟨by rfl, fun w1' hSw => by (obtain ⟨⟨z0, z1, z2, z3, z4, z5, z6, z7, _, _, _, _, _, _, _, _⟩, ⟨y0, y1, y2, y3, y4, y5, y6, y7, _, _, _, _, _, _, _, _⟩⟩ := HALL.out _ hSw; go_simp)⟩) (by assumption) ?_
        simp only [List.getElem_toArray, List.getElem_cons_succ, List.getElem_cons_zero, Act.put, List.setIfInBounds_toArray, List.set_cons_zero, List.set_cons_succ]
        refine wpAnyH_ready (rs := [1]) (by kernel_rfl) (by simp) ?_
        refine AllReadyH.cons rfl (fun K hK => ?_) AllReadyH.nil
        simp only [List.getElem_toArray, List.getElem_cons_succ, List.getElem_cons_zero]
        go_simp
        refine (HSQ.out wc.drew HC.out.drew).mono ?_
        rintro e wa ⟨rfl, hbwa⟩
        go_wp2_with fail
        have HBA : Hid (Below w9.heap.size w9 wa) := Lib.hid (HC.out.drew.trans (hbwa.mono HC.out.drew.size))
        refine hK.out _ _ HBA.out (fun hHeld => ?_)
        clear hK K hbwa
        refine wpAnyH_ready (rs := [3]) (by kernel_rfl) (by simp) ?_
        refine AllReadyH.cons rfl (fun K hK => ?_) AllReadyH.nil
        simp only [List.getElem_toArray, List.getElem_cons_succ, List.getElem_cons_zero]
        go_simp
        refine (HSP.out wa HBA.out).mono ?_
        rintro e wb ⟨rfl, hbwb⟩
        go_wp2_with fail
        have HBB : Hid (Below w9.heap.size w9 wb) := Lib.hid (HBA.out.trans (hbwb.mono HBA.out.size))
        refine hK.out _ _ HBB.out (fun hHeld => ?_)
        clear hK K hbwb
        refine wpAnyH_take (i := 4) (v := .int .i64 ((sz : Int) + 2)) rfl (by kernel_rfl) (by kernel_rfl) (by kernel_rfl) (fun _ _ _ h => h) (Or.inl ⟨by rfl, fun w1' hSw => by (go_simp)⟩) (by assumption) ?_
        simp only [List.getElem_toArray, List.getElem_cons_succ, List.getElem_cons_zero, Act.put, List.setIfInBounds_toArray, List.set_cons_zero, List.set_cons_succ]
        refine wpAnyH_take (i := 5) (v := .bool true) rfl (by kernel_rfl) (by kernel_rfl) (by kernel_rfl) (fun _ _ _ h => h) (Or.inl ⟨by rfl, fun w1' hSw => by (go_simp)⟩) (by assumption) ?_
        simp only [List.getElem_toArray, List.getElem_cons_succ, List.getElem_cons_zero, Act.put, List.setIfInBounds_toArray, List.set_cons_zero, List.set_cons_succ]
        refine wpAnyH_take (i := 6) (v := .bool true) rfl (by kernel_rfl) (by kernel_rfl) (by kernel_rfl) (fun _ _ _ h => h) (Or.inl ⟨by rfl, fun w1' hSw => by (go_simp)⟩) (by assumption) ?_
        simp only [List.getElem_toArray, List.getElem_cons_succ, List.getElem_cons_zero, Act.put, List.setIfInBounds_toArray, List.set_cons_zero, List.set_cons_succ]
        refine wpAnyH_ready (rs := [7]) (by kernel_rfl) (by simp) ?_
        refine AllReadyH.cons rfl (fun K hK => ?_) AllReadyH.nil
        simp only [List.getElem_toArray, List.getElem_cons_succ, List.getElem_cons_zero]
        go_simp
        refine (HKN9.out wb HBB.out).mono ?_
        rintro e wd ⟨rfl, hbwd⟩
        go_wp2_with fail
        have HBD : Hid (Below w9.heap.size w9 wd) := Lib.hid (HBB.out.trans (hbwd.mono HBB.out.size))
        refine hK.out _ _ HBD.out (fun hHeld => ?_)
        clear hK K hbwd
        refine wpAnyH_take (i := 8) (v := .bool true) rfl (by kernel_rfl) (by kernel_rfl) (by kernel_rfl) (fun _ _ _ h => h) (Or.inl ⟨by rfl, fun w1' hSw => by (go_simp)⟩) (by assumption) ?_
        simp only [List.getElem_toArray, List.getElem_cons_succ, List.getElem_cons_zero, Act.put, List.setIfInBounds_toArray, List.set_cons_zero, List.set_cons_succ]
        refine wpAnyH_take (i := 9) (v := .bool true) rfl (by kernel_rfl) (by kernel_rfl) (by kernel_rfl) (fun _ _ _ h => h) (Or.inl ⟨by rfl, fun w1' hSw => by (go_simp)⟩) (by assumption) ?_
        simp only [List.getElem_toArray, List.getElem_cons_succ, List.getElem_cons_zero, Act.put, List.setIfInBounds_toArray, List.set_cons_zero, List.set_cons_succ]
        refine wpAnyH_done (by kernel_rfl) ?_ _
        go_wp2_with fail
        go_ret
        exact ⟨rfl, HB9W.out.trans (HBD.out.mono HB9W.out.size)⟩
      · have hk5 : ((kk : Int) == 4) = false := by rw [beq_eq_false_iff_ne]; omega
        have hs2 : sizeP q = sz + 1 := by rw [esz, HSE.out, if_neg hk4]
        rw [hs2] at HSQ
        rw [← esz] at HSP
        rw [HTE.out hk4] at HTQ
        have hwr2 : wrap64 ((sz : Int) + 1) = (sz : Int) + 1 := IntWalk.wrap64_in _ (by omega)
        have hwr3 : IntKind.i64.wrap ((sz : Int) + 1) = (sz : Int) + 1 := (IntWalk.i64_left _).trans hwr2
        have he : (((sz + 1 : Nat) : Int) == (sz : Int) + 1) = true := by simp
        clear hs2 esz h600 HTE
        generalize tabsU p = tu at *
        go_upto_region 19 with (fail)
        refine wp_region_held_drew (S := fun w' => Below w9.heap.size w9 w') (by kernel_rfl) (HC.out.drew) (fun hHeld => ?_)
        refine wpAnyH_take (i := 0) (v := (.agg #[.int .i64 q.k, .string q.nm, .slice c.ea q.ex.length c.ec, .slice c.ca q.cols.length c.cc, .slice c.la q.left.length c.lc, .slice c.ra q.right.length c.rc, .slice c.ga q.ag.length c.gc, .slice c.ka q.kids.length c.kc])) rfl (by kernel_rfl) (by kernel_rfl) (by kernel_rfl) (fun _ _ _ h => h) (Or.inl ⟨by rfl, fun w1' hSw => by (obtain ⟨⟨z0, z1, z2, z3, z4, z5, z6, z7, _, _, _, _, _, _, _, _⟩, ⟨y0, y1, y2, y3, y4, y5, y6, y7, _, _, _, _, _, _, _, _⟩⟩ := HALL.out _ hSw; go_simp)⟩) (by assumption) ?_
        simp only [List.getElem_toArray, List.getElem_cons_zero, Act.put, List.setIfInBounds_toArray, List.set_cons_zero, List.set_cons_succ]
        refine wpAnyH_take (i := 2) (v := (.agg #[.int .i64 p.k, .string p.nm, .slice a.ea p.ex.length a.ec, .slice a.ca p.cols.length a.cc, .slice a.la p.left.length a.lc, .slice a.ra p.right.length a.rc, .slice a.ga p.ag.length a.gc, .slice a.ka p.kids.length a.kc])) rfl (by kernel_rfl) (by kernel_rfl) (by kernel_rfl) (fun _ _ _ h => h) (Or.inl ⟨by rfl, fun w1' hSw => by (obtain ⟨⟨z0, z1, z2, z3, z4, z5, z6, z7, _, _, _, _, _, _, _, _⟩, ⟨y0, y1, y2, y3, y4, y5, y6, y7, _, _, _, _, _, _, _, _⟩⟩ := HALL.out _ hSw; go_simp)⟩) (by assumption) ?_
        simp only [List.getElem_toArray, List.getElem_cons_succ, List.getElem_cons_zero, Act.put, List.setIfInBounds_toArray, List.set_cons_zero, List.set_cons_succ]
        refine wpAnyH_ready (rs := [1]) (by kernel_rfl) (by simp) ?_
        refine AllReadyH.cons rfl (fun K hK => ?_) AllReadyH.nil
        simp only [List.getElem_toArray, List.getElem_cons_succ, List.getElem_cons_zero]
        go_simp
        refine (HSQ.out wc.drew HC.out.drew).mono ?_
        rintro e wa ⟨rfl, hbwa⟩
        go_wp2_with fail
        have HBA : Hid (Below w9.heap.size w9 wa) := Lib.hid (HC.out.drew.trans (hbwa.mono HC.out.drew.size))
        refine hK.out _ _ HBA.out (fun hHeld => ?_)
        clear hK K hbwa
        refine wpAnyH_ready (rs := [3]) (by kernel_rfl) (by simp) ?_
        refine AllReadyH.cons rfl (fun K hK => ?_) AllReadyH.nil
        simp only [List.getElem_toArray, List.getElem_cons_succ, List.getElem_cons_zero]
        go_simp
        refine (HSP.out wa HBA.out).mono ?_
        rintro e wb ⟨rfl, hbwb⟩
        go_wp2_with fail
        have HBB : Hid (Below w9.heap.size w9 wb) := Lib.hid (HBA.out.trans (hbwb.mono HBA.out.size))
        refine hK.out _ _ HBB.out (fun hHeld => ?_)
        clear hK K hbwb
        refine wpAnyH_take (i := 4) (v := .int .i64 ((sz : Int) + 1)) rfl (by kernel_rfl) (by kernel_rfl) (by kernel_rfl) (fun _ _ _ h => h) (Or.inl ⟨by rfl, fun w1' hSw => by (go_simp)⟩) (by assumption) ?_
        simp only [List.getElem_toArray, List.getElem_cons_succ, List.getElem_cons_zero, Act.put, List.setIfInBounds_toArray, List.set_cons_zero, List.set_cons_succ]
        refine wpAnyH_take (i := 5) (v := .bool true) rfl (by kernel_rfl) (by kernel_rfl) (by kernel_rfl) (fun _ _ _ h => h) (Or.inl ⟨by rfl, fun w1' hSw => by (go_simp)⟩) (by assumption) ?_
        simp only [List.getElem_toArray, List.getElem_cons_succ, List.getElem_cons_zero, Act.put, List.setIfInBounds_toArray, List.set_cons_zero, List.set_cons_succ]
        refine wpAnyH_take (i := 6) (v := .bool true) rfl (by kernel_rfl) (by kernel_rfl) (by kernel_rfl) (fun _ _ _ h => h) (Or.inl ⟨by rfl, fun w1' hSw => by (go_simp)⟩) (by assumption) ?_
        simp only [List.getElem_toArray, List.getElem_cons_succ, List.getElem_cons_zero, Act.put, List.setIfInBounds_toArray, List.set_cons_zero, List.set_cons_succ]
        refine wpAnyH_take (i := 7) (v := (.agg #[.int .i64 q.k, .string q.nm, .slice c.ea q.ex.length c.ec, .slice c.ca q.cols.length c.cc, .slice c.la q.left.length c.lc, .slice c.ra q.right.length c.rc, .slice c.ga q.ag.length c.gc, .slice c.ka q.kids.length c.kc])) rfl (by kernel_rfl) (by kernel_rfl) (by kernel_rfl) (fun _ _ _ h => h) (Or.inl ⟨by rfl, fun w1' hSw => by (obtain ⟨⟨z0, z1, z2, z3, z4, z5, z6, z7, _, _, _, _, _, _, _, _⟩, ⟨y0, y1, y2, y3, y4, y5, y6, y7, _, _, _, _, _, _, _, _⟩⟩ := HALL.out _ hSw; go_simp)⟩) (by assumption) ?_
        simp only [List.getElem_toArray, List.getElem_cons_succ, List.getElem_cons_zero, Act.put, List.setIfInBounds_toArray, List.set_cons_zero, List.set_cons_succ]
        refine wpAnyH_take (i := 9) (v := (.agg #[.int .i64 p.k, .string p.nm, .slice a.ea p.ex.length a.ec, .slice a.ca p.cols.length a.cc, .slice a.la p.left.length a.lc, .slice a.ra p.right.length a.rc, .slice a.ga p.ag.length a.gc, .slice a.ka p.kids.length a.kc])) rfl (by kernel_rfl) (by kernel_rfl) (by kernel_rfl) (fun _ _ _ h => h) (Or.inl ⟨by rfl, fun w1' hSw => by (obtain ⟨⟨z0, z1, z2, z3, z4, z5, z6, z7, _, _, _, _, _, _, _, _⟩, ⟨y0, y1, y2, y3, y4, y5, y6, y7, _, _, _, _, _, _, _, _⟩⟩ := HALL.out _ hSw; go_simp)⟩) (by assumption) ?_
        simp only [List.getElem_toArray, List.getElem_cons_succ, List.getElem_cons_zero, Act.put, List.setIfInBounds_toArray, List.set_cons_zero, List.set_cons_succ]
        refine wpAnyH_ready (rs := [8]) (by kernel_rfl) (by simp) ?_
        refine AllReadyH.cons rfl (fun K hK => ?_) AllReadyH.nil
        simp only [List.getElem_toArray, List.getElem_cons_succ, List.getElem_cons_zero]
        go_simp
        refine (HTQ.out wb HBB.out).mono ?_
        rintro e wd ⟨⟨At, ct, rfl, hLt⟩, hbwd⟩
        go_wp2_with fail
        have HBD : Hid (Below w9.heap.size w9 wd) := Lib.hid (HBB.out.trans (hbwd.mono HBB.out.size))
        have HLT := Lib.hid hLt
        clear hLt
        refine hK.out _ _ HBD.out (fun hHeld => ?_)
        clear hK K hbwd
        refine wpAnyH_ready (rs := [10]) (by kernel_rfl) (by simp) ?_
        refine AllReadyH.cons rfl (fun K hK => ?_) AllReadyH.nil
        simp only [List.getElem_toArray, List.getElem_cons_succ, List.getElem_cons_zero]
        go_simp
        refine (HTP.out wd HBD.out).mono ?_
        rintro e we ⟨⟨Au, cu, rfl, hLu⟩, hbwe⟩
        go_wp2_with fail
        have HBE : Hid (Below w9.heap.size w9 we) := Lib.hid (HBD.out.trans (hbwe.mono HBD.out.size))
        have HTT := Lib.hid (H4.out At Au ct cu we ((HLT.out.kept fun k hk => hbwe.block k hk.2).mono fun k hk => Nat.lt_of_lt_of_le hk.2 hbwe.size) (hLu.mono fun k hk => hk.2))
        clear hLu
        refine hK.out _ _ HBE.out (fun hHeld => ?_)
        clear hK K hbwe
        refine wpAnyH_ready (rs := [11]) (by kernel_rfl) (by simp) ?_
        refine AllReadyH.cons rfl (fun K hK => ?_) AllReadyH.nil
        simp only [List.getElem_toArray, List.getElem_cons_succ, List.getElem_cons_zero]
        go_simp
        refine (HTT.out).mono ?_
        rintro e wf ⟨rfl, hbwf⟩
        go_wp2_with fail
        have HBF : Hid (Below w9.heap.size w9 wf) := Lib.hid (HBE.out.trans (hbwf.mono HBE.out.size))
        refine hK.out _ _ HBF.out (fun hHeld => ?_)
        clear hK K hbwf
        refine wpAnyH_take (i := 12) (v := .bool true) rfl (by kernel_rfl) (by kernel_rfl) (by kernel_rfl) (fun _ _ _ h => h) (Or.inl ⟨by rfl, fun w1' hSw => by (go_simp)⟩) (by assumption) ?_
        simp only [List.getElem_toArray, List.getElem_cons_succ, List.getElem_cons_zero, Act.put, List.setIfInBounds_toArray, List.set_cons_zero, List.set_cons_succ]
        refine wpAnyH_take (i := 13) (v := .bool true) rfl (by kernel_rfl) (by kernel_rfl) (by kernel_rfl) (fun _ _ _ h => h) (Or.inl ⟨by rfl, fun w1' hSw => by (go_simp)⟩) (by assumption) ?_
        simp only [List.getElem_toArray, List.getElem_cons_succ, List.getElem_cons_zero, Act.put, List.setIfInBounds_toArray, List.set_cons_zero, List.set_cons_succ]
        refine wpAnyH_ready (rs := [14]) (by kernel_rfl) (by simp) ?_
        refine AllReadyH.cons rfl (fun K hK => ?_) AllReadyH.nil
        simp only [List.getElem_toArray, List.getElem_cons_succ, List.getElem_cons_zero]
        go_simp
        refine (HKN9.out wf HBF.out).mono ?_
        rintro e wg ⟨rfl, hbwg⟩
        go_wp2_with fail
        have HBG : Hid (Below w9.heap.size w9 wg) := Lib.hid (HBF.out.trans (hbwg.mono HBF.out.size))
        refine hK.out _ _ HBG.out (fun hHeld => ?_)
        clear hK K hbwg
        refine wpAnyH_take (i := 15) (v := .bool true) rfl (by kernel_rfl) (by kernel_rfl) (by kernel_rfl) (fun _ _ _ h => h) (Or.inl ⟨by rfl, fun w1' hSw => by (go_simp)⟩) (by assumption) ?_
        simp only [List.getElem_toArray, List.getElem_cons_succ, List.getElem_cons_zero, Act.put, List.setIfInBounds_toArray, List.set_cons_zero, List.set_cons_succ]
        refine wpAnyH_take (i := 16) (v := .bool true) rfl (by kernel_rfl) (by kernel_rfl) (by kernel_rfl) (fun _ _ _ h => h) (Or.inl ⟨by rfl, fun w1' hSw => by (go_simp)⟩) (by assumption) ?_
        simp only [List.getElem_toArray, List.getElem_cons_succ, List.getElem_cons_zero, Act.put, List.setIfInBounds_toArray, List.set_cons_zero, List.set_cons_succ]
        refine wpAnyH_done (by kernel_rfl) ?_ _
        go_wp2_with fail
        go_ret
        exact ⟨rfl, HB9W.out.trans (HBG.out.mono HB9W.out.size)⟩
  · have hw' : (why == 0) = false := by simpa using hw
    go_wp2_with fail
    refine (HKN.out w2 HB2.out).mono ?_
    rintro e w4 ⟨rfl, hb4⟩
    have HB4 := Lib.hid (HB2.out.trans (hb4.mono HB2.out.size))
    clear hb4
    go_wp2_with fail
    go_ret
    exact ⟨rfl, HB4.out⟩
end Go.Proofs.YtjhkihkiebnpaaaGreatDoor
