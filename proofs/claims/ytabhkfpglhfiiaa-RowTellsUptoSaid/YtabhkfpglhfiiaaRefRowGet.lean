/-
  Package confluenceref5's Get: the same as row's.
-/
import Derived.Test.YtabhkfpglhfiiaaRefGet
import Derived.Test.YtabhkfpglhfiiaaRowGet
import Derived.Deep.DeepCutAuto
namespace Go.Proofs.Ytabhkfpglhfiiaa
open Go.RowKit
theorem rr_FailAt (S : Nat → Prop) (g : Nat) (R : RS) (why at_ : Int) (hw : (why != 0) = true) (w : World) (hR : RRd w S g R) :
    Calls Try.prog 70 #[.pointer (some ⟨g, 0, none⟩), .int .i64 why, .int .i64 at_] w fun e w' => e = .returned (.tuple #[]) ∧ RRd w' S g (R.refuse why at_) ∧ Only g w w' := by
  have hp := Lib.hid (rr_refuse S g R why at_ hw w hR)
  clear hR hw
  go_enter Try.func70, Try.ntmps70
  go_wp2_with fail
  refine hp.out.mono ?_
  rintro e w1 ⟨rfl, h1, h2⟩
  go_wp2
  refine bodyPost_end (results_none rfl _ _ _) rfl ?_
  exact ⟨rfl, h1, h2⟩
theorem take_refused (R : RS) (n : Nat) (h : (R.why == 0) = false) : R.take n = R := by rw [RS.take, if_neg (by rw [h]; decide)]
theorem refuse_refused (R : RS) (a b : Int) (h : (R.why == 0) = false) : R.refuse a b = R := by rw [RS.refuse, if_neg (by rw [h]; decide)]
theorem getR_refused (R : RS) (h : (R.why == 0) = false) : R.getR = R := by
  have e := take_refused R 1 h
  unfold RS.getR
  rw [get_refused R 1 (by rw [e]; exact h), e, if_neg (by decide), if_neg (by decide), refuse_refused R _ _ h]
theorem getRows_refused : ∀ (k : Nat) (R : RS), (R.why == 0) = false → (getRows k R).2 = R
  | 0, _, _ => rfl
  | k + 1, R, h => by
    rw [getRows, getR_refused R h]
    exact getRows_refused k R h
theorem bne_of_not {R : RS} (h : (R.why == 0) = false) : (R.why != 0) = true := by simp at h ⊢; exact h

set_option maxRecDepth 100000 in
set_option maxHeartbeats 1000000 in
theorem ref5_get (S : Nat → Prop) (g : Nat) (R : RS) (w : World) (hS : ∀ k, w.heap.size ≤ k → S k) (hR : RRd w S g R) :
    Calls Try.prog 41 #[.pointer (some ⟨g, 0, none⟩)] w fun e w' => (∃ v, e = .returned v ∧ w'.ownsRow w.heap.size 49 3 v R.getRow.length (flat R.getRow)) ∧ RRd w' S g R.rowRaw.2 ∧ Only g w w' := by
  obtain ⟨i0, hi, hz0, hz1, hz2⟩ := info_parts value_info
  have hg := hR.lt
  have hp := Lib.hid (rr_Byte S g R w hR)
  have HS := Lib.hid hS
  have hV : Hid (R.getRow = if ((getRows (R.fewN 1 6).toNat (R.few 1 6)).2.why != 0) = true then [] else (getRows (R.fewN 1 6).toNat (R.few 1 6)).1) := Lib.hid rfl
  have hQ : Hid (R.rowRaw.2 = (getRows (R.fewN 1 6).toNat (R.few 1 6)).2) := Lib.hid rfl
  have hn255 : R.get 1 < 256 := getR_lt R 1
  have hN : Hid (R.fewN 1 6 = if ((R.take 1).why == 0 && (decide ((R.get 1 : Int) < 1) || decide (6 < (R.get 1 : Int)))) = true then (0 : Int) else (R.get 1 : Int)) := Lib.hid rfl
  have hF : Hid (R.few 1 6 = if ((R.take 1).why == 0 && (decide ((R.get 1 : Int) < 1) || decide (6 < (R.get 1 : Int)))) = true then (R.take 1).refuse 3 R.at_ else R.take 1) := Lib.hid rfl
  generalize R.getRow = V0 at *
  generalize R.rowRaw.2 = Q0 at *
  obtain ⟨hSg, h1, h2, v, hgg, hv⟩ := id hR
  obtain ⟨⟨c0, c1, c2, c3, c4⟩, _⟩ := cell5 hgg
  clear hR hS hgg hv c0 c2 c3 c4
  generalize R.few 1 6 = RF at *
  generalize R.fewN 1 6 = NF at *
  generalize R.get 1 = n at *
  generalize R.take 1 = R1 at *
  generalize R.at_ = q at *
  go_enter Try.func41, Try.ntmps41
  go_wp2_with fail
  refine hp.out.mono ?_
  rintro e w1 ⟨rfl, h3, h4⟩
  obtain ⟨_, _, _, v', hg', _⟩ := id h3
  obtain ⟨⟨_, _, d2, _, _⟩, _⟩ := cell5 hg'
  have H1 := Lib.hid h3
  have H2 := Lib.hid h4
  clear h3 h4 hp hg'
  obtain ⟨bad, hbad⟩ : ∃ bad : Bool, bad = (R1.why == 0 && (decide ((n : Int) < 1) || decide (6 < (n : Int)))) := ⟨_, rfl⟩
  have HB := Lib.hid hbad
  clear hbad
  go_upto_region 3 with (fail)
  go_cut [24] (fun s24 wx => s24 = .bool bad ∧ wx = w1)
  case first =>
    by_cases hw1 : (R1.why == 0) = true
    · have hw1' : (R1.why != 0) = false := by simp at hw1 ⊢; exact hw1
      rw [hw1'] at d2
      by_cases hlo : n = 0
      · subst hlo
        obtain rfl : bad = true := by rw [HB.out, hw1]; rfl
        clear hw1 hw1' HB
        go_wp2_with fail
        go_meet
        exact ⟨rfl, rfl⟩
      · have hd1 : ((n : Int) == 0) = false := by simp; omega
        have hd4 : decide ((n : Int) < 1) = false := decide_eq_false (by omega)
        have hb2 : Hid (bad = decide (6 < (n : Int))) := Lib.hid (by rw [HB.out, hw1, hd4]; rfl)
        clear hw1 hw1' HB hlo hd4
        go_wp2_with fail
        go_meet
        exact ⟨by rw [hb2.out], rfl⟩
    · have hw1' : (R1.why != 0) = true := by simp at hw1 ⊢; exact hw1
      have hw2 : (R1.why == 0) = false := by simpa using hw1
      rw [hw1'] at d2
      obtain rfl : bad = false := by rw [HB.out, hw2]; rfl
      clear hw1 hw1' hw2 HB
      go_wp2_with fail
      go_meet
      exact ⟨rfl, rfl⟩
  case rest =>
  obtain ⟨rfl, hwc⟩ := hcut
  obtain rfl : w1 = wc := hwc.symm
  clear hwc
  go_upto_if 24 with (fail)
  go_cut [27] (fun s27 wx => ∃ RK : RS, Hid (V0 = if ((getRows n RK).2.why != 0) = true then [] else (getRows n RK).1) ∧ Hid (Q0 = (getRows n RK).2) ∧ RRd wx S g RK ∧ Only g w wx)
  case first =>
    cases hb : bad
    · rw [hb] at HB
      have e2 : Hid (NF = n ∧ RF = R1) := Lib.hid (by rw [hN.out, hF.out, ← HB.out]; exact ⟨rfl, rfl⟩)
      have hV2 : Hid (V0 = if ((getRows n R1).2.why != 0) = true then [] else (getRows n R1).1) := Lib.hid (by rw [hV.out, e2.out.1, e2.out.2, Int.toNat_natCast])
      have hQ2 : Hid (Q0 = (getRows n R1).2) := Lib.hid (by rw [hQ.out, e2.out.1, e2.out.2, Int.toNat_natCast])
      subst hb
      clear HB hN hF e2
      go_wp2_with fail
      go_meet
      exact ⟨R1, hV2, hQ2, H1.out, H2.out⟩
    · rw [hb] at HB
      have hb3 : Hid ((R1.refuse 3 q).why ≠ 0) := Lib.hid (refuse_why R1 3 q (by decide))
      have eb : Hid (V0 = [] ∧ Q0 = R1.refuse 3 q) := Lib.hid (by
        have e2 : NF = 0 ∧ RF = R1.refuse 3 q := by rw [hN.out, hF.out, ← HB.out]; exact ⟨rfl, rfl⟩
        have e3 := hb3.out
        rw [hV.out, hQ.out, e2.1, e2.2]
        simp [getRows, e3])
      have hl := Lib.hid (rr_FailAt S g R1 3 q (by decide) w1 H1.out)
      subst hb
      clear HB hN hF
      go_wp2_with fail
      refine hl.out.mono ?_
      rintro e w2 ⟨rfl, h3, h4⟩
      have H3 := Lib.hid h3
      have HO2 := Lib.hid (H2.out.trans h4)
      clear h3 h4 hl
      go_wp2_with fail
      go_meet
      exact ⟨_, Lib.hid (by rw [getRows_refused _ _ (by simpa using hb3.out), if_pos (by simpa using hb3.out)]; exact eb.out.1), Lib.hid (by rw [getRows_refused _ _ (by simpa using hb3.out)]; exact eb.out.2), H3.out, HO2.out⟩
  case rest =>
    obtain ⟨RK, hV1, hQ1, hRK, hOK⟩ := hcut
    have HRK := Lib.hid hRK
    have HOK := Lib.hid hOK
    clear hRK hOK hV hQ hN hF H1 H2 d2 HB
    go_wp2_with fail
    go_loopw [4, 5] (fun i v wr => ∃ (k : Nat) (Rk : RS) (l : List V), i = .int .i64 k ∧ l.length + k ≤ 256 ∧ wr.ownsRow w.heap.size 49 3 v l.length (flat l) ∧ RRd wr S g Rk ∧ Only g w wr ∧ Hid (V0 = if ((getRows k Rk).2.why != 0) = true then [] else l ++ (getRows k Rk).1) ∧ Hid (Q0 = (getRows k Rk).2)) (fun i _ _ => (intOf i).toNat)
    case atStart => exact ⟨n, RK, [], rfl, by simp; omega, World.ownsRow_nil _ _ _ _, HRK.out, HOK.out, hV1, hQ1⟩
    case round =>
      obtain ⟨k, Rk, l, rfl, hl, hown, hr, ho, hzV, hzQ⟩ := hrel
      have HO := Lib.hid ho
      have HW := Lib.hid hown
      have HR := Lib.hid hr
      have hs := ho.size
      obtain ⟨_, _, _, v', hg', _⟩ := id hr
      obtain ⟨⟨_, _, d2, _, _⟩, _⟩ := cell5 hg'
      clear HRK HOK hV1 hQ1 ho hown hr hg'
      by_cases hw : (Rk.why == 0) = true
      · have hw' : (Rk.why != 0) = false := by simp at hw ⊢; exact hw
        rw [hw'] at d2
        by_cases h0 : k = 0
        · subst h0
          obtain rfl : Q0 = Rk := hzQ.out
          obtain rfl : V0 = l := by rw [hzV.out, if_neg (by show ¬ (Q0.why != 0) = true; rw [hw']; decide)]; simp [getRows]
          clear hzV hzQ hw hw'
          go_wp2_with fail
          go_ret
          exact ⟨⟨_, rfl, HW.out⟩, HR.out, HO.out⟩
        · obtain ⟨j, rfl⟩ : ∃ j, k = j + 1 := ⟨k - 1, by omega⟩
          have hq := Lib.hid (ref4_get S g Rk wr (fun q hq => HS.out q (by omega)) HR.out)
          have hzV2 : Hid (V0 = if ((getRows j Rk.getR).2.why != 0) = true then [] else l ++ [Rk.getV] ++ (getRows j Rk.getR).1) := Lib.hid (by rw [hzV.out]; simp [getRows])
          have hzQ2 : Hid (Q0 = (getRows j Rk.getR).2) := Lib.hid (by rw [hzQ.out]; rfl)
          have hd : decide ((0 : Int) < ((j + 1 : Nat) : Int)) = true := by rw [decide_eq_true_eq]; omega
          clear hzV hzQ hw hw' h0
          generalize Rk.getV = x at *
          generalize Rk.getR = R2 at *
          have hq2 : Hid (Calls Try.prog 71 #[.pointer (some ⟨g, 0, none⟩)] wr fun e w' => e = .returned (.agg #[.int .i64 x.k, .int .i64 x.n, .string x.s]) ∧ RRd w' S g R2 ∧ Only g wr w') := hq
          clear hq
          go_wp2_with fail
          refine hq2.out.mono ?_
          rintro e w2 ⟨rfl, h3, h4⟩
          have HR2 := Lib.hid h3
          have HO2 := Lib.hid (HO.out.trans h4)
          have HW2 := Lib.hid (own_only HW.out h4 hg)
          have hs2 := h4.size
          clear h3 h4 hq2 d2
          go_wp2_with (at_builtin; refine wpList_append_own _ rfl _ _ 39 rfl w.heap.size 49 i0 _ 3 32 Try.underlying39 hi hz0 hz1 hz2 rfl (by decide) _ _ _ rfl (HW2.out.alloc _) ⟨w2.heap.size, 0, none⟩ 1 1 (V.cs x) rfl rfl ?c1 ?c2 ?c3 ?c4 ?c5 ?_)
          case c1 =>
            intro j u hj
            match j, hj with
            | 0, hj => simp [V.cs] at hj; subst hj; simp [Addr.add]
            | 1, hj => simp [V.cs] at hj; subst hj; simp [Addr.add]
            | 2, hj => simp [V.cs] at hj; subst hj; simp [Addr.add]
          case c2 => rw [← flat_one]; exact flat_ones _
          case c3 => unfold maxLen; omega
          case c4 => omega
          case c5 => simp; omega
          intro v' w3 hown' hgrow _
          have ha : Below w2.heap.size w2 (w2.alloc (.cells #[.int .i64 x.k, .int .i64 x.n, .string x.s] 49)) := (Below.refl _ _).alloc (Nat.le_refl _) _
          have hown3 : w3.ownsRow w.heap.size 49 3 v' (l ++ [x]).length (flat (l ++ [x])) := by rw [List.length_append, flat_append, flat_one]; exact hown'
          have ho3 := (HO2.out.trans (only_of_below ha)).grown hgrow (fun q hq => (HW2.out.lt q hq).1)
          have hr3 : RRd w3 S g R2 := by
            obtain ⟨r1, r2, r3, v, r4, r5⟩ := (HR2.out.kept ha)
            have hgw : g < (w2.alloc (.cells #[.int .i64 x.k, .int .i64 x.n, .string x.s] 49)).heap.size := by simp; omega
            refine ⟨r1, r2, r3, v, (hgrow.block g hgw fun e => by have := (HW2.out.lt g e.symm).1; omega).trans r4, r5.out ⟨hgrow.os, hgrow.tape, hgrow.output, hgrow.size, fun q hq => ?_⟩⟩
            rcases Nat.lt_or_ge q (w2.alloc (.cells #[.int .i64 x.k, .int .i64 x.n, .string x.s] 49)).heap.size with h | h
            · exact hgrow.block q h fun e => hq (HS.out q (HW2.out.lt q e.symm).1)
            · exact absurd (HS.out q (by simp at h; omega)) hq
          have hl3 : (l ++ [x]).length + j ≤ 256 := by rw [List.length_append]; simp; omega
          have HOWN := Lib.hid hown3
          have HO3 := Lib.hid ho3
          have HR3 := Lib.hid hr3
          clear hown' hgrow ha hown3 ho3 hr3
          go_wp2_with fail
          go_roundw
          case rel => exact ⟨j, R2, l ++ [x], by go_num, hl3, HOWN.out, HR3.out, HO3.out, hzV2, hzQ2⟩
          case measure => simp [intOf]
      · have hw' : (Rk.why != 0) = true := by simp at hw ⊢; exact hw
        have hw2 : (Rk.why == 0) = false := by simpa using hw
        rw [hw'] at d2
        obtain rfl : Q0 = Rk := by rw [hzQ.out, getRows_refused _ _ hw2]
        obtain rfl : V0 = [] := by rw [hzV.out, getRows_refused _ _ hw2, if_pos hw']
        clear hzV hzQ hw hw' hw2
        by_cases h0 : k = 0
        · subst h0
          go_wp2_with fail
          go_ret
          exact ⟨⟨_, rfl, World.ownsRow_nil _ _ _ _⟩, HR.out, HO.out⟩
        · have hd : decide ((0 : Int) < (k : Int)) = true := by rw [decide_eq_true_eq]; omega
          go_wp2_with fail
          go_ret
          exact ⟨⟨_, rfl, World.ownsRow_nil _ _ _ _⟩, HR.out, HO.out⟩
end Go.Proofs.Ytabhkfpglhfiiaa
