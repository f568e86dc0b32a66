/-
  Rows, read.
-/
import Derived.Test.YtabhkfpglhfiiaaGet
import Derived.Test.YtabhkfpglhfiiaaNums
import Derived.Test.YtabhkfpglhfiiaaReader4
namespace Go.Proofs.Ytabhkfpglhfiiaa
open Go.RowKit
def getRows : Nat → RS → List V × RS
  | 0, R => ([], R)
  | k + 1, R => (R.getV :: (getRows k R.getR).1, (getRows k R.getR).2)
def RS.rowRaw (R : RS) : List V × RS := getRows (R.fewN 1 6).toNat (R.few 1 6)
def RS.getRow (R : RS) : List V := if (R.rowRaw.2.why != 0) = true then [] else R.rowRaw.1
theorem few_le (R : RS) : 0 ≤ R.fewN 1 6 ∧ R.fewN 1 6 ≤ 6 := by
  unfold RS.fewN RS.fewBad
  by_cases h : ((R.take 1).why == 0) = true
  · rw [h, Bool.true_and]
    by_cases h1 : (R.get 1 : Int) < 1
    · rw [if_pos (by simp [h1])]; decide
    · by_cases h2 : 6 < (R.get 1 : Int)
      · rw [if_pos (by simp [h2])]; decide
      · rw [if_neg (by simp [h1, h2])]; omega
  · have h' : ((R.take 1).why == 0) = false := by simpa using h
    rw [h', Bool.false_and, if_neg (by decide)]
    have : R.get 1 = 0 := by rw [RS.get, takeL_refused R 1 h']; rfl
    omega
theorem Rd.out {w w' : World} {S : Nat → Prop} {g : Nat} {R : RS} (h : Rd w S g R) (ho : Out S w w') (hg : w'.heap[g]? = w.heap[g]?) : Rd w' S g R := by
  obtain ⟨h1, h2, h3, v, h4, hv⟩ := h
  exact ⟨h1, h2, h3, v, hg.trans h4, hv.out ho⟩
set_option maxRecDepth 100000 in
theorem row_get (S : Nat → Prop) (g : Nat) (R : RS) (w : World) (hS : ∀ k, w.heap.size ≤ k → S k) (hR : Rd w S g R) :
    Calls Try.prog 30 #[.pointer (some ⟨g, 0, none⟩)] w fun e w' => (∃ v, e = .returned v ∧ w'.ownsRow w.heap.size 49 3 v R.getRow.length (flat R.getRow)) ∧ Rd w' S g R.rowRaw.2 ∧ Only g w w' := by
  obtain ⟨i0, hi, hz0, hz1, hz2⟩ := info_parts value_info
  have hg := hR.lt
  have hp := Lib.hid (rFew S g R 1 6 w hR)
  have hn := few_le R
  have HS := Lib.hid hS
  have hV : Hid (R.getRow = if ((getRows (R.fewN 1 6).toNat (R.few 1 6)).2.why != 0) = true then [] else (getRows (R.fewN 1 6).toNat (R.few 1 6)).1) := Lib.hid rfl
  have hQ : Hid (R.rowRaw.2 = (getRows (R.fewN 1 6).toNat (R.few 1 6)).2) := Lib.hid rfl
  generalize R.getRow = V0 at *
  generalize R.rowRaw.2 = Q0 at *
  obtain ⟨n, en⟩ : ∃ n : Nat, R.fewN 1 6 = n := ⟨(R.fewN 1 6).toNat, by omega⟩
  rw [en] at hp hn hV hQ
  rw [Int.toNat_natCast] at hV hQ
  have hn6 : n ≤ 6 := by omega
  generalize R.few 1 6 = R1 at *
  clear hR hS en hn
  go_enter Try.func30, Try.ntmps30
  go_wp2_with fail
  refine hp.out.mono ?_
  rintro e w1 ⟨rfl, h1, h2⟩
  have H1 := Lib.hid h1
  have H2 := Lib.hid h2.only
  clear h1 h2 hp
  go_wp2_with fail
  go_loopw [3, 4] (fun v i wr => ∃ (k : Nat) (Rk : RS) (l : List V), i = .int .i64 k ∧ l.length + k ≤ 6 ∧ wr.ownsRow w.heap.size 49 3 v l.length (flat l) ∧ Rd wr S g Rk ∧ Only g w wr ∧ Hid ((l ++ (getRows k Rk).1, (getRows k Rk).2) = getRows n R1)) (fun _ i _ => (intOf i).toNat)
  case atStart => exact ⟨n, R1, [], rfl, by simpa using hn6, World.ownsRow_nil _ _ _ _, H1.out, H2.out, Lib.hid (by simp)⟩
  case round =>
    obtain ⟨k, Rk, l, rfl, hl, hown, hr, ho, hz⟩ := hrel
    have HO := Lib.hid ho
    have HW := Lib.hid hown
    have hs := ho.size
    clear H1 H2 ho hown
    by_cases h0 : k = 0
    · subst h0
      have e1 : Q0 = Rk := by rw [hQ.out, ← hz.out]; rfl
      have e2 : V0 = if (Rk.why != 0) = true then [] else l := by
        rw [hV.out, ← hz.out]
        simp [getRows]
      subst e1
      have hq := Lib.hid (rRefused S g Q0 wr hr)
      have HR := Lib.hid hr
      have E2 := Lib.hid e2
      clear e2 hV hQ hz hr
      go_wp2_with fail
      refine hq.out.mono ?_
      rintro e w2 ⟨rfl, rfl⟩
      by_cases hwhy : (Q0.why != 0) = true
      · have e3 : V0 = [] := by rw [E2.out, if_pos hwhy]
        subst e3
        clear E2
        go_wp2_with fail
        go_ret
        exact ⟨⟨_, rfl, World.ownsRow_nil _ _ _ _⟩, HR.out, HO.out⟩
      · have e3 : V0 = l := by rw [E2.out, if_neg hwhy]
        have hwhy' : (Q0.why != 0) = false := by simpa using hwhy
        subst e3
        clear E2 hwhy
        go_wp2_with fail
        go_ret
        exact ⟨⟨_, rfl, HW.out⟩, HR.out, HO.out⟩
    · obtain ⟨j, rfl⟩ : ∃ j, k = j + 1 := ⟨k - 1, by omega⟩
      have hq := Lib.hid (value_get S g Rk wr (fun q hq => HS.out q (by omega)) hr)
      have hzr : Hid ((l ++ [Rk.getV] ++ (getRows j Rk.getR).1, (getRows j Rk.getR).2) = getRows n R1) := Lib.hid (by rw [← hz.out]; simp [getRows])
      have hd : decide ((0 : Int) < ((j + 1 : Nat) : Int)) = true := by rw [decide_eq_true_eq]; omega
      clear hz hr h0
      generalize Rk.getV = x at *
      generalize Rk.getR = R2 at *
      have hq2 : Hid (Calls Try.prog 61 #[.pointer (some ⟨g, 0, none⟩)] wr fun e w' => e = .returned (.agg #[.int .i64 x.k, .int .i64 x.n, .string x.s]) ∧ Rd w' S g R2 ∧ Only g wr w') := hq
      clear hq
      go_wp2_with fail
      refine hq2.out.mono ?_
      rintro e w2 ⟨rfl, h3, h4⟩
      have HR := Lib.hid h3
      have HO2 := Lib.hid (HO.out.trans h4)
      have HW2 := Lib.hid (own_only HW.out h4 hg)
      have hs2 := h4.size
      clear h3 h4 hq2
      go_wp2_with (at_builtin; refine wpList_append_own _ rfl _ _ 39 rfl w.heap.size 49 i0 _ 3 32 Try.underlying39 hi hz0 hz1 hz2 rfl (by decide) _ _ _ rfl (HW2.out.alloc _) ⟨w2.heap.size, 0, none⟩ 1 1 (V.cs x) rfl rfl ?c1 ?c2 ?c3 ?c4 ?c5 ?_)
      case c1 =>
        intro j u hj
        match j, hj with
        | 0, hj => simp [V.cs] at hj; subst hj; simp [Addr.add]
        | 1, hj => simp [V.cs] at hj; subst hj; simp [Addr.add]
        | 2, hj => simp [V.cs] at hj; subst hj; simp [Addr.add]
      case c2 => rw [← flat_one]; exact flat_ones _
      case c3 => unfold maxLen; omega
      case c4 => omega
      case c5 => simp; omega
      intro v' w3 hown' hgrow _
      have ha : Below w2.heap.size w2 (w2.alloc (.cells #[.int .i64 x.k, .int .i64 x.n, .string x.s] 49)) := (Below.refl _ _).alloc (Nat.le_refl _) _
      have hown3 : w3.ownsRow w.heap.size 49 3 v' (l ++ [x]).length (flat (l ++ [x])) := by rw [List.length_append, flat_append, flat_one]; exact hown'
      have ho3 := (HO2.out.trans (only_of_below ha)).grown hgrow (fun q hq => (HW2.out.lt q hq).1)
      have hgw : g < (w2.alloc (.cells #[.int .i64 x.k, .int .i64 x.n, .string x.s] 49)).heap.size := by simp; omega
      have hr3 : Rd w3 S g R2 := by
        refine (HR.out.kept ha).out ⟨hgrow.os, hgrow.tape, hgrow.output, hgrow.size, fun q hq => ?_⟩ (hgrow.block g hgw fun e => by have := (HW2.out.lt g e.symm).1; omega)
        rcases Nat.lt_or_ge q (w2.alloc (.cells #[.int .i64 x.k, .int .i64 x.n, .string x.s] 49)).heap.size with h | h
        · exact hgrow.block q h fun e => hq (HS.out q (HW2.out.lt q e.symm).1)
        · exact absurd (HS.out q (by simp at h; omega)) hq
      have hl3 : (l ++ [x]).length + j ≤ 6 := by rw [List.length_append]; simp; omega
      have HOWN := Lib.hid hown3
      have HO3 := Lib.hid ho3
      have HR3 := Lib.hid hr3
      clear hown' hgrow ha hown3 ho3 hgw hr3
      go_wp2_with fail
      go_roundw
      case rel => exact ⟨j, R2, l ++ [x], by go_num, hl3, HOWN.out, HR3.out, HO3.out, hzr⟩
      case measure => simp [intOf]
end Go.Proofs.Ytabhkfpglhfiiaa
