/-
  law 16's tables.
-/
import Derived.Test.YtajnnkapgnmoaaaGreatMs10
import Derived.Test.YtajnnkapgnmoaaaGreatMs12
import Derived.Test.YtajnnkapgnmoaaaGreatMs8
import Derived.Deep.RegionHeld3
set_option linter.unusedVariables false
set_option linter.unusedSimpArgs false
set_option linter.unusedVariables false
set_option linter.unusedSimpArgs false
namespace Go.Proofs.YtajnnkapgnmoaaaGreat
open Go.RowKit

set_option maxHeartbeats 8000000 in
set_option maxRecDepth 100000 in
theorem tables_any (n : Int) (hn1 : -1000 ≤ n) (hn2 : n ≤ 100) (A : Option Addr) (c : Nat) (l : List CM) (w : World) {S : Nat → Prop} (hC : ChRow w S A l) (hS : ∀ k, S k → k < w.heap.size) (hl : l.length ≤ 9223372036854775807) (hnm : ∀ x ∈ l, x.nm.size ≤ 9223372036854775807) (hvs : ∀ x ∈ l, ∀ y ∈ x.r, y.s.size ≤ 9223372036854775807) :
    Calls Tryz.prog 11 #[.int .i64 n, .slice A l.length c] w fun e w' => (∃ v, e = .returned v ∧ TabsRet w (tabsK n (l.map CM.ch)) w' v) ∧ Below w.heap.size w w' := by
  obtain ⟨i0, hi, hz0, hz1, hz2⟩ := info_parts item_info
  obtain ⟨ln, hln⟩ : ∃ ln, l.length = ln := ⟨_, rfl⟩
  have HLN := Lib.hid hln
  have HC := Lib.hid hC
  have HS := Lib.hid hS
  have HNM := Lib.hid hnm
  have HVS := Lib.hid hvs
  rw [hln] at hl ⊢
  clear hC hS hnm hvs hln
  obtain ⟨LK, hLK⟩ : ∃ LK, l.map CM.ch = LK := ⟨_, rfl⟩
  have HLK := Lib.hid hLK
  rw [hLK]
  clear hLK
  go_enter Tryz.func11, Tryz.ntmps11
  go_wp2_with (first | (go_at_call 24; refine (keepB_U _).mono ?_; rintro e w' ⟨rfl, rfl⟩) | (go_at_call 25; refine (keepB_T _).mono ?_; rintro e w' ⟨rfl, rfl⟩))
  obtain ⟨w3, hw3⟩ : ∃ w3, w3 = ((w.alloc (.cells #[.string ⟨#[97]⟩, .int .i64 1, .string ⟨#[99]⟩, .int .i64 1] 100)).alloc (.cells #[.string ⟨#[97]⟩, .int .i64 1, .string ⟨#[98]⟩, .int .i64 1, .string ⟨#[115]⟩, .int .i64 2] 100)).alloc (.cells #[.string ⟨#[117]⟩, .slice (some ⟨w.heap.size, 0, none⟩) 2 2, .slice none 0 0, .string ⟨#[116]⟩, .slice (some ⟨w.heap.size + 1, 0, none⟩) 3 3, .slice none 0 0] 44) := ⟨_, rfl⟩
  rw [← hw3]
  have HW3 : Hid (Below w.heap.size w w3) := Lib.hid (by rw [hw3]; exact (((Below.refl _ _).alloc (Nat.le_refl _) _).alloc (by simp only [World.size_alloc]; omega) _).alloc (by simp only [World.size_alloc]; omega) _)
  have hs3 : w.heap.size + 1 + 1 + 1 ≤ w3.heap.size := by rw [hw3]; simp
  have HS3 : Hid (w3.heap.size = w.heap.size + 1 + 1 + 1) := Lib.hid (by rw [hw3]; simp)
  have HBU : Hid (Blk w3 w.heap.size 100 #[.string ⟨#[97]⟩, .int .i64 1, .string ⟨#[99]⟩, .int .i64 1]) := Lib.hid (by rw [hw3]; exact ((Blk.new w _ _).alloc _).alloc _)
  have HBT : Hid (Blk w3 (w.heap.size + 1) 100 #[.string ⟨#[97]⟩, .int .i64 1, .string ⟨#[98]⟩, .int .i64 1, .string ⟨#[115]⟩, .int .i64 2]) := Lib.hid (by
    rw [hw3]
    have h := (Blk.new (w.alloc (.cells #[.string ⟨#[97]⟩, .int .i64 1, .string ⟨#[99]⟩, .int .i64 1] 100)) 100 #[.string ⟨#[97]⟩, .int .i64 1, .string ⟨#[98]⟩, .int .i64 1, .string ⟨#[115]⟩, .int .i64 2])
    simp only [World.size_alloc] at h
    exact h.alloc _)
  have HBO : Hid (Blk w3 (w.heap.size + 1 + 1) 44 #[.string ⟨#[117]⟩, .slice (some ⟨w.heap.size, 0, none⟩) 2 2, .slice none 0 0, .string ⟨#[116]⟩, .slice (some ⟨w.heap.size + 1, 0, none⟩) 3 3, .slice none 0 0]) := Lib.hid (by
    rw [hw3]
    have h := (Blk.new ((w.alloc (.cells #[.string ⟨#[97]⟩, .int .i64 1, .string ⟨#[99]⟩, .int .i64 1] 100)).alloc (.cells #[.string ⟨#[97]⟩, .int .i64 1, .string ⟨#[98]⟩, .int .i64 1, .string ⟨#[115]⟩, .int .i64 2] 100)) 44 #[.string ⟨#[117]⟩, .slice (some ⟨w.heap.size, 0, none⟩) 2 2, .slice none 0 0, .string ⟨#[116]⟩, .slice (some ⟨w.heap.size + 1, 0, none⟩) 3 3, .slice none 0 0])
    simp only [World.size_alloc] at h
    exact h)
  clear hw3
  have ht1 := tal_one
  go_loopw [6, 7, 8] (fun v6 v7 i wr => ∃ (k : Nat) (tl ul : List IM), k ≤ ln ∧ k ≤ 20 ∧ i = .int .i64 k ∧ wr.ownsRow w3.heap.size 47 2 v6 tl.length (flatM tl) ∧ wr.ownsRow w3.heap.size 47 2 v7 ul.length (flatM ul) ∧ Below w3.heap.size w3 wr ∧ Hid (∀ g, v6.ownBlock = some g → v7.ownBlock ≠ some g) ∧
      Hid (∀ x ∈ tl, VRowS wr (fun g => NewS w3 wr g ∧ v6.ownBlock ≠ some g ∧ v7.ownBlock ≠ some g) x.A x.r) ∧ Hid (∀ x ∈ ul, VRowS wr (fun g => NewS w3 wr g ∧ v6.ownBlock ≠ some g ∧ v7.ownBlock ≠ some g) x.A x.r) ∧ Hid (its tl = partT (LK.take k)) ∧ Hid (its ul = partU (LK.take k)) ∧ tl.length ≤ k ∧ ul.length ≤ k) (fun _ _ i _ => ln - (intOf i).toNat)
  case atStart => exact ⟨0, [], [], Nat.zero_le _, Nat.zero_le _, rfl, World.ownsRow_nil _ _ _ _, World.ownsRow_nil _ _ _ _, Below.refl _ _, Lib.hid (fun g h => by simp [Value.ownBlock] at h), Lib.hid (fun x hx => by simp at hx), Lib.hid (fun x hx => by simp at hx), Lib.hid (by simp [partT, its]), Lib.hid (by simp [partU, its]), Nat.le_refl _, Nat.le_refl _⟩
  case round =>
    rename World => wo
    obtain ⟨k, tl, ul, hk, hk20, rfl, ho6, ho7, hb, HNE, HTR, HUR, HTI, HUI, htl, hul⟩ := hrel
    have HO6 := Lib.hid ho6
    have HO7 := Lib.hid ho7
    have HB := Lib.hid hb
    have hs := hb.size
    have HL6 : Hid (∀ g, u6.ownBlock = some g → w3.heap.size ≤ g ∧ g < wo.heap.size) := Lib.hid (fun g h => ho6.lt g h)
    have HL7 : Hid (∀ g, u7.ownBlock = some g → w3.heap.size ≤ g ∧ g < wo.heap.size) := Lib.hid (fun g h => ho7.lt g h)
    clear ho6 ho7 hb
    go_upto_region 4 with (fail)
    go_cut [22] (fun sb wx => sb = .bool (decide (k < ln) && decide (k < 20)) ∧ wo = wx)
    case first =>
      by_cases h1 : k < ln
      · by_cases h2 : k < 20
        · have d1 : decide ((k : Int) < (ln : Int)) = true := decide_eq_true (by omega)
          have d2 : decide ((k : Int) < 20) = true := decide_eq_true (by omega)
          have d3 : decide (k < ln) = true := decide_eq_true h1
          have d4 : decide (k < 20) = true := decide_eq_true h2
          go_wp2_with fail
          go_meet
          exact ⟨by rw [d3, d4]; rfl, rfl⟩
        · have d1 : decide ((k : Int) < (ln : Int)) = true := decide_eq_true (by omega)
          have d2 : decide ((k : Int) < 20) = false := decide_eq_false (by omega)
          have d3 : decide (k < ln) = true := decide_eq_true h1
          have d4 : decide (k < 20) = false := decide_eq_false h2
          go_wp2_with fail
          go_meet
          exact ⟨by rw [d3, d4]; rfl, rfl⟩
      · have d1 : decide ((k : Int) < (ln : Int)) = false := decide_eq_false (by omega)
        have d3 : decide (k < ln) = false := decide_eq_false h1
        go_wp2_with fail
        go_meet
        exact ⟨by rw [d3, Bool.false_and], rfl⟩
    case rest =>
    obtain ⟨rfl, rfl⟩ := hcut
    obtain ⟨q, hq⟩ : ∃ q, (decide (k < ln) && decide (k < 20)) = q := ⟨_, rfl⟩
    rw [hq]
    cases q
    case true =>
      have hlt := of_decide_eq_true (Bool.and_eq_true_iff.1 hq).1
      have hlt2 := of_decide_eq_true (Bool.and_eq_true_iff.1 hq).2
      clear hq
      obtain ⟨x, hx⟩ : ∃ x, l[k]? = some x := ⟨_, List.getElem?_eq_getElem (by rw [HLN.out]; exact hlt)⟩
      have HBW : Hid (Below w.heap.size w wo) := Lib.hid (HW3.out.trans (HB.out.mono (by omega)))
      obtain ⟨b, off, rfl, hSb, hc1, hc2, hc3⟩ := (HC.out.below HBW.out HS.out).get hx
      have hm := List.mem_of_getElem? hx
      have hLx : LK[k]? = some x.ch := by rw [← HLK.out, List.getElem?_map, hx]; rfl
      have HTM := Lib.hid (fun w1 (hb : Below w.heap.size w w1) => tame_any x.nm x.A x.c x.r x.rem w1 ((((HC.out.rows x hm).to HS.out).below hb).more hb.size) (HNM.out x hm) (HVS.out x hm))
      have HST := Lib.hid (part_step hLx)
      have HIS := Lib.hid (tame_isT x.ch)
      obtain ⟨xnm, xA, xc, xr, xrem⟩ := x
      dsimp only [CM.ch] at hc1 hc2 hc3 HTM HST HIS
      obtain ⟨K, hK⟩ : ∃ K, tameK xnm xr = K := ⟨_, rfl⟩
      have HKK := Lib.hid hK
      unfold TameRet at HTM
      rw [hK] at HTM HIS
      obtain ⟨xn, hxn⟩ : ∃ xn, xr.length = xn := ⟨_, rfl⟩
      rw [hxn] at hc2 HTM
      obtain ⟨nm', r'⟩ := K
      dsimp only at HTM HIS
      clear hx hm hLx hSb hK hxn
      cases hT : isT ⟨xnm, xr, xrem⟩
      · obtain ⟨hnm', hr'⟩ := HIS.out.2 hT
        subst hnm'
        have HTI2 : Hid (its tl = partT (LK.take (k + 1))) := Lib.hid (by rw [(HST.out.2 hT).1, HTI.out])
        have HUI2 : Hid (its ul ++ [(r', 1)] = partU (LK.take (k + 1))) := Lib.hid (by
          rw [(HST.out.2 hT).2, HUI.out]
          unfold tameI
          simp only [HKK.out])
        have HR2 := Lib.hid hr'
        rw [hr'] at HTM
        clear hr' hT HIS HST HKK HTI HUI
        unfold nmU at HTM
        go_wp2_with fail
        refine (HTM.out _ HBW.out).mono ?_
        rintro e w4 ⟨g4, rfl, hg4, hcells, hb4⟩
        have HB4 := Lib.hid hb4
        have hs4 := hb4.size
        have HCE := Lib.hid hcells
        clear hb4 hcells HTM
        go_wp2_with (at_builtin; refine wpList_append_any _ rfl _ _ 41 rfl w3.heap.size 47 i0 _ 2 40 Tryz.underlying41 hi hz0 hz1 hz2 rfl (by decide) _ _ _ rfl (((ownM_below HO7.out HB4.out).alloc _).alloc _) (w4.heap.size + 1 + 1) _ _ _ [.slice (some ⟨g4, 0, none⟩) 2 2, .complex .f64 4607182418800017408 0] rfl ⟨rfl, fun _ => ⟨_, rfl, Nat.lt_succ_self _, World.news_of_block (by have h := heap_alloc_new (w4.alloc (.cells #[.string ⟨#[117]⟩, .slice (some ⟨g4, 0, none⟩) 2 2, .bool xrem] 28)) (.cells #[.slice (some ⟨g4, 0, none⟩) 2 2, .complex .f64 4607182418800017408 0] 47); simp only [World.size_alloc] at h; exact h)⟩⟩ ?c1 ?c2 ?c3 ?c4 ?_)
        case c1 => intro u hu; simp only [List.mem_cons, List.not_mem_nil, or_false] at hu; rcases hu with rfl | rfl <;> rfl
        case c2 => unfold maxLen; omega
        case c3 => omega
        case c4 => simp; omega
        intro v' w5 hown' hgrow hat
        have hgrow2 : (((w4.alloc (.cells #[.string ⟨#[117]⟩, .slice (some ⟨g4, 0, none⟩) 2 2, .bool xrem] 28)).alloc (.cells #[.slice (some ⟨g4, 0, none⟩) 2 2, .complex .f64 4607182418800017408 0] 47))).grownBy w5 u7.ownBlock := hgrow
        obtain ⟨x', ex'⟩ : ∃ x' : IM, x' = ⟨some ⟨g4, 0, none⟩, 2, r', 1⟩ := ⟨_, rfl⟩
        have hg4s : g4 < w4.heap.size := (Array.getElem?_eq_some_iff.1 HCE.out).1
        have hb4a : Below wo.heap.size wo (w4.alloc (.cells #[.string ⟨#[117]⟩, .slice (some ⟨g4, 0, none⟩) 2 2, .bool xrem] 28)) := HB4.out.alloc hs4 _
        have hxr : VRowS (w4.alloc (.cells #[.string ⟨#[117]⟩, .slice (some ⟨g4, 0, none⟩) 2 2, .bool xrem] 28)) (NewS wo (w4.alloc (.cells #[.string ⟨#[117]⟩, .slice (some ⟨g4, 0, none⟩) 2 2, .bool xrem] 28))) x'.A x'.r := by
          rw [ex']
          have hbk : Blk (w4.alloc (.cells #[.string ⟨#[117]⟩, .slice (some ⟨g4, 0, none⟩) 2 2, .bool xrem] 28)) g4 49 (flat r').toArray := Blk.alloc HCE.out _
          exact vals_of_blk hbk ⟨hg4, by simp; omega, fun o => Blk.frozen hbk o⟩
        obtain ⟨q1, q2, q3, q4⟩ := snoc_two (w2 := w3) (u := u7) (v' := v') (ol := ul) (pl := tl) (o2 := u6.ownBlock) (x' := x') (fun x hx => (HUR.out x hx).mono fun g h => ⟨h.1, h.2.2, h.2.1⟩) (fun x hx => (HTR.out x hx).mono fun g h => ⟨h.1, h.2.2, h.2.1⟩) HL7.out HL6.out (fun g h e => HNE.out g e h) hs HB.out hb4a hxr _ hgrow2 (by simpa using hat)
        have HO7' : Hid (w5.ownsRow w3.heap.size 47 2 v' (ul ++ [x']).length (flatM (ul ++ [x']))) := Lib.hid (by
          rw [flatM_append, flatM_one, List.length_append, ex']
          simp only [IM.cs, HR2.out, ht1]
          exact hown')
        have HO6' : Hid (w5.ownsRow w3.heap.size 47 2 u6 tl.length (flatM tl)) := Lib.hid (((ownM_below HO6.out hb4a).alloc _).kept hgrow2 (by
          cases ho : u6.ownBlock with
          | none => exact .inl rfl
          | some g => exact .inr fun e => HNE.out g ho e.symm))
        have HUI5 : Hid (its (ul ++ [x']) = partU (LK.take (k + 1))) := Lib.hid (by rw [its_append, ← HUI2.out, ex']; rfl)
        have hul5 : (ul ++ [x']).length ≤ k + 1 := by rw [List.length_append]; simp only [List.length_cons, List.length_nil]; omega
        have HUR5 : Hid (∀ x ∈ ul ++ [x'], VRowS w5 (fun g => NewS w3 w5 g ∧ u6.ownBlock ≠ some g ∧ v'.ownBlock ≠ some g) x.A x.r) := Lib.hid (fun x hx => (q1 x hx).mono fun g h => ⟨h.1, h.2.2, h.2.1⟩)
        have HTR5 : Hid (∀ x ∈ tl, VRowS w5 (fun g => NewS w3 w5 g ∧ u6.ownBlock ≠ some g ∧ v'.ownBlock ≠ some g) x.A x.r) := Lib.hid (fun x hx => (q2 x hx).mono fun g h => ⟨h.1, h.2.2, h.2.1⟩)
        have HB5 := Lib.hid q3
        have HNE5 : Hid (∀ g, u6.ownBlock = some g → v'.ownBlock ≠ some g) := Lib.hid (fun g h e => q4 g e h)
        generalize ul ++ [x'] = ul5 at HO7' HUI5 hul5 HUR5
        clear hown' hgrow hgrow2 hat hb4a hxr q1 q2 q3 q4 ex' HCE HB4 HO6 HO7 HB HUR HTR HNE HL6 HL7 HUI2
        go_wp2_with fail
        go_roundw
        case rel => exact ⟨k + 1, tl, ul5, by omega, by omega, by go_num, HO6'.out, HO7'.out, HB5.out, HNE5, HTR5, HUR5, HTI2, HUI5, by omega, hul5⟩
        case measure => simp [intOf]; omega
      · obtain ⟨hnm', hr'⟩ := HIS.out.1 hT
        subst hnm'
        have HUI2 : Hid (its ul = partU (LK.take (k + 1))) := Lib.hid (by rw [(HST.out.1 hT).2, HUI.out])
        have HTI2 : Hid (its tl ++ [(r', 1)] = partT (LK.take (k + 1))) := Lib.hid (by
          rw [(HST.out.1 hT).1, HTI.out]
          unfold tameI
          simp only [HKK.out])
        have HR2 := Lib.hid hr'
        rw [hr'] at HTM
        clear hr' hT HIS HST HKK HTI HUI
        unfold nmT at HTM
        go_wp2_with fail
        refine (HTM.out _ HBW.out).mono ?_
        rintro e w4 ⟨g4, rfl, hg4, hcells, hb4⟩
        have HB4 := Lib.hid hb4
        have hs4 := hb4.size
        have HCE := Lib.hid hcells
        clear hb4 hcells HTM
        go_wp2_with (at_builtin; refine wpList_append_any _ rfl _ _ 41 rfl w3.heap.size 47 i0 _ 2 40 Tryz.underlying41 hi hz0 hz1 hz2 rfl (by decide) _ _ _ rfl (((ownM_below HO6.out HB4.out).alloc _).alloc _) (w4.heap.size + 1 + 1) _ _ _ [.slice (some ⟨g4, 0, none⟩) 3 3, .complex .f64 4607182418800017408 0] rfl ⟨rfl, fun _ => ⟨_, rfl, Nat.lt_succ_self _, World.news_of_block (by have h := heap_alloc_new (w4.alloc (.cells #[.string ⟨#[116]⟩, .slice (some ⟨g4, 0, none⟩) 3 3, .bool xrem] 28)) (.cells #[.slice (some ⟨g4, 0, none⟩) 3 3, .complex .f64 4607182418800017408 0] 47); simp only [World.size_alloc] at h; exact h)⟩⟩ ?c1 ?c2 ?c3 ?c4 ?_)
        case c1 => intro u hu; simp only [List.mem_cons, List.not_mem_nil, or_false] at hu; rcases hu with rfl | rfl <;> rfl
        case c2 => unfold maxLen; omega
        case c3 => omega
        case c4 => simp; omega
        intro v' w5 hown' hgrow hat
        have hgrow2 : (((w4.alloc (.cells #[.string ⟨#[116]⟩, .slice (some ⟨g4, 0, none⟩) 3 3, .bool xrem] 28)).alloc (.cells #[.slice (some ⟨g4, 0, none⟩) 3 3, .complex .f64 4607182418800017408 0] 47))).grownBy w5 u6.ownBlock := hgrow
        obtain ⟨x', ex'⟩ : ∃ x' : IM, x' = ⟨some ⟨g4, 0, none⟩, 3, r', 1⟩ := ⟨_, rfl⟩
        have hg4s : g4 < w4.heap.size := (Array.getElem?_eq_some_iff.1 HCE.out).1
        have hb4a : Below wo.heap.size wo (w4.alloc (.cells #[.string ⟨#[116]⟩, .slice (some ⟨g4, 0, none⟩) 3 3, .bool xrem] 28)) := HB4.out.alloc hs4 _
        have hxr : VRowS (w4.alloc (.cells #[.string ⟨#[116]⟩, .slice (some ⟨g4, 0, none⟩) 3 3, .bool xrem] 28)) (NewS wo (w4.alloc (.cells #[.string ⟨#[116]⟩, .slice (some ⟨g4, 0, none⟩) 3 3, .bool xrem] 28))) x'.A x'.r := by
          rw [ex']
          have hbk : Blk (w4.alloc (.cells #[.string ⟨#[116]⟩, .slice (some ⟨g4, 0, none⟩) 3 3, .bool xrem] 28)) g4 49 (flat r').toArray := Blk.alloc HCE.out _
          exact vals_of_blk hbk ⟨hg4, by simp; omega, fun o => Blk.frozen hbk o⟩
        obtain ⟨q1, q2, q3, q4⟩ := snoc_two (w2 := w3) (u := u6) (v' := v') (ol := tl) (pl := ul) (o2 := u7.ownBlock) (x' := x') HTR.out HUR.out HL6.out HL7.out HNE.out hs HB.out hb4a hxr _ hgrow2 (by simpa using hat)
        have HO6' : Hid (w5.ownsRow w3.heap.size 47 2 v' (tl ++ [x']).length (flatM (tl ++ [x']))) := Lib.hid (by
          rw [flatM_append, flatM_one, List.length_append, ex']
          simp only [IM.cs, HR2.out, ht1]
          exact hown')
        have HO7' : Hid (w5.ownsRow w3.heap.size 47 2 u7 ul.length (flatM ul)) := Lib.hid (((ownM_below HO7.out hb4a).alloc _).kept hgrow2 (by
          cases ho : u7.ownBlock with
          | none => exact .inl rfl
          | some g => exact .inr fun e => HNE.out g e.symm ho))
        have HTI5 : Hid (its (tl ++ [x']) = partT (LK.take (k + 1))) := Lib.hid (by rw [its_append, ← HTI2.out, ex']; rfl)
        have htl5 : (tl ++ [x']).length ≤ k + 1 := by rw [List.length_append]; simp only [List.length_cons, List.length_nil]; omega
        have HTR5 : Hid (∀ x ∈ tl ++ [x'], VRowS w5 (fun g => NewS w3 w5 g ∧ v'.ownBlock ≠ some g ∧ u7.ownBlock ≠ some g) x.A x.r) := Lib.hid q1
        have HUR5 : Hid (∀ x ∈ ul, VRowS w5 (fun g => NewS w3 w5 g ∧ v'.ownBlock ≠ some g ∧ u7.ownBlock ≠ some g) x.A x.r) := Lib.hid q2
        have HB5 := Lib.hid q3
        have HNE5 : Hid (∀ g, v'.ownBlock = some g → u7.ownBlock ≠ some g) := Lib.hid q4
        generalize tl ++ [x'] = tl5 at HO6' HTI5 htl5 HTR5
        clear hown' hgrow hgrow2 hat hb4a hxr q1 q2 q3 q4 ex' HCE HB4 HO6 HO7 HB HUR HTR HNE HL6 HL7 HTI2
        go_wp2_with fail
        go_roundw
        case rel => exact ⟨k + 1, tl5, ul, by omega, by omega, by go_num, HO6'.out, HO7'.out, HB5.out, HNE5, HTR5, HUR5, HTI5, HUI2, htl5, by omega⟩
        case measure => simp [intOf]; omega
    · have hkl : k = 20 ∨ k = ln := by
        have h1 := Bool.and_eq_false_iff.1 hq
        rcases h1 with h1 | h1
        · have := of_decide_eq_false h1; omega
        · have := of_decide_eq_false h1; omega
      clear hq
      have hLl : LK.length = ln := by rw [← HLK.out, List.length_map, HLN.out]
      have htk : LK.take k = LK.take 20 := by
        rcases hkl with h | h
        · rw [h]
        · rw [List.take_of_length_le (by omega), List.take_of_length_le (by omega)]
      have HTF : Hid (its tl = partT (LK.take 20)) := Lib.hid (by rw [← htk]; exact HTI.out)
      have HUF : Hid (its ul = partU (LK.take 20)) := Lib.hid (by rw [← htk]; exact HUI.out)
      clear htk hLl hkl HTI HUI
      go_upto_if 46 with (fail)
      go_cut [7] (fun v7 wx => ∃ ul2 : List IM, wx.ownsRow w3.heap.size 47 2 v7 ul2.length (flatM ul2) ∧ RowKit.Below w3.heap.size w3 wx ∧ wx.ownsRow w3.heap.size 47 2 u6 tl.length (flatM tl) ∧ (∀ x ∈ tl, VRowS wx (fun g => NewS w3 wx g ∧ u6.ownBlock ≠ some g ∧ v7.ownBlock ≠ some g) x.A x.r) ∧ (∀ x ∈ ul2, VRowS wx (fun g => NewS w3 wx g ∧ u6.ownBlock ≠ some g ∧ v7.ownBlock ≠ some g) x.A x.r) ∧ its ul2 = partU (LK.take 20) ++ moreU n ∧ ul2.length ≤ 21)
      case first =>
        by_cases hn0 : 0 < n
        · have HMU : Hid (moreU n = [([numV 7, numV 7], n)]) := Lib.hid (by unfold moreU; rw [if_pos hn0])
          go_wp2_with fail
          refine (nums_any wo.heap.size 0 2 [7, 7] 2 rfl (by omega) _ (by simp) (fun k hk => ?nc)).mono ?_
          case nc =>
            match k, hk with
            | 0, _ => simp
            | 1, _ => simp
          rintro e w4 ⟨v4, rfl, hown4, hb4⟩
          obtain ⟨g4, cap4, rfl, hcap4, hg4, hg4s, hVA, hfz⟩ := own_full hown4 rfl (by decide)
          have HVA := Lib.hid hVA
          have HFZ := Lib.hid hfz
          have hb4' : RowKit.Below wo.heap.size wo w4 := ((Below.refl wo.heap.size wo).alloc (Nat.le_refl _) _).trans (hb4.mono (by simp))
          have HB4 := Lib.hid hb4'
          have hs4 := hb4'.size
          have hg4' : wo.heap.size ≤ g4 := by simp at hg4; omega
          clear hown4 hb4 hVA hfz hb4' hg4
          go_wp2_with fail
          refine (keep_one n (some ⟨g4, 0, none⟩) 2 cap4 _ (by omega) (by omega)).mono ?_
          rintro e w' ⟨rfl, rfl⟩
          go_wp2_with (at_builtin; refine wpList_append_two _ rfl _ _ 41 42 47 Tryz.underlying42 rfl w3.heap.size 47 i0 _ 2 40 Tryz.underlying41 hi hz0 hz1 hz2 rfl (by decide) _ _ _ rfl ((ownM_below HO7.out HB4.out).alloc _) (w4.heap.size + 1) _ _ _ [.slice (some ⟨g4, 0, none⟩) 2 cap4, tal n] rfl ⟨rfl, fun _ => ⟨_, rfl, Nat.lt_succ_self _, World.news_of_block (heap_alloc_new w4 _)⟩⟩ ?c1 ?c2 ?c3 ?c4 ?_)
          case c1 => intro u hu; simp only [List.mem_cons, List.not_mem_nil, or_false] at hu; rcases hu with rfl | rfl <;> rfl
          case c2 => unfold maxLen; omega
          case c3 => omega
          case c4 => simp; omega
          intro v' w5 hown' hgrow hat
          obtain ⟨x', ex'⟩ : ∃ x' : IM, x' = ⟨some ⟨g4, 0, none⟩, cap4, [numV 7, numV 7], n⟩ := ⟨_, rfl⟩
          obtain ⟨q1, q2, q3, q4⟩ := snoc_two (w2 := w3) (u := u7) (v' := v') (ol := ul) (pl := tl) (o2 := u6.ownBlock) (x' := x') (fun x hx => (HUR.out x hx).mono fun g h => ⟨h.1, h.2.2, h.2.1⟩) (fun x hx => (HTR.out x hx).mono fun g h => ⟨h.1, h.2.2, h.2.1⟩) HL7.out HL6.out (fun g h e => HNE.out g e h) hs HB.out HB4.out (by rw [ex']; exact .inr ⟨g4, 0, rfl, ⟨hg4', hg4s, HFZ.out⟩, HVA.out⟩) _ hgrow (by simpa using hat)
          have HO7' : Hid (w5.ownsRow w3.heap.size 47 2 v' (ul ++ [x']).length (flatM (ul ++ [x']))) := Lib.hid (by
            rw [flatM_append, flatM_one, List.length_append, ex']
            exact hown')
          have HO6' : Hid (w5.ownsRow w3.heap.size 47 2 u6 tl.length (flatM tl)) := Lib.hid (((ownM_below HO6.out HB4.out).alloc _).kept hgrow (by
            cases ho : u6.ownBlock with
            | none => exact .inl rfl
            | some g => exact .inr fun e => HNE.out g ho e.symm))
          have HUI5 : Hid (its (ul ++ [x']) = partU (LK.take 20) ++ moreU n) := Lib.hid (by rw [its_append, HUF.out, HMU.out, ex']; rfl)
          have hul5 : (ul ++ [x']).length ≤ 21 := by rw [List.length_append]; simp only [List.length_cons, List.length_nil]; omega
          have HUR5 : Hid (∀ x ∈ ul ++ [x'], VRowS w5 (fun g => NewS w3 w5 g ∧ u6.ownBlock ≠ some g ∧ v'.ownBlock ≠ some g) x.A x.r) := Lib.hid (fun x hx => (q1 x hx).mono fun g h => ⟨h.1, h.2.2, h.2.1⟩)
          have HTR5 : Hid (∀ x ∈ tl, VRowS w5 (fun g => NewS w3 w5 g ∧ u6.ownBlock ≠ some g ∧ v'.ownBlock ≠ some g) x.A x.r) := Lib.hid (fun x hx => (q2 x hx).mono fun g h => ⟨h.1, h.2.2, h.2.1⟩)
          have HB5 := Lib.hid q3
          generalize ul ++ [x'] = ul5 at HO7' HUI5 hul5 HUR5
          clear hown' hgrow hat q1 q2 q3 q4 ex' HB4
          go_wp2_with fail
          go_meet
          exact ⟨ul5, HO7'.out, HB5.out, HO6'.out, HTR5.out, HUR5.out, HUI5.out, hul5⟩
        · have HMU : Hid (moreU n = []) := Lib.hid (by unfold moreU; rw [if_neg hn0])
          go_wp2_with fail
          go_meet
          exact ⟨ul, HO7.out, HB.out, HO6.out, HTR.out, HUR.out, by rw [HMU.out, List.append_nil]; exact HUF.out, by omega⟩
      case rest =>
      obtain ⟨ul2, ho7, hbx, ho6, htr, hur, hui, hul2⟩ := hcut
      rename World => wx
      obtain ⟨A7, c7, rfl, hc7, hS7⟩ := own_items (S := NewS w3 wx) ho7 (fun g h1 h2 h3 => ⟨h1, h2, h3⟩) (fun x hx => (hur x hx).mono fun g hg => hg.1)
      obtain ⟨A6, c6, rfl, hc6, hS6⟩ := own_items (S := NewS w3 wx) ho6 (fun g h1 h2 h3 => ⟨h1, h2, h3⟩) (fun x hx => (htr x hx).mono fun g hg => hg.1)
      have HBX := Lib.hid hbx
      have hsx := hbx.size
      have HUI2 := Lib.hid hui
      have HS6 := Lib.hid hS6
      have hv7 : vol (its ul2) ≤ 200 := by
        rw [hui, vol_append]
        have h1 := partU_vol (LK.take 20)
        have h2 : (LK.take 20).length ≤ 20 := by rw [List.length_take]; omega
        have h3 : vol (moreU n) ≤ 100 := by
          unfold moreU
          split
          · simp only [vol]; omega
          · simp [vol]
        omega
      have hv6 : vol (its tl) ≤ 200 := by
        rw [HTF.out]
        have h1 := partT_vol (LK.take 20)
        have h2 : (LK.take 20).length ≤ 20 := by rw [List.length_take]; omega
        omega
      have hmu := Lib.hid (rmake_any A7 c7 ul2 wx hS7 (fun k hk => hk.2.1) (by omega) (fun x hx => by
        have : x.it ∈ partU (LK.take 20) ++ moreU n := by rw [← hui]; exact List.mem_map.2 ⟨x, hx, rfl⟩
        exact (partU_ok n _ _ this).1) (by omega))
      have hmt := Lib.hid (fun w1 (hk : ∀ k, NewS w3 wx k → w1.heap[k]? = wx.heap[k]?) (hsz : wx.heap.size ≤ w1.heap.size) => rmake_any A6 c6 tl w1 (S := fun k => k < w1.heap.size) ((HS6.out.kept hk).mono fun k hk => Nat.lt_of_lt_of_le hk.2.1 hsz) (fun k hk => hk) (by omega) (fun x hx => by
        have : x.it ∈ partT (LK.take 20) := by rw [← HTF.out]; exact List.mem_map.2 ⟨x, hx, rfl⟩
        exact (partT_ok _ _ this).1) (by omega))
      generalize hun : ul2.length = un at hmu hul2 ⊢
      generalize htn : tl.length = tn at hmt htl ⊢
      clear ho7 ho6 htr hur hui hS7 hS6 hbx hc7 hc6 HO6 HO7 HB HUR HTR HNE HL6 HL7 hun htn
      go_wp2_with fail
      refine hmu.out.mono ?_
      rintro e w5 ⟨⟨A8, c8, s8, rfl, hset8⟩, hb5⟩
      have HB5 := Lib.hid hb5
      have HS8 := Lib.hid hset8
      have hs5 := hb5.size
      have hO5 : Blk w5 (w.heap.size + 1 + 1) 44 _ := HBO.out.below (HBX.out.trans (hb5.mono hsx)) (by omega)
      have hz2c := hO5.cell 2
      have hz2f := hO5.frozen 2
      have HO5 := Lib.hid hO5
      have hm9 := Lib.hid (fun u => hmt.out (w5.setCell ⟨w.heap.size + 1 + 1, 2, none⟩ u) (fun k hk => (Below.heap_setCell w5 ⟨w.heap.size + 1 + 1, 2, none⟩ u k (by have := hk.1; show k ≠ w.heap.size + 1 + 1; omega)).trans (HB5.out.block k hk.2.1)) (by rw [setCell_size']; exact hs5))
      clear hb5 hset8 hmu hmt hO5
      simp only [List.getElem?_toArray, List.getElem?_cons_succ, List.getElem?_cons_zero] at hz2c
      go_wp2_with fail
      refine (hm9.out _).mono ?_
      rintro e w6 ⟨⟨A9, c9, s9, rfl, hset9⟩, hb6⟩
      have HB6 := Lib.hid hb6
      have HS9 := Lib.hid hset9
      have hO6 := (Blk.set_ HO5.out 2 (.slice A8 s8.length c8)).below hb6 (by rw [setCell_size']; omega)
      have hz5c : w6.cell? ⟨w.heap.size + 1 + 1, 5, none⟩ = some (.slice none 0 0) := (hO6.cell 5).trans rfl
      have hz5f := hO6.frozen 5
      clear hb6 hset9 hm9 hO6 hz2c hz2f
      go_wp2_with fail
      go_ret
      obtain ⟨r1, r2⟩ := tabs_end hs3 HW3.out HBU.out HBT.out HBO.out HBX.out HS8.out HB5.out HS9.out HB6.out HUI2.out HTF.out
      exact ⟨⟨_, rfl, r1⟩, r2⟩
end Go.Proofs.YtajnnkapgnmoaaaGreat
/-
  Rows of changes of the call's own; what Tame gives, appended.
-/
set_option linter.unusedVariables false
namespace Go.Proofs.YtajnnkapgnmoaaaGreat
open Go.RowKit

theorem change_info : (Tryz.prog.info? 28).map (fun i => (i.zero, i.size, i.bytes)) = some (some (.agg #[.string ByteArray.empty, .slice none 0 0, .bool false]), 3, 48) := by kernel_rfl
def CM.cs (x : CM) : List Value := [.string x.nm, .slice x.A x.r.length x.c, .bool x.rem]
def flatK (l : List CM) : List Value := l.flatMap CM.cs
theorem flatK_len (l : List CM) : (flatK l).length = l.length * 3 := by
  induction l with
  | nil => rfl
  | cons v l ih => show ((CM.cs v) ++ flatK l).length = _; simp [ih, CM.cs]; omega
theorem flatK_one (v : CM) : flatK [v] = CM.cs v := by simp [flatK]
theorem flatK_append (a b : List CM) : flatK (a ++ b) = flatK a ++ flatK b := by simp [flatK]
theorem flatK_get (l : List CM) : ∀ (i : Nat) (v : CM), l[i]? = some v → (flatK l)[i * 3]? = some (.string v.nm) ∧ (flatK l)[i * 3 + 1]? = some (.slice v.A v.r.length v.c) ∧ (flatK l)[i * 3 + 2]? = some (.bool v.rem) := by
  induction l with
  | nil => intro i v h; simp at h
  | cons x l ih =>
    intro i v h
    have e : flatK (x :: l) = CM.cs x ++ flatK l := rfl
    rw [e]
    cases i with
    | zero =>
      obtain rfl : x = v := by simpa using h
      exact ⟨rfl, rfl, rfl⟩
    | succ i =>
      have := ih i v (by simpa using h)
      have hl : (CM.cs x).length = 3 := rfl
      rw [List.getElem?_append_right (by omega), List.getElem?_append_right (by omega), List.getElem?_append_right (by omega), hl]
      rw [show (i + 1) * 3 - 3 = i * 3 from by omega, show (i + 1) * 3 + 1 - 3 = i * 3 + 1 from by omega, show (i + 1) * 3 + 2 - 3 = i * 3 + 2 from by omega]
      exact this
theorem own_chs {w : World} {S : Nat → Prop} {base : Nat} {e : TypeId} {v : Value} {l : List CM} (h : w.ownsRow base e 3 v l.length (flatK l)) (hS : ∀ g, base ≤ g → g < w.heap.size → (∀ o, w.frozen? ⟨g, o, none⟩ = false) → S g) (hr : ∀ t ∈ l, VRowS w S t.A t.r) :
    ∃ A c, v = .slice A l.length c ∧ l.length ≤ c ∧ ChRow w S A l := by
  obtain ⟨_, hcase⟩ := id h
  rcases hcase with ⟨rfl, h0⟩ | ⟨g, cap, cur, rfl, hg, hh, hn, hcap, hsz, htake⟩
  · exact ⟨none, 0, by rw [h0], by omega, .inl (List.eq_nil_of_length_eq_zero h0), hr⟩
  · have hlt : g < w.heap.size := (Array.getElem?_eq_some_iff.1 hh).1
    refine ⟨some ⟨g, 0, none⟩, cap, rfl, hn, .inr ⟨g, 0, rfl, hS g hg hlt (fun o => h.frozenAt o), ?_⟩, hr⟩
    intro i x hx
    obtain ⟨f1, f2, f3⟩ := flatK_get l i x hx
    have hi : i < l.length := (List.getElem?_eq_some_iff.1 hx).1
    rw [Nat.zero_add, h.cellAt _ (by omega), h.cellAt _ (by omega), h.cellAt _ (by omega)]
    exact ⟨f1, f2, f3⟩
/-- a change, tamed -/
def tameC (x : CM) (rem : Bool) : Ch := ⟨(tameK x.nm x.r).1, (tameK x.nm x.r).2, rem⟩
theorem tameC_good (x : CM) (rem : Bool) : GoodC (tameC x rem) := tame_good x.nm x.r
def toI (x : CM) : IM := ⟨x.A, x.c, x.r, 0⟩
/-- the bounds of changes that came in -/
structure ChIn (w : World) (A : Option Addr) (l : List CM) : Prop where
  row : ChRow w (fun k => k < w.heap.size) A l
  len : l.length ≤ 9223372036854775807
  nm : ∀ x ∈ l, x.nm.size ≤ 9223372036854775807
  vs : ∀ x ∈ l, ∀ y ∈ x.r, y.s.size ≤ 9223372036854775807
theorem ChIn.tables {w w1 : World} {A : Option Addr} {l : List CM} (h : ChIn w A l) (hb : Below w.heap.size w w1) (n : Int) (hn1 : -1000 ≤ n) (hn2 : n ≤ 100) (c : Nat) :
    Calls Tryz.prog 11 #[.int .i64 n, .slice A l.length c] w1 fun e w' => (∃ v, e = .returned v ∧ TabsRet w1 (tabsK n (l.map CM.ch)) w' v) ∧ Below w1.heap.size w1 w' :=
  tables_any n hn1 hn2 A c l w1 (S := fun k => k < w1.heap.size) ((h.row.below hb (fun k hk => hk)).mono fun k hk => Nat.lt_of_lt_of_le hk hb.size) (fun k hk => hk) h.len h.nm h.vs
theorem ChIn.tame {w w1 : World} {A : Option Addr} {l : List CM} (h : ChIn w A l) {x : CM} (hx : x ∈ l) (hb : Below w.heap.size w w1) :
    Calls Tryz.prog 9 #[.agg #[.string x.nm, .slice x.A x.r.length x.c, .bool x.rem]] w1 (TameRet x.nm x.r x.rem w1) :=
  tame_any x.nm x.A x.c x.r x.rem w1 (((h.row.rows x hx).to (B := w.heap.size) (fun k hk => hk)).below hb |>.more hb.size) (h.nm x hx) (h.vs x hx)
theorem tameK_len (nm : ByteArray) (r : List V) : (tameK nm r).2.length ≤ 3 := by
  unfold tameK
  split <;> simp
/-- the tables that law 16 makes, in a later world -/
theorem TabsRet.get {w w' : World} {n : Int} {l : List Ch} {v : Value} (h : TabsRet w (tabsK n l) w' v) : ∃ (g : Nat) (t0 t1 : TM), v = .slice (some ⟨g, 0, none⟩) 2 2 ∧ TRow w' (fun k => w.heap.size ≤ k ∧ k < w'.heap.size) (some ⟨g, 0, none⟩) [t0, t1] ∧ t0.key = (nmU, uC, setOf (partU (l.take 20) ++ moreU n)) ∧ t1.key = (nmT, tC, setOf (partT (l.take 20))) := by
  obtain ⟨g, s, rfl, hT, hk⟩ := h
  match s, hk with
  | [t0, t1], hk =>
    simp only [tabsK, List.map_cons, List.map_nil, List.cons.injEq, and_true] at hk
    exact ⟨g, t0, t1, rfl, hT, hk.1, hk.2⟩
  | [], hk => simp [tabsK] at hk
  | [t0], hk => simp [tabsK] at hk
  | t0 :: t1 :: t2 :: s, hk => simp [tabsK] at hk
end Go.Proofs.YtajnnkapgnmoaaaGreat
/-
  zset.Flip of a right set.
-/
namespace Go.Proofs.YtajnnkapgnmoaaaGreat
open Go.RowKit

set_option maxHeartbeats 2000000 in
set_option maxRecDepth 100000 in
theorem zflip_any (A : Option Addr) (c : Nat) (l : List IM) (w : World) {S : Nat → Prop} (hA : SRow w S A l) (hS : ∀ k, S k → k < w.heap.size) (hl : l.length ≤ 1073741824) (hk : SOk l) :
    Calls Tryz.prog 37 #[.slice A l.length c] w fun e w' => (∃ A' c' s, e = .returned (.slice A' s.length c') ∧ ListRet w (flipS (its l)) w' A' c' s) ∧ Below w.heap.size w w' := by
  obtain ⟨i0, hi, hz0, hz1, hz2⟩ := info_parts item_info
  have hrt := Lib.hid (zright_any A c l w hA hS hl hk)
  obtain ⟨n, hn⟩ : ∃ n, l.length = n := ⟨_, rfl⟩
  have HN := Lib.hid hn
  have HA := Lib.hid hA
  have HS := Lib.hid hS
  have HK := Lib.hid hk
  rw [hn] at hl hrt ⊢
  clear hA hS hk hn
  have hst := run_store_tal Tryz.prog
  go_enter Tryz.func37, Tryz.ntmps37
  go_wp2_with fail
  refine hrt.out.mono ?_
  rintro e w1 ⟨rfl, hb1⟩
  have HB1 := Lib.hid hb1
  clear hb1 hrt
  go_wp2_with fail
  go_loopw [3, 11] (fun v i wr => ∃ (k : Nat) (ol : List IM), k ≤ n ∧ i = .int .i64 k ∧ wr.ownsRow w.heap.size 47 2 v ol.length (flatM ol) ∧ Below w.heap.size w wr ∧ ol.length = k ∧ Hid (∀ x ∈ ol, VRowS wr (fun g => NewS w wr g ∧ v.ownBlock ≠ some g) x.A x.r) ∧ Hid (its ol = flipS (its (l.take k)))) (fun _ i _ => n - (intOf i).toNat)
  case atStart => exact ⟨0, [], Nat.zero_le _, rfl, World.ownsRow_nil _ _ _ _, HB1.out, rfl, Lib.hid (fun x hx => by simp at hx), Lib.hid rfl⟩
  case round =>
    rename World => wo
    obtain ⟨k, ol, hk, rfl, hown, hb, hlen, HOR, HIT⟩ := hrel
    have HO := Lib.hid hown
    have HB := Lib.hid hb
    have hs := hb.size
    clear hown hb
    by_cases hlt : k < n
    · obtain ⟨x, hx⟩ : ∃ x, l[k]? = some x := ⟨_, List.getElem?_eq_getElem (by rw [HN.out]; exact hlt)⟩
      obtain ⟨b, off, rfl, hSb, hc1, hc2⟩ := (HA.out.below HB.out HS.out).get hx
      have hm := List.mem_of_getElem? hx
      have HIT2 := Lib.hid (its_take hx)
      have hkN := HK.out.okN hm
      have hx6 := (rowOk_len (HK.out.row hm)).2
      have hit := Lib.hid (fun w3 (hb : Below w.heap.size w w3) => item_any x.A x.c x.r (-x.k) w3 ((((HA.out.rows x hm).to HS.out).below hb).more hb.size) (by omega))
      have hfl := Lib.hid (fun w3 => tal_flip hkN w3)
      obtain ⟨xA, xc, xr, xk⟩ := x
      dsimp only at hc1 hc2 hit HIT2 hx6 hfl
      obtain ⟨xn, hxn⟩ : ∃ xn, xr.length = xn := ⟨_, rfl⟩
      rw [hxn] at hc1 hit
      clear hx hm hSb hxn hkN
      go_wp2_with fail
      have HBA : Hid (Below w.heap.size w (wo.alloc (.cells #[.slice xA xn xc, tal xk] 47))) := Lib.hid (HB.out.alloc hs _)
      have HGA : Hid ((wo.alloc (.cells #[.slice xA xn xc, tal xk] 47)).heap[wo.heap.size]? = some (.cells #[.slice xA xn xc, tal xk] 47 (0, 0))) := Lib.hid (heap_alloc_new wo _)
      have HBO : Hid (Below wo.heap.size wo (wo.alloc (.cells #[.slice xA xn xc, tal xk] 47))) := Lib.hid ((Below.refl wo.heap.size wo).alloc (Nat.le_refl _) _)
      have hsa : wo.heap.size < (wo.alloc (.cells #[.slice xA xn xc, tal xk] 47)).heap.size := by simp
      generalize wo.alloc (.cells #[.slice xA xn xc, tal xk] 47) = wa at HBA HGA HBO hsa ⊢
      generalize tal xk = T at HGA hfl hc2 ⊢
      have hno : some wo.heap.size ≠ u3.ownBlock := fun e => by have := (HO.out.lt _ e.symm).2; omega
      clear hc1 hc2
      refine wp_region_held_drew (S := fun w' => wa.grownBy w' u3.ownBlock) (by kernel_rfl) ⟨rfl, rfl, rfl, Nat.le_refl _, fun _ _ _ => rfl⟩ (fun hHeld => ?_)
      refine wpAnyH_take (i := 0) (v := u3) rfl (by kernel_rfl) (by kernel_rfl) (by kernel_rfl) (fun _ _ _ h => h) (Or.inl ⟨by rfl, fun w1 hSw => by (go_simp)⟩) (by assumption) ?_
      simp only [List.getElem_toArray, List.getElem_cons_zero, Act.put, List.setIfInBounds_toArray, List.set_cons_zero, List.set_cons_succ]
      refine wpAnyH_take (i := 1) (v := .pointer (some ⟨wo.heap.size, 0, none⟩)) rfl (by kernel_rfl) (by kernel_rfl) (by kernel_rfl) (fun _ _ _ h => h) (Or.inl ⟨by rfl, fun w1 hSw => by (go_simp)⟩) (by assumption) ?_
      simp only [List.getElem_toArray, List.getElem_cons_succ, List.getElem_cons_zero, Act.put, List.setIfInBounds_toArray, List.set_cons_zero, List.set_cons_succ]
      refine wpAnyH_take (i := 2) (v := .slice xA xn xc) rfl (by kernel_rfl) (by kernel_rfl) (by kernel_rfl) (fun _ _ _ h => h) (Or.inl ⟨by rfl, fun w1 hSw => by (have hcl := Blk.cell ((hSw.block _ hsa hno).trans HGA.out) 0; simp only [List.getElem?_toArray, List.getElem?_cons_zero] at hcl; go_simp)⟩) (by assumption) ?_
      simp only [List.getElem_toArray, List.getElem_cons_succ, List.getElem_cons_zero, Act.put, List.setIfInBounds_toArray, List.set_cons_zero, List.set_cons_succ]
      refine wpAnyH_take (i := 3) (v := .pointer (some ⟨wo.heap.size, 1, none⟩)) rfl (by kernel_rfl) (by kernel_rfl) (by kernel_rfl) (fun _ _ _ h => h) (Or.inl ⟨by rfl, fun w1 hSw => by (go_simp)⟩) (by assumption) ?_
      simp only [List.getElem_toArray, List.getElem_cons_succ, List.getElem_cons_zero, Act.put, List.setIfInBounds_toArray, List.set_cons_zero, List.set_cons_succ]
      refine wpAnyH_take (i := 4) (v := T) rfl (by kernel_rfl) (by kernel_rfl) (by kernel_rfl) (fun _ _ _ h => h) (Or.inl ⟨by rfl, fun w1 hSw => by (have hcl := Blk.cell ((hSw.block _ hsa hno).trans HGA.out) 1; simp only [List.getElem?_toArray, List.getElem?_cons_zero, List.getElem?_cons_succ] at hcl; go_simp)⟩) (by assumption) ?_
      simp only [List.getElem_toArray, List.getElem_cons_succ, List.getElem_cons_zero, Act.put, List.setIfInBounds_toArray, List.set_cons_zero, List.set_cons_succ]
      refine wpAnyH_ready (rs := [5]) (by kernel_rfl) (by simp) ?_
      refine AllReadyH.cons rfl (fun K hK => ?_) AllReadyH.nil
      simp only [List.getElem_toArray, List.getElem_cons_succ, List.getElem_cons_zero]
      go_simp
      refine (hfl.out _).mono ?_
      rintro e w3 ⟨rfl, rfl⟩
      go_wp2_with fail
      refine hK.out _ _ ⟨rfl, rfl, rfl, Nat.le_refl _, fun _ _ _ => rfl⟩ (fun hHeld => ?_)
      clear hK K
      refine wpAnyH_ready (rs := [6]) (by kernel_rfl) (by simp) ?_
      refine AllReadyH.cons rfl (fun K hK => ?_) AllReadyH.nil
      simp only [List.getElem_toArray, List.getElem_cons_succ, List.getElem_cons_zero]
      go_simp
      refine (hit.out _ (HBA.out.drew)).mono ?_
      rintro e w4 ⟨x', rfl, hxr, hxk, _, hxS, _, hb4⟩
      have HB4 := Lib.hid (HBO.out.drew.trans ((hb4.mono (B' := wo.heap.size) (Nat.le_of_lt hsa))))
      have HB4a : Hid (wa.grownBy w4 u3.ownBlock) := Lib.hid ⟨hb4.os, hb4.tape, hb4.output, hb4.size, fun k hk _ => hb4.block k hk⟩
      have HXS : Hid (VRowS w4 (NewS wa w4) x'.A xr) := Lib.hid hxS
      have HO4 := Lib.hid ((ownM_below HO.out HB4.out).alloc (.cells x'.cs.toArray 47))
      have hs4 : wa.heap.size ≤ w4.heap.size := hb4.size
      obtain ⟨xA', xc', xr', xk'⟩ := x'
      have HXR := Lib.hid hxr
      have HXK := Lib.hid hxk
      simp only [IM.val]
      simp only [IM.cs] at HO4
      clear hxr hxk hxS hb4 hit hfl
      go_wp2_with fail
      refine hK.out _ _ HB4a.out (fun hHeld => ?_)
      clear hK K
      refine wpAnyH_ready (rs := [7]) (by kernel_rfl) (by simp) ?_
      refine AllReadyH.cons rfl (fun K hK => ?_) AllReadyH.nil
      simp only [List.getElem_toArray, List.getElem_cons_succ, List.getElem_cons_zero]
      go_simp
      refine hK.out _ _ ⟨HB4a.out.os, HB4a.out.tape, HB4a.out.output, by have := HB4a.out.size; simp; omega, fun k hk hne => (Below.heap_alloc w4 _ k (by omega)).trans (HB4a.out.block k hk hne)⟩ (fun hHeld => ?_)
      clear hK K
      refine wpAnyH_ready (rs := [8]) (by kernel_rfl) (by simp) ?_
      refine AllReadyH.cons rfl (fun K hK => ?_) AllReadyH.nil
      simp only [List.getElem_toArray, List.getElem_cons_succ, List.getElem_cons_zero]
      refine Eq.mpr (if_pos rfl) ?_
      refine wp_append_any _ _ _ 42 rfl w.heap.size 47 i0 _ 2 40 Tryz.underlying42 hi hz0 hz1 hz2 rfl (by decide) _ _ _ rfl HO4.out (w4.heap.size + 1) _ _ _ (IM.cs ⟨xA', xc', xr', xk'⟩) rfl ⟨rfl, fun _ => ⟨_, rfl, Nat.lt_succ_self _, World.news_of_block (heap_alloc_new w4 _)⟩⟩ ?c1 ?c2 ?c3 ?c4 ?_
      case c1 => rw [← flatM_one]; exact flatM_ones _
      case c2 => unfold maxLen; omega
      case c3 => omega
      case c4 => first | omega | (simp; omega)
      intro v' w5 hown' hgrow hat
      replace hat : v'.ownBlock = u3.ownBlock ∨ v'.ownBlock = some (w4.heap.size + 1) := by
        rcases hat with h | h
        · exact .inl h
        · exact .inr (by simpa using h)
      obtain ⟨hor5, hb5⟩ := snoc_items (x' := ⟨xA', xc', xr', xk'⟩) HOR.out (fun g hg => HO.out.lt g hg) hs HB.out HB4.out (wc := wa) (Nat.le_of_lt hsa) (by rw [HXR.out] at *; exact HXS.out) _ hgrow hat
      have hg5 : wa.grownBy w5 u3.ownBlock := ⟨hgrow.os.trans HB4a.out.os, hgrow.tape.trans HB4a.out.tape, hgrow.output.trans HB4a.out.output, by have h1 := HB4a.out.size; have h2 := hgrow.size; simp at h2; omega, fun k hk hne => (hgrow.block k (by simp; omega) hne).trans ((Below.heap_alloc w4 _ k (by omega)).trans (HB4a.out.block k hk hne))⟩
      refine hK.out _ _ hg5 (fun hHeld => ?_)
      clear hK K
      simp only [Act.put, List.setIfInBounds_toArray, List.set_cons_zero, List.set_cons_succ]
      refine wpAnyH_take (i := 9) (v := v') rfl (by kernel_rfl) (by kernel_rfl) (by kernel_rfl) (fun _ _ _ h => h) (Or.inl ⟨by rfl, fun w1 hSw => by (go_simp)⟩) (by assumption) ?_
      simp only [List.getElem_toArray, List.getElem_cons_succ, List.getElem_cons_zero, Act.put, List.setIfInBounds_toArray, List.set_cons_zero, List.set_cons_succ]
      refine wpAnyH_done (by kernel_rfl) ?_ _
      have HO5 : Hid (w5.ownsRow w.heap.size 47 2 v' (ol ++ [(⟨xA', xc', xr', xk'⟩ : IM)]).length (flatM (ol ++ [(⟨xA', xc', xr', xk'⟩ : IM)]))) := Lib.hid (by rw [flatM_append, flatM_one, List.length_append]; exact hown')
      have HIT5 : Hid (its (ol ++ [(⟨xA', xc', xr', xk'⟩ : IM)]) = flipS (its (l.take (k + 1)))) := Lib.hid (by
        rw [its_append, HIT.out, HIT2.out]
        unfold flipS
        rw [List.map_append]
        show _ ++ [(xr', xk')] = _ ++ [(xr, -xk)]
        rw [show xr' = xr from HXR.out, show xk' = -xk from HXK.out])
      have hol5 : (ol ++ [(⟨xA', xc', xr', xk'⟩ : IM)]).length = k + 1 := by rw [List.length_append, hlen]; rfl
      have HOR5 := Lib.hid hor5
      have HB5 := Lib.hid hb5
      generalize ol ++ [(⟨xA', xc', xr', xk'⟩ : IM)] = ol5 at HO5 HOR5 HIT5 hol5
      clear hown' hgrow hat hor5 hb5 HO HOR HO4 HXS HB4 HB HXR HXK HIT HIT2 hHeld hg5 HB4a HBA HGA HBO hno
      go_wp2_with fail
      go_roundw
      case rel => exact ⟨k + 1, ol5, by omega, by go_num, HO5.out, HB5.out, hol5, HOR5, HIT5⟩
      case measure => simp [intOf]; omega
    · obtain rfl : k = n := by omega
      obtain ⟨A3, c3, rfl, hc3, hS3⟩ := own_items (S := NewS w wo) HO.out (fun g h1 h2 h3 => ⟨h1, h2, h3⟩) (fun x hx => (HOR.out x hx).mono fun g hg => hg.1)
      have HS3 := Lib.hid hS3
      clear hS3
      go_wp2_with fail
      go_ret
      refine ⟨⟨A3, c3, ol, rfl, hc3, HS3.out, ?_⟩, HB.out⟩
      rw [HIT.out, List.take_of_length_le (by rw [HN.out]; exact Nat.le_refl _)]
end Go.Proofs.YtajnnkapgnmoaaaGreat
/-
  batch.Apply.
-/
namespace Go.Proofs.YtajnnkapgnmoaaaGreat
open Go.RowKit

set_option maxHeartbeats 4000000 in
set_option maxRecDepth 100000 in
theorem bapply_any (A B : Option Addr) (c d : Nat) (l : List TM) (cs : List CM) (w : World) {S : Nat → Prop} (hA : TRow w S A l) (hS : ∀ k, S k → k < w.heap.size) (hk : KeysOk 1000 (l.map TM.key)) (h0 : 0 < l.length) (hC : ChRow w S B cs) (hcl : cs.length ≤ 1000000) (hcr : ∀ x ∈ cs, x.r.length ≤ 1000) :
    Calls Tryz.prog 13 #[.slice A l.length c, .slice B cs.length d] w fun e w' => ∃ v dv, e = .returned (.tuple #[v, dv, .int .i64 (applyK (l.map TM.key) (cs.map CM.ch)).1, .int .i64 (((applyK (l.map TM.key) (cs.map CM.ch)).2.1 : Nat) : Int)]) ∧ Below w.heap.size w w' ∧
      ((applyK (l.map TM.key) (cs.map CM.ch)).1 ≠ 0 → v = .slice none 0 0 ∧ dv = .slice none 0 0) ∧ ((applyK (l.map TM.key) (cs.map CM.ch)).1 = 0 → ApplyRet w w' (applyK (l.map TM.key) (cs.map CM.ch)).2.2.1 (applyK (l.map TM.key) (cs.map CM.ch)).2.2.2 v dv) := by
  obtain ⟨i0, hi, hz0, hz1, hz2⟩ := info_parts string_info
  obtain ⟨i1, hi', hz0', hz1', hz2'⟩ := info_parts delta_info
  have htab := hk.tabsOk (by omega)
  have htb := hk.tabOk (by omega)
  have her := Lib.hid (eright_any A c l w hA hS htab)
  have hcp := Lib.hid (fun w1 (hb : Below w.heap.size w w1) => bcopied_any A c l w1 (S := fun k => k < w1.heap.size) ((hA.below hb hS).mono fun k hk => Nat.lt_of_lt_of_le (hS k hk) hb.size) (fun k hk => hk) htab.len htab.clen htab.rlen fun t ht x hx => (htab.set t ht).row hx)
  obtain ⟨K0, hK0⟩ : ∃ K0, l.map TM.key = K0 := ⟨_, rfl⟩
  obtain ⟨C0, hC0⟩ : ∃ C0, cs.map CM.ch = C0 := ⟨_, rfl⟩
  obtain ⟨AK, hAK⟩ : ∃ AK, applyK K0 C0 = AK := ⟨_, rfl⟩
  rw [hK0] at hk
  rw [hK0, hC0, hAK]
  have hcn : C0.length = cs.length := by rw [← hC0, List.length_map]
  unfold applyK at hAK
  rw [hcn] at hAK
  obtain ⟨n, hn⟩ : ∃ n, cs.length = n := ⟨_, rfl⟩
  obtain ⟨ln, hln⟩ : ∃ ln, l.length = ln := ⟨_, rfl⟩
  have HN := Lib.hid hn
  have HLN := Lib.hid hln
  have HA := Lib.hid hA
  have HS := Lib.hid hS
  have HC := Lib.hid hC
  have HCR := Lib.hid hcr
  have HK := Lib.hid hk
  have HTS := Lib.hid htb
  have HK0 := Lib.hid hK0
  have HC0 := Lib.hid hC0
  rw [hn] at hcl hAK ⊢
  rw [hln] at h0 her hcp ⊢
  have HAK := Lib.hid hAK
  clear hA hS hC hcr hk htab htb hK0 hC0 hn hln hcn hAK
  go_enter Tryz.func13, Tryz.ntmps13
  go_wp2_with fail
  refine her.out.mono ?_
  rintro e w1 ⟨rfl, hb1⟩
  have HB1 := Lib.hid hb1
  clear hb1 her
  by_cases hm : 8 < n
  · have hm' : (8 : Int) < (n : Int) := by omega
    have HM := Lib.hid hm
    clear hm
    go_wp2_with fail
    ((try simp only [Exit.inBlock, Exit.then]); refine bodyPost_ret (results_tmp4 rfl _ _ _) rfl ?_)
    have e : AK = (4, 0, [], []) := by rw [← HAK.out, if_pos HM.out]
    subst e
    exact ⟨_, _, rfl, HB1.out, fun _ => ⟨rfl, rfl⟩, fun h => by simp at h⟩
  · by_cases hz : n = 0
    · subst hz
      go_wp2_with fail
      ((try simp only [Exit.inBlock, Exit.then]); refine bodyPost_ret (results_tmp4 rfl _ _ _) rfl ?_)
      have e : AK = (1, 0, [], []) := by rw [← HAK.out]; simp
      subst e
      exact ⟨_, _, rfl, HB1.out, fun _ => ⟨rfl, rfl⟩, fun h => by simp at h⟩
    · have hm1 : ¬ (8 : Int) < (n : Int) := by omega
      have hm2 : ¬ (n : Int) = 0 := by omega
      have HAK2 : Hid ((if (runK K0 0 C0).1 = 0 then (0, 0, (runK K0 0 C0).2.2, (onceN (C0.map Ch.nm)).map (deltaK (runK K0 0 C0).2.2 K0)) else ((runK K0 0 C0).1, (runK K0 0 C0).2.1, [], [])) = AK) := Lib.hid (by rw [← HAK.out, if_neg hm, if_neg hz])
      clear HAK hz
      go_wp2_with fail
      refine (hcp.out _ HB1.out).mono ?_
      rintro e w2 ⟨⟨v8, s0, rfl, hT⟩, hb2⟩
      have hB2 := HB1.out.trans (hb2.mono HB1.out.size)
      have hs0 : s0.length = ln := by have := congrArg List.length hT.key; simpa [HLN.out] using this
      have hbb := HB1.out.size
      obtain ⟨g, cap, rfl, hg1, hg2⟩ := hT.own.form (by omega)
      have HN2 : Hid (Now none w w2 (.slice (some ⟨g, 0, none⟩) s0.length cap) s0) := Lib.hid (by
        have := Now.of hT
        refine ⟨own_lower this.own hbb, fun t ht => (this.cols t ht).mono fun k hk => ⟨hk.1.lower hbb, hk.2⟩, fun t ht => (this.rows t ht).mono fun k hk => ⟨hk.1.lower hbb, hk.2⟩⟩)
      have HKS : Hid (s0.map TM.key = K0) := Lib.hid (by rw [hT.key]; exact HK0.out)
      have HB2 := Lib.hid hB2
      rw [hs0] at HN2 ⊢
      have hgw : w.heap.size ≤ g := by omega
      have hs2 := hB2.size
      clear hT hb2 hB2 hcp hbb hg1
      go_wp2_with fail
      go_loopw [9, 35] (fun v9 i wr => ∃ (k : Nat) (s : List TM) (ns : List ByteArray), k ≤ n ∧ i = .int .i64 k ∧ Hid (Now v9.ownBlock w wr (.slice (some ⟨g, 0, none⟩) ln cap) s) ∧ s.length = ln ∧ Hid (wr.ownsRow w.heap.size 9 1 v9 ns.length (strs ns)) ∧ Hid (v9.ownBlock ≠ some g) ∧ Hid (ns = (cs.take k).map CM.nm) ∧ Hid (runK K0 0 C0 = runK (s.map TM.key) k (C0.drop k)) ∧ Hid (KeysOk (1000 + k) (s.map TM.key)) ∧ Below w.heap.size w wr ∧ g < wr.heap.size) (fun _ i _ => n - (intOf i).toNat)
      case atStart => exact ⟨0, s0, [], Nat.zero_le _, rfl, HN2, hs0, Lib.hid (World.ownsRow_nil _ _ _ _), Lib.hid (by simp [Value.ownBlock]), Lib.hid rfl, Lib.hid (by rw [HKS.out]; rfl), Lib.hid (by rw [HKS.out]; exact HK.out.more (by omega)), HB2.out, hg2⟩
      case round =>
        rename World => wo
        obtain ⟨k, s, ns, hk, rfl, HNW, hsl, HO, HNE, HNS, HRU, HKO, hb, hgo⟩ := hrel
        have HB := Lib.hid hb
        have hs := hb.size
        have hnl : ns.length = k := by rw [HNS.out, List.length_map, List.length_take, HN.out]; omega
        clear hb
        by_cases hlt : k < n
        · obtain ⟨x, hx⟩ : ∃ x, cs[k]? = some x := ⟨_, List.getElem?_eq_getElem (by rw [HN.out]; exact hlt)⟩
          obtain ⟨b, off, rfl, hSb, hc1, hc2, hc3⟩ := (HC.out.below HB.out HS.out).get hx
          have hm := List.mem_of_getElem? hx
          have hCx : C0[k]? = some x.ch := by rw [← HC0.out, List.getElem?_map, hx]; rfl
          have HST : Hid (runK (s.map TM.key) k (C0.drop k) = if (oneK (s.map TM.key) ⟨x.nm, x.r, x.rem⟩).1 = 0 then runK (oneK (s.map TM.key) ⟨x.nm, x.r, x.rem⟩).2 (k + 1) (C0.drop (k + 1)) else ((oneK (s.map TM.key) ⟨x.nm, x.r, x.rem⟩).1, k, [])) := Lib.hid (runK_step hCx (s.map TM.key) k)
          have HNS2 : Hid (ns ++ [x.nm] = (cs.take (k + 1)).map CM.nm) := Lib.hid (by
            obtain ⟨h1, e1⟩ := List.getElem?_eq_some_iff.1 hx
            rw [List.take_succ_eq_append_getElem h1, List.map_append, e1, ← HNS.out]
            rfl)
          have hon := Lib.hid (fun w1 (hb : Below wo.heap.size wo w1) => bone_any u9.ownBlock w w1 g cap s (by rw [hsl]; exact HNW.out.below hb) ⟨hgw, Nat.lt_of_lt_of_le hgo hb.size⟩ (fun j hj => Nat.lt_of_lt_of_le (HO.out.lt j hj).2 hb.size) (1000 + k) (by omega) HKO.out x.nm x.r x.A x.c ((((HC.out.rows x hm).to HS.out).below (HB.out.trans (hb.mono hs))).more (by have := hb.size; omega)) (HCR.out x hm) x.rem)
          obtain ⟨xnm, xA, xc, xr, xrem⟩ := x
          dsimp only [CM.ch] at hc1 hc2 hc3 hon HST HNS2
          have HKO2 := Lib.hid (HKO.out.one ⟨xnm, xr, xrem⟩)
          obtain ⟨ok, hok⟩ : ∃ ok, oneK (s.map TM.key) ⟨xnm, xr, xrem⟩ = ok := ⟨_, rfl⟩
          rw [hok] at hon HST HKO2
          clear hok
          obtain ⟨q, ks'⟩ := ok
          dsimp only at hon HST HKO2
          rw [hsl] at hon
          generalize xr.length = xn at hc2 hon
          clear hx hm hSb hCx HKO
          go_wp2_with fail
          refine (hon.out _ ((Below.refl wo.heap.size wo).alloc (Nat.le_refl _) _)).mono ?_
          rintro e w3 ⟨rfl, hgr, hnew⟩
          have HB3 : Hid (Below w.heap.size w w3) := Lib.hid (((HB.out.alloc hs _)).grown hgr (by simp; omega) (fun j e => by have := Option.some.inj e; omega))
          have x0 : w3.cell? ⟨wo.heap.size, 0, none⟩ = some (.string xnm) := (World.cell?_of_block (hgr.block wo.heap.size (by simp) (fun e => by have := Option.some.inj e; omega))).trans (by simp)
          have hx3 : wo.heap.size < w3.heap.size := by have := hgr.size; simp at this; omega
          have hg3 : g < w3.heap.size := by omega
          by_cases hq : q = 0
          · subst hq
            obtain ⟨s', hs', hN', hk'⟩ := hnew rfl
            have HN3 := Lib.hid hN'
            have HK3 := Lib.hid hk'
            have HO3 : Hid (w3.ownsRow w.heap.size 9 1 u9 ns.length (strs ns)) := Lib.hid (((HO.out.alloc _)).kept hgr (.inr HNE.out))
            have HS3 := Lib.hid hs'
            have hs3 := HB3.out.size
            clear hnew hN' hk' hgr HNW HO hon
            go_wp2_with (at_builtin; refine wpList_append_any _ rfl _ _ 77 rfl w.heap.size 9 i0 _ 1 16 Tryz.underlying77 hi hz0 hz1 hz2 rfl (by decide) _ _ _ rfl (HO3.out.alloc _) (w3.heap.size + 1) _ _ _ [.string xnm] rfl ⟨rfl, fun _ => ⟨_, rfl, Nat.lt_succ_self _, World.news_of_block (heap_alloc_new w3 _)⟩⟩ ?c1 ?c2 ?c3 ?c4 ?_)
            case c1 => intro u hu; rw [List.mem_singleton.1 hu]; rfl
            case c2 => unfold maxLen; omega
            case c3 => omega
            case c4 => simp; omega
            intro v' w5 hown' hgrow hat
            have hat' : v'.ownBlock = u9.ownBlock ∨ ∃ j, v'.ownBlock = some j ∧ w3.heap.size ≤ j := by
              rcases hat with h | h
              · exact .inl h
              · exact .inr ⟨_, h, by simp⟩
            have hb3a : Below w3.heap.size w3 (w3.alloc (.cells #[.string xnm] 9)) := (Below.refl _ _).alloc (Nat.le_refl _) _
            have hN5 := (HN3.out.below hb3a).grown (o' := v'.ownBlock) HNE.out hgrow (by
              rcases hat with h | h
              · exact .inl h
              · exact .inr ⟨_, h, by simp⟩)
            have HN5 : Hid (Now v'.ownBlock w w5 (.slice (some ⟨g, 0, none⟩) ln cap) s') := Lib.hid hN5
            have HNE5 : Hid (v'.ownBlock ≠ some g) := Lib.hid (by
              rcases hat' with h | ⟨j, h, hj⟩
              · rw [h]; exact HNE.out
              · rw [h]; intro e; have := Option.some.inj e; omega)
            have HB5 : Hid (Below w.heap.size w w5) := Lib.hid ((HB3.out.alloc hs3 _).grown hgrow (by simp; omega) (fun j e => (HO3.out.lt j e).1))
            have HO5 : Hid (w5.ownsRow w.heap.size 9 1 v' (ns ++ [xnm]).length (strs (ns ++ [xnm]))) := Lib.hid (by
              rw [List.length_append]
              unfold strs
              rw [List.map_append, hnl]
              exact hown')
            have hg5 : g < w5.heap.size := by have := hgrow.size; simp at this; omega
            have HRU5 : Hid (runK K0 0 C0 = runK (s'.map TM.key) (k + 1) (C0.drop (k + 1))) := Lib.hid (by
              rw [HRU.out, HST.out, if_pos trivial, HK3.out])
            have HKO5 : Hid (KeysOk (1000 + (k + 1 : Nat)) (s'.map TM.key)) := Lib.hid (by
              rw [HK3.out]
              exact HKO2.out.more (by omega))
            clear hown' hgrow hat hat' hb3a hN5 HN3 HNE HO3 HB3 HB HRU HST HKO2 HK3 x0
            go_wp2_with fail
            go_roundw
            case rel => exact ⟨k + 1, s', ns ++ [xnm], by omega, by go_num, HN5, HS3.out, HO5, HNE5, HNS2, HRU5, HKO5, HB5.out, hg5⟩
            case measure => simp [intOf]; omega
          · have HQ := Lib.hid hq
            clear hnew hgr hon x0
            go_wp2_with fail
            ((try simp only [Exit.inBlock, Exit.then]); refine bodyPost_ret (results_tmp4 rfl _ _ _) rfl ?_)
            have e : AK = (q, k, [], []) := by rw [← HAK2.out, HRU.out, HST.out, if_neg HQ.out, if_neg HQ.out]
            subst e
            exact ⟨_, _, rfl, HB3.out, fun _ => ⟨rfl, rfl⟩, fun h => absurd h HQ.out⟩
        · obtain rfl : k = n := by omega
          have hrun : runK K0 0 C0 = (0, 0, s.map TM.key) := by
            rw [HRU.out, List.drop_of_length_le (by rw [← HC0.out, List.length_map, HN.out]; exact Nat.le_refl _)]
            rfl
          have hns : ns = C0.map Ch.nm := by
            rw [HNS.out, List.take_of_length_le (by rw [HN.out]; exact Nat.le_refl _), ← HC0.out, List.map_map]
            rfl
          have HAK3 : Hid (AK = (0, 0, s.map TM.key, (onceN ns).map (deltaK (s.map TM.key) K0))) := Lib.hid (by
            rw [← HAK2.out, hrun, hns]
            exact if_pos rfl)
          have HFO : Hid (∀ x ∈ onceN ns, ∃ i : Nat, findK x (s.map TM.key) = (i : Int) ∧ i < ln) := Lib.hid (fun x hx => by
            have hx2 := onceN_sub hx
            rw [hns] at hx2
            obtain ⟨y, hy, rfl⟩ := List.mem_map.1 hx2
            obtain ⟨i, h1, h2⟩ := runK_found C0 0 K0 (by rw [hrun]) y hy
            have h3 := runK_names C0 0 K0 (by rw [hrun])
            rw [hrun] at h3
            rw [findK_names, ← h3, ← findK_names] at h1
            refine ⟨i, h1, ?_⟩
            rw [← HK0.out, List.length_map, HLN.out] at h2
            exact h2)
          obtain ⟨gn, capn, rfl, hgn1, hgn2⟩ := HO.out.form (by omega)
          have HNW2 : Hid (Now (some gn) w wo (.slice (some ⟨g, 0, none⟩) ln cap) s) := HNW
          have HNE2 : Hid (some gn ≠ some g) := HNE
          have hlt1 := HO.out.lt gn rfl
          have hcapn : ns.length ≤ capn := (own_holds HO.out).2.2.2
          have hsn := Lib.hid (sort_names HO.out (by omega))
          have hol := onceN_len ns
          rw [hnl] at hsn ⊢
          clear hrun HRU HNS HNW HNE HO HAK2
          go_wp2_with fail
          refine hsn.out.mono ?_
          rintro e w3 ⟨rfl, hgr3, hH3⟩
          have hon := Lib.hid (once_names hH3 (by omega) hcapn)
          rw [hnl] at hon
          have HN3 := Lib.hid (HNW2.out.grown (o' := some gn) HNE2.out hgr3 (.inl rfl))
          have HB3 : Hid (Below w.heap.size w w3) := Lib.hid (HB.out.grown hgr3 hs (fun j e => by have := Option.some.inj e; omega))
          have hs3 := hgr3.size
          clear hgr3 hH3 hsn HNW2 HB
          go_wp2_with fail
          refine hon.out.mono ?_
          rintro e w4 ⟨rfl, hgr4, hcell⟩
          have HN4 := Lib.hid (HN3.out.grown (o' := some gn) HNE2.out hgr4 (.inl rfl))
          have HB4 : Hid (Below w.heap.size w w4) := Lib.hid (HB3.out.grown hgr4 (by omega) (fun j e => by have := Option.some.inj e; omega))
          have hs4 := hgr4.size
          have hg4 : g < w4.heap.size := by omega
          have hgn4 : gn < w4.heap.size := by omega
          have hw4 : w.heap.size ≤ w4.heap.size := by omega
          have HCE := Lib.hid hcell
          have HTR : Hid (TRow w4 (fun k => k < w4.heap.size) (some ⟨g, 0, none⟩) s) := Lib.hid (by
            have := HN4.out
            rw [← hsl] at this
            exact this.row ⟨hgw, hg4⟩)
          have HKO4 := Lib.hid (HKO.out.more (b' := 1000000) (by omega))
          obtain ⟨on, hon2⟩ : ∃ on, onceN ns = on := ⟨_, rfl⟩
          rw [hon2] at HCE HFO HAK3 hol ⊢
          obtain ⟨m, hm⟩ : ∃ m, on.length = m := ⟨_, rfl⟩
          have HM := Lib.hid hm
          rw [hm] at hol ⊢
          have hm8 : m ≤ 8 := by omega
          clear hgr4 hcell HN3 HB3 HKO hon hon2 hm hol hns hgn1 hgn2 hlt1 hs3 hs4 hs hgo
          go_wp2_with fail
          go_loopw [13, 58] (fun v13 i wr => ∃ (k : Nat) (dl : List XM), k ≤ m ∧ i = .int .i64 k ∧ Hid (wr.ownsRow w4.heap.size 52 2 v13 dl.length (flatX dl)) ∧ Below w4.heap.size w4 wr ∧ dl.length = k ∧ Hid (∀ x ∈ dl, SRow wr (fun b => NewS w4 wr b ∧ v13.ownBlock ≠ some b) x.A x.rows) ∧ Hid (dl.map XM.key = (on.take k).map (deltaK (s.map TM.key) K0))) (fun _ i _ => m - (intOf i).toNat)
          case atStart => exact ⟨0, [], Nat.zero_le _, rfl, Lib.hid (World.ownsRow_nil _ _ _ _), Below.refl _ _, rfl, Lib.hid (fun x hx => by simp at hx), Lib.hid rfl⟩
          case round =>
            rename World => wr
            obtain ⟨j, dl, hj, rfl, HO, hb, hdl, HDR, HDK⟩ := hrel
            have HB := Lib.hid hb
            have hs := hb.size
            clear hb
            by_cases hlt : j < m
            · obtain ⟨x, hx⟩ : ∃ x, on[j]? = some x := ⟨_, List.getElem?_eq_getElem (by rw [HM.out]; exact hlt)⟩
              have hcx := (HB.out.cell hgn4).trans (HCE.out j x hx)
              obtain ⟨i, hfi, hil⟩ := HFO.out x (List.mem_of_getElem? hx)
              obtain ⟨tn, htn⟩ : ∃ tn, s[i]? = some tn := ⟨_, List.getElem?_eq_getElem (by omega)⟩
              obtain ⟨tp, hto⟩ : ∃ tp, l[i]? = some tp := ⟨_, List.getElem?_eq_getElem (by rw [HLN.out]; exact hil)⟩
              have hkn : (s.map TM.key)[i]? = some tn.key := by rw [List.getElem?_map, htn]; rfl
              have hko : K0[i]? = some tp.key := by rw [← HK0.out, List.getElem?_map, hto]; rfl
              have HDE := Lib.hid (deltaK_eq hfi hkn hko)
              have HTK : Hid ((on.take (j + 1)).map (deltaK (s.map TM.key) K0) = (on.take j).map (deltaK (s.map TM.key) K0) ++ [deltaK (s.map TM.key) K0 x]) := Lib.hid (by
                obtain ⟨h1, e1⟩ := List.getElem?_eq_some_iff.1 hx
                rw [List.take_succ_eq_append_getElem h1, List.map_append, e1]
                rfl)
              have hTB := HKO4.out.tabOk (Int.le_refl _)
              have hs6 := hTB.len
              have hfd := Lib.hid (fun w1 (hb : Below w4.heap.size w4 w1) => bfind_any (some ⟨g, 0, none⟩) cap s x w1 (S := fun k => k < w1.heap.size) ((HTR.out.below hb (fun k hk => hk)).mono fun k hk => Nat.lt_of_lt_of_le hk hb.size) (fun k hk => hk) (by omega))
              rw [← findK_map, hfi, hsl] at hfd
              obtain ⟨gg, goff, hge, _, hn1, hn2, hn3⟩ := HTR.out.get htn
              obtain ⟨rfl, rfl⟩ : g = gg ∧ 0 = goff := by simpa using hge
              obtain ⟨b, off, rfl, hSb, hp1, hp2, hp3⟩ := (HA.out.below HB4.out HS.out).get hto
              rw [Nat.zero_add] at hn3
              have hb4 : b < w4.heap.size := by have := HS.out b hSb; omega
              have hmn := List.mem_of_getElem? htn
              have hmo := List.mem_of_getElem? hto
              have HSN := Lib.hid (hTB.set tn hmn)
              have HSO := Lib.hid (HTS.out.set tp hmo)
              have hrn := hTB.rlen tn hmn
              have hro := HTS.out.rlen tp hmo
              have HVN := Lib.hid (hTB.vol tn hmn)
              have HVO := Lib.hid (HTS.out.vol tp hmo)
              have HFL := Lib.hid (fun w1 (hb : Below w4.heap.size w4 w1) => zflip_any tp.rA tp.rc tp.rows w1 (S := fun k => k < w1.heap.size) (((HA.out.rows tp hmo).below (HB4.out.trans (hb.mono hw4)) HS.out).mono fun k hk => Nat.lt_of_lt_of_le (HS.out k hk) (by have := hb.size; omega)) (fun k hk => hk) (by omega) HSO.out)
              have HAD := Lib.hid (fun A' c' (fl : List IM) w1 (hb : Below w4.heap.size w4 w1) (hS2 : SRow w1 (fun k => k < w1.heap.size) A' fl) (hf : its fl = flipS (its tp.rows)) => zadd_any tn.rA A' tn.rc c' tn.rows fl w1 (S := fun k => k < w1.heap.size) (((HTR.out.rows tn hmn).below hb (fun k hk => hk)).mono fun k hk => Nat.lt_of_lt_of_le hk hb.size) hS2 (fun k hk => hk) (by omega) (by have := congrArg List.length hf; simp only [its, flipS, List.length_map] at this; omega)
                (fun y hy => HSN.out.row hy) (fun y hy => by
                  have : y.it ∈ flipS (its tp.rows) := by rw [← hf]; exact List.mem_map.2 ⟨y, hy, rfl⟩
                  obtain ⟨z, hz, e⟩ := List.mem_map.1 this
                  have e1 : z.1 = y.r := congrArg Prod.fst e
                  rw [← e1]; exact HSO.out.set.rows z hz) (by have := HVN.out; have := HVO.out; rw [hf, vol_flip]; omega))
              have HSE := Lib.hid (fun (fl s2 : List IM) (hf : its fl = flipS (its tp.rows)) (h1 : SetOk (its s2)) (h2 : ∀ q, look (its s2) q = look (its (tn.rows ++ fl)) q) => SetOk_of_both HSN.out.set HSO.out.set h1 (fun q => by rw [h2, its_append, hf]))
              have hl0 := HLN.out
              obtain ⟨tnm, tcA, tcc, tcl, trA, trc, trl⟩ := tn
              obtain ⟨onm, ocA, occ, ocl, orA, orc, orl⟩ := tp
              dsimp only [TM.key] at hn3 hp3 HFL HAD HSE HDE
              obtain ⟨xn, hxn⟩ : ∃ xn, trl.length = xn := ⟨_, rfl⟩
              obtain ⟨yn, hyn⟩ : ∃ yn, orl.length = yn := ⟨_, rfl⟩
              rw [hxn] at hn3 HAD
              rw [hyn] at hp3 HFL
              clear hn1 hn2 hp1 hp2 hSb hmn hmo hTB hrn hro hfi htn hto hkn hko hge hxn hyn hx
              go_wp2_with fail
              refine (hfd.out _ HB.out).mono ?_
              rintro e w5 ⟨rfl, hb5⟩
              have HB5 : Hid (Below w4.heap.size w4 w5) := Lib.hid (HB.out.trans (hb5.mono hs))
              have HR5 : Hid (Below wr.heap.size wr w5) := Lib.hid hb5
              clear hb5 hfd hcx
              go_wp2_with fail
              have hw5 : w4.heap.size ≤ w5.heap.size := HB5.out.size
              have hr5 : wr.heap.size ≤ w5.heap.size := HR5.out.size
              have HCN := Lib.hid (fun w1 (hb : Below w5.heap.size w5 w1) => ((HB5.out.trans (hb.mono hw5)).cell hg4).trans hn3)
              have HCO := Lib.hid (fun w1 (hb : Below w5.heap.size w5 w1) => ((HB5.out.trans (hb.mono hw5)).cell hb4).trans ((HB.out.cell hb4).symm.trans ((HB.out.cell hb4).trans hp3)))
              clear hn3 hp3
              refine wp_region_held_drew (S := fun w' => Below w5.heap.size w5 w') (by kernel_rfl) ((Below.refl _ _).drew) (fun hHeld => ?_)
              refine wpAnyH_take (i := 0) (v := .slice (some ⟨g, 0, none⟩) ln cap) rfl (by kernel_rfl) (by kernel_rfl) (by kernel_rfl) (fun _ _ _ h => h) (Or.inl ⟨by rfl, fun w1 hSw => by (go_simp)⟩) (by assumption) ?_
              simp only [List.getElem_toArray, List.getElem_cons_zero, Act.put, List.setIfInBounds_toArray, List.set_cons_zero, List.set_cons_succ]
              refine wpAnyH_take (i := 1) (v := .int .i64 (i : Int)) rfl (by kernel_rfl) (by kernel_rfl) (by kernel_rfl) (fun _ _ _ h => h) (Or.inl ⟨by rfl, fun w1 hSw => by (go_simp)⟩) (by assumption) ?_
              simp only [List.getElem_toArray, List.getElem_cons_succ, List.getElem_cons_zero, Act.put, List.setIfInBounds_toArray, List.set_cons_zero, List.set_cons_succ]
              refine wpAnyH_take (i := 2) (v := .pointer (some ⟨g, i * 3, none⟩)) rfl (by kernel_rfl) (by kernel_rfl) (by kernel_rfl) (fun _ _ _ h => h) (Or.inl ⟨by rfl, fun w1 hSw => by (go_simp)⟩) (by assumption) ?_
              simp only [List.getElem_toArray, List.getElem_cons_succ, List.getElem_cons_zero, Act.put, List.setIfInBounds_toArray, List.set_cons_zero, List.set_cons_succ]
              refine wpAnyH_take (i := 3) (v := .pointer (some ⟨g, i * 3 + 2, none⟩)) rfl (by kernel_rfl) (by kernel_rfl) (by kernel_rfl) (fun _ _ _ h => h) (Or.inl ⟨by rfl, fun w1 hSw => by (go_simp)⟩) (by assumption) ?_
              simp only [List.getElem_toArray, List.getElem_cons_succ, List.getElem_cons_zero, Act.put, List.setIfInBounds_toArray, List.set_cons_zero, List.set_cons_succ]
              refine wpAnyH_take (i := 4) (v := .slice trA xn trc) rfl (by kernel_rfl) (by kernel_rfl) (by kernel_rfl) (fun _ _ _ h => h) (Or.inl ⟨by rfl, fun w1 hSw => by (have hcl := HCN.out w1 hSw; go_simp)⟩) (by assumption) ?_
              simp only [List.getElem_toArray, List.getElem_cons_succ, List.getElem_cons_zero, Act.put, List.setIfInBounds_toArray, List.set_cons_zero, List.set_cons_succ]
              refine wpAnyH_take (i := 5) (v := .slice (some ⟨b, off, none⟩) ln c) rfl (by kernel_rfl) (by kernel_rfl) (by kernel_rfl) (fun _ _ _ h => h) (Or.inl ⟨by rfl, fun w1 hSw => by (go_simp)⟩) (by assumption) ?_
              simp only [List.getElem_toArray, List.getElem_cons_succ, List.getElem_cons_zero, Act.put, List.setIfInBounds_toArray, List.set_cons_zero, List.set_cons_succ]
              refine wpAnyH_take (i := 6) (v := .int .i64 (i : Int)) rfl (by kernel_rfl) (by kernel_rfl) (by kernel_rfl) (fun _ _ _ h => h) (Or.inl ⟨by rfl, fun w1 hSw => by (go_simp)⟩) (by assumption) ?_
              simp only [List.getElem_toArray, List.getElem_cons_succ, List.getElem_cons_zero, Act.put, List.setIfInBounds_toArray, List.set_cons_zero, List.set_cons_succ]
              refine wpAnyH_take (i := 7) (v := .pointer (some ⟨b, off + i * 3, none⟩)) rfl (by kernel_rfl) (by kernel_rfl) (by kernel_rfl) (fun _ _ _ h => h) (Or.inl ⟨by rfl, fun w1 hSw => by (go_simp)⟩) (by assumption) ?_
              simp only [List.getElem_toArray, List.getElem_cons_succ, List.getElem_cons_zero, Act.put, List.setIfInBounds_toArray, List.set_cons_zero, List.set_cons_succ]
              refine wpAnyH_take (i := 8) (v := .pointer (some ⟨b, off + i * 3 + 2, none⟩)) rfl (by kernel_rfl) (by kernel_rfl) (by kernel_rfl) (fun _ _ _ h => h) (Or.inl ⟨by rfl, fun w1 hSw => by (go_simp)⟩) (by assumption) ?_
              simp only [List.getElem_toArray, List.getElem_cons_succ, List.getElem_cons_zero, Act.put, List.setIfInBounds_toArray, List.set_cons_zero, List.set_cons_succ]
              refine wpAnyH_take (i := 9) (v := .slice orA yn orc) rfl (by kernel_rfl) (by kernel_rfl) (by kernel_rfl) (fun _ _ _ h => h) (Or.inl ⟨by rfl, fun w1 hSw => by (have hcl := HCO.out w1 hSw; go_simp)⟩) (by assumption) ?_
              simp only [List.getElem_toArray, List.getElem_cons_succ, List.getElem_cons_zero, Act.put, List.setIfInBounds_toArray, List.set_cons_zero, List.set_cons_succ]
              refine wpAnyH_ready (rs := [10]) (by kernel_rfl) (by simp) ?_
              refine AllReadyH.cons rfl (fun K hK => ?_) AllReadyH.nil
              simp only [List.getElem_toArray, List.getElem_cons_succ, List.getElem_cons_zero]
              go_simp
              refine (HFL.out _ HB5.out.drew).mono ?_
              rintro e w6 ⟨⟨A', c', fl, rfl, _, hfS, hfi⟩, hb6⟩
              have HH6 : Hid (Below w5.heap.size w5 w6) := Lib.hid (hHeld.trans hb6)
              have HB6 : Hid (Below w4.heap.size w4 w6) := Lib.hid (HB5.out.trans (HH6.out.mono hw5))
              have HA6 := Lib.hid (HAD.out A' c' fl w6 HB6.out (hfS.mono fun k hk => hk.2.1) hfi)
              have HS6 := Lib.hid (HSE.out fl)
              have HFI := Lib.hid hfi
              clear hb6 hfS hfi HAD HSE HFL hHeld
              generalize hfn : fl.length = fn at HA6 ⊢
              clear hfn
              go_wp2_with fail
              refine hK.out _ _ HH6.out (fun hHeld => ?_)
              clear hK K
              refine wpAnyH_ready (rs := [11]) (by kernel_rfl) (by simp) ?_
              refine AllReadyH.cons rfl (fun K hK => ?_) AllReadyH.nil
              simp only [List.getElem_toArray, List.getElem_cons_succ, List.getElem_cons_zero]
              go_simp
              refine HA6.out.mono ?_
              rintro e w7 ⟨⟨A2, c2, s2, rfl, _, hs2, hset, hlook⟩, hb7⟩
              have HH7 : Hid (Below w5.heap.size w5 w7) := Lib.hid (HH6.out.trans (hb7.mono HH6.out.size))
              have hs6 : w5.heap.size ≤ w6.heap.size := HH6.out.size
              have HX7 : Hid (SRow w7 (NewS wr w7) A2 s2) := Lib.hid (hs2.mono fun k hk => hk.lower (by omega))
              have HKY : Hid (deltaK (s.map TM.key) K0 x = (x, its s2)) := Lib.hid (by rw [HDE.out, HS6.out s2 HFI.out hset hlook])
              clear hb7 hs2 hset hlook HA6 HS6 HFI HDE hHeld
              obtain ⟨sn, hsn⟩ : ∃ sn, s2.length = sn := ⟨_, rfl⟩
              have HSL := Lib.hid hsn
              rw [hsn]
              clear hsn
              go_wp2_with fail
              refine hK.out _ _ HH7.out (fun hHeld => ?_)
              clear hK K
              refine wpAnyH_take (i := 12) (v := .tuple #[.slice A2 sn c2, .int .i64 0]) rfl (by kernel_rfl) (by kernel_rfl) (by kernel_rfl) (fun _ _ _ h => h) (Or.inl ⟨by rfl, fun w1 hSw => by (go_simp)⟩) (by assumption) ?_
              simp only [List.getElem_toArray, List.getElem_cons_succ, List.getElem_cons_zero, Act.put, List.setIfInBounds_toArray, List.set_cons_zero, List.set_cons_succ]
              refine wpAnyH_take (i := 13) (v := .slice A2 sn c2) rfl (by kernel_rfl) (by kernel_rfl) (by kernel_rfl) (fun _ _ _ h => h) (Or.inl ⟨by rfl, fun w1 hSw => by (go_simp)⟩) (by assumption) ?_
              simp only [List.getElem_toArray, List.getElem_cons_succ, List.getElem_cons_zero, Act.put, List.setIfInBounds_toArray, List.set_cons_zero, List.set_cons_succ]
              refine wpAnyH_take (i := 14) (v := .int .i64 0) rfl (by kernel_rfl) (by kernel_rfl) (by kernel_rfl) (fun _ _ _ h => h) (Or.inl ⟨by rfl, fun w1 hSw => by (go_simp)⟩) (by assumption) ?_
              simp only [List.getElem_toArray, List.getElem_cons_succ, List.getElem_cons_zero, Act.put, List.setIfInBounds_toArray, List.set_cons_zero, List.set_cons_succ]
              refine wpAnyH_take (i := 15) (v := .slice A2 sn c2) rfl (by kernel_rfl) (by kernel_rfl) (by kernel_rfl) (fun _ _ _ h => h) (Or.inl ⟨by rfl, fun w1 hSw => by (go_simp)⟩) (by assumption) ?_
              simp only [List.getElem_toArray, List.getElem_cons_succ, List.getElem_cons_zero, Act.put, List.setIfInBounds_toArray, List.set_cons_zero, List.set_cons_succ]
              refine wpAnyH_take (i := 16) (v := .int .i64 0) rfl (by kernel_rfl) (by kernel_rfl) (by kernel_rfl) (fun _ _ _ h => h) (Or.inl ⟨by rfl, fun w1 hSw => by (go_simp)⟩) (by assumption) ?_
              simp only [List.getElem_toArray, List.getElem_cons_succ, List.getElem_cons_zero, Act.put, List.setIfInBounds_toArray, List.set_cons_zero, List.set_cons_succ]
              refine wpAnyH_done (by kernel_rfl) ?_ _
              have HR7 : Hid (Below wr.heap.size wr w7) := Lib.hid (HR5.out.trans (HH7.out.mono hr5))
              have HO7 := Lib.hid (ownM_below HO.out HR7.out)
              have hs7 : wr.heap.size ≤ w7.heap.size := HR7.out.size
              clear HH7 HH6 HCN HCO HB6 HB5 HR5 hHeld hs6
              go_wp2_with (at_builtin; refine wpList_append_any _ rfl _ _ 31 rfl w4.heap.size 52 i1 _ 2 40 Tryz.underlying31 hi' hz0' hz1' hz2' rfl (by decide) _ _ _ rfl (HO7.out.alloc _) (w7.heap.size + 1) _ _ _ [.string x, .slice A2 sn c2] rfl ⟨rfl, fun _ => ⟨_, rfl, Nat.lt_succ_self _, World.news_of_block (heap_alloc_new w7 _)⟩⟩ ?d1 ?d2 ?d3 ?d4 ?_)
              case d1 => intro u hu; simp only [List.mem_cons, List.not_mem_nil, or_false] at hu; rcases hu with rfl | rfl <;> rfl
              case d2 => unfold maxLen; omega
              case d3 => omega
              case d4 => simp; omega
              intro v' w8 hown' hgrow hat
              replace hat : v'.ownBlock = u13.ownBlock ∨ v'.ownBlock = some (w7.heap.size + 1) := by
                rcases hat with h | h
                · exact .inl h
                · exact .inr (by simpa using h)
              obtain ⟨hk1, hk2, hb8⟩ := snoc_blocks (v' := v') (fun g hg => HO.out.lt g hg) hs HB.out HR7.out _ hgrow hat
              obtain ⟨x', ex'⟩ : ∃ x' : XM, x' = ⟨x, A2, c2, s2⟩ := ⟨_, rfl⟩
              have HO8 : Hid (w8.ownsRow w4.heap.size 52 2 v' (dl ++ [x']).length (flatX (dl ++ [x']))) := Lib.hid (by rw [flatX_append, flatX_one, List.length_append, ex', hdl]; simp only [XM.cs, HSL.out]; exact hown')
              have HD8 : Hid (∀ t ∈ dl ++ [x'], SRow w8 (fun g => NewS w4 w8 g ∧ v'.ownBlock ≠ some g) t.A t.rows) := Lib.hid (fun t ht => by
                rcases List.mem_append.1 ht with ht | ht
                · exact ((HDR.out t ht).kept fun g hg => (hk1 g hg).1).mono fun g hg => (hk1 g hg).2
                · rw [List.mem_singleton.1 ht, ex']
                  exact (HX7.out.kept fun g hg => (hk2 g hg).1).mono fun g hg => (hk2 g hg).2)
              have HK8 : Hid ((dl ++ [x']).map XM.key = (on.take (j + 1)).map (deltaK (s.map TM.key) K0)) := Lib.hid (by
                rw [List.map_append, HTK.out, HDK.out, HKY.out, ex']
                rfl)
              have hdl8 : (dl ++ [x']).length = j + 1 := by rw [List.length_append, hdl]; rfl
              have HB8 := Lib.hid hb8
              generalize dl ++ [x'] = dl8 at HO8 HD8 HK8 hdl8
              clear hown' hgrow hat hk1 hk2 hb8 HO HO7 HR7 HB HX7 HKY HTK HDK HDR ex' HSL
              go_wp2_with fail
              go_roundw
              case rel => exact ⟨j + 1, dl8, by omega, by go_num, HO8, HB8.out, hdl8, HD8, HK8⟩
              case measure => simp [intOf]; omega
            · obtain rfl : j = m := by omega
              obtain ⟨A3, c3, rfl, hc3, hX3⟩ := own_deltas (S := NewS w wr) HO.out (fun g h1 h2 h3 => ⟨by omega, h2, h3⟩) (fun t ht => (HDR.out t ht).mono fun g hg => hg.1.lower hw4)
              have HX3 := Lib.hid hX3
              have HBF := Lib.hid (HB4.out.trans (HB.out.mono hw4))
              clear hX3
              go_wp2_with fail
              ((try simp only [Exit.inBlock, Exit.then]); refine bodyPost_ret (results_tmp4 rfl _ _ _) rfl ?_)
              have e := HAK3.out
              subst e
              refine ⟨_, _, rfl, HBF.out, fun h => absurd rfl h, fun _ => ⟨⟨g, cap, s, by rw [hsl]; rfl, ⟨hgw, by omega⟩, ?_, rfl⟩, ⟨A3, c3, dl, rfl, HX3.out, ?_⟩⟩⟩
              · have h1 := HN4.out.below HB.out
                exact ⟨h1.own, fun t ht => (h1.cols t ht).mono fun k hk => ⟨hk.1, hk.2.1, by simp⟩, fun t ht => (h1.rows t ht).mono fun k hk => ⟨hk.1, hk.2.1, by simp⟩⟩
              · rw [HDK.out, List.take_of_length_le (by rw [HM.out]; exact Nat.le_refl _)]
end Go.Proofs.YtajnnkapgnmoaaaGreat
/-
  zset.Same of two right sets: are they the same?
-/
namespace Go.Proofs.YtajnnkapgnmoaaaGreat
open Go.RowKit

def same1 (x y : IM) : Bool := decide (x.k = y.k) && rowSame x.r y.r
def sameL : List IM → List IM → Bool
  | [], [] => true
  | x :: a, y :: b => same1 x y && sameL a b
  | _, _ => false
theorem sameL_iff : ∀ (a b : List IM), (∀ x ∈ a, rowOk x.r = true) → (∀ x ∈ b, rowOk x.r = true) → (sameL a b = true ↔ its a = its b)
  | [], [], _, _ => by simp [sameL, its]
  | [], _ :: _, _, _ => by simp [sameL, its]
  | _ :: _, [], _, _ => by simp [sameL, its]
  | x :: a, y :: b, ha, hb => by
    have ih := sameL_iff a b (fun z hz => ha z (by simp [hz])) (fun z hz => hb z (by simp [hz]))
    have e : its (x :: a) = its (y :: b) ↔ (x.it = y.it ∧ its a = its b) := by simp [its]
    rw [e, ← ih, show sameL (x :: a) (y :: b) = (same1 x y && sameL a b) from rfl]
    unfold same1
    simp only [Bool.and_eq_true, decide_eq_true_eq]
    constructor
    · rintro ⟨⟨h1, h2⟩, h3⟩
      exact ⟨Prod.ext (same_eq h2) h1, h3⟩
    · rintro ⟨h1, h3⟩
      have h4 : x.r = y.r := congrArg Prod.fst h1
      have h5 : x.k = y.k := congrArg Prod.snd h1
      refine ⟨⟨h5, ?_⟩, h3⟩
      unfold rowSame
      rw [← h4, ha x (by simp), cmp_self (ha x (by simp))]
      rfl
theorem sameL_len : ∀ (a b : List IM), sameL a b = true → a.length = b.length
  | [], [], _ => rfl
  | [], _ :: _, h => by simp [sameL] at h
  | _ :: _, [], h => by simp [sameL] at h
  | x :: a, y :: b, h => by
    unfold sameL at h
    simp only [Bool.and_eq_true] at h
    simp [sameL_len a b h.2]
theorem sameL_step {a b : List IM} {k : Nat} {x y : IM} (hx : a[k]? = some x) (hy : b[k]? = some y) : sameL (a.drop k) (b.drop k) = (same1 x y && sameL (a.drop (k + 1)) (b.drop (k + 1))) := by
  obtain ⟨h1, e1⟩ := List.getElem?_eq_some_iff.1 hx
  obtain ⟨h2, e2⟩ := List.getElem?_eq_some_iff.1 hy
  rw [List.drop_eq_getElem_cons h1, List.drop_eq_getElem_cons h2, e1, e2]
  rfl

set_option maxHeartbeats 1000000 in
set_option maxRecDepth 100000 in
theorem same_closure (x y : IM) (w : World) (hx : VRow w w.heap.size x.A x.r) (hy : VRow w w.heap.size y.A y.r) (lx : x.r.length ≤ 6) (ly : y.r.length ≤ 6) (kx : okN x.k) (ky : okN y.k) :
    Calls Tryz.prog 43 #[x.val, y.val] w fun e w' => e = .returned (.bool (same1 x y)) ∧ Below w.heap.size w w' := by
  obtain ⟨A1, c1, r1, k1⟩ := x
  obtain ⟨A2, c2, r2, k2⟩ := y
  have hc := Lib.hid (fun w1 (hb : Below w.heap.size w w1) => rowSame_any A1 A2 c1 c2 r1 r2 (by simp only at lx; omega) (by simp only at ly; omega) w1 ((hx.below hb).more hb.size) ((hy.below hb).more hb.size))
  have hq := fun w1 => run_eq_tal kx ky 45 Tryz.prog w1
  have hgz := fun op t x y v => eqGuard_at_tal op t x y k1 v
  dsimp only at hq
  simp only [IM.val, same1]
  generalize rowSame r1 r2 = z at hc
  generalize r1.length = n1 at hc
  generalize r2.length = n2 at hc
  generalize tal k1 = T1 at hq hgz
  generalize tal k2 = T2 at hq
  have HB := Lib.hid (((Below.refl w.heap.size w).alloc (Nat.le_refl _) (.cells #[.slice A1 n1 c1, T1] 47)).alloc (by simp) (.cells #[.slice A2 n2 c2, T2] 47))
  clear hx hy lx ly kx ky
  by_cases hk : k1 = k2
  · subst hk
    rw [decide_eq_true rfl] at hq
    rw [decide_eq_true rfl, Bool.true_and]
    go_enter Tryz.func43, Tryz.ntmps43
    go_wp2_with fail
    refine (hc.out _ HB.out).mono ?_
    rintro e w1 ⟨rfl, hb⟩
    have HB1 := Lib.hid (HB.out.trans (hb.mono (by simp; omega)))
    clear hb
    go_wp2
    go_ret
    exact ⟨rfl, HB1.out⟩
  · rw [decide_eq_false hk] at hq
    rw [decide_eq_false hk, Bool.false_and]
    clear hk
    go_enter Tryz.func43, Tryz.ntmps43
    go_wp2
    go_ret
    exact ⟨rfl, HB.out⟩

set_option maxHeartbeats 2000000 in
set_option maxRecDepth 100000 in
theorem equalFunc_any (A B : Option Addr) (c d : Nat) (a b : List IM) (w : World) {S : Nat → Prop} (hA : SRow w S A a) (hB : SRow w S B b) (hS : ∀ k, S k → k < w.heap.size) (hl : a.length ≤ 1073741824) (hl2 : b.length ≤ 1073741824) (ha : SOk a) (hb : SOk b) :
    Calls Tryz.prog 42 #[.slice A a.length c, .slice B b.length d, .func (.func 43) #[] #[]] w fun e w' => e = .returned (.bool (sameL a b)) ∧ Below w.heap.size w w' := by
  obtain ⟨n, hn⟩ : ∃ n, a.length = n := ⟨_, rfl⟩
  obtain ⟨m, hm⟩ : ∃ m, b.length = m := ⟨_, rfl⟩
  have HN := Lib.hid hn
  have HM := Lib.hid hm
  have HA := Lib.hid hA
  have HB0 := Lib.hid hB
  have HS := Lib.hid hS
  have HKA := Lib.hid ha
  have HKB := Lib.hid hb
  rw [hn] at hl ⊢
  rw [hm] at hl2 ⊢
  clear hA hB hS ha hb hn hm
  have hst := run_store_tal Tryz.prog
  by_cases hnm : n = m
  · subst hnm
    go_enter Tryz.func42, Tryz.ntmps42
    go_wp2_with fail
    go_loopw [17] (fun i wr => ∃ k : Nat, k ≤ n ∧ i = .int .i64 k ∧ Below w.heap.size w wr ∧ Hid (sameL a b = sameL (a.drop k) (b.drop k))) (fun i _ => n - (intOf i).toNat)
    case atStart => exact ⟨0, Nat.zero_le _, rfl, Below.refl _ _, Lib.hid (by simp)⟩
    case round =>
      obtain ⟨k, hk, rfl, hb, HL⟩ := hrel
      have HB := Lib.hid hb
      have hs := hb.size
      clear hb
      by_cases hlt : k < n
      · obtain ⟨x, hx⟩ : ∃ x, a[k]? = some x := ⟨_, List.getElem?_eq_getElem (by rw [HN.out]; exact hlt)⟩
        obtain ⟨y, hy⟩ : ∃ y, b[k]? = some y := ⟨_, List.getElem?_eq_getElem (by rw [HM.out]; exact hlt)⟩
        obtain ⟨b1, off1, rfl, _, hc1, hc2⟩ := (HA.out.below HB.out HS.out).get hx
        obtain ⟨b2, off2, rfl, _, hd1, hd2⟩ := (HB0.out.below HB.out HS.out).get hy
        have hmx := List.mem_of_getElem? hx
        have hmy := List.mem_of_getElem? hy
        have hXR := (HA.out.rows x hmx).to HS.out
        have hYR := (HB0.out.rows y hmy).to HS.out
        have hq := Lib.hid (fun w3 (hb : Below w.heap.size w w3) => same_closure x y w3 ((hXR.below hb).more hb.size) ((hYR.below hb).more hb.size) (rowOk_len (HKA.out.row hmx)).2 (rowOk_len (HKB.out.row hmy)).2 (HKA.out.okN hmx) (HKB.out.okN hmy))
        have HD := Lib.hid (HL.out.trans (sameL_step hx hy))
        generalize same1 x y = z at hq HD
        obtain ⟨xA, xc, xr, xk⟩ := x
        obtain ⟨yA, yc, yr, yk⟩ := y
        simp only [IM.val] at hq
        dsimp only at hc1 hc2 hd1 hd2
        generalize xr.length = xn at hc1 hq
        generalize yr.length = yn at hd1 hq
        have hd1' := (World.cell?_alloc_lt wr (.cells #[.slice xA xn xc, tal xk] 47) _ (block_lt_of_cell hd1)).trans hd1
        have hd2' := (World.cell?_alloc_lt wr (.cells #[.slice xA xn xc, tal xk] 47) _ (block_lt_of_cell hd2)).trans hd2
        clear hx hy hmx hmy hXR hYR HL
        have HB3 := Lib.hid ((HB.out.alloc hs (.cells #[.slice xA xn xc, tal xk] 47)).alloc (by simp; omega) (.cells #[.slice yA yn yc, tal yk] 47))
        cases z
        · go_wp2_with fail
          refine (hq.out _ HB3.out).mono ?_
          rintro e w3 ⟨rfl, hb3⟩
          have HB4 := Lib.hid (HB3.out.trans (hb3.mono (by simp; omega)))
          have HF : Hid (sameL a b = false) := Lib.hid (by rw [HD.out]; rfl)
          clear hb3 HD
          go_wp2_with fail
          go_ret
          exact ⟨by rw [HF.out]; rfl, HB4.out⟩
        · go_wp2_with fail
          refine (hq.out _ HB3.out).mono ?_
          rintro e w3 ⟨rfl, hb3⟩
          have HB4 := Lib.hid (HB3.out.trans (hb3.mono (by simp; omega)))
          have HL4 : Hid (sameL a b = sameL (a.drop (k + 1)) (b.drop (k + 1))) := Lib.hid (by rw [HD.out, Bool.true_and])
          clear hb3 HD
          go_wp2_with fail
          go_roundw
          case rel => exact ⟨k + 1, by omega, by go_num, HB4.out, HL4⟩
          case measure => simp [intOf]; omega
      · obtain rfl : k = n := by omega
        have HF : Hid (sameL a b = true) := Lib.hid (by
          rw [HL.out, List.drop_of_length_le (by rw [HN.out]; exact Nat.le_refl _), List.drop_of_length_le (by rw [HM.out]; exact Nat.le_refl _)]
          rfl)
        go_wp2_with fail
        go_ret
        exact ⟨by rw [HF.out]; rfl, HB.out⟩
  · have HF : Hid (sameL a b = false) := Lib.hid (by
      cases h : sameL a b with
      | false => rfl
      | true => exact absurd (by rw [← HN.out, ← HM.out]; exact sameL_len a b h) hnm)
    have hne : ¬ ((n : Int) = (m : Int)) := by omega
    go_enter Tryz.func42, Tryz.ntmps42
    go_wp2_with fail
    go_ret
    exact ⟨by rw [HF.out]; rfl, Below.refl _ _⟩

set_option maxHeartbeats 1000000 in
set_option maxRecDepth 100000 in
/-- zset.Same at two right sets -/
theorem zsame_any (A B : Option Addr) (c d : Nat) (a b : List IM) (w : World) {S : Nat → Prop} (hA : SRow w S A a) (hB : SRow w S B b) (hS : ∀ k, S k → k < w.heap.size) (hl : a.length ≤ 1073741824) (hl2 : b.length ≤ 1073741824) (ha : SOk a) (hb : SOk b) (q : Bool) (hq : q = true ↔ its a = its b) :
    Calls Tryz.prog 17 #[.slice A a.length c, .slice B b.length d] w fun e w' => e = .returned (.bool q) ∧ Below w.heap.size w w' := by
  have h1 := Lib.hid (fun w3 (h : Below w.heap.size w w3) => zright_any A c a w3 ((hA.below h hS).mono (S' := fun k => k < w3.heap.size) fun k hk => Nat.lt_of_lt_of_le (hS k hk) h.size) (fun k hk => hk) hl ha)
  have h2 := Lib.hid (fun w3 (h : Below w.heap.size w w3) => zright_any B d b w3 ((hB.below h hS).mono (S' := fun k => k < w3.heap.size) fun k hk => Nat.lt_of_lt_of_le (hS k hk) h.size) (fun k hk => hk) hl2 hb)
  have h3 := Lib.hid (fun w3 (h : Below w.heap.size w w3) => equalFunc_any A B c d a b w3 ((hA.below h hS).mono (S' := fun k => k < w3.heap.size) fun k hk => Nat.lt_of_lt_of_le (hS k hk) h.size) ((hB.below h hS).mono fun k hk => Nat.lt_of_lt_of_le (hS k hk) h.size) (fun k hk => hk) hl hl2 ha hb)
  have HQ : Hid (sameL a b = q) := Lib.hid (by
    have := sameL_iff a b (fun x hx => ha.row hx) (fun x hx => hb.row hx)
    cases hs : sameL a b <;> cases q <;> simp_all)
  rw [HQ.out] at h3
  generalize a.length = n at *
  generalize b.length = m at *
  clear hA hB hS hl hl2 ha hb hq HQ
  go_enter Tryz.func17, Tryz.ntmps17
  go_wp2_with fail
  refine (h1.out _ (Below.refl _ _)).mono ?_
  rintro e w1 ⟨rfl, hb1⟩
  have HB1 := Lib.hid hb1
  have hs1 := hb1.size
  clear hb1
  go_wp2_with fail
  refine (h2.out _ HB1.out).mono ?_
  rintro e w2 ⟨rfl, hb2⟩
  have HB2 := Lib.hid (HB1.out.trans (hb2.mono hs1))
  have hs2 := HB2.out.size
  clear hb2
  go_wp2_with fail
  refine (h3.out _ HB2.out).mono ?_
  rintro e w3 ⟨rfl, hb3⟩
  have HB3 := Lib.hid (HB2.out.trans (hb3.mono hs2))
  clear hb3
  go_wp2_with fail
  go_ret
  exact ⟨rfl, HB3.out⟩
end Go.Proofs.YtajnnkapgnmoaaaGreat
