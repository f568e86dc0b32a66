/-
  law 16's tables.
-/
import Derived.Test.YtajnnkapgnmoaaaGreatMw5
import Derived.Test.YtajnnkapgnmoaaaGreatMw7
import Derived.Test.YtajnnkapgnmoaaaGreatMw8
import Derived.Test.YtajnnkapgnmoaaaGreatMw3
import Derived.Test.YtajnnkapgnmoaaaGreatMw6
set_option linter.unusedVariables false
set_option linter.unusedSimpArgs false
set_option linter.unusedVariables false
set_option linter.unusedSimpArgs false
namespace Go.Proofs.YtajnnkapgnmoaaaGreat
open Go.RowKit

set_option maxHeartbeats 8000000 in
set_option maxRecDepth 100000 in
theorem tables_any (n : Int) (hn1 : -1000 ≤ n) (hn2 : n ≤ 100) (A : Option Addr) (c : Nat) (l : List CM) (w : World) {S : Nat → Prop} (hC : ChRow w S A l) (hS : ∀ k, S k → k < w.heap.size) (hl : l.length ≤ 9223372036854775807) (hnm : ∀ x ∈ l, x.nm.size ≤ 9223372036854775807) (hvs : ∀ x ∈ l, ∀ y ∈ x.r, y.s.size ≤ 9223372036854775807) :
    Calls Tryz.prog 11 #[.int .i64 n, .slice A l.length c] w fun e w' => (∃ v, e = .returned v ∧ TabsRet w (tabsK n (l.map CM.ch)) w' v) ∧ Below w.heap.size w w' := by
  obtain ⟨i0, hi, hz0, hz1, hz2⟩ := info_parts item_info
  obtain ⟨ln, hln⟩ : ∃ ln, l.length = ln := ⟨_, rfl⟩
  have HLN := Lib.hid hln
  have HC := Lib.hid hC
  have HS := Lib.hid hS
  have HNM := Lib.hid hnm
  have HVS := Lib.hid hvs
  rw [hln] at hl ⊢
  clear hC hS hnm hvs hln
  obtain ⟨LK, hLK⟩ : ∃ LK, l.map CM.ch = LK := ⟨_, rfl⟩
  have HLK := Lib.hid hLK
  rw [hLK]
  clear hLK
  go_enter Tryz.func11, Tryz.ntmps11
  go_wp2_with (first | (go_at_call 24; refine (keepB_U _).mono ?_; rintro e w' ⟨rfl, rfl⟩) | (go_at_call 25; refine (keepB_T _).mono ?_; rintro e w' ⟨rfl, rfl⟩))
  obtain ⟨w3, hw3⟩ : ∃ w3, w3 = ((w.alloc (.cells #[.string ⟨#[97]⟩, .int .i64 1, .string ⟨#[99]⟩, .int .i64 1] 100)).alloc (.cells #[.string ⟨#[97]⟩, .int .i64 1, .string ⟨#[98]⟩, .int .i64 1, .string ⟨#[115]⟩, .int .i64 2] 100)).alloc (.cells #[.string ⟨#[117]⟩, .slice (some ⟨w.heap.size, 0, none⟩) 2 2, .slice none 0 0, .string ⟨#[116]⟩, .slice (some ⟨w.heap.size + 1, 0, none⟩) 3 3, .slice none 0 0] 44) := ⟨_, rfl⟩
  rw [← hw3]
  have HW3 : Hid (Below w.heap.size w w3) := Lib.hid (by rw [hw3]; exact (((Below.refl _ _).alloc (Nat.le_refl _) _).alloc (by simp only [World.size_alloc]; omega) _).alloc (by simp only [World.size_alloc]; omega) _)
  have hs3 : w.heap.size + 1 + 1 + 1 ≤ w3.heap.size := by rw [hw3]; simp
  have HS3 : Hid (w3.heap.size = w.heap.size + 1 + 1 + 1) := Lib.hid (by rw [hw3]; simp)
  have HBU : Hid (Blk w3 w.heap.size 100 #[.string ⟨#[97]⟩, .int .i64 1, .string ⟨#[99]⟩, .int .i64 1]) := Lib.hid (by rw [hw3]; exact ((Blk.new w _ _).alloc _).alloc _)
  have HBT : Hid (Blk w3 (w.heap.size + 1) 100 #[.string ⟨#[97]⟩, .int .i64 1, .string ⟨#[98]⟩, .int .i64 1, .string ⟨#[115]⟩, .int .i64 2]) := Lib.hid (by
    rw [hw3]
    have h := (Blk.new (w.alloc (.cells #[.string ⟨#[97]⟩, .int .i64 1, .string ⟨#[99]⟩, .int .i64 1] 100)) 100 #[.string ⟨#[97]⟩, .int .i64 1, .string ⟨#[98]⟩, .int .i64 1, .string ⟨#[115]⟩, .int .i64 2])
    simp only [World.size_alloc] at h
    exact h.alloc _)
  have HBO : Hid (Blk w3 (w.heap.size + 1 + 1) 44 #[.string ⟨#[117]⟩, .slice (some ⟨w.heap.size, 0, none⟩) 2 2, .slice none 0 0, .string ⟨#[116]⟩, .slice (some ⟨w.heap.size + 1, 0, none⟩) 3 3, .slice none 0 0]) := Lib.hid (by
    rw [hw3]
    have h := (Blk.new ((w.alloc (.cells #[.string ⟨#[97]⟩, .int .i64 1, .string ⟨#[99]⟩, .int .i64 1] 100)).alloc (.cells #[.string ⟨#[97]⟩, .int .i64 1, .string ⟨#[98]⟩, .int .i64 1, .string ⟨#[115]⟩, .int .i64 2] 100)) 44 #[.string ⟨#[117]⟩, .slice (some ⟨w.heap.size, 0, none⟩) 2 2, .slice none 0 0, .string ⟨#[116]⟩, .slice (some ⟨w.heap.size + 1, 0, none⟩) 3 3, .slice none 0 0])
    simp only [World.size_alloc] at h
    exact h)
  clear hw3
  have ht1 := tal_one
  go_loopw [6, 7, 8] (fun v6 v7 i wr => ∃ (k : Nat) (tl ul : List IM), k ≤ ln ∧ k ≤ 20 ∧ i = .int .i64 k ∧ wr.ownsRow w3.heap.size 47 2 v6 tl.length (flatM tl) ∧ wr.ownsRow w3.heap.size 47 2 v7 ul.length (flatM ul) ∧ Below w3.heap.size w3 wr ∧ Hid (∀ g, v6.ownBlock = some g → v7.ownBlock ≠ some g) ∧
      Hid (∀ x ∈ tl, VRowS wr (fun g => NewS w3 wr g ∧ v6.ownBlock ≠ some g ∧ v7.ownBlock ≠ some g) x.A x.r) ∧ Hid (∀ x ∈ ul, VRowS wr (fun g => NewS w3 wr g ∧ v6.ownBlock ≠ some g ∧ v7.ownBlock ≠ some g) x.A x.r) ∧ Hid (its tl = partT (LK.take k)) ∧ Hid (its ul = partU (LK.take k)) ∧ tl.length ≤ k ∧ ul.length ≤ k) (fun _ _ i _ => ln - (intOf i).toNat)
  case atStart => exact ⟨0, [], [], Nat.zero_le _, Nat.zero_le _, rfl, World.ownsRow_nil _ _ _ _, World.ownsRow_nil _ _ _ _, Below.refl _ _, Lib.hid (fun g h => by simp [Value.ownBlock] at h), Lib.hid (fun x hx => by simp at hx), Lib.hid (fun x hx => by simp at hx), Lib.hid (by simp [partT, its]), Lib.hid (by simp [partU, its]), Nat.le_refl _, Nat.le_refl _⟩
  case round =>
    rename World => wo
    obtain ⟨k, tl, ul, hk, hk20, rfl, ho6, ho7, hb, HNE, HTR, HUR, HTI, HUI, htl, hul⟩ := hrel
    have HO6 := Lib.hid ho6
    have HO7 := Lib.hid ho7
    have HB := Lib.hid hb
    have hs := hb.size
    have HL6 : Hid (∀ g, u6.ownBlock = some g → w3.heap.size ≤ g ∧ g < wo.heap.size) := Lib.hid (fun g h => ho6.lt g h)
    have HL7 : Hid (∀ g, u7.ownBlock = some g → w3.heap.size ≤ g ∧ g < wo.heap.size) := Lib.hid (fun g h => ho7.lt g h)
    clear ho6 ho7 hb
    go_upto_region 4 with (fail)
    go_cut [22] (fun sb wx => sb = .bool (decide (k < ln) && decide (k < 20)) ∧ wo = wx)
    case first =>
      by_cases h1 : k < ln
      · by_cases h2 : k < 20
        · have d1 : decide ((k : Int) < (ln : Int)) = true := decide_eq_true (by omega)
          have d2 : decide ((k : Int) < 20) = true := decide_eq_true (by omega)
          have d3 : decide (k < ln) = true := decide_eq_true h1
          have d4 : decide (k < 20) = true := decide_eq_true h2
          go_wp2_with fail
          go_meet
          exact ⟨by rw [d3, d4]; rfl, rfl⟩
        · have d1 : decide ((k : Int) < (ln : Int)) = true := decide_eq_true (by omega)
          have d2 : decide ((k : Int) < 20) = false := decide_eq_false (by omega)
          have d3 : decide (k < ln) = true := decide_eq_true h1
          have d4 : decide (k < 20) = false := decide_eq_false h2
          go_wp2_with fail
          go_meet
          exact ⟨by rw [d3, d4]; rfl, rfl⟩
      · have d1 : decide ((k : Int) < (ln : Int)) = false := decide_eq_false (by omega)
        have d3 : decide (k < ln) = false := decide_eq_false h1
        go_wp2_with fail
        go_meet
        exact ⟨by rw [d3, Bool.false_and], rfl⟩
    case rest =>
    obtain ⟨rfl, rfl⟩ := hcut
    obtain ⟨q, hq⟩ : ∃ q, (decide (k < ln) && decide (k < 20)) = q := ⟨_, rfl⟩
    rw [hq]
    cases q
    case true =>
      have hlt := of_decide_eq_true (Bool.and_eq_true_iff.1 hq).1
      have hlt2 := of_decide_eq_true (Bool.and_eq_true_iff.1 hq).2
      clear hq
      obtain ⟨x, hx⟩ : ∃ x, l[k]? = some x := ⟨_, List.getElem?_eq_getElem (by rw [HLN.out]; exact hlt)⟩
      have HBW : Hid (Below w.heap.size w wo) := Lib.hid (HW3.out.trans (HB.out.mono (by omega)))
      obtain ⟨b, off, rfl, hSb, hc1, hc2, hc3⟩ := (HC.out.below HBW.out HS.out).get hx
      have hm := List.mem_of_getElem? hx
      have hLx : LK[k]? = some x.ch := by rw [← HLK.out, List.getElem?_map, hx]; rfl
      have HTM := Lib.hid (fun w1 (hb : Below w.heap.size w w1) => tame_any x.nm x.A x.c x.r x.rem w1 ((((HC.out.rows x hm).to HS.out).below hb).more hb.size) (HNM.out x hm) (HVS.out x hm))
      have HST := Lib.hid (part_step hLx)
      have HIS := Lib.hid (tame_isT x.ch)
      obtain ⟨xnm, xA, xc, xr, xrem⟩ := x
      dsimp only [CM.ch] at hc1 hc2 hc3 HTM HST HIS
      obtain ⟨K, hK⟩ : ∃ K, tameK xnm xr = K := ⟨_, rfl⟩
      have HKK := Lib.hid hK
      unfold TameRet at HTM
      rw [hK] at HTM HIS
      obtain ⟨xn, hxn⟩ : ∃ xn, xr.length = xn := ⟨_, rfl⟩
      rw [hxn] at hc2 HTM
      obtain ⟨nm', r'⟩ := K
      dsimp only at HTM HIS
      clear hx hm hLx hSb hK hxn
      cases hT : isT ⟨xnm, xr, xrem⟩
      · obtain ⟨hnm', hr'⟩ := HIS.out.2 hT
        subst hnm'
        have HTI2 : Hid (its tl = partT (LK.take (k + 1))) := Lib.hid (by rw [(HST.out.2 hT).1, HTI.out])
        have HUI2 : Hid (its ul ++ [(r', 1)] = partU (LK.take (k + 1))) := Lib.hid (by
          rw [(HST.out.2 hT).2, HUI.out]
          unfold tameI
          simp only [HKK.out])
        have HR2 := Lib.hid hr'
        rw [hr'] at HTM
        clear hr' hT HIS HST HKK HTI HUI
        unfold nmU at HTM
        go_wp2_with fail
        refine (HTM.out _ HBW.out).mono ?_
        rintro e w4 ⟨g4, rfl, hg4, hcells, hb4⟩
        have HB4 := Lib.hid hb4
        have hs4 := hb4.size
        have HCE := Lib.hid hcells
        clear hb4 hcells HTM
        go_wp2_with (at_builtin; refine wpList_append_any _ rfl _ _ 41 rfl w3.heap.size 47 i0 _ 2 40 Tryz.underlying41 hi hz0 hz1 hz2 rfl (by decide) _ _ _ rfl (((ownM_below HO7.out HB4.out).alloc _).alloc _) (w4.heap.size + 1 + 1) _ _ _ [.slice (some ⟨g4, 0, none⟩) 2 2, .complex .f64 4607182418800017408 0] rfl ⟨rfl, fun _ => ⟨_, rfl, Nat.lt_succ_self _, World.news_of_block (by have h := heap_alloc_new (w4.alloc (.cells #[.string ⟨#[117]⟩, .slice (some ⟨g4, 0, none⟩) 2 2, .bool xrem] 28)) (.cells #[.slice (some ⟨g4, 0, none⟩) 2 2, .complex .f64 4607182418800017408 0] 47); simp only [World.size_alloc] at h; exact h)⟩⟩ ?c1 ?c2 ?c3 ?c4 ?_)
        case c1 => intro u hu; simp only [List.mem_cons, List.not_mem_nil, or_false] at hu; rcases hu with rfl | rfl <;> rfl
        case c2 => unfold maxLen; omega
        case c3 => omega
        case c4 => simp; omega
        intro v' w5 hown' hgrow hat
        have hgrow2 : (((w4.alloc (.cells #[.string ⟨#[117]⟩, .slice (some ⟨g4, 0, none⟩) 2 2, .bool xrem] 28)).alloc (.cells #[.slice (some ⟨g4, 0, none⟩) 2 2, .complex .f64 4607182418800017408 0] 47))).grownBy w5 u7.ownBlock := hgrow
        obtain ⟨x', ex'⟩ : ∃ x' : IM, x' = ⟨some ⟨g4, 0, none⟩, 2, r', 1⟩ := ⟨_, rfl⟩
        have hg4s : g4 < w4.heap.size := (Array.getElem?_eq_some_iff.1 HCE.out).1
        have hb4a : Below wo.heap.size wo (w4.alloc (.cells #[.string ⟨#[117]⟩, .slice (some ⟨g4, 0, none⟩) 2 2, .bool xrem] 28)) := HB4.out.alloc hs4 _
        have hxr : VRowS (w4.alloc (.cells #[.string ⟨#[117]⟩, .slice (some ⟨g4, 0, none⟩) 2 2, .bool xrem] 28)) (NewS wo (w4.alloc (.cells #[.string ⟨#[117]⟩, .slice (some ⟨g4, 0, none⟩) 2 2, .bool xrem] 28))) x'.A x'.r := by
          rw [ex']
          have hbk : Blk (w4.alloc (.cells #[.string ⟨#[117]⟩, .slice (some ⟨g4, 0, none⟩) 2 2, .bool xrem] 28)) g4 49 (flat r').toArray := Blk.alloc HCE.out _
          exact vals_of_blk hbk ⟨hg4, by simp; omega, fun o => Blk.frozen hbk o⟩
        obtain ⟨q1, q2, q3, q4⟩ := snoc_two (w2 := w3) (u := u7) (v' := v') (ol := ul) (pl := tl) (o2 := u6.ownBlock) (x' := x') (fun x hx => (HUR.out x hx).mono fun g h => ⟨h.1, h.2.2, h.2.1⟩) (fun x hx => (HTR.out x hx).mono fun g h => ⟨h.1, h.2.2, h.2.1⟩) HL7.out HL6.out (fun g h e => HNE.out g e h) hs HB.out hb4a hxr _ hgrow2 (by simpa using hat)
        have HO7' : Hid (w5.ownsRow w3.heap.size 47 2 v' (ul ++ [x']).length (flatM (ul ++ [x']))) := Lib.hid (by
          rw [flatM_append, flatM_one, List.length_append, ex']
          simp only [IM.cs, HR2.out, ht1]
          exact hown')
        have HO6' : Hid (w5.ownsRow w3.heap.size 47 2 u6 tl.length (flatM tl)) := Lib.hid (((ownM_below HO6.out hb4a).alloc _).kept hgrow2 (by
          cases ho : u6.ownBlock with
          | none => exact .inl rfl
          | some g => exact .inr fun e => HNE.out g ho e.symm))
        have HUI5 : Hid (its (ul ++ [x']) = partU (LK.take (k + 1))) := Lib.hid (by rw [its_append, ← HUI2.out, ex']; rfl)
        have hul5 : (ul ++ [x']).length ≤ k + 1 := by rw [List.length_append]; simp only [List.length_cons, List.length_nil]; omega
        have HUR5 : Hid (∀ x ∈ ul ++ [x'], VRowS w5 (fun g => NewS w3 w5 g ∧ u6.ownBlock ≠ some g ∧ v'.ownBlock ≠ some g) x.A x.r) := Lib.hid (fun x hx => (q1 x hx).mono fun g h => ⟨h.1, h.2.2, h.2.1⟩)
        have HTR5 : Hid (∀ x ∈ tl, VRowS w5 (fun g => NewS w3 w5 g ∧ u6.ownBlock ≠ some g ∧ v'.ownBlock ≠ some g) x.A x.r) := Lib.hid (fun x hx => (q2 x hx).mono fun g h => ⟨h.1, h.2.2, h.2.1⟩)
        have HB5 := Lib.hid q3
        have HNE5 : Hid (∀ g, u6.ownBlock = some g → v'.ownBlock ≠ some g) := Lib.hid (fun g h e => q4 g e h)
        generalize ul ++ [x'] = ul5 at HO7' HUI5 hul5 HUR5
        clear hown' hgrow hgrow2 hat hb4a hxr q1 q2 q3 q4 ex' HCE HB4 HO6 HO7 HB HUR HTR HNE HL6 HL7 HUI2
        go_wp2_with fail
        go_roundw
        case rel => exact ⟨k + 1, tl, ul5, by omega, by omega, by go_num, HO6'.out, HO7'.out, HB5.out, HNE5, HTR5, HUR5, HTI2, HUI5, by omega, hul5⟩
        case measure => simp [intOf]; omega
      · obtain ⟨hnm', hr'⟩ := HIS.out.1 hT
        subst hnm'
        have HUI2 : Hid (its ul = partU (LK.take (k + 1))) := Lib.hid (by rw [(HST.out.1 hT).2, HUI.out])
        have HTI2 : Hid (its tl ++ [(r', 1)] = partT (LK.take (k + 1))) := Lib.hid (by
          rw [(HST.out.1 hT).1, HTI.out]
          unfold tameI
          simp only [HKK.out])
        have HR2 := Lib.hid hr'
        rw [hr'] at HTM
        clear hr' hT HIS HST HKK HTI HUI
        unfold nmT at HTM
        go_wp2_with fail
        refine (HTM.out _ HBW.out).mono ?_
        rintro e w4 ⟨g4, rfl, hg4, hcells, hb4⟩
        have HB4 := Lib.hid hb4
        have hs4 := hb4.size
        have HCE := Lib.hid hcells
        clear hb4 hcells HTM
        go_wp2_with (at_builtin; refine wpList_append_any _ rfl _ _ 41 rfl w3.heap.size 47 i0 _ 2 40 Tryz.underlying41 hi hz0 hz1 hz2 rfl (by decide) _ _ _ rfl (((ownM_below HO6.out HB4.out).alloc _).alloc _) (w4.heap.size + 1 + 1) _ _ _ [.slice (some ⟨g4, 0, none⟩) 3 3, .complex .f64 4607182418800017408 0] rfl ⟨rfl, fun _ => ⟨_, rfl, Nat.lt_succ_self _, World.news_of_block (by have h := heap_alloc_new (w4.alloc (.cells #[.string ⟨#[116]⟩, .slice (some ⟨g4, 0, none⟩) 3 3, .bool xrem] 28)) (.cells #[.slice (some ⟨g4, 0, none⟩) 3 3, .complex .f64 4607182418800017408 0] 47); simp only [World.size_alloc] at h; exact h)⟩⟩ ?c1 ?c2 ?c3 ?c4 ?_)
        case c1 => intro u hu; simp only [List.mem_cons, List.not_mem_nil, or_false] at hu; rcases hu with rfl | rfl <;> rfl
        case c2 => unfold maxLen; omega
        case c3 => omega
        case c4 => simp; omega
        intro v' w5 hown' hgrow hat
        have hgrow2 : (((w4.alloc (.cells #[.string ⟨#[116]⟩, .slice (some ⟨g4, 0, none⟩) 3 3, .bool xrem] 28)).alloc (.cells #[.slice (some ⟨g4, 0, none⟩) 3 3, .complex .f64 4607182418800017408 0] 47))).grownBy w5 u6.ownBlock := hgrow
        obtain ⟨x', ex'⟩ : ∃ x' : IM, x' = ⟨some ⟨g4, 0, none⟩, 3, r', 1⟩ := ⟨_, rfl⟩
        have hg4s : g4 < w4.heap.size := (Array.getElem?_eq_some_iff.1 HCE.out).1
        have hb4a : Below wo.heap.size wo (w4.alloc (.cells #[.string ⟨#[116]⟩, .slice (some ⟨g4, 0, none⟩) 3 3, .bool xrem] 28)) := HB4.out.alloc hs4 _
        have hxr : VRowS (w4.alloc (.cells #[.string ⟨#[116]⟩, .slice (some ⟨g4, 0, none⟩) 3 3, .bool xrem] 28)) (NewS wo (w4.alloc (.cells #[.string ⟨#[116]⟩, .slice (some ⟨g4, 0, none⟩) 3 3, .bool xrem] 28))) x'.A x'.r := by
          rw [ex']
          have hbk : Blk (w4.alloc (.cells #[.string ⟨#[116]⟩, .slice (some ⟨g4, 0, none⟩) 3 3, .bool xrem] 28)) g4 49 (flat r').toArray := Blk.alloc HCE.out _
          exact vals_of_blk hbk ⟨hg4, by simp; omega, fun o => Blk.frozen hbk o⟩
        obtain ⟨q1, q2, q3, q4⟩ := snoc_two (w2 := w3) (u := u6) (v' := v') (ol := tl) (pl := ul) (o2 := u7.ownBlock) (x' := x') HTR.out HUR.out HL6.out HL7.out HNE.out hs HB.out hb4a hxr _ hgrow2 (by simpa using hat)
        have HO6' : Hid (w5.ownsRow w3.heap.size 47 2 v' (tl ++ [x']).length (flatM (tl ++ [x']))) := Lib.hid (by
          rw [flatM_append, flatM_one, List.length_append, ex']
          simp only [IM.cs, HR2.out, ht1]
          exact hown')
        have HO7' : Hid (w5.ownsRow w3.heap.size 47 2 u7 ul.length (flatM ul)) := Lib.hid (((ownM_below HO7.out hb4a).alloc _).kept hgrow2 (by
          cases ho : u7.ownBlock with
          | none => exact .inl rfl
          | some g => exact .inr fun e => HNE.out g e.symm ho))
        have HTI5 : Hid (its (tl ++ [x']) = partT (LK.take (k + 1))) := Lib.hid (by rw [its_append, ← HTI2.out, ex']; rfl)
        have htl5 : (tl ++ [x']).length ≤ k + 1 := by rw [List.length_append]; simp only [List.length_cons, List.length_nil]; omega
        have HTR5 : Hid (∀ x ∈ tl ++ [x'], VRowS w5 (fun g => NewS w3 w5 g ∧ v'.ownBlock ≠ some g ∧ u7.ownBlock ≠ some g) x.A x.r) := Lib.hid q1
        have HUR5 : Hid (∀ x ∈ ul, VRowS w5 (fun g => NewS w3 w5 g ∧ v'.ownBlock ≠ some g ∧ u7.ownBlock ≠ some g) x.A x.r) := Lib.hid q2
        have HB5 := Lib.hid q3
        have HNE5 : Hid (∀ g, v'.ownBlock = some g → u7.ownBlock ≠ some g) := Lib.hid q4
        generalize tl ++ [x'] = tl5 at HO6' HTI5 htl5 HTR5
        clear hown' hgrow hgrow2 hat hb4a hxr q1 q2 q3 q4 ex' HCE HB4 HO6 HO7 HB HUR HTR HNE HL6 HL7 HTI2
        go_wp2_with fail
        go_roundw
        case rel => exact ⟨k + 1, tl5, ul, by omega, by omega, by go_num, HO6'.out, HO7'.out, HB5.out, HNE5, HTR5, HUR5, HTI5, HUI2, htl5, by omega⟩
        case measure => simp [intOf]; omega
    · have hkl : k = 20 ∨ k = ln := by
        have h1 := Bool.and_eq_false_iff.1 hq
        rcases h1 with h1 | h1
        · have := of_decide_eq_false h1; omega
        · have := of_decide_eq_false h1; omega
      clear hq
      have hLl : LK.length = ln := by rw [← HLK.out, List.length_map, HLN.out]
      have htk : LK.take k = LK.take 20 := by
        rcases hkl with h | h
        · rw [h]
        · rw [List.take_of_length_le (by omega), List.take_of_length_le (by omega)]
      have HTF : Hid (its tl = partT (LK.take 20)) := Lib.hid (by rw [← htk]; exact HTI.out)
      have HUF : Hid (its ul = partU (LK.take 20)) := Lib.hid (by rw [← htk]; exact HUI.out)
      clear htk hLl hkl HTI HUI
      go_upto_if 46 with (fail)
      go_cut [7] (fun v7 wx => ∃ ul2 : List IM, wx.ownsRow w3.heap.size 47 2 v7 ul2.length (flatM ul2) ∧ RowKit.Below w3.heap.size w3 wx ∧ wx.ownsRow w3.heap.size 47 2 u6 tl.length (flatM tl) ∧ (∀ x ∈ tl, VRowS wx (fun g => NewS w3 wx g ∧ u6.ownBlock ≠ some g ∧ v7.ownBlock ≠ some g) x.A x.r) ∧ (∀ x ∈ ul2, VRowS wx (fun g => NewS w3 wx g ∧ u6.ownBlock ≠ some g ∧ v7.ownBlock ≠ some g) x.A x.r) ∧ its ul2 = partU (LK.take 20) ++ moreU n ∧ ul2.length ≤ 21)
      case first =>
        by_cases hn0 : 0 < n
        · have HMU : Hid (moreU n = [([numV 7, numV 7], n)]) := Lib.hid (by unfold moreU; rw [if_pos hn0])
          go_wp2_with fail
          refine (nums_any wo.heap.size 0 2 [7, 7] 2 rfl (by omega) _ (by simp) (fun k hk => ?nc)).mono ?_
          case nc =>
            match k, hk with
            | 0, _ => simp
            | 1, _ => simp
          rintro e w4 ⟨v4, rfl, hown4, hb4⟩
          obtain ⟨g4, cap4, rfl, hcap4, hg4, hg4s, hVA, hfz⟩ := own_full hown4 rfl (by decide)
          have HVA := Lib.hid hVA
          have HFZ := Lib.hid hfz
          have hb4' : RowKit.Below wo.heap.size wo w4 := ((Below.refl wo.heap.size wo).alloc (Nat.le_refl _) _).trans (hb4.mono (by simp))
          have HB4 := Lib.hid hb4'
          have hs4 := hb4'.size
          have hg4' : wo.heap.size ≤ g4 := by simp at hg4; omega
          clear hown4 hb4 hVA hfz hb4' hg4
          go_wp2_with fail
          refine (keep_one n (some ⟨g4, 0, none⟩) 2 cap4 _ (by omega) (by omega)).mono ?_
          rintro e w' ⟨rfl, rfl⟩
          go_wp2_with (at_builtin; refine wpList_append_two _ rfl _ _ 41 42 47 Tryz.underlying42 rfl w3.heap.size 47 i0 _ 2 40 Tryz.underlying41 hi hz0 hz1 hz2 rfl (by decide) _ _ _ rfl ((ownM_below HO7.out HB4.out).alloc _) (w4.heap.size + 1) _ _ _ [.slice (some ⟨g4, 0, none⟩) 2 cap4, tal n] rfl ⟨rfl, fun _ => ⟨_, rfl, Nat.lt_succ_self _, World.news_of_block (heap_alloc_new w4 _)⟩⟩ ?c1 ?c2 ?c3 ?c4 ?_)
          case c1 => intro u hu; simp only [List.mem_cons, List.not_mem_nil, or_false] at hu; rcases hu with rfl | rfl <;> rfl
          case c2 => unfold maxLen; omega
          case c3 => omega
          case c4 => simp; omega
          intro v' w5 hown' hgrow hat
          obtain ⟨x', ex'⟩ : ∃ x' : IM, x' = ⟨some ⟨g4, 0, none⟩, cap4, [numV 7, numV 7], n⟩ := ⟨_, rfl⟩
          obtain ⟨q1, q2, q3, q4⟩ := snoc_two (w2 := w3) (u := u7) (v' := v') (ol := ul) (pl := tl) (o2 := u6.ownBlock) (x' := x') (fun x hx => (HUR.out x hx).mono fun g h => ⟨h.1, h.2.2, h.2.1⟩) (fun x hx => (HTR.out x hx).mono fun g h => ⟨h.1, h.2.2, h.2.1⟩) HL7.out HL6.out (fun g h e => HNE.out g e h) hs HB.out HB4.out (by rw [ex']; exact .inr ⟨g4, 0, rfl, ⟨hg4', hg4s, HFZ.out⟩, HVA.out⟩) _ hgrow (by simpa using hat)
          have HO7' : Hid (w5.ownsRow w3.heap.size 47 2 v' (ul ++ [x']).length (flatM (ul ++ [x']))) := Lib.hid (by
            rw [flatM_append, flatM_one, List.length_append, ex']
            exact hown')
          have HO6' : Hid (w5.ownsRow w3.heap.size 47 2 u6 tl.length (flatM tl)) := Lib.hid (((ownM_below HO6.out HB4.out).alloc _).kept hgrow (by
            cases ho : u6.ownBlock with
            | none => exact .inl rfl
            | some g => exact .inr fun e => HNE.out g ho e.symm))
          have HUI5 : Hid (its (ul ++ [x']) = partU (LK.take 20) ++ moreU n) := Lib.hid (by rw [its_append, HUF.out, HMU.out, ex']; rfl)
          have hul5 : (ul ++ [x']).length ≤ 21 := by rw [List.length_append]; simp only [List.length_cons, List.length_nil]; omega
          have HUR5 : Hid (∀ x ∈ ul ++ [x'], VRowS w5 (fun g => NewS w3 w5 g ∧ u6.ownBlock ≠ some g ∧ v'.ownBlock ≠ some g) x.A x.r) := Lib.hid (fun x hx => (q1 x hx).mono fun g h => ⟨h.1, h.2.2, h.2.1⟩)
          have HTR5 : Hid (∀ x ∈ tl, VRowS w5 (fun g => NewS w3 w5 g ∧ u6.ownBlock ≠ some g ∧ v'.ownBlock ≠ some g) x.A x.r) := Lib.hid (fun x hx => (q2 x hx).mono fun g h => ⟨h.1, h.2.2, h.2.1⟩)
          have HB5 := Lib.hid q3
          generalize ul ++ [x'] = ul5 at HO7' HUI5 hul5 HUR5
          clear hown' hgrow hat q1 q2 q3 q4 ex' HB4
          go_wp2_with fail
          go_meet
          exact ⟨ul5, HO7'.out, HB5.out, HO6'.out, HTR5.out, HUR5.out, HUI5.out, hul5⟩
        · have HMU : Hid (moreU n = []) := Lib.hid (by unfold moreU; rw [if_neg hn0])
          go_wp2_with fail
          go_meet
          exact ⟨ul, HO7.out, HB.out, HO6.out, HTR.out, HUR.out, by rw [HMU.out, List.append_nil]; exact HUF.out, by omega⟩
      case rest =>
      obtain ⟨ul2, ho7, hbx, ho6, htr, hur, hui, hul2⟩ := hcut
      rename World => wx
      obtain ⟨A7, c7, rfl, hc7, hS7⟩ := own_items (S := NewS w3 wx) ho7 (fun g h1 h2 h3 => ⟨h1, h2, h3⟩) (fun x hx => (hur x hx).mono fun g hg => hg.1)
      obtain ⟨A6, c6, rfl, hc6, hS6⟩ := own_items (S := NewS w3 wx) ho6 (fun g h1 h2 h3 => ⟨h1, h2, h3⟩) (fun x hx => (htr x hx).mono fun g hg => hg.1)
      have HBX := Lib.hid hbx
      have hsx := hbx.size
      have HUI2 := Lib.hid hui
      have HS6 := Lib.hid hS6
      have hv7 : vol (its ul2) ≤ 200 := by
        rw [hui, vol_append]
        have h1 := partU_vol (LK.take 20)
        have h2 : (LK.take 20).length ≤ 20 := by rw [List.length_take]; omega
        have h3 : vol (moreU n) ≤ 100 := by
          unfold moreU
          split
          · simp only [vol]; omega
          · simp [vol]
        omega
      have hv6 : vol (its tl) ≤ 200 := by
        rw [HTF.out]
        have h1 := partT_vol (LK.take 20)
        have h2 : (LK.take 20).length ≤ 20 := by rw [List.length_take]; omega
        omega
      have hmu := Lib.hid (rmake_any A7 c7 ul2 wx hS7 (fun k hk => hk.2.1) (by omega) (fun x hx => by
        have : x.it ∈ partU (LK.take 20) ++ moreU n := by rw [← hui]; exact List.mem_map.2 ⟨x, hx, rfl⟩
        exact (partU_ok n _ _ this).1) (by omega))
      have hmt := Lib.hid (fun w1 (hk : ∀ k, NewS w3 wx k → w1.heap[k]? = wx.heap[k]?) (hsz : wx.heap.size ≤ w1.heap.size) => rmake_any A6 c6 tl w1 (S := fun k => k < w1.heap.size) ((HS6.out.kept hk).mono fun k hk => Nat.lt_of_lt_of_le hk.2.1 hsz) (fun k hk => hk) (by omega) (fun x hx => by
        have : x.it ∈ partT (LK.take 20) := by rw [← HTF.out]; exact List.mem_map.2 ⟨x, hx, rfl⟩
        exact (partT_ok _ _ this).1) (by omega))
      generalize hun : ul2.length = un at hmu hul2 ⊢
      generalize htn : tl.length = tn at hmt htl ⊢
      clear ho7 ho6 htr hur hui hS7 hS6 hbx hc7 hc6 HO6 HO7 HB HUR HTR HNE HL6 HL7 hun htn
      go_wp2_with fail
      refine hmu.out.mono ?_
      rintro e w5 ⟨⟨A8, c8, s8, rfl, hset8⟩, hb5⟩
      have HB5 := Lib.hid hb5
      have HS8 := Lib.hid hset8
      have hs5 := hb5.size
      have hO5 : Blk w5 (w.heap.size + 1 + 1) 44 _ := HBO.out.below (HBX.out.trans (hb5.mono hsx)) (by omega)
      have hz2c := hO5.cell 2
      have hz2f := hO5.frozen 2
      have HO5 := Lib.hid hO5
      have hm9 := Lib.hid (fun u => hmt.out (w5.setCell ⟨w.heap.size + 1 + 1, 2, none⟩ u) (fun k hk => (Below.heap_setCell w5 ⟨w.heap.size + 1 + 1, 2, none⟩ u k (by have := hk.1; show k ≠ w.heap.size + 1 + 1; omega)).trans (HB5.out.block k hk.2.1)) (by rw [setCell_size']; exact hs5))
      clear hb5 hset8 hmu hmt hO5
      simp only [List.getElem?_toArray, List.getElem?_cons_succ, List.getElem?_cons_zero] at hz2c
      go_wp2_with fail
      refine (hm9.out _).mono ?_
      rintro e w6 ⟨⟨A9, c9, s9, rfl, hset9⟩, hb6⟩
      have HB6 := Lib.hid hb6
      have HS9 := Lib.hid hset9
      have hO6 := (Blk.set_ HO5.out 2 (.slice A8 s8.length c8)).below hb6 (by rw [setCell_size']; omega)
      have hz5c : w6.cell? ⟨w.heap.size + 1 + 1, 5, none⟩ = some (.slice none 0 0) := (hO6.cell 5).trans rfl
      have hz5f := hO6.frozen 5
      clear hb6 hset9 hm9 hO6 hz2c hz2f
      go_wp2_with fail
      go_ret
      obtain ⟨r1, r2⟩ := tabs_end hs3 HW3.out HBU.out HBT.out HBO.out HBX.out HS8.out HB5.out HS9.out HB6.out HUI2.out HTF.out
      exact ⟨⟨_, rfl, r1⟩, r2⟩
end Go.Proofs.YtajnnkapgnmoaaaGreat
/-
  Rows of changes of the call's own; what Tame gives, appended.
-/
set_option linter.unusedVariables false
namespace Go.Proofs.YtajnnkapgnmoaaaGreat
open Go.RowKit

theorem change_info : (Tryz.prog.info? 28).map (fun i => (i.zero, i.size, i.bytes)) = some (some (.agg #[.string ByteArray.empty, .slice none 0 0, .bool false]), 3, 48) := by kernel_rfl
def CM.cs (x : CM) : List Value := [.string x.nm, .slice x.A x.r.length x.c, .bool x.rem]
def flatK (l : List CM) : List Value := l.flatMap CM.cs
theorem flatK_len (l : List CM) : (flatK l).length = l.length * 3 := by
  induction l with
  | nil => rfl
  | cons v l ih => show ((CM.cs v) ++ flatK l).length = _; simp [ih, CM.cs]; omega
theorem flatK_one (v : CM) : flatK [v] = CM.cs v := by simp [flatK]
theorem flatK_append (a b : List CM) : flatK (a ++ b) = flatK a ++ flatK b := by simp [flatK]
theorem flatK_get (l : List CM) : ∀ (i : Nat) (v : CM), l[i]? = some v → (flatK l)[i * 3]? = some (.string v.nm) ∧ (flatK l)[i * 3 + 1]? = some (.slice v.A v.r.length v.c) ∧ (flatK l)[i * 3 + 2]? = some (.bool v.rem) := by
  induction l with
  | nil => intro i v h; simp at h
  | cons x l ih =>
    intro i v h
    have e : flatK (x :: l) = CM.cs x ++ flatK l := rfl
    rw [e]
    cases i with
    | zero =>
      obtain rfl : x = v := by simpa using h
      exact ⟨rfl, rfl, rfl⟩
    | succ i =>
      have := ih i v (by simpa using h)
      have hl : (CM.cs x).length = 3 := rfl
      rw [List.getElem?_append_right (by omega), List.getElem?_append_right (by omega), List.getElem?_append_right (by omega), hl]
      rw [show (i + 1) * 3 - 3 = i * 3 from by omega, show (i + 1) * 3 + 1 - 3 = i * 3 + 1 from by omega, show (i + 1) * 3 + 2 - 3 = i * 3 + 2 from by omega]
      exact this
theorem own_chs {w : World} {S : Nat → Prop} {base : Nat} {e : TypeId} {v : Value} {l : List CM} (h : w.ownsRow base e 3 v l.length (flatK l)) (hS : ∀ g, base ≤ g → g < w.heap.size → (∀ o, w.frozen? ⟨g, o, none⟩ = false) → S g) (hr : ∀ t ∈ l, VRowS w S t.A t.r) :
    ∃ A c, v = .slice A l.length c ∧ l.length ≤ c ∧ ChRow w S A l := by
  obtain ⟨_, hcase⟩ := id h
  rcases hcase with ⟨rfl, h0⟩ | ⟨g, cap, cur, rfl, hg, hh, hn, hcap, hsz, htake⟩
  · exact ⟨none, 0, by rw [h0], by omega, .inl (List.eq_nil_of_length_eq_zero h0), hr⟩
  · have hlt : g < w.heap.size := (Array.getElem?_eq_some_iff.1 hh).1
    refine ⟨some ⟨g, 0, none⟩, cap, rfl, hn, .inr ⟨g, 0, rfl, hS g hg hlt (fun o => h.frozenAt o), ?_⟩, hr⟩
    intro i x hx
    obtain ⟨f1, f2, f3⟩ := flatK_get l i x hx
    have hi : i < l.length := (List.getElem?_eq_some_iff.1 hx).1
    rw [Nat.zero_add, h.cellAt _ (by omega), h.cellAt _ (by omega), h.cellAt _ (by omega)]
    exact ⟨f1, f2, f3⟩
/-- a change, tamed -/
def tameC (x : CM) (rem : Bool) : Ch := ⟨(tameK x.nm x.r).1, (tameK x.nm x.r).2, rem⟩
theorem tameC_good (x : CM) (rem : Bool) : GoodC (tameC x rem) := tame_good x.nm x.r
def toI (x : CM) : IM := ⟨x.A, x.c, x.r, 0⟩
/-- the bounds of changes that came in -/
structure ChIn (w : World) (A : Option Addr) (l : List CM) : Prop where
  row : ChRow w (fun k => k < w.heap.size) A l
  len : l.length ≤ 9223372036854775807
  nm : ∀ x ∈ l, x.nm.size ≤ 9223372036854775807
  vs : ∀ x ∈ l, ∀ y ∈ x.r, y.s.size ≤ 9223372036854775807
theorem ChIn.tables {w w1 : World} {A : Option Addr} {l : List CM} (h : ChIn w A l) (hb : Below w.heap.size w w1) (n : Int) (hn1 : -1000 ≤ n) (hn2 : n ≤ 100) (c : Nat) :
    Calls Tryz.prog 11 #[.int .i64 n, .slice A l.length c] w1 fun e w' => (∃ v, e = .returned v ∧ TabsRet w1 (tabsK n (l.map CM.ch)) w' v) ∧ Below w1.heap.size w1 w' :=
  tables_any n hn1 hn2 A c l w1 (S := fun k => k < w1.heap.size) ((h.row.below hb (fun k hk => hk)).mono fun k hk => Nat.lt_of_lt_of_le hk hb.size) (fun k hk => hk) h.len h.nm h.vs
theorem ChIn.tame {w w1 : World} {A : Option Addr} {l : List CM} (h : ChIn w A l) {x : CM} (hx : x ∈ l) (hb : Below w.heap.size w w1) :
    Calls Tryz.prog 9 #[.agg #[.string x.nm, .slice x.A x.r.length x.c, .bool x.rem]] w1 (TameRet x.nm x.r x.rem w1) :=
  tame_any x.nm x.A x.c x.r x.rem w1 (((h.row.rows x hx).to (B := w.heap.size) (fun k hk => hk)).below hb |>.more hb.size) (h.nm x hx) (h.vs x hx)
theorem tameK_len (nm : ByteArray) (r : List V) : (tameK nm r).2.length ≤ 3 := by
  unfold tameK
  split <;> simp
/-- the tables that law 16 makes, in a later world -/
theorem TabsRet.get2 {w w' : World} {n : Int} {l : List Ch} {v : Value} (h : TabsRet w (tabsK n l) w' v) : ∃ (g : Nat) (t0 t1 : TM), v = .slice (some ⟨g, 0, none⟩) 2 2 ∧ TRow w' (fun k => w.heap.size ≤ k ∧ k < w'.heap.size) (some ⟨g, 0, none⟩) [t0, t1] ∧ t0.key = (nmU, uC, setOf (partU (l.take 20) ++ moreU n)) ∧ t1.key = (nmT, tC, setOf (partT (l.take 20))) ∧ t0.cols.length ≤ t0.cc ∧ t1.cols.length ≤ t1.cc := by
  obtain ⟨g, s, rfl, hT, hk, hc⟩ := h
  match s, hk with
  | [t0, t1], hk =>
    simp only [tabsK, List.map_cons, List.map_nil, List.cons.injEq, and_true] at hk
    exact ⟨g, t0, t1, rfl, hT, hk.1, hk.2, hc t0 (by simp), hc t1 (by simp)⟩
  | [], hk => simp [tabsK] at hk
  | [t0], hk => simp [tabsK] at hk
  | t0 :: t1 :: t2 :: s, hk => simp [tabsK] at hk
theorem TabsRet.get {w w' : World} {n : Int} {l : List Ch} {v : Value} (h : TabsRet w (tabsK n l) w' v) : ∃ (g : Nat) (t0 t1 : TM), v = .slice (some ⟨g, 0, none⟩) 2 2 ∧ TRow w' (fun k => w.heap.size ≤ k ∧ k < w'.heap.size) (some ⟨g, 0, none⟩) [t0, t1] ∧ t0.key = (nmU, uC, setOf (partU (l.take 20) ++ moreU n)) ∧ t1.key = (nmT, tC, setOf (partT (l.take 20))) := by
  obtain ⟨g, t0, t1, h1, h2, h3, h4, _⟩ := h.get2
  exact ⟨g, t0, t1, h1, h2, h3, h4⟩
end Go.Proofs.YtajnnkapgnmoaaaGreat
/-
  Two growing rows of changes, beside a box: what a round leaves. No program in sight.
-/
set_option linter.unusedVariables false
namespace Go.Proofs.YtajnnkapgnmoaaaGreat
open Go.RowKit

theorem own_of_block {w w' : World} {base z n : Nat} {e : TypeId} {v : Value} {xs : List Value} (h : w.ownsRow base e z v n xs) (hk : ∀ g, v.ownBlock = some g → w'.heap[g]? = w.heap[g]?) : w'.ownsRow base e z v n xs := by
  refine ⟨h.1, ?_⟩
  rcases h.2 with hn | ⟨g, cap, cur, rfl, hb, hgg, rest⟩
  · exact .inl hn
  · exact .inr ⟨g, cap, cur, rfl, hb, (hk g rfl).trans hgg, rest⟩
def RTwo (w1 w : World) (u6 u7 : Value) (g : Nat) : Prop := NewS w1 w g ∧ u6.ownBlock ≠ some g ∧ u7.ownBlock ≠ some g
theorem two_keep {w4 w5 w7 : World} {u6 u7 : Value} {o1 o2 o3 : Obj} {bv : Value} (g5 : ((w4.alloc o1).alloc o2).grownBy w5 u6.ownBlock) (g7 : ((w5.setCell ⟨w4.heap.size, 2, none⟩ bv).alloc o3).grownBy w7 u7.ownBlock) {g : Nat} (hg : g < w4.heap.size) (h6 : u6.ownBlock ≠ some g) (h7 : u7.ownBlock ≠ some g) : w7.heap[g]? = w4.heap[g]? := by
  have s5 := g5.size
  simp only [World.size_alloc] at s5
  have e5 : w5.heap[g]? = w4.heap[g]? := ((g5.block g (by simp only [World.size_alloc]; omega) fun e => h6 e.symm).trans (Below.heap_alloc _ _ g (by simp only [World.size_alloc]; omega))).trans (Below.heap_alloc _ _ g hg)
  have e6 : (w5.setCell ⟨w4.heap.size, 2, none⟩ bv).heap[g]? = w5.heap[g]? := Below.heap_setCell w5 _ bv g (by show g ≠ w4.heap.size; omega)
  have hsz := setCell_size' w5 ⟨w4.heap.size, 2, none⟩ bv
  exact ((g7.block g (by simp only [World.size_alloc, hsz]; omega) fun e => h7 e.symm).trans (Below.heap_alloc _ _ g (by rw [hsz]; omega))).trans (e6.trans e5)
theorem two_own7 {wo w4 w5 : World} {u6 u7 : Value} {o1 o2 o3 : Obj} {bv : Value} (hb4 : Below wo.heap.size wo w4) (l7 : ∀ g, u7.ownBlock = some g → g < wo.heap.size) (hne : ∀ g, u6.ownBlock = some g → u7.ownBlock ≠ some g)
    (g5 : ((w4.alloc o1).alloc o2).grownBy w5 u6.ownBlock) {base z n : Nat} {e : TypeId} {xs : List Value} (h : wo.ownsRow base e z u7 n xs) : ((w5.setCell ⟨w4.heap.size, 2, none⟩ bv).alloc o3).ownsRow base e z u7 n xs := by
  have s5 := g5.size
  have s4 := hb4.size
  simp only [World.size_alloc] at s5
  refine own_of_block h fun g hg => ?_
  have hgl := l7 g hg
  have hsz := setCell_size' w5 ⟨w4.heap.size, 2, none⟩ bv
  refine (Below.heap_alloc _ _ g (by rw [hsz]; omega)).trans ((Below.heap_setCell w5 _ bv g (by show g ≠ w4.heap.size; omega)).trans ?_)
  exact (((g5.block g (by simp only [World.size_alloc]; omega) fun e => hne g e.symm hg).trans (Below.heap_alloc _ _ g (by simp only [World.size_alloc]; omega))).trans (Below.heap_alloc _ _ g (by omega))).trans (hb4.block g hgl)
theorem two_round {w1 wo w4 w5 w7 : World} {u6 u7 v6 v7 : Value} {sl bl : List CM} {x y : CM} {o1 o2 o3 : Obj} {bv : Value} (hs : w1.heap.size ≤ wo.heap.size) (hb1 : Below w1.heap.size w1 wo) (hb4 : Below wo.heap.size wo w4)
    (hor : ∀ z ∈ sl, VRowS wo (RTwo w1 wo u6 u7) z.A z.r) (hbr : ∀ z ∈ bl, VRowS wo (RTwo w1 wo u6 u7) z.A z.r)
    (l6 : ∀ g, u6.ownBlock = some g → w1.heap.size ≤ g ∧ g < wo.heap.size) (l7 : ∀ g, u7.ownBlock = some g → w1.heap.size ≤ g ∧ g < wo.heap.size) (hne : ∀ g, u6.ownBlock = some g → u7.ownBlock ≠ some g)
    (hx : VRowS w4 (NewS wo w4) x.A x.r) (hyA : y.A = x.A) (hyr : y.r = x.r)
    (g5 : ((w4.alloc o1).alloc o2).grownBy w5 u6.ownBlock) (a5 : v6.ownBlock = u6.ownBlock ∨ v6.ownBlock = some (w4.heap.size + 1 + 1))
    (g7 : ((w5.setCell ⟨w4.heap.size, 2, none⟩ bv).alloc o3).grownBy w7 u7.ownBlock) (a7 : v7.ownBlock = u7.ownBlock ∨ v7.ownBlock = some (w5.heap.size + 1)) :
    (∀ z ∈ sl ++ [x], VRowS w7 (RTwo w1 w7 v6 v7) z.A z.r) ∧ (∀ z ∈ bl ++ [y], VRowS w7 (RTwo w1 w7 v6 v7) z.A z.r) ∧ Below w1.heap.size w1 w7 ∧ (∀ g, v6.ownBlock = some g → v7.ownBlock ≠ some g) ∧
      ∀ {base z n : Nat} {e : TypeId} {xs : List Value}, w5.ownsRow base e z v6 n xs → w7.ownsRow base e z v6 n xs := by
  have s4 := hb4.size
  have s5 := g5.size
  have s7 := g7.size
  have hsz := setCell_size' w5 ⟨w4.heap.size, 2, none⟩ bv
  simp only [World.size_alloc, hsz] at s5 s7
  have n6 : ∀ g, g < w4.heap.size → u6.ownBlock ≠ some g → v6.ownBlock ≠ some g := fun g hg h e => by
    rcases a5 with q | q
    · exact h (q ▸ e)
    · rw [q] at e; have := Option.some.inj e; omega
  have n7 : ∀ g, g < w4.heap.size → u7.ownBlock ≠ some g → v7.ownBlock ≠ some g := fun g hg h e => by
    rcases a7 with q | q
    · exact h (q ▸ e)
    · rw [q] at e; have := Option.some.inj e; omega
  have hold : ∀ {A : Option Addr} {r : List V}, VRowS wo (RTwo w1 wo u6 u7) A r → VRowS w7 (RTwo w1 w7 v6 v7) A r := fun {A r} h => by
    have hk : ∀ g, RTwo w1 wo u6 u7 g → w7.heap[g]? = wo.heap[g]? := fun g hg => (two_keep g5 g7 (by have := hg.1.2.1; omega) hg.2.1 hg.2.2).trans (hb4.block g hg.1.2.1)
    refine (h.kept hk).mono fun g hg => ⟨⟨hg.1.1, by have := hg.1.2.1; omega, fun o => (frozen_of_block (hk g hg)).trans (hg.1.2.2 o)⟩, n6 g (by have := hg.1.2.1; omega) hg.2.1, n7 g (by have := hg.1.2.1; omega) hg.2.2⟩
  have hnew : VRowS w7 (RTwo w1 w7 v6 v7) x.A x.r := by
    have q6 : ∀ g, NewS wo w4 g → u6.ownBlock ≠ some g := fun g hg e => by have := (l6 g e).2; have := hg.1; omega
    have q7 : ∀ g, NewS wo w4 g → u7.ownBlock ≠ some g := fun g hg e => by have := (l7 g e).2; have := hg.1; omega
    have hk : ∀ g, NewS wo w4 g → w7.heap[g]? = w4.heap[g]? := fun g hg => two_keep g5 g7 hg.2.1 (q6 g hg) (q7 g hg)
    refine (hx.kept hk).mono fun g hg => ⟨⟨by have := hg.1; omega, by have := hg.2.1; omega, fun o => (frozen_of_block (hk g hg)).trans (hg.2.2 o)⟩, n6 g hg.2.1 (q6 g hg), n7 g hg.2.1 (q7 g hg)⟩
  refine ⟨fun z hz => ?_, fun z hz => ?_, ?_, fun g h6 h7 => ?_, fun {base z n e xs} h => ?_⟩
  · rcases List.mem_append.1 hz with hz | hz
    · exact hold (hor z hz)
    · rw [List.mem_singleton.1 hz]; exact hnew
  · rcases List.mem_append.1 hz with hz | hz
    · exact hold (hbr z hz)
    · rw [List.mem_singleton.1 hz, hyA, hyr]; exact hnew
  · have h1 := hb1.trans (hb4.mono hs)
    have h2 := ((h1.alloc (by omega) o1).alloc (by simp only [World.size_alloc]; omega) o2).grown g5 (by simp only [World.size_alloc]; omega) (fun g e => (l6 g e).1)
    have h3 := (h2.setCell (p := ⟨w4.heap.size, 2, none⟩) (by show w1.heap.size ≤ w4.heap.size; omega) bv).alloc (by rw [hsz]; omega) o3
    exact h3.grown g7 (by simp only [World.size_alloc, hsz]; omega) (fun g e => (l7 g e).1)
  · rcases a5 with q | q
    · rw [q] at h6
      have l := l6 g h6
      exact n7 g (by omega) (hne g h6) h7
    · rw [q] at h6
      have hg := Option.some.inj h6
      rcases a7 with r | r
      · rw [r] at h7; have := (l7 g h7).2; omega
      · rw [r] at h7; have := Option.some.inj h7; omega
  · have hlt := fun g hg => (h.lt g hg).2
    refine own_of_block h fun g hg => ?_
    have hgl := hlt g hg
    have hbox : g ≠ w4.heap.size := by
      rcases a5 with q | q
      · rw [q] at hg; have := (l6 g hg).2; omega
      · rw [q] at hg; have := Option.some.inj hg; omega
    have h7 : u7.ownBlock ≠ some g := by
      rcases a5 with q | q
      · rw [q] at hg; exact hne g hg
      · rw [q] at hg
        have := Option.some.inj hg
        intro e
        have := (l7 g e).2
        omega
    exact (g7.block g (by simp only [World.size_alloc, hsz]; omega) fun e => h7 e.symm).trans ((Below.heap_alloc _ _ g (by rw [hsz]; omega)).trans (Below.heap_setCell w5 _ bv g hbox))
end Go.Proofs.YtajnnkapgnmoaaaGreat
/-
  The reference's Total at a right set of nets not below 0.
-/
namespace Go.Proofs.YtajnnkapgnmoaaaGreat
open Go.RowKit Go.Sort

set_option maxHeartbeats 1000000 in
set_option maxRecDepth 100000 in
theorem rtotal_any (A : Option Addr) (c : Nat) (l : List IM) (w : World) {S : Nat → Prop} (hA : SRow w S A l) (hS : ∀ k, S k → k < w.heap.size) (hl : l.length ≤ 1073741824) (hk : SOk l) (hp : ∀ x ∈ l, 0 ≤ x.k) :
    Calls Tryz.prog 51 #[.slice A l.length c] w fun e w' => e = .returned (.tuple #[.int .i64 (vol (its l)), .bool true]) ∧ Below w.heap.size w w' := by
  have HRI := Lib.hid (fun w1 (hb : Below w.heap.size w w1) => rright_any A c l w1 (S := fun k => k < w1.heap.size) ((hA.below hb hS).mono fun k hk => Nat.lt_of_lt_of_le (hS k hk) hb.size) (fun k hk => hk) hl hk)
  obtain ⟨n, hn⟩ : ∃ n, l.length = n := ⟨_, rfl⟩
  have HN := Lib.hid hn
  have HA := Lib.hid hA
  have HS := Lib.hid hS
  have HK := Lib.hid hk
  have HP := Lib.hid hp
  rw [hn] at hl HRI ⊢
  clear hA hS hk hn hp
  go_enter Tryz.func51, Tryz.ntmps51
  have hri := Lib.hid (HRI.out w (Below.refl _ _))
  have HVL : Hid (∀ k, vol (its (l.take k)) ≤ 1125899906842624 ∧ 0 ≤ vol (its (l.take k))) := Lib.hid (fun k => ⟨by have h1 := vol_take_le l k; have h2 := HK.out.vol; omega, vol_nonneg _⟩)
  go_wp2_with (go_at_call 93; refine hri.out.mono ?_; rintro e w0 ⟨rfl, hb0⟩)
  have HB0 := Lib.hid hb0
  clear hb0 hri
  go_loopw [4, 5] (fun t i wr => ∃ k : Nat, k ≤ n ∧ i = .int .i64 k ∧ t = .int .i64 (vol (its (l.take k))) ∧ Below w.heap.size w wr) (fun _ i _ => n - (intOf i).toNat)
  case atStart => exact ⟨0, Nat.zero_le _, rfl, rfl, HB0.out⟩
  case round =>
    obtain ⟨k, hk, rfl, rfl, hb⟩ := hrel
    have HB := Lib.hid hb
    have hs := hb.size
    clear hb
    by_cases hlt : k < n
    · obtain ⟨x, hx⟩ : ∃ x, l[k]? = some x := ⟨_, List.getElem?_eq_getElem (by rw [HN.out]; exact hlt)⟩
      obtain ⟨b, off, rfl, hSb, hc1, hc2⟩ := (HA.out.below HB.out HS.out).get hx
      have hm := List.mem_of_getElem? hx
      have hnet := Lib.hid (fun w1 => rf_net (HK.out.okN hm) w1)
      have hge := HP.out x hm
      have hv1 := (HVL.out k).2
      have hv2 := (HVL.out (k + 1)).1
      have HE : Hid (vol (its (l.take (k + 1))) = vol (its (l.take k)) + x.k) := Lib.hid (by
        rw [its_take hx, vol_append]
        simp only [vol]
        omega)
      rw [HE.out] at hv2
      generalize vol (its (l.take k)) = V at hv1 hv2 HE ⊢
      generalize tal x.k = T at hc2 hnet
      generalize x.k = K at hnet hge hv2 HE
      have hw : IntKind.i64.wrap (V + K) = V + K := by rw [IntKind.wrap_i64]; omega
      have hd1 : decide (1125899906842624 < V + K) = false := decide_eq_false (by omega)
      have hd2 : decide (V + K < -1125899906842624) = false := decide_eq_false (by omega)
      clear hx hm hSb hc1
      go_wp2_with (go_at_call 94; refine (hnet.out _).mono ?_; rintro e w' ⟨rfl, rfl⟩)
      go_roundw
      case rel => exact ⟨k + 1, by omega, by go_num, by rw [HE.out], HB.out⟩
      case measure => simp [intOf]; omega
    · obtain rfl : k = n := by omega
      rw [List.take_of_length_le (by rw [HN.out]; exact Nat.le_refl _)]
      generalize hV : vol (its l) = V
      have HV := Lib.hid hV
      clear hV
      go_wp2_with fail
      go_ret2
      exact ⟨by rw [HV.out]; rfl, HB.out⟩
end Go.Proofs.YtajnnkapgnmoaaaGreat
/-
  The reference's Of: how often a row is there.
-/
namespace Go.Proofs.YtajnnkapgnmoaaaGreat
open Go.RowKit

set_option maxHeartbeats 2000000 in
set_option maxRecDepth 100000 in
theorem rof_any (A B : Option Addr) (c d : Nat) (l : List IM) (r : List V) (w : World) {S : Nat → Prop} (hA : SRow w S A l) (hS : ∀ k, S k → k < w.heap.size) (hl : l.length ≤ 1073741824) (hk : SOk l) (hB : VRow w w.heap.size B r) (hr : rowOk r = true) :
    Calls Tryz.prog 52 #[.slice A l.length c, .slice B r.length d] w fun e w' => e = .returned (tal (look (its l) r)) ∧ Below w.heap.size w w' := by
  have hrt := Lib.hid (rright_any A c l w hA hS hl hk)
  obtain ⟨n, hn⟩ : ∃ n, l.length = n := ⟨_, rfl⟩
  have HN := Lib.hid hn
  have HA := Lib.hid hA
  have HS := Lib.hid hS
  have HK := Lib.hid hk
  have HB0 := Lib.hid hB
  have HR := Lib.hid hr
  have hr6 := (rowOk_len hr).2
  obtain ⟨m, hm⟩ : ∃ m, r.length = m := ⟨_, rfl⟩
  have HM := Lib.hid hm
  rw [hn] at hl hrt ⊢
  rw [hm] at hr6 ⊢
  clear hA hS hk hn hB hr hm
  have hst := run_store_tal Tryz.prog
  have htz := tal_zero
  go_enter Tryz.func52, Tryz.ntmps52
  go_wp2_with (go_at_call 93; refine hrt.out.mono ?_; rintro e w1 ⟨rfl, hb1⟩)
  have HB1 := Lib.hid hb1
  clear hb1 hrt
  go_loopw [5] (fun i wr => ∃ k : Nat, k ≤ n ∧ i = .int .i64 k ∧ Below w.heap.size w wr ∧ Hid (look (its l) r = look (its (l.drop k)) r)) (fun i _ => n - (intOf i).toNat)
  case atStart => exact ⟨0, Nat.zero_le _, rfl, HB1.out, Lib.hid (by simp)⟩
  case round =>
    obtain ⟨k, hk, rfl, hb, HL⟩ := hrel
    have HB := Lib.hid hb
    have hs := hb.size
    clear hb
    by_cases hlt : k < n
    · obtain ⟨x, hx⟩ : ∃ x, l[k]? = some x := ⟨_, List.getElem?_eq_getElem (by rw [HN.out]; exact hlt)⟩
      obtain ⟨b, off, rfl, hSb, hc1, hc2⟩ := (HA.out.below HB.out HS.out).get hx
      have hm := List.mem_of_getElem? hx
      have hok := HK.out.row hm
      have hx6 := (rowOk_len hok).2
      have hXR := (HA.out.rows x hm).to HS.out
      have hq := Lib.hid (fun w3 (hb : Below w.heap.size w w3) => ref5_same x.A B x.c d x.r r (by omega) (by rw [HM.out]; omega) w3 ((hXR.below hb).more hb.size) ((HB0.out.below hb).more hb.size))
      rw [HM.out] at hq
      have HSR : Hid (rowSame x.r r = eqR x.r r) := Lib.hid (by
        have := (order_one hok HR.out).2
        simpa using this)
      rw [HSR.out] at hq
      have hvq := its_get hx
      have HD : Hid (look (its l) r = (if eqR x.r r = true then x.k else 0) + look (its (l.drop (k + 1))) r) := Lib.hid (by rw [HL.out, hvq]; rfl)
      have HE : Hid (eqR x.r r = true → look (its l) r = x.k) := Lib.hid (fun h => by
        have e := (eqR_iff _ _).1 h
        rw [← e]
        exact HK.out.set.toOrd.look_mem (List.mem_map.2 ⟨x, hm, rfl⟩))
      obtain ⟨xA, xc, xr, xk⟩ := x
      dsimp only at hc1 hc2 hq HD HE
      obtain ⟨xn, hxn⟩ : ∃ xn, xr.length = xn := ⟨_, rfl⟩
      rw [hxn] at hc1 hq
      clear hx hm hok hx6 hXR HSR hvq hxn hSb HL
      cases hqb : eqR xr r
      · rw [hqb] at hq HD
        clear hqb HE
        go_wp2_with (go_at_call 59; refine (hq.out _ HB.out).mono ?_; rintro e w3 ⟨rfl, hb3⟩)
        have HB3 := Lib.hid (HB.out.trans (hb3.mono hs))
        have HL3 : Hid (look (its l) r = look (its (l.drop (k + 1))) r) := Lib.hid (by rw [HD.out]; simp)
        clear hb3
        go_roundw
        case rel => exact ⟨k + 1, by omega, by go_num, HB3.out, HL3⟩
        case measure => simp [intOf]; omega
      · rw [hqb] at hq
        have HF := Lib.hid (HE.out hqb)
        clear hqb HE HD
        go_wp2_with (go_at_call 59; refine (hq.out _ HB.out).mono ?_; rintro e w3 ⟨rfl, hb3⟩; have e1 := (hb3.cell (block_lt_of_cell hc2)).trans hc2)
        have HB3 := Lib.hid (HB.out.trans (hb3.mono hs))
        clear hb3
        go_ret
        exact ⟨by rw [HF.out]; rfl, HB3.out⟩
    · obtain rfl : k = n := by omega
      have HF : Hid (look (its l) r = 0) := Lib.hid (by
        rw [HL.out, List.drop_of_length_le (by rw [HN.out]; exact Nat.le_refl _)]
        rfl)
      go_wp2_with fail
      go_ret
      exact ⟨by rw [HF.out]; first | rfl | (rw [← tal_zero]; rfl), HB.out⟩
end Go.Proofs.YtajnnkapgnmoaaaGreat
