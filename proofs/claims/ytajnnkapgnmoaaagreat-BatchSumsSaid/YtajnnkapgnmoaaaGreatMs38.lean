/-
  law 16's BatchSums.
-/
import Derived.Test.YtajnnkapgnmoaaaGreatMs13
import Derived.Test.YtajnnkapgnmoaaaGreatMs10
import Derived.Test.YtajnnkapgnmoaaaGreatMs37
import Derived.Deep.RegionHeld3
import Derived.BigQuiet
set_option linter.unusedVariables false
set_option linter.unusedSimpArgs false
set_option linter.unusedVariables false
set_option linter.unusedSimpArgs false
namespace Go.Proofs.YtajnnkapgnmoaaaGreat
open Go.RowKit

/-- how much is told of a table's row -/
def lookD (nm : ByteArray) (ds : List (ByteArray × List It)) (q : List V) : Int := match ds with
  | [] => 0
  | d :: ds => (bif d.1.toList == nm.toList then look d.2 q else 0) + lookD nm ds q
theorem lookD_append (nm : ByteArray) : ∀ (a b : List (ByteArray × List It)) (q : List V), lookD nm (a ++ b) q = lookD nm a q + lookD nm b q
  | [], b, q => by simp [lookD]
  | x :: a, b, q => by simp only [List.cons_append, lookD, lookD_append nm a b q]; omega
theorem tell_look {a b : List It} {l : List Ch} (ha : SetOk a) (hb : SetOk b) (hg : ∀ c ∈ l, GoodC c) (q : List V) :
    look a q + lookD nmU (tellK a b (updS nmU l a) (updS nmT l b) l) q = look (updS nmU l a) q ∧ look b q + lookD nmT (tellK a b (updS nmU l a) (updS nmT l b) l) q = look (updS nmT l b) q := by
  have hU := (updS_both nmU l ha hg).1
  have hT := (updS_both nmT l hb hg).1
  have e1 : (nmT.toList == nmU.toList) = false := by decide +kernel
  have e2 : (nmU.toList == nmT.toList) = false := by decide +kernel
  have s1 := (sumS_both hU ha.flip).2 q
  have s2 := (sumS_both hT hb.flip).2 q
  rw [look_flip] at s1 s2
  unfold tellK
  rw [lookD_append, lookD_append]
  constructor
  · cases hn : hasN nmU (l.map Ch.nm) with
    | true =>
      cases hasN nmT (l.map Ch.nm) <;> simp [lookD, e1, s1] <;> omega
    | false =>
      have : updS nmU l a = a := updS_none fun h => by rw [hasN_names.2 h] at hn; cases hn
      cases hasN nmT (l.map Ch.nm) <;> simp [lookD, e1, this]
  · cases hn : hasN nmT (l.map Ch.nm) with
    | true =>
      cases hasN nmU (l.map Ch.nm) <;> simp [lookD, e2, s2] <;> omega
    | false =>
      have : updS nmT l b = b := updS_none fun h => by rw [hasN_names.2 h] at hn; cases hn
      cases hasN nmU (l.map Ch.nm) <;> simp [lookD, e2, this]
set_option maxHeartbeats 8000000 in
set_option maxRecDepth 100000 in
theorem batchSums_any (A B : Option Addr) (c d : Nat) (l0 l1 : List CM) (W : World) (h0 : ChIn W A l0) (h1 : ChIn W B l1) :
    Calls Tryz.prog 5 #[.slice A l0.length c, .slice B l1.length d] W fun e w' => e = .returned (.bool true) ∧ Below W.heap.size W w' := by
  obtain ⟨i2, hi, hz0, hz1, hz2⟩ := info_parts change_info
  have mixed : Tryz.prog.follows .mixedOrders = true := by kernel_rfl
  have H1 := Lib.hid h1
  have HT0 := Lib.hid (h0.tables (Below.refl _ _) 0 (by omega) (by omega) c)
  obtain ⟨n1, hn1⟩ : ∃ n1, l1.length = n1 := ⟨_, rfl⟩
  have HN1 := Lib.hid hn1
  have hn1b := h1.len
  rw [hn1] at hn1b ⊢
  obtain ⟨n0, hn0⟩ : ∃ n0, l0.length = n0 := ⟨_, rfl⟩
  rw [hn0] at HT0 ⊢
  clear h0 h1 hn1 hn0
  go_enter Tryz.func5, Tryz.ntmps5
  go_wp2_with fail
  refine HT0.out.mono ?_
  rintro e w1 ⟨⟨v, rfl, hT⟩, hb1⟩
  obtain ⟨g, t0, t1, rfl, hTR, k0, k1⟩ := hT.get
  have HTR := Lib.hid hTR
  have HK0 := Lib.hid k0
  have HK1 := Lib.hid k1
  have HB1 := Lib.hid hb1
  have hs1 := hb1.size
  clear hT hTR k0 k1 hb1 HT0
  go_wp2_with fail
  go_loopw [6, 7] (fun v i wr => ∃ (k : Nat) (sl : List CM), k ≤ n1 ∧ k ≤ 8 ∧ i = .int .i64 k ∧ wr.ownsRow w1.heap.size 28 3 v sl.length (flatK sl) ∧ Below w1.heap.size w1 wr ∧ Hid (∀ x ∈ sl, VRowS wr (fun g => NewS w1 wr g ∧ v.ownBlock ≠ some g) x.A x.r) ∧ Hid (sl.map CM.ch = (l1.take k).map fun x => tameC x x.rem) ∧ sl.length = k) (fun _ i _ => n1 - (intOf i).toNat)
  case atStart => exact ⟨0, [], Nat.zero_le _, Nat.zero_le _, rfl, World.ownsRow_nil _ _ _ _, Below.refl _ _, Lib.hid (fun x hx => by simp at hx), Lib.hid rfl, rfl⟩
  case round =>
    rename World => wo
    obtain ⟨k, sl, hk, hk8, rfl, ho, hb, HSR, HSL, hsl⟩ := hrel
    have HO := Lib.hid ho
    have HB := Lib.hid hb
    have hs := hb.size
    clear ho hb
    go_upto_region 4 with (fail)
    go_cut [24] (fun sb wx => sb = .bool (decide (k < n1) && decide (k < 8)) ∧ wo = wx)
    case first =>
      by_cases h1 : k < n1
      · by_cases h2 : k < 8
        · have d1 : decide ((k : Int) < (n1 : Int)) = true := decide_eq_true (by omega)
          have d2 : decide ((k : Int) < 8) = true := decide_eq_true (by omega)
          have d3 : decide (k < n1) = true := decide_eq_true h1
          have d4 : decide (k < 8) = true := decide_eq_true h2
          go_wp2_with fail
          go_meet
          exact ⟨by rw [d3, d4]; rfl, rfl⟩
        · have d1 : decide ((k : Int) < (n1 : Int)) = true := decide_eq_true (by omega)
          have d2 : decide ((k : Int) < 8) = false := decide_eq_false (by omega)
          have d3 : decide (k < n1) = true := decide_eq_true h1
          have d4 : decide (k < 8) = false := decide_eq_false h2
          go_wp2_with fail
          go_meet
          exact ⟨by rw [d3, d4]; rfl, rfl⟩
      · have d1 : decide ((k : Int) < (n1 : Int)) = false := decide_eq_false (by omega)
        have d3 : decide (k < n1) = false := decide_eq_false h1
        go_wp2_with fail
        go_meet
        exact ⟨by rw [d3, Bool.false_and], rfl⟩
    case rest =>
    obtain ⟨rfl, rfl⟩ := hcut
    obtain ⟨q, hq⟩ : ∃ q, (decide (k < n1) && decide (k < 8)) = q := ⟨_, rfl⟩
    rw [hq]
    cases q
    case true =>
      have hlt := of_decide_eq_true (Bool.and_eq_true_iff.1 hq).1
      have hlt2 := of_decide_eq_true (Bool.and_eq_true_iff.1 hq).2
      clear hq
      obtain ⟨x, hx⟩ : ∃ x, l1[k]? = some x := ⟨_, List.getElem?_eq_getElem (by rw [HN1.out]; exact hlt)⟩
      have HBW : Hid (Below W.heap.size W wo) := Lib.hid (HB1.out.trans (HB.out.mono hs1))
      obtain ⟨b, off, rfl, hSb, hc1, hc2, hc3⟩ := (H1.out.row.below HBW.out (fun k hk => hk)).get hx
      have hm := List.mem_of_getElem? hx
      have HTM := Lib.hid (fun w1 (hb : Below W.heap.size W w1) => H1.out.tame hm hb)
      have HSL2 : Hid (sl.map CM.ch ++ [tameC x x.rem] = (l1.take (k + 1)).map fun x => tameC x x.rem) := Lib.hid (by
        obtain ⟨h1, e1⟩ := List.getElem?_eq_some_iff.1 hx
        rw [List.take_succ_eq_append_getElem h1, List.map_append, e1, ← HSL.out]
        rfl)
      obtain ⟨xnm, xA, xc, xr, xrem⟩ := x
      dsimp only [tameC] at hc1 hc2 hc3 HTM HSL2
      unfold TameRet at HTM
      obtain ⟨K, hK⟩ : ∃ K, tameK xnm xr = K := ⟨_, rfl⟩
      have hK3 := tameK_len xnm xr
      rw [hK] at HTM HSL2 hK3
      obtain ⟨xn, hxn⟩ : ∃ xn, xr.length = xn := ⟨_, rfl⟩
      rw [hxn] at hc2 HTM
      obtain ⟨nm', r'⟩ := K
      dsimp only at HTM HSL2 hK3
      obtain ⟨rn, hrn⟩ : ∃ rn, r'.length = rn := ⟨_, rfl⟩
      have HRN := Lib.hid hrn
      rw [hrn] at HTM hK3
      clear hx hm hSb hK hxn hrn HSL
      go_wp2_with fail
      refine (HTM.out _ HBW.out).mono ?_
      rintro e w4 ⟨g4, rfl, hg4, hcells, hb4⟩
      have HB4 := Lib.hid hb4
      have hs4 := hb4.size
      have HCE := Lib.hid hcells
      clear hb4 hcells HTM
      go_wp2_with (at_builtin; refine wpList_append_any _ rfl _ _ 22 rfl w1.heap.size 28 i2 _ 3 48 Tryz.underlying22 hi hz0 hz1 hz2 rfl (by decide) _ _ _ rfl ((ownM_below HO.out HB4.out).alloc _) (w4.heap.size + 1) _ _ _ [.string nm', .slice (some ⟨g4, 0, none⟩) rn rn, .bool xrem] rfl ⟨rfl, fun _ => ⟨_, rfl, Nat.lt_succ_self _, World.news_of_block (heap_alloc_new w4 _)⟩⟩ ?c1 ?c2 ?c3 ?c4 ?_)
      case c1 => intro u hu; simp only [List.mem_cons, List.not_mem_nil, or_false] at hu; rcases hu with rfl | rfl | rfl <;> rfl
      case c2 => unfold maxLen; omega
      case c3 => omega
      case c4 => simp; omega
      intro v' w5 hown' hgrow hat
      obtain ⟨x', ex'⟩ : ∃ x' : CM, x' = ⟨nm', some ⟨g4, 0, none⟩, rn, r', xrem⟩ := ⟨_, rfl⟩
      have hg4s : g4 < w4.heap.size := (Array.getElem?_eq_some_iff.1 HCE.out).1
      have hxr : VRowS w4 (NewS wo w4) (toI x').A (toI x').r := by
        rw [ex']
        have hbk : Blk w4 g4 49 (flat r').toArray := HCE.out
        exact vals_of_blk hbk ⟨hg4, hg4s, fun o => Blk.frozen hbk o⟩
      obtain ⟨q1, q2⟩ := snoc_items (w2 := w1) (wc := wo) (u := u6) (v' := v') (ol := sl.map toI) (x' := toI x') (fun z hz => by
        obtain ⟨y, hy, rfl⟩ := List.mem_map.1 hz
        exact HSR.out y hy) (fun g h => HO.out.lt g h) hs HB.out HB4.out (Nat.le_refl _) hxr _ hgrow (by simpa using hat)
      have HO5 : Hid (w5.ownsRow w1.heap.size 28 3 v' (sl ++ [x']).length (flatK (sl ++ [x']))) := Lib.hid (by
        rw [flatK_append, flatK_one, List.length_append, ex', hsl]
        simp only [CM.cs, HRN.out]
        exact hown')
      have HSR5 : Hid (∀ x ∈ sl ++ [x'], VRowS w5 (fun g => NewS w1 w5 g ∧ v'.ownBlock ≠ some g) x.A x.r) := Lib.hid (fun y hy => by
        refine q1 (toI y) ?_
        rcases List.mem_append.1 hy with hy | hy
        · exact List.mem_append_left _ (List.mem_map.2 ⟨y, hy, rfl⟩)
        · rw [List.mem_singleton.1 hy]; exact List.mem_append_right _ (by simp))
      have HSL5 : Hid ((sl ++ [x']).map CM.ch = (l1.take (k + 1)).map fun x => tameC x x.rem) := Lib.hid (by
        rw [List.map_append, ex']
        exact HSL2.out)
      have HB5 := Lib.hid q2
      have hsl5 : (sl ++ [x']).length = k + 1 := by rw [List.length_append, hsl]; rfl
      generalize sl ++ [x'] = sl5 at HO5 HSR5 HSL5 hsl5
      clear hown' hgrow hat hxr q1 q2 ex' HCE HB4 HO HB HSR HSL2
      go_wp2_with fail
      go_roundw
      case rel => exact ⟨k + 1, sl5, by omega, by omega, by go_num, HO5.out, HB5.out, HSR5, HSL5, hsl5⟩
      case measure => simp [intOf]; omega
    · have hkl : k = 8 ∨ k = n1 := by
        have h1 := Bool.and_eq_false_iff.1 hq
        rcases h1 with h1 | h1
        · have := of_decide_eq_false h1; omega
        · have := of_decide_eq_false h1; omega
      clear hq
      have htk : l1.take k = l1.take 8 := by
        rcases hkl with h | h
        · rw [h]
        · rw [List.take_of_length_le (by rw [HN1.out]; omega), List.take_of_length_le (by rw [HN1.out]; omega)]
      obtain ⟨LS, hLS⟩ : ∃ LS, ((l1.take 8).map fun x => tameC x x.rem) = LS := ⟨_, rfl⟩
      have hsm : sl.map CM.ch = LS := by rw [← hLS, ← htk]; exact HSL.out
      have hg : ∀ c ∈ LS, GoodC c := fun c hc => by
        rw [← hLS] at hc
        obtain ⟨x, _, rfl⟩ := List.mem_map.1 hc
        exact tameC_good x x.rem
      have hLl : LS.length = k := by rw [← hsm, List.length_map, hsl]
      obtain ⟨a, ha⟩ : ∃ a, setOf (partU ((l0.map CM.ch).take 20) ++ moreU 0) = a := ⟨_, rfl⟩
      obtain ⟨b, hb⟩ : ∃ b, setOf (partT ((l0.map CM.ch).take 20)) = b := ⟨_, rfl⟩
      have hks : [t0, t1].map TM.key = st a b := by
        simp only [List.map_cons, List.map_nil, HK0.out, HK1.out, ha, hb]
        rfl
      have hkok : KeysOk 200 (st a b) := by
        have := KeysOk_tabs 0 (by omega) (l0.map CM.ch)
        unfold tabsK at this
        rw [ha, hb] at this
        exact this
      obtain ⟨A6, c6, rfl, hc6, hS6⟩ := own_chs (S := fun g => NewS w1 wo g) HO.out (fun g h1 h2 h3 => ⟨h1, h2, h3⟩) (fun x hx => (HSR.out x hx).mono fun g hg => hg.1)
      have hap := bapply_any (some ⟨g, 0, none⟩) A6 2 c6 [t0, t1] sl wo (S := fun k => k < wo.heap.size) ((HTR.out.below HB.out (fun k hk => hk.2)).mono fun k hk => Nat.lt_of_lt_of_le hk.2 hs) (fun k hk => hk) (by rw [hks]; exact hkok.more (by omega)) (by simp) (hS6.mono fun g h => h.2.1) (by omega) (fun x hx => by
        have : x.ch ∈ LS := by rw [← hsm]; exact List.mem_map.2 ⟨x, hx, rfl⟩
        have := (rowOk_len (good_rowOk (hg _ this))).2
        have e : x.ch.r = x.r := rfl
        rw [e] at this
        omega)
      rw [hks, hsm, hsl] at hap
      have hap2 : Calls Tryz.prog 13 #[.slice (some ⟨g, 0, none⟩) 2 2, .slice A6 k c6] wo _ := hap
      have HAP := Lib.hid hap2
      have HG := Lib.hid hg
      have HKOK := Lib.hid hkok
      have HT2 : Hid (TRow wo (fun k => k < wo.heap.size) (some ⟨g, 0, none⟩) [t0, t1]) := Lib.hid ((HTR.out.below HB.out (fun k hk => hk.2)).mono fun k hk => Nat.lt_of_lt_of_le hk.2 hs)
      have HWB : Hid (Below W.heap.size W wo) := Lib.hid (HB1.out.trans (HB.out.mono hs1))
      have hws := HWB.out.size
      have HCASE := Lib.hid (apply_good (a := a) (b := b) (l := LS) (by omega) hg hkok)
      have HLL := Lib.hid hLl
      have HE0 : Hid (its t0.rows = a) := Lib.hid (by have := congrArg (fun k : Key => k.2.2) HK0.out; dsimp only [TM.key] at this; rw [this, ha])
      have HE1 : Hid (its t1.rows = b) := Lib.hid (by have := congrArg (fun k : Key => k.2.2) HK1.out; dsimp only [TM.key] at this; rw [this, hb])
      rw [hsl] at hc6 ⊢
      clear hap hap2 hg hkok hsm hLl hks ha hb hLS htk hkl HO HSR HSL HTR HB HB1 hS6 HK0 HK1 H1
      go_wp2_with fail
      refine HAP.out.mono ?_
      rintro e w2 ⟨v, dv, rfl, hb2, herr, hret⟩
      have HB2 := Lib.hid hb2
      have hs2 := hb2.size
      have HW2 := Lib.hid (HWB.out.trans (hb2.mono hws))
      have hkn := Lib.hid (fun w3 => known16 w3)
      clear hb2 HAP
      obtain ⟨R, hR⟩ : ∃ R, applyK (st a b) LS = R := ⟨_, rfl⟩
      rw [hR] at herr hret HCASE ⊢
      clear hR
      obtain ⟨R1, R2, R3, R4⟩ := R
      dsimp only at herr hret HCASE ⊢
      rcases HCASE.out with ⟨hne, hat⟩ | ⟨hR, hk0, hkf⟩
      · obtain ⟨rfl, rfl⟩ := herr hne
        rw [HLL.out] at hat
        clear herr hret
        have hR1 : (R1 == 0) = false := by rw [beq_eq_false_iff_ne]; exact hne
        by_cases hlt : R2 < k
        · have hl2 : ((R2 : Nat) : Int) < (k : Int) := by omega
          go_wp2_with fail
          refine (hkn.out _).mono ?_
          rintro e w3 ⟨rfl, hb3⟩
          have HW3 := Lib.hid (HW2.out.trans (hb3.mono (by omega)))
          clear hb3
          go_wp2_with fail
          go_ret
          exact ⟨rfl, HW3.out⟩
        · obtain ⟨rfl, rfl⟩ : k = 0 ∧ R2 = 0 := by
            rcases hat with h | h
            · exact absurd h hlt
            · exact h
          go_wp2_with fail
          refine (hkn.out _).mono ?_
          rintro e w3 ⟨rfl, hb3⟩
          have HW3 := Lib.hid (HW2.out.trans (hb3.mono (by omega)))
          clear hb3
          go_wp2_with fail
          go_ret
          exact ⟨rfl, HW3.out⟩
      · simp only [Prod.mk.injEq] at hR
        obtain ⟨rfl, rfl, rfl, rfl⟩ := hR
        obtain ⟨⟨g2, cap2, s, hv, hg2, hNow, hsk⟩, ⟨A9, c9, xs, rfl, hX, hxk⟩⟩ := hret rfl
        subst hv
        obtain ⟨a', ha'⟩ : ∃ a', updS nmU LS a = a' := ⟨_, rfl⟩
        obtain ⟨b', hb'⟩ : ∃ b', updS nmT LS b = b' := ⟨_, rfl⟩
        have hsa := HKOK.out.keys (nmU, uC, a) (by simp [st])
        have hsb := HKOK.out.keys (nmT, tC, b) (by simp [st])
        have hLKs := fun q => tell_look (l := LS) hsa.set hsb.set HG.out q
        have hUok := (updS_both nmU LS hsa.set HG.out).1
        have hTok := (updS_both nmT LS hsb.set HG.out).1
        obtain ⟨s0, s1, rfl⟩ : ∃ s0 s1, s = [s0, s1] := by
          match s, hsk with
          | [s0, s1], _ => exact ⟨s0, s1, rfl⟩
          | [], h => simp [st] at h
          | [s0], h => simp [st] at h
          | s0 :: s1 :: s2 :: s, h => simp [st] at h
        rw [ha', hb'] at hsk hkf hxk
        simp only [List.map_cons, List.map_nil, st, List.cons.injEq, and_true] at hsk
        have hTR2 := hNow.row hg2
        obtain ⟨b20, o20, e20, _, p0, p1, p2⟩ := hTR2.get (i := 0) rfl
        obtain ⟨rfl, rfl⟩ : g2 = b20 ∧ 0 = o20 := by simpa using e20
        obtain ⟨b21, o21, e21, _, p3, p4, p5⟩ := hTR2.get (i := 1) rfl
        obtain ⟨rfl, rfl⟩ : g2 = b21 ∧ 0 = o21 := by simpa using e21
        have en0 : s0.nm = nmU := congrArg Prod.fst hsk.1
        have en1 : s1.nm = nmT := congrArg Prod.fst hsk.2
        have er0 : its s0.rows = a' := congrArg (fun k : Key => k.2.2) hsk.1
        have er1 : its s1.rows = b' := congrArg (fun k : Key => k.2.2) hsk.2
        rw [en0] at p0
        rw [en1] at p3
        unfold nmU at p0
        unfold nmT at p3
        simp only [Nat.zero_mul, Nat.zero_add, Nat.one_mul, Nat.reduceMul, Nat.reduceAdd] at p0 p1 p2 p3 p4 p5
        rw [ha', hb'] at hLKs
        rw [ha'] at hUok
        rw [hb'] at hTok
        obtain ⟨DS, hDS⟩ : ∃ DS, tellK a b a' b' LS = DS := ⟨_, rfl⟩
        rw [hDS] at hxk hLKs
        have hva := hkf.keys (nmU, uC, a') (by simp [st])
        have hvb := hkf.keys (nmT, tC, b') (by simp [st])
        obtain ⟨m, hm⟩ : ∃ m, xs.length = m := ⟨_, rfl⟩
        rw [hm]
        have HX := Lib.hid hX
        have HXK := Lib.hid hxk
        have HM := Lib.hid hm
        have HVA := Lib.hid hva
        have HVB := Lib.hid hvb
        have HSA := Lib.hid hsa
        have HSB := Lib.hid hsb
        have HLKS := Lib.hid hLKs
        have HER0 := Lib.hid er0
        have HER1 := Lib.hid er1
        have HTR2 := Lib.hid hTR2
        have HDSS := Lib.hid hDS
        have HTELL : Hid (∀ d ∈ DS, SetOk d.2 ∧ vol d.2 ≤ 900) := Lib.hid (by
          rw [← hDS]
          intro d hd
          unfold tellK at hd
          have f1 : SetOk (sumS a' (flipS a)) ∧ ∀ q, look (sumS a' (flipS a)) q = look a' q + look (flipS a) q := sumS_both hva.set hsa.set.flip
          have f2 : SetOk (sumS b' (flipS b)) ∧ ∀ q, look (sumS b' (flipS b)) q = look b' q + look (flipS b) q := sumS_both hvb.set hsb.set.flip
          have v1 := SetOk.vol_le f1.1.toOrd (l := a' ++ flipS a) (fun q => by rw [f1.2, look_append])
          have v2 := SetOk.vol_le f2.1.toOrd (l := b' ++ flipS b) (fun q => by rw [f2.2, look_append])
          rw [vol_append, vol_flip] at v1 v2
          have x1 := hva.vol
          have x2 := hvb.vol
          have x3 := hsa.vol
          have x4 := hsb.vol
          dsimp only at x1 x2 x3 x4
          rcases List.mem_append.1 hd with hd | hd
          · split at hd
            · rw [List.mem_singleton.1 hd]; exact ⟨f2.1, by dsimp only; omega⟩
            · simp at hd
          · split at hd
            · rw [List.mem_singleton.1 hd]; exact ⟨f1.1, by dsimp only; omega⟩
            · simp at hd)
        clear hret herr hX hxk hm hva hvb hsa hsb hLKs er0 er1 hTR2 hkf hNow hsk ha' hb' hDS e20 e21 hUok hTok en0 en1 HCASE
        go_wp2_with fail
        have HT2' : Hid (TRow w2 (fun k => k < wo.heap.size) (some ⟨g, 0, none⟩) [t0, t1]) := Lib.hid (HT2.out.below HB2.out (fun k hk => hk))
        obtain ⟨b30, o30, e30, hgl, _, _, z2⟩ := HT2'.out.get (i := 0) rfl
        obtain ⟨rfl, rfl⟩ : g = b30 ∧ 0 = o30 := by simpa using e30
        obtain ⟨b31, o31, e31, _, _, _, z5⟩ := HT2'.out.get (i := 1) rfl
        obtain ⟨rfl, rfl⟩ : g = b31 ∧ 0 = o31 := by simpa using e31
        simp only [Nat.zero_mul, Nat.zero_add, Nat.one_mul, Nat.reduceMul, Nat.reduceAdd] at z2 z5
        have HC := Lib.hid (fun wz (hb : RowKit.Below w2.heap.size w2 wz) => (⟨(hb.cell (block_lt_of_cell z2)).trans z2, (hb.cell (block_lt_of_cell z5)).trans z5, (hb.cell (block_lt_of_cell p0)).trans p0, (hb.cell (block_lt_of_cell p3)).trans p3, (hb.cell (block_lt_of_cell p2)).trans p2, (hb.cell (block_lt_of_cell p5)).trans p5⟩ : _ ∧ _ ∧ _ ∧ _ ∧ _ ∧ _))
        have HSI := Lib.hid (fun wz (hb : RowKit.Below w2.heap.size w2 wz) (t : TM) (ht : t ∈ [t0, t1]) => ((HT2'.out.rows t ht).below hb (fun k hk => Nat.lt_of_lt_of_le hk hs2)).mono (S' := fun k => k < wz.heap.size) fun k hk => Nat.lt_of_lt_of_le (Nat.lt_of_lt_of_le hk hs2) hb.size)
        have HSJ := Lib.hid (fun wz (hb : RowKit.Below w2.heap.size w2 wz) (t : TM) (ht : t ∈ [s0, s1]) => ((HTR2.out.rows t ht).below hb (fun k hk => hk)).mono (S' := fun k => k < wz.heap.size) fun k hk => Nat.lt_of_lt_of_le hk hb.size)
        have hm8 : m ≤ 2 := by
          have := congrArg List.length HXK.out
          rw [List.length_map, HM.out] at this
          rw [this, ← HDSS.out]
          unfold tellK
          rw [List.length_append]
          split <;> split <;> simp
        clear p0 p1 p2 p3 p4 p5 z2 z5 e30 e31
        have HALL : Hid (∀ j : Nat, j < 2 → ∃ (tt ss : TM) (nm : ByteArray) (aa : List It), (∀ wz, RowKit.Below w2.heap.size w2 wz → (wz.cell? ⟨g, j * 3 + 2, none⟩ = some (.slice tt.rA tt.rows.length tt.rc) ∧ wz.cell? ⟨g2, j * 3, none⟩ = some (.string nm) ∧ wz.cell? ⟨g2, j * 3 + 2, none⟩ = some (.slice ss.rA ss.rows.length ss.rc)) ∧ SRow wz (fun g => g < wz.heap.size) tt.rA tt.rows ∧ SRow wz (fun g => g < wz.heap.size) ss.rA ss.rows) ∧
            SetOk (its tt.rows) ∧ vol (its tt.rows) ≤ 300 ∧ its ss.rows = aa ∧ SetOk aa ∧ (∀ x ∈ aa, 0 ≤ x.2) ∧ ∀ q, look (its tt.rows) q + lookD nm DS q = look aa q) := Lib.hid (fun j hj => by
          have e01 : j = 0 ∨ j = 1 := by omega
          rcases e01 with rfl | rfl
          · refine ⟨t0, s0, nmU, a', fun wz hb => ⟨?_, HSI.out wz hb t0 (by simp), HSJ.out wz hb s0 (by simp)⟩, by rw [HE0.out]; exact HSA.out.set, ?_, HER0.out, HVA.out.set, HVA.out.plain, fun q => by rw [HE0.out]; exact (HLKS.out q).1⟩
            · obtain ⟨q2, q5, r0, r3, r2, r5⟩ := HC.out wz hb
              exact ⟨q2, r0, r2⟩
            · rw [HE0.out]
              have := HSA.out.vol
              dsimp only at this
              omega
          · refine ⟨t1, s1, nmT, b', fun wz hb => ⟨?_, HSI.out wz hb t1 (by simp), HSJ.out wz hb s1 (by simp)⟩, by rw [HE1.out]; exact HSB.out.set, ?_, HER1.out, HVB.out.set, HVB.out.plain, fun q => by rw [HE1.out]; exact (HLKS.out q).2⟩
            · obtain ⟨q2, q5, r0, r3, r2, r5⟩ := HC.out wz hb
              exact ⟨q5, r3, r5⟩
            · rw [HE1.out]
              have := HSB.out.vol
              dsimp only at this
              omega)
        clear HC HSI HSJ HE0 HE1 HSA HSB HER0 HER1 HVA HVB HLKS HT2 HT2' HTR2 HKOK HG HDSS hgl
        go_loopw [12] (fun i wr => ∃ j : Nat, j ≤ 2 ∧ i = .int .i64 j ∧ RowKit.Below w2.heap.size w2 wr) (fun i _ => 2 - (intOf i).toNat)
        case atStart => exact ⟨0, by omega, rfl, Below.refl _ _⟩
        case round =>
          rename World => wm
          obtain ⟨j, hj, rfl, hbm⟩ := hrel
          have HBM := Lib.hid hbm
          have hsm := hbm.size
          clear hbm
          by_cases hj2 : j < 2
          · obtain ⟨tt, ss, nm, aa, hF, hto, htv, hsa, haa, hap, hlk⟩ := HALL.out j hj2
            have HF := Lib.hid hF
            have HSA := Lib.hid hsa
            have HAA := Lib.hid haa
            have HAP := Lib.hid hap
            obtain ⟨⟨q2, r0, r2⟩, hq, _⟩ := hF wm HBM.out
            have HL0 := Lib.hid hlk
            have HT0 := Lib.hid hto
            have HQ0 := Lib.hid hq
            have hjd : decide ((j : Int) < 2) = true := decide_eq_true (by omega)
            clear hF hto hsa haa hap hlk hq HALL
            go_wp2_with fail
            clear q2 r0 r2
            go_loopw [13, 14] (fun v j wr => ∃ (k : Nat) (Aw : Option Addr) (cw : Nat) (wl : List IM), k ≤ m ∧ j = .int .i64 k ∧ v = .slice Aw wl.length cw ∧ Hid (SRow wr (fun g => g < wr.heap.size) Aw wl) ∧ Hid (SetOk (its wl)) ∧ vol (its wl) ≤ 300 + 1000 * k ∧ Hid (∀ q, look (its wl) q + lookD nm (DS.drop k) q = look aa q) ∧ RowKit.Below wm.heap.size wm wr) (fun _ j _ => m - (intOf j).toNat)
            case atStart => exact ⟨0, tt.rA, tt.rc, tt.rows, Nat.zero_le _, rfl, rfl, HQ0, HT0, by omega, Lib.hid (fun q => by rw [List.drop_zero]; exact HL0.out q), Below.refl _ _⟩
            case round =>
              rename World => wr
              obtain ⟨k, Aw, cw, wl, hk, rfl, rfl, HWR, HWS, hwv, HWL, hbw⟩ := hrel
              have HBW := Lib.hid hbw
              have hsw := hbw.size
              have HB2R : Hid (RowKit.Below w2.heap.size w2 wr) := Lib.hid (HBM.out.trans (hbw.mono HBM.out.size))
              have hs2r := HB2R.out.size
              clear hbw
              obtain ⟨⟨q2, r0, r2⟩, _, hqs⟩ := HF.out wr HB2R.out
              by_cases hlt : k < m
              · obtain ⟨x, hx⟩ : ∃ x, xs[k]? = some x := ⟨_, List.getElem?_eq_getElem (by rw [HM.out]; exact hlt)⟩
                have hxm := List.mem_of_getElem? hx
                have hX9 := (HX.out.kept (w' := wr) fun k hk => HB2R.out.block k hk.2.1)
                obtain ⟨b9, o9, rfl, hb9, y0, y1⟩ := hX9.get hx
                have hds : DS.drop k = x.key :: DS.drop (k + 1) := by
                  rw [← HXK.out, ← List.map_drop, ← List.map_drop]
                  obtain ⟨h1, e1⟩ := List.getElem?_eq_some_iff.1 hx
                  rw [List.drop_eq_getElem_cons h1, e1]
                  rfl
                have hxt : x.key ∈ DS := by rw [← HXK.out]; exact List.mem_map.2 ⟨x, hxm, rfl⟩
                have hxok : SetOk (its x.rows) ∧ vol (its x.rows) ≤ 900 := HTELL.out x.key hxt
                have hWL2 := fun q => by have := HWL.out q; rw [hds] at this; exact this
                simp only [lookD, XM.key] at hWL2
                obtain ⟨qb, hqb⟩ : ∃ qb, (x.nm.toList == nm.toList) = qb := ⟨_, rfl⟩
                have hq1 : (x.nm.toList == nm.toList) = qb := hqb
                rw [hqb] at hWL2
                have HXR : Hid (SRow wr (fun g => g < wr.heap.size) x.A x.rows) := Lib.hid ((hX9.rows x hxm).mono fun g hg => Nat.lt_of_lt_of_le hg.2.1 hs2r)
                have hxl := len_vol hxok.1.nets
                rw [its_len] at hxl
                have hwl := len_vol HWS.out.nets
                rw [its_len] at hwl
                have had := Lib.hid (fun wz (hb : RowKit.Below wr.heap.size wr wz) => zadd_any Aw x.A cw x.c wl x.rows wz (S := fun g => g < wz.heap.size) ((HWR.out.below hb (fun g hg => hg)).mono fun g hg => Nat.lt_of_lt_of_le hg hb.size) ((HXR.out.below hb (fun g hg => hg)).mono fun g hg => Nat.lt_of_lt_of_le hg hb.size) (fun g hg => hg) (by omega) (by omega) (fun y hy => HWS.out.rows y.it (List.mem_map.2 ⟨y, hy, rfl⟩)) (fun y hy => hxok.1.rows y.it (List.mem_map.2 ⟨y, hy, rfl⟩)) (by omega))
                have HSL3 : Hid (∀ s2 : List IM, SetOk (its s2) → (∀ q, look (its s2) q = look (its (wl ++ x.rows)) q) → vol (its s2) ≤ vol (its wl) + vol (its x.rows)) := Lib.hid (fun s2 h1 h2 => by
                  have := SetOk.vol_le h1.toOrd h2
                  rw [its_vol_append] at this
                  exact this)
                have HWL3 := Lib.hid hWL2
                obtain ⟨xnm, xA, xc, xrows⟩ := x
                dsimp only at y0 y1 hq1 hWL2 had hxok HSL3 HWL3
                obtain ⟨xn, hxn⟩ : ∃ xn, xrows.length = xn := ⟨_, rfl⟩
                obtain ⟨wn, hwn⟩ : ∃ wn, wl.length = wn := ⟨_, rfl⟩
                rw [hxn] at y1 had
                rw [hwn] at had ⊢
                have HWN := Lib.hid hwn
                clear hx hxm hX9 hds hxt hqb hWL2 hxn hwn hxl hwl HXR HWL hb9
                cases qb
                · have HWL4 : Hid (∀ q, look (its wl) q + lookD nm (DS.drop (k + 1)) q = look aa q) := Lib.hid (fun q => by have := HWL3.out q; simpa using this)
                  go_wp2_with fail
                  go_quiet (fail)
                  generalize hwq : wr.drewN nq = wq
                  have HWQ : Hid (RowKit.Below wr.heap.size wr wq) := Lib.hid (by rw [← hwq]; exact ⟨rfl, rfl, rfl, Nat.le_refl _, fun _ _ => rfl⟩)
                  clear hwq
                  clear y0 y1 q2 r0 r2 hqs
                  go_wp2_with fail
                  go_roundw
                  case rel => exact ⟨k + 1, Aw, cw, wl, by omega, by go_num, by rw [HWN.out], Lib.hid ((HWR.out.below HWQ.out (fun g hg => hg)).mono fun g hg => Nat.lt_of_lt_of_le hg HWQ.out.size), HWS, by omega, HWL4, HBW.out.trans (HWQ.out.mono hsw)⟩
                  case measure => simp [intOf]; omega
                · go_wp2_with fail
                  go_quiet (fail)
                  generalize hwq : wr.drewN nq = wq
                  have HWQ : Hid (RowKit.Below wr.heap.size wr wq) := Lib.hid (by rw [← hwq]; exact ⟨rfl, rfl, rfl, Nat.le_refl _, fun _ _ => rfl⟩)
                  clear hwq
                  have y1' := (HWQ.out.cell (block_lt_of_cell y1)).trans y1
                  clear y0 y1 q2 r0 r2 hqs
                  go_wp2_with fail
                  refine (had.out _ HWQ.out).mono ?_
                  rintro e w5 ⟨⟨A', c', s5, rfl, _, hs5, ho5, hl5⟩, hb5⟩
                  have HB5 : Hid (RowKit.Below wr.heap.size wr w5) := Lib.hid (HWQ.out.trans (hb5.mono HWQ.out.size))
                  have HS5 := Lib.hid (hs5.mono (S' := fun g => g < w5.heap.size) fun g hg => hg.2.1)
                  have HO5 := Lib.hid ho5
                  have hv5 := HSL3.out s5 ho5 hl5
                  have HL5 : Hid (∀ q, look (its s5) q + lookD nm (DS.drop (k + 1)) q = look aa q) := Lib.hid (fun q => by
                    have h1 := HWL3.out q
                    rw [hl5, its_append, look_append]
                    simp only [cond_true] at h1
                    omega)
                  have hx9 := hxok.2
                  clear hs5 ho5 hl5 hb5 y1' had HWQ
                  go_wp2_with fail
                  go_roundw
                  case rel => exact ⟨k + 1, A', c', s5, by omega, by go_num, rfl, HS5, HO5, by omega, HL5, HBW.out.trans (HB5.out.mono hsw)⟩
                  case measure => simp [intOf]; omega
              · obtain rfl : k = m := by omega
                have hwe : its wl = its ss.rows := by
                  rw [HSA.out]
                  refine set_eq HWS.out HAA.out fun q => ?_
                  have h1 := HWL.out q
                  rw [List.drop_of_length_le (by rw [← HXK.out, List.length_map, HM.out]; exact Nat.le_refl _)] at h1
                  simpa [lookD] using h1
                have hwl := len_vol HWS.out.nets
                rw [its_len] at hwl
                have hsl2 : ss.rows.length = wl.length := by have := congrArg List.length hwe; rw [its_len, its_len] at this; exact this.symm
                have hok1 : SOk wl := ⟨HWS.out, by omega⟩
                have hok2 : SOk ss.rows := ⟨by rw [← hwe]; exact HWS.out, by rw [← hwe]; omega⟩
                have hsme := Lib.hid (zsame_any Aw ss.rA cw ss.rc wl ss.rows wr HWR.out hqs (fun g hg => hg) (by omega) (by omega) hok1 hok2 true ⟨fun _ => hwe, fun _ => rfl⟩)
                have hpl := Lib.hid (fun wz (hb : RowKit.Below w2.heap.size w2 wz) => zplain_any ss.rA ss.rc ss.rows wz (HF.out wz hb).2.2 (fun g hg => hg) (by omega) hok2)
                have hpt : (!ss.rows.any neg1) = true := by
                  rw [Bool.not_eq_true']
                  rw [List.any_eq_false]
                  intro x hx h
                  have := HAP.out x.it (by rw [← HSA.out]; exact List.mem_map.2 ⟨x, hx, rfl⟩)
                  unfold neg1 at h
                  have := of_decide_eq_true h
                  have e : x.it.2 = x.k := rfl
                  omega
                rw [hpt] at hpl
                generalize hl1 : wl.length = wn at hsme ⊢
                obtain ⟨sn, hsn⟩ : ∃ sn, ss.rows.length = sn := ⟨_, rfl⟩
                have HSN := Lib.hid hsn
                rw [hsn] at hsme hpl r2
                clear hwe hwl hsl2 hok1 hok2 hpt hl1 hsn HWR HWS HWL hwv
                go_wp2_with fail
                refine hsme.out.mono ?_
                rintro e w8 ⟨rfl, hb8⟩
                have HB8 : Hid (RowKit.Below w2.heap.size w2 w8) := Lib.hid (HB2R.out.trans (hb8.mono hs2r))
                clear hb8 hsme q2 r0 r2 hqs
                obtain ⟨⟨q2, r0, r2⟩, _, hqs⟩ := HF.out w8 HB8.out
                rw [HSN.out] at r2
                go_wp2_with fail
                refine (hpl.out _ HB8.out).mono ?_
                rintro e w9 ⟨rfl, hb9⟩
                have HB9 : Hid (RowKit.Below w2.heap.size w2 w9) := Lib.hid (HB8.out.trans (hb9.mono HB8.out.size))
                clear hb9 hpl q2 r0 r2 hqs HB8 HB2R HBW HSN
                go_wp2_with fail
                go_roundw
                case rel => exact ⟨j + 1, by omega, by go_num, HB9.out⟩
                case measure => simp [intOf]; omega
          · obtain rfl : j = 2 := by omega
            have hjd : decide (((2 : Nat) : Int) < 2) = false := rfl
            go_wp2_with fail
            refine (hkn.out _).mono ?_
            rintro e w10 ⟨rfl, hb10⟩
            have HWF := Lib.hid (HW2.out.trans ((HBM.out.trans (hb10.mono hsm)).mono (by omega)))
            clear hb10
            go_wp2_with fail
            go_ret
            exact ⟨rfl, HWF.out⟩
end Go.Proofs.YtajnnkapgnmoaaaGreat
