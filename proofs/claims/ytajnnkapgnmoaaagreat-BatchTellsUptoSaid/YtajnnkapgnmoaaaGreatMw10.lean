/-
  confluenceref16.Apply at the tables u and t: what applyK says.
-/
import Derived.Test.YtajnnkapgnmoaaaGreatMw8
import Derived.Test.YtajnnkapgnmoaaaGreatMw9
import Derived.Deep.DeepCutAuto
set_option linter.unusedVariables false
set_option linter.unusedSimpArgs false
set_option linter.unusedVariables false
set_option linter.unusedSimpArgs false
namespace Go.Proofs.YtajnnkapgnmoaaaGreat
open Go.RowKit Go.Sort

theorem rdelta_info : (Tryz.prog.info? 68).map (fun i => (i.zero, i.size, i.bytes)) = some (some (.agg #[.string ByteArray.empty, .slice none 0 0]), 2, 40) := by kernel_rfl
theorem vol_plain : ∀ {l : List It}, (∀ x ∈ l, 0 ≤ x.2) → vol l = vol l := fun _ => rfl
/-- an item more, in the reference -/
theorem radd_one (A B : Option Addr) (c d : Nat) (l : List IM) (r : List V) (kk : Int) (w : World) (g2 : Nat) {S : Nat → Prop} (h1 : SRow w S A l) (hS : ∀ k, S k → k < w.heap.size) (hl : l.length ≤ 300000) (hk : SOk l) (hv : vol (its l) ≤ 1000000)
    (hB : VRow w w.heap.size B r) (hr : rowOk r = true) (hkk : kk = 1 ∨ kk = -1) (hg2 : g2 < w.heap.size) (c0 : w.cell? ⟨g2, 0, none⟩ = some (.slice B r.length d)) (c1 : w.cell? ⟨g2, 1, none⟩ = some (tal kk)) :
    Calls Tryz.prog 53 #[.slice A l.length c, .slice (some ⟨g2, 0, none⟩) 1 1] w fun e w' => (∃ A' c' s, e = .returned (.tuple #[.slice A' s.length c', .int .i64 0]) ∧ SetRet w (its l ++ [(r, kk)]) w' A' c' s) ∧ Below w.heap.size w w' := by
  have h2 : SRow w (fun k => k < w.heap.size) (some ⟨g2, 0, none⟩) [(⟨B, d, r, kk⟩ : IM)] := by
    refine ⟨.inr ⟨g2, 0, rfl, hg2, ?_⟩, ?_⟩
    · intro i x hx
      cases i with
      | zero =>
        obtain rfl : (⟨B, d, r, kk⟩ : IM) = x := by simpa using hx
        exact ⟨c0, c1⟩
      | succ i => simp at hx
    · intro x hx
      obtain rfl : x = (⟨B, d, r, kk⟩ : IM) := by simpa using hx
      rcases hB with h | ⟨b, o, h, hb, hv⟩
      · exact .inl h
      · exact .inr ⟨b, o, h, hb, hv⟩
  have := radd_any A (some ⟨g2, 0, none⟩) c 1 l [(⟨B, d, r, kk⟩ : IM)] w (h1.mono hS) h2 (fun k hk => hk) (by omega) (by simp) (fun x hx => hk.row hx) (fun x hx => by
    obtain rfl : x = (⟨B, d, r, kk⟩ : IM) := by simpa using hx
    exact hr) (by
      have : vol (its [(⟨B, d, r, kk⟩ : IM)]) = (kk.natAbs : Int) + 0 := rfl
      rw [this]
      have : kk.natAbs = 1 := by rcases hkk with rfl | rfl <;> rfl
      omega)
  rw [its_append] at this
  exact this
theorem size_alloc' (w : World) (o : Obj) : (w.alloc o).heap.size = w.heap.size + 1 := by simp
theorem net_cases (b : Bool) : netOf b = 1 ∨ netOf b = -1 := by cases b <;> simp [netOf]

set_option maxHeartbeats 8000000 in
set_option maxRecDepth 100000 in
theorem rapply_any (A B : Option Addr) (c d : Nat) (l : List TM) (cs : List CM) (a0 b0 : List It) (w : World) {S : Nat → Prop} (hA : TRow w S A l) (hS : ∀ k, S k → k < w.heap.size) (hl : l.map TM.key = st a0 b0) (hcap : ∀ t ∈ l, t.cols.length ≤ t.cc) (hk : KeysOk 1000 (st a0 b0)) (hC : ChRow w S B cs) (hcl : cs.length ≤ 1000000) (hcr : ∀ x ∈ cs, x.r.length ≤ 1000) :
    Calls Tryz.prog 21 #[.slice A 2 c, .slice B cs.length d] w fun e w' => ∃ v dv, e = .returned (.tuple #[v, dv, .int .i64 (applyK (st a0 b0) (cs.map CM.ch)).1, .int .i64 (((applyK (st a0 b0) (cs.map CM.ch)).2.1 : Nat) : Int)]) ∧ Below w.heap.size w w' ∧
      ((applyK (st a0 b0) (cs.map CM.ch)).1 ≠ 0 → v = .slice none 0 0 ∧ dv = .slice none 0 0) ∧ ((applyK (st a0 b0) (cs.map CM.ch)).1 = 0 → RApplyRet w' (applyK (st a0 b0) (cs.map CM.ch)).2.2.1 (applyK (st a0 b0) (cs.map CM.ch)).2.2.2 v dv) := by
  obtain ⟨i1, hi1, hz01, hz11, hz21⟩ := info_parts rtable_info
  obtain ⟨i2, hi2, hz02, hz12, hz22⟩ := info_parts rdelta_info
  have mixed : Tryz.prog.follows .mixedOrders = true := by kernel_rfl
  have hln : l.length = 2 := by have := congrArg List.length hl; simpa [st] using this
  have hk' : KeysOk 1000 (l.map TM.key) := by rw [hl]; exact hk
  have htab := hk'.tabsOk (by omega)
  have her := Lib.hid (by have := r11right_any A c l w hA hS htab hcap; rw [hln] at this; exact this)
  have HRE := Lib.hid (by have := hA.reads hS; rw [hln] at this; exact this)
  obtain ⟨C0, hC0⟩ : ∃ C0, cs.map CM.ch = C0 := ⟨_, rfl⟩
  obtain ⟨AK, hAK⟩ : ∃ AK, applyK (st a0 b0) C0 = AK := ⟨_, rfl⟩
  rw [hC0, hAK]
  have hcn : C0.length = cs.length := by rw [← hC0, List.length_map]
  unfold applyK at hAK
  rw [hcn] at hAK
  obtain ⟨n, hn⟩ : ∃ n, cs.length = n := ⟨_, rfl⟩
  have HN := Lib.hid hn
  have HLN := Lib.hid hln
  have HA := Lib.hid hA
  have HS := Lib.hid hS
  have HC := Lib.hid hC
  have HCR := Lib.hid hcr
  have HK := Lib.hid hk
  have HL := Lib.hid hl
  have HC0 := Lib.hid hC0
  rw [hn] at hcl hAK ⊢
  have HAK := Lib.hid hAK
  clear hA hS hC hcr hk hk' htab hC0 hn hcn hAK hcap hl
  go_enter Tryz.func21, Tryz.ntmps21
  go_wp2_with fail
  refine her.out.mono ?_
  rintro e w1 ⟨rfl, hb1⟩
  have HB1 := Lib.hid hb1
  have hs1 := hb1.size
  clear hb1 her
  by_cases hm : 8 < n
  · have hm' : (8 : Int) < (n : Int) := by omega
    have HM := Lib.hid hm
    clear hm
    go_wp2_with fail
    ((try simp only [Exit.inBlock, Exit.then]); refine bodyPost_ret (results_tmp4 rfl _ _ _) rfl ?_)
    have e : AK = (4, 0, [], []) := by rw [← HAK.out, if_pos HM.out]
    subst e
    exact ⟨_, _, rfl, HB1.out, fun _ => ⟨rfl, rfl⟩, fun h => by simp at h⟩
  · by_cases hz : n = 0
    · subst hz
      go_wp2_with fail
      ((try simp only [Exit.inBlock, Exit.then]); refine bodyPost_ret (results_tmp4 rfl _ _ _) rfl ?_)
      have e : AK = (1, 0, [], []) := by rw [← HAK.out]; simp
      subst e
      exact ⟨_, _, rfl, HB1.out, fun _ => ⟨rfl, rfl⟩, fun h => by simp at h⟩
    · have hm1 : ¬ (8 : Int) < (n : Int) := by omega
      have hm2 : ¬ (n : Int) = 0 := by omega
      have HAK2 : Hid ((if (runK (st a0 b0) 0 C0).1 = 0 then (0, 0, (runK (st a0 b0) 0 C0).2.2, (onceN (C0.map Ch.nm)).map (deltaK (runK (st a0 b0) 0 C0).2.2 (st a0 b0))) else ((runK (st a0 b0) 0 C0).1, (runK (st a0 b0) 0 C0).2.1, [], [])) = AK) := Lib.hid (by rw [← HAK.out, if_neg hm, if_neg hz])
      clear HAK hz
      go_wp2_with (at_builtin; refine wpList_append_any _ rfl _ _ 61 rfl w.heap.size 66 i1 _ 3 64 Tryz.underlying61 hi1 hz01 hz11 hz21 rfl (by decide) _ _ _ rfl (Empty.own ⟨w1.heap.size, rfl, hs1, heap_alloc_new w1 _⟩ 3) w.heap.size _ _ _ (flatB l) rfl ((HRE.out.below HB1.out).alloc hs1 _) ?c1 ?c2 ?c3 ?c4 ?_)
      case c1 => exact flatB_ones _
      case c2 => unfold maxLen; omega
      case c3 => omega
      case c4 => simp; omega
      intro v2 w2 hown2 hgrow2 hat2
      obtain ⟨g, cap, rfl, hg1, hg2⟩ := hown2.form (by omega)
      have hb2 : Below w.heap.size w w2 := (HB1.out.alloc hs1 _).grown hgrow2 (by simp; omega) (fun k e => by simp [Value.ownBlock] at e; omega)
      have HB2 := Lib.hid hb2
      have hs2 := hb2.size
      have HN2 : Hid (RNow none w.heap.size w2 (.slice (some ⟨g, 0, none⟩) 2 cap) l) := Lib.hid ⟨by rw [HLN.out]; exact hown2,
        fun t ht => ((HA.out.cols t ht).kept fun k hk => hb2.block k (HS.out k hk)).mono fun k hk => ⟨by have := HS.out k hk; omega, fun e => by have := HS.out k hk; simp [Value.ownBlock] at e; omega, by simp⟩,
        fun t ht => ((HA.out.rows t ht).kept fun k hk => hb2.block k (HS.out k hk)).mono fun k hk => ⟨by have := HS.out k hk; omega, fun e => by have := HS.out k hk; simp [Value.ownBlock] at e; omega, by simp⟩⟩
      clear hown2 hgrow2 hat2 hb2 HRE HB1
      go_wp2_with fail
      go_loopw [9, 10] (fun v9 i wr => ∃ (k : Nat) (s : List TM) (a b : List It), k ≤ n ∧ i = .int .i64 k ∧ Hid (RNow v9.ownBlock w.heap.size wr (.slice (some ⟨g, 0, none⟩) 2 cap) s) ∧ Hid (s.map TM.key = st a b) ∧ Hid (wr.ownsRow w.heap.size 9 1 v9 (nsK cs k).length (strs (nsK cs k))) ∧ Hid (v9.ownBlock ≠ some g) ∧ Hid (runK (st a0 b0) 0 C0 = runK (st a b) k (C0.drop k)) ∧ Hid (KeysOk (1000 + k) (st a b)) ∧ Below w.heap.size w wr ∧ g < wr.heap.size) (fun _ i _ => n - (intOf i).toNat)
      case atStart => exact ⟨0, l, a0, b0, Nat.zero_le _, rfl, HN2, HL, Lib.hid (World.ownsRow_nil _ _ _ _), Lib.hid (by simp [Value.ownBlock]), Lib.hid rfl, Lib.hid (HK.out.more (by omega)), HB2.out, hg2⟩
      case round =>
        rename World => wo
        obtain ⟨k, s, a, b2, hk, rfl, HNW, HSM, HO, HNE, HRU, HKO, hb, hgo⟩ := hrel
        have HB := Lib.hid hb
        have hs := hb.size
        clear hb
        have HSL : Hid (s.length = 2) := Lib.hid (by have := congrArg List.length HSM.out; simpa [st] using this)
        have hnl2 := nsK_len cs k
        obtain ⟨A9, c9, rfl, hc9⟩ := own_slice HO.out
        obtain ⟨nl, hnl⟩ : ∃ nl, (nsK cs k).length = nl := ⟨_, rfl⟩
        have HNLN := Lib.hid hnl
        rw [hnl] at HNW HO HNE hnl2 hc9 ⊢
        by_cases hlt : k < n
        · obtain ⟨x, hx⟩ : ∃ x, cs[k]? = some x := ⟨_, List.getElem?_eq_getElem (by rw [HN.out]; exact hlt)⟩
          obtain ⟨b, off, rfl, hSb, hc1, hc2, hc3⟩ := (HC.out.below HB.out HS.out).get hx
          have hm := List.mem_of_getElem? hx
          have hCx : C0[k]? = some x.ch := by rw [← HC0.out, List.getElem?_map, hx]; rfl
          have HST : Hid (runK (st a b2) k (C0.drop k) = if (oneK (st a b2) ⟨x.nm, x.r, x.rem⟩).1 = 0 then runK (oneK (st a b2) ⟨x.nm, x.r, x.rem⟩).2 (k + 1) (C0.drop (k + 1)) else ((oneK (st a b2) ⟨x.nm, x.r, x.rem⟩).1, k, [])) := Lib.hid (runK_step hCx (st a b2) k)
          have hbw : b < w.heap.size := HS.out b hSb
          have hbo : b < wo.heap.size := by omega
          have HXC0 := Lib.hid (fun w1 (h : RowKit.Below wo.heap.size wo w1) => (⟨(h.cell (p := ⟨b, off + k * 3, none⟩) hbo).trans hc1, (h.cell (p := ⟨b, off + k * 3 + 1, none⟩) hbo).trans hc2, (h.cell (p := ⟨b, off + k * 3 + 2, none⟩) hbo).trans hc3⟩ : _ ∧ _ ∧ _))
          have HXR := Lib.hid (fun w1 (h : RowKit.Below wo.heap.size wo w1) => ((((HC.out.rows x hm).to HS.out).below (HB.out.trans (h.mono hs))).more (B' := w1.heap.size) (by have := h.size; omega)))
          have hxl := HCR.out x hm
          have HX := Lib.hid hx
          obtain ⟨xnm, xA, xc, xr, xrem⟩ := x
          dsimp only at HST HXC0 HXR hxl
          have HX2 : Hid (cs[k]? = some ⟨xnm, xA, xc, xr, xrem⟩) := HX
          obtain ⟨xn, hxn⟩ : ∃ xn, xr.length = xn := ⟨_, rfl⟩
          have HXN := Lib.hid hxn
          rw [hxn] at HXC0 hxl
          have HNC : Hid (∀ w1, RowKit.Below wo.heap.size wo w1 → ∀ (j : Nat) t, s[j]? = some t → w1.cell? ⟨g, j * 3, none⟩ = some (.string t.nm) ∧ w1.cell? ⟨g, j * 3 + 1, none⟩ = some (.slice t.cA t.cols.length t.cc) ∧ w1.cell? ⟨g, j * 3 + 2, none⟩ = some (.slice t.rA t.rows.length t.rc)) := Lib.hid (fun w1 h j t ht => by
            have h1 := (HNW.out.fresh h (.inl rfl))
            rw [← HSL.out] at h1
            obtain ⟨b', off', e, _, d1, d2, d3⟩ := (h1.row (by have := h.size; omega)).get ht
            obtain ⟨rfl, rfl⟩ : g = b' ∧ 0 = off' := by simpa using e
            rw [Nat.zero_add] at d1 d2 d3
            exact ⟨d1, d2, d3⟩)
          clear hx hm hSb hCx hc1 hc2 hc3 hxn hnl HX
          go_wp2_with fail
          go_loopw [11, 12] (fun kk nn wi => ∃ j : Nat, j ≤ 2 ∧ nn = .int .i64 j ∧ kk = .int .i64 (fnd xnm j) ∧ Below wo.heap.size wo wi) (fun _ nn _ => 2 - (intOf nn).toNat)
          case atStart => exact ⟨0, Nat.zero_le _, rfl, rfl, Below.refl _ _⟩
          case round =>
            rename World => wi
            obtain ⟨j, hj, rfl, rfl, hb⟩ := hrel
            have HBi := Lib.hid hb
            clear hb
            by_cases hj2 : j < 2
            · obtain ⟨t, ht, htn, _⟩ := st_at HSM.out hj2
              have d1 := (HNC.out wi HBi.out j t ht).1
              have d2 := (HXC0.out wi HBi.out).1
              rw [htn] at d1
              have hst := fnd_step xnm j hj2
              have hk0 : (0 : Int) ≤ (k : Int) := by omega
              have hkn : (k : Int) < (n : Int) := by omega
              have hj0 : (0 : Int) ≤ (j : Int) := by omega
              have hjn : (j : Int) < 2 := by omega
              obtain ⟨f, hf⟩ : ∃ f, fnd xnm j = f := ⟨_, rfl⟩
              rw [hf] at hst ⊢
              generalize nmAt j = nj at d1 hst
              clear ht htn hf
              cases hq : (nj.toList == xnm.toList)
              · rw [hq, if_neg (by simp)] at hst
                have HST2 := Lib.hid hst
                clear hst
                go_wp2_with fail
                go_quiet (fail)
                go_wp2_with fail
                go_roundw
                case rel => exact ⟨j + 1, by omega, by go_num, by rw [HST2.out], ⟨HBi.out.os, HBi.out.tape, HBi.out.output, HBi.out.size, HBi.out.block⟩⟩
                case measure => simp [intOf]; omega
              · rw [hq, if_pos rfl] at hst
                have HST2 := Lib.hid hst
                clear hst
                go_wp2_with fail
                go_quiet (fail)
                go_wp2_with fail
                go_roundw
                case rel => exact ⟨j + 1, by omega, by go_num, by rw [HST2.out], ⟨HBi.out.os, HBi.out.tape, HBi.out.output, HBi.out.size, HBi.out.block⟩⟩
                case measure => simp [intOf]; omega
            · obtain rfl : j = 2 := by omega
              rw [fnd_two xnm a b2]
              have hsi := HBi.out.size
              have HBw : Hid (RowKit.Below w.heap.size w wi) := Lib.hid (HB.out.trans (HBi.out.mono hs))
              rcases find_cases xnm a b2 with hneg | ⟨q, hq, hfq, hnm⟩
              · rw [hneg]
                have HNEG := Lib.hid hneg
                clear hneg
                go_wp2_with fail
                ((try simp only [Exit.inBlock, Exit.then]); refine bodyPost_ret (results_tmp4 rfl _ _ _) rfl ?_)
                have e : AK = (20, k, [], []) := by
                  have h1 : oneK (st a b2) ⟨xnm, xr, xrem⟩ = (20, st a b2) := oneK_no HNEG.out
                  have h2 := HST.out
                  rw [h1, if_neg (by simp)] at h2
                  rw [← HAK2.out, HRU.out, h2, if_neg (by simp)]
                subst e
                exact ⟨_, _, rfl, HBw.out, fun _ => ⟨rfl, rfl⟩, fun h => by simp at h⟩
              · rw [hfq]
                obtain ⟨t, ht, htn, htk⟩ := st_at HSM.out hq
                have HON : Hid (oneK (st a b2) ⟨xnm, xr, xrem⟩ = if hitK t.key xr xrem = 0 then (0, (st a b2).set q (t.nm, t.cols, addS (its t.rows) xr (netOf xrem))) else (hitK t.key xr xrem, st a b2)) := Lib.hid (oneK_at hfq htk)
                have hmt := List.mem_of_getElem? ht
                have HTK := Lib.hid htk
                have HT := Lib.hid ht
                have HNM := Lib.hid hnm
                have hkb : KeysOk (1000 + k) (s.map TM.key) := by rw [HSM.out]; exact HKO.out
                have htb := hkb.tabOk (by omega)
                have HTO := Lib.hid (htb.set t hmt)
                have hrl : (t.rows.length : Int) ≤ 1000 + k := (hkb.of hmt).rlen
                have hrv : vol (its t.rows) ≤ 1000 + k := (hkb.of hmt).vol
                have HPL : Hid (∀ x ∈ t.rows, 0 ≤ x.k) := Lib.hid (fun x hx => (hkb.of hmt).plain x.it (List.mem_map.2 ⟨x, hx, rfl⟩))
                have HTC := Lib.hid (htb.cols t hmt)
                have hcl6 := cols_len (htb.cols t hmt)
                have HNCt := Lib.hid (fun w1 (h : RowKit.Below wi.heap.size wi w1) => HNC.out w1 (HBi.out.trans (h.mono hsi)) q t ht)
                have HXCi := Lib.hid (fun w1 (h : RowKit.Below wi.heap.size wi w1) => HXC0.out w1 (HBi.out.trans (h.mono hsi)))
                have HXRi := Lib.hid (fun w1 (h : RowKit.Below wi.heap.size wi w1) => HXR.out w1 (HBi.out.trans (h.mono hsi)))
                have HNi : Hid (RNow (Value.slice A9 nl c9).ownBlock w.heap.size wi (.slice (some ⟨g, 0, none⟩) 2 cap) s) := Lib.hid (HNW.out.fresh HBi.out (.inl rfl))
                have HOi := Lib.hid (ownM_below HO.out HBi.out)
                have HCOi := Lib.hid (fun w1 (h : RowKit.Below wi.heap.size wi w1) => (((HNi.out.fresh h (.inl rfl)).cols t hmt).mono fun p hp => hp.1).to (B := w1.heap.size) fun p hp => hp)
                have HROi := Lib.hid (fun w1 (h : RowKit.Below wi.heap.size wi w1) => ((HNi.out.fresh h (.inl rfl)).rows t hmt).mono (S' := fun p => p < w1.heap.size) fun p hp => hp.1)
                have hgi : g < wi.heap.size := by omega
                have HFR : Hid (∀ w1, RowKit.Below wi.heap.size wi w1 → w1.frozen? ⟨g, q * 3 + 2, none⟩ = false) := Lib.hid (fun w1 h => by have h2 := ownM_below HNi.out.own h; rw [HSL.out] at h2; exact h2.frozenAt (q * 3 + 2))
                have HHK : Hid (hitK t.key xr xrem = if fitsB t.cols xr = false then 22 else if xrem = true then (if look (its t.rows) xr = 0 then 25 else 0) else (if fullK 0 (its t.rows) = true then 13 else 0)) := Lib.hid rfl
                have HFU : Hid (fullK 0 (its t.rows) = decide (64 ≤ vol (its t.rows))) := Lib.hid (by
                  rw [fullK_vol _ 0 (by omega) (fun x hx => by
                    obtain ⟨y, hy, rfl⟩ := List.mem_map.1 hx
                    exact HPL.out y hy), Int.zero_add])
                obtain ⟨tnm, tcA, tcc, tcl, trA, trc, trl⟩ := t
                dsimp only at HON htn HTO hrl hrv HPL HTC hcl6 HNCt HCOi HROi HHK HFU
                obtain ⟨tcn, htcn⟩ : ∃ tcn, tcl.length = tcn := ⟨_, rfl⟩
                obtain ⟨trn, htrn⟩ : ∃ trn, trl.length = trn := ⟨_, rfl⟩
                have HTCN := Lib.hid htcn
                have HTRN := Lib.hid htrn
                rw [htcn] at HNCt hcl6
                rw [htrn] at HNCt hrl
                clear HNC HXC0 HXR ht htn htk hmt hkb htb htcn htrn hfq hnm HNW HO
                have d2 := (HNCt.out wi (Below.refl _ _)).2.1
                have d3 := (HNCt.out wi (Below.refl _ _)).2.2
                have x2 := (HXCi.out wi (Below.refl _ _)).2.1
                have hk0 : (0 : Int) ≤ (k : Int) := by omega
                have hkn : (k : Int) < (n : Int) := by omega
                have hq0 : (0 : Int) ≤ (q : Int) := by omega
                have hqn : (q : Int) < 2 := by omega
                have hft := Lib.hid (fun w1 (h : RowKit.Below wi.heap.size wi w1) => ref5_fits tcA xA tcc xc tcl xr (by rw [HTCN.out]; omega) (by rw [HXN.out]; omega) w1 (HCOi.out w1 h) (HXRi.out w1 h))
                rw [HTCN.out, HXN.out] at hft
                have C1 := Lib.hid (fun d os => Calls.regrown_of (hft.out (grow (redrawn wi d) os) (below_regrown wi d os)))
                have e2 := fun d os => cell_regrown d2 d os
                have e3 := fun d os => cell_regrown x2 d os
                clear hft
                obtain ⟨fb, hfb⟩ : ∃ fb, fitsB tcl xr = fb := ⟨_, rfl⟩
                rw [hfb] at C1
                have HFB := Lib.hid hfb
                clear hfb
                go_wp2_with fail
                refine wp_region_quiet_below (by assumption) (by kernel_rfl) ?_
                repeat (quiet_step (first | (go_at_call 49; exact C1.out _ _)))
                refine wpQuiet_nil ?_
                intro _ hw'
                obtain ⟨⟨nq, osq⟩, hw''⟩ := hw'
                subst hw''
                have HW3 := Lib.hid (below_regrown wi nq osq)
                clear e2 e3 C1 d2 x2
                generalize grow (redrawn wi nq) osq = w3 at HW3 ⊢
                have hw3 := HW3.out.size
                have HB3 : Hid (RowKit.Below w.heap.size w w3) := Lib.hid (HBw.out.trans (HW3.out.mono (by omega)))
                cases fb
                · go_wp2_with fail
                  ((try simp only [Exit.inBlock, Exit.then]); refine bodyPost_ret (results_tmp4 rfl _ _ _) rfl ?_)
                  have e : AK = (22, k, [], []) := by
                    have h0 : hitK (TM.key ⟨tnm, tcA, tcc, tcl, trA, trc, trl⟩) xr xrem = 22 := by rw [HHK.out, HFB.out]; rfl
                    have h1 := HON.out
                    rw [h0, if_neg (by decide)] at h1
                    have h2 := HST.out
                    rw [h1, if_neg (by simp)] at h2
                    rw [← HAK2.out, HRU.out, h2, if_neg (by simp)]
                  subst e
                  exact ⟨_, _, rfl, HB3.out, fun _ => ⟨rfl, rfl⟩, fun h => by simp at h⟩
                · have d3 := (HNCt.out w3 HW3.out).2.2
                  have x3 := (HXCi.out w3 HW3.out).2.2
                  have HTT := Lib.hid (rtotal_any trA trc trl w3 (HROi.out w3 HW3.out) (fun p hp => hp) (by rw [HTRN.out]; omega) HTO.out HPL.out)
                  rw [HTRN.out] at HTT
                  obtain ⟨vo, hvo⟩ : ∃ vo, vol (its trl) = vo := ⟨_, rfl⟩
                  rw [hvo] at HTT HFU hrv
                  have HVO := Lib.hid hvo
                  have hvo0 := vol_nonneg (its trl)
                  rw [hvo] at hvo0
                  obtain ⟨X13, Y13, h13⟩ : ∃ X13 Y13, tal (netOf xrem) = .complex .f64 X13 Y13 := ⟨_, _, rfl⟩
                  have H13 := Lib.hid h13
                  clear h13 hvo
                  go_wp2_with (go_at_call 50; refine (ref3_Of 1 0 _).mono ?_; rintro e w' ⟨rfl, rfl⟩)
                  refine HTT.out.mono ?_
                  rintro e w5 ⟨rfl, hb5⟩
                  have HW5 := Lib.hid (HW3.out.trans (hb5.mono hw3))
                  have hw5 := HW5.out.size
                  have HB5 : Hid (RowKit.Below w.heap.size w w5) := Lib.hid (HBw.out.trans (HW5.out.mono (by omega)))
                  clear hb5 HTT d3 x3 HW3 HB3
                  have x5 := (HXCi.out w5 HW5.out).2.2
                  have x52 := (HXCi.out w5 HW5.out).2.1
                  have d5 := (HNCt.out w5 HW5.out).2.2
                  go_upto_if 87 with (fail)
                  go_cut [13] (fun s13 wx => s13 = .complex .f64 X13 Y13 ∧ Below w5.heap.size w5 wx ∧ Aside (hitK (TM.key ⟨tnm, tcA, tcc, tcl, trA, trc, trl⟩) xr xrem = 0))
                  case first =>
                    cases xrem
                    · by_cases hfu : 64 ≤ vo
                      · go_wp2_with fail
                        ((try simp only [Exit.inBlock, Exit.then]); refine bodyPost_ret (results_tmp4 rfl _ _ _) rfl ?_)
                        have e : AK = (13, k, [], []) := by
                          have h0 : hitK (TM.key ⟨tnm, tcA, tcc, tcl, trA, trc, trl⟩) xr false = 13 := by rw [HHK.out, HFB.out, HFU.out, decide_eq_true hfu]; rfl
                          have h1 := HON.out
                          rw [h0, if_neg (by decide)] at h1
                          have h2 := HST.out
                          rw [h1, if_neg (by simp)] at h2
                          rw [← HAK2.out, HRU.out, h2, if_neg (by simp)]
                        subst e
                        exact ⟨_, _, rfl, HB5.out, fun _ => ⟨rfl, rfl⟩, fun h => by simp at h⟩
                      · have HFD : Hid (decide (64 ≤ vo) = false) := Lib.hid (decide_eq_false hfu)
                        go_wp2_with fail
                        go_meet
                        exact ⟨tal_p1.symm.trans (show tal 1 = _ from H13.out), Below.refl _ _, by rw [HHK.out, HFB.out, HFU.out, HFD.out]; rfl⟩
                    · have hrok := rowOk_of HTC.out HFB.out
                      have hof := Lib.hid (fun w1 (h : RowKit.Below wi.heap.size wi w1) => rof_any trA xA trc xc trl xr w1 (HROi.out w1 h) (fun p hp => hp) (by rw [HTRN.out]; omega) HTO.out (HXRi.out w1 h) hrok)
                      rw [HTRN.out, HXN.out] at hof
                      obtain ⟨lk, hlk⟩ : ∃ lk, look (its trl) xr = lk := ⟨_, rfl⟩
                      have HLK := Lib.hid hlk
                      have hbd := look_bd (its trl) xr
                      rw [HVO.out, hlk] at hbd
                      have hokl : okN lk := by unfold okN; omega
                      have hzz := run_eq_zero (a := lk) hokl 45 Tryz.prog
                      have hgz := fun op t x y v => eqGuard_at_tal op t x y lk v
                      rw [hlk] at hof
                      have C2 := Lib.hid (fun d os => Calls.regrown_of (hof.out (grow (redrawn w5 d) os) (HW5.out.trans ((below_regrown w5 d os).mono hw5))))
                      have e2 := fun d os => cell_regrown d5 d os
                      have e3 := fun d os => cell_regrown x52 d os
                      clear hof hlk hbd hokl
                      go_wp2_with fail
                      refine wp_region_quiet_below (by assumption) (by kernel_rfl) ?_
                      repeat (quiet_step (first | (go_at_call 52; exact C2.out _ _)))
                      refine wpQuiet_nil ?_
                      intro _ hw'
                      obtain ⟨⟨nq, osq⟩, hw''⟩ := hw'
                      subst hw''
                      have HW6 := Lib.hid (below_regrown w5 nq osq)
                      clear e2 e3 C2 d5 x52 x5
                      generalize grow (redrawn w5 nq) osq = w6 at HW6 ⊢
                      by_cases hl0 : lk = 0
                      · have hld : decide (lk = 0) = true := decide_eq_true hl0
                        go_wp2_with fail
                        ((try simp only [Exit.inBlock, Exit.then]); refine bodyPost_ret (results_tmp4 rfl _ _ _) rfl ?_)
                        have e : AK = (25, k, [], []) := by
                          have h0 : hitK (TM.key ⟨tnm, tcA, tcc, tcl, trA, trc, trl⟩) xr true = 25 := by rw [HHK.out, HFB.out, HLK.out, if_neg (by decide), if_pos trivial, if_pos hl0]
                          have h1 := HON.out
                          rw [h0, if_neg (by decide)] at h1
                          have h2 := HST.out
                          rw [h1, if_neg (by simp)] at h2
                          rw [← HAK2.out, HRU.out, h2, if_neg (by simp)]
                        subst e
                        exact ⟨_, _, rfl, HB5.out.trans (HW6.out.mono HB5.out.size), fun _ => ⟨rfl, rfl⟩, fun h => by simp at h⟩
                      · have hld : decide (lk = 0) = false := decide_eq_false hl0
                        go_wp2_with (go_at_call 50; refine (ref3_Of 0 1 _).mono ?_; rintro e w' ⟨rfl, rfl⟩)
                        go_meet
                        exact ⟨tal_m1.symm.trans (show tal (-1) = _ from H13.out), HW6.out, by rw [HHK.out, HFB.out, HLK.out, if_neg (by decide), if_pos trivial, if_neg hl0]; rfl⟩
                  case rest =>
                  obtain ⟨rfl, hb6, hhi⟩ := hcut
                  rename World => w6
                  have HHI : Hid (hitK (TM.key ⟨tnm, tcA, tcc, tcl, trA, trc, trl⟩) xr xrem = 0) := Lib.hid hhi
                  have HW6 := Lib.hid (HW5.out.trans (hb6.mono hw5))
                  have hw6 := HW6.out.size
                  have HB6 : Hid (RowKit.Below w.heap.size w w6) := Lib.hid (HBw.out.trans (HW6.out.mono (by omega)))
                  have HN6 : Hid (RNow (Value.slice A9 nl c9).ownBlock w.heap.size w6 (.slice (some ⟨g, 0, none⟩) 2 cap) s) := Lib.hid (HNi.out.fresh HW6.out (.inl rfl))
                  have HO6 := Lib.hid (ownM_below HOi.out HW6.out)
                  have hg6 : g < w6.heap.size := by omega
                  have HNR := Lib.hid (fun w1 (h : RowKit.Below w6.heap.size w6 w1) => (⟨(HNCt.out w1 (HW6.out.trans (h.mono hw6))).2.2, HFR.out w1 (HW6.out.trans (h.mono hw6))⟩ : _ ∧ _))
                  have HXC := Lib.hid (fun w1 (h : RowKit.Below w6.heap.size w6 w1) => (⟨(HXCi.out w1 (HW6.out.trans (h.mono hw6))).1, (HXCi.out w1 (HW6.out.trans (h.mono hw6))).2.1⟩ : _ ∧ _))
                  have HAD := Lib.hid (fun g5 w1 (h : RowKit.Below w6.heap.size w6 w1) (hlt5 : g5 < w1.heap.size) (c0 : w1.cell? ⟨g5, 0, none⟩ = some (.slice xA xn xc)) (c1 : w1.cell? ⟨g5, 1, none⟩ = some (.complex .f64 X13 Y13)) => radd_one trA xA trc xc trl xr (netOf xrem) w1 g5 (HROi.out w1 (HW6.out.trans (h.mono hw6))) (fun p hp => hp) (by rw [HTRN.out]; omega) HTO.out (by rw [HVO.out]; omega) (HXRi.out w1 (HW6.out.trans (h.mono hw6))) (rowOk_of HTC.out HFB.out) (net_cases xrem) hlt5 (by rw [HXN.out]; exact c0) (by rw [H13.out]; exact c1))
                  rw [HTRN.out] at HAD
                  clear hb6 hhi HW6 HNi HOi HNCt HXCi HXRi HFR HROi HCOi HW5 HB5 HBi HBw x5 x52 d5 hw5 HHK HFU hw6
                  go_upto_region 30 with (fail)
                  refine EachKit.region_eachZ (z := 21) (mz := 1835007) (Zr := fun w1 w2 => ∃ A' c' s', (SRow w1 (fun k => w6.heap.size ≤ k ∧ k < w1.heap.size) A' s' ∧ SetOk (its s') ∧ ∀ p, look (its s') p = look (its trl ++ [(xr, netOf xrem)]) p) ∧ w2 = w1.setCell ⟨g, q * 3 + 2, none⟩ (.slice A' s'.length c')) (R := EachKit.holdsL [.is (.slice (some ⟨g, 0, none⟩) 2 cap), .is (.int .i64 (q : Nat)), .is (.slice (some ⟨g, 0, none⟩) 2 cap), .is (.int .i64 (q : Nat)), .is (.pointer (some ⟨g, q * 3, none⟩)), .is (.pointer (some ⟨g, q * 3 + 2, none⟩)), .is (.slice trA trn trc), .is (.slice (some ⟨b, off, none⟩) n d), .is (.int .i64 (k : Nat)), .is (.pointer (some ⟨b, off + k * 3, none⟩)), .is (.pointer (some ⟨b, off + k * 3 + 1, none⟩)), .is (.slice xA xn xc), .is (.complex .f64 X13 Y13), .is (.agg #[.slice xA xn xc, .complex .f64 X13 Y13]), .blk w6.heap.size 47 1 #[.slice xA xn xc, .complex .f64 X13 Y13], .sumT w6.heap.size (its trl ++ [(xr, netOf xrem)]), .sumT w6.heap.size (its trl ++ [(xr, netOf xrem)]), .sumS w6.heap.size (its trl ++ [(xr, netOf xrem)]), .is (.int .i64 0), .is (.pointer (some ⟨g, q * 3, none⟩)), .is (.pointer (some ⟨g, q * 3 + 2, none⟩))]) (ds := [some 106, some 107, some 108, some 109, some 110, some 111, some 112, some 113, some 114, some 115, some 116, some 117, some 118, some 119, some 120, some 121, some 105, some 122, some 123, some 124, some 125, none]) (MS := [0, 0, 0, 0, 12, 28, 60, 0, 0, 384, 896, 1920, 0, 8064, 16256, 32764, 65532, 131068, 131068, 262143, 786431, 1835007]) mixed (by kernel_rfl) (by kernel_rfl) (by kernel_rfl) (by kernel_rfl) (by kernel_rfl) rfl (fun _ => rfl) rfl (EachKit.holdsL_mono _)
                    (fun a0 => a0.tmps.getD 1 undef = .slice (some ⟨b, off, none⟩) n d ∧ a0.tmps.getD 8 undef = .slice (some ⟨g, 0, none⟩) 2 cap ∧ a0.tmps.getD 10 undef = .int .i64 (k : Nat) ∧ a0.tmps.getD 11 undef = .int .i64 (q : Nat) ∧ a0.tmps.getD 13 undef = .complex .f64 X13 Y13) ⟨rfl, rfl, rfl, rfl, rfl⟩ ?_ ?_
                  · intro hds Q' a0 ⟨og1, og8, og10, og11, og13⟩
                    refine EachKit.Each.cons (EachKit.GoalZ.mem rfl rfl (EachKit.OpGoal.free rfl (fun a1 w1 hB hL1 hk K hK => ?_))) ?_
                    · have s8 : a1.tmps.getD 8 undef = .slice (some ⟨g, 0, none⟩) 2 cap := hL1.old rfl og8
                      clear hk hL1
                      go_simp
                      exact hK _ _ (Below.refl _ _) rfl
                    refine EachKit.Each.cons (EachKit.GoalZ.mem rfl rfl (EachKit.OpGoal.free rfl (fun a1 w1 hB hL1 hk K hK => ?_))) ?_
                    · have s11 : a1.tmps.getD 11 undef = .int .i64 (q : Nat) := hL1.old rfl og11
                      clear hk hL1
                      go_simp
                      exact hK _ _ (Below.refl _ _) rfl
                    refine EachKit.Each.cons (EachKit.GoalZ.mem rfl rfl (EachKit.OpGoal.free rfl (fun a1 w1 hB hL1 hk K hK => ?_))) ?_
                    · have s8 : a1.tmps.getD 8 undef = .slice (some ⟨g, 0, none⟩) 2 cap := hL1.old rfl og8
                      clear hk hL1
                      go_simp
                      exact hK _ _ (Below.refl _ _) rfl
                    refine EachKit.Each.cons (EachKit.GoalZ.mem rfl rfl (EachKit.OpGoal.free rfl (fun a1 w1 hB hL1 hk K hK => ?_))) ?_
                    · have s11 : a1.tmps.getD 11 undef = .int .i64 (q : Nat) := hL1.old rfl og11
                      clear hk hL1
                      go_simp
                      exact hK _ _ (Below.refl _ _) rfl
                    refine EachKit.Each.cons (EachKit.GoalZ.mem rfl rfl (EachKit.OpGoal.free rfl (fun a1 w1 hB hL1 hk K hK => ?_))) ?_
                    · have s108 : a1.tmps.getD 108 undef = .slice (some ⟨g, 0, none⟩) 2 cap := (hk 2 rfl).is rfl (fun _ h => h)
                      have s109 : a1.tmps.getD 109 undef = .int .i64 (q : Nat) := (hk 3 rfl).is rfl (fun _ h => h)
                      clear hk hL1
                      go_simp
                      exact hK _ _ (Below.refl _ _) rfl
                    refine EachKit.Each.cons (EachKit.GoalZ.mem rfl rfl (EachKit.OpGoal.free rfl (fun a1 w1 hB hL1 hk K hK => ?_))) ?_
                    · have s110 : a1.tmps.getD 110 undef = .pointer (some ⟨g, q * 3, none⟩) := (hk 4 rfl).is rfl (fun _ h => h)
                      clear hk hL1
                      go_simp
                      exact hK _ _ (Below.refl _ _) rfl
                    refine EachKit.Each.cons (EachKit.GoalZ.mem rfl rfl (EachKit.OpGoal.free rfl (fun a1 w1 hB hL1 hk K hK => ?_))) ?_
                    · have s111 : a1.tmps.getD 111 undef = .pointer (some ⟨g, q * 3 + 2, none⟩) := (hk 5 rfl).is rfl (fun _ h => h)
                      have cx := (HNR.out w1 hB).1
                      clear hk hL1
                      go_simp
                      exact hK _ _ (Below.refl _ _) rfl
                    refine EachKit.Each.cons (EachKit.GoalZ.mem rfl rfl (EachKit.OpGoal.free rfl (fun a1 w1 hB hL1 hk K hK => ?_))) ?_
                    · have s1 : a1.tmps.getD 1 undef = .slice (some ⟨b, off, none⟩) n d := hL1.old rfl og1
                      clear hk hL1
                      go_simp
                      exact hK _ _ (Below.refl _ _) rfl
                    refine EachKit.Each.cons (EachKit.GoalZ.mem rfl rfl (EachKit.OpGoal.free rfl (fun a1 w1 hB hL1 hk K hK => ?_))) ?_
                    · have s10 : a1.tmps.getD 10 undef = .int .i64 (k : Nat) := hL1.old rfl og10
                      clear hk hL1
                      go_simp
                      exact hK _ _ (Below.refl _ _) rfl
                    refine EachKit.Each.cons (EachKit.GoalZ.mem rfl rfl (EachKit.OpGoal.free rfl (fun a1 w1 hB hL1 hk K hK => ?_))) ?_
                    · have s113 : a1.tmps.getD 113 undef = .slice (some ⟨b, off, none⟩) n d := (hk 7 rfl).is rfl (fun _ h => h)
                      have s114 : a1.tmps.getD 114 undef = .int .i64 (k : Nat) := (hk 8 rfl).is rfl (fun _ h => h)
                      clear hk hL1
                      go_simp
                      exact hK _ _ (Below.refl _ _) rfl
                    refine EachKit.Each.cons (EachKit.GoalZ.mem rfl rfl (EachKit.OpGoal.free rfl (fun a1 w1 hB hL1 hk K hK => ?_))) ?_
                    · have s115 : a1.tmps.getD 115 undef = .pointer (some ⟨b, off + k * 3, none⟩) := (hk 9 rfl).is rfl (fun _ h => h)
                      clear hk hL1
                      go_simp
                      exact hK _ _ (Below.refl _ _) rfl
                    refine EachKit.Each.cons (EachKit.GoalZ.mem rfl rfl (EachKit.OpGoal.free rfl (fun a1 w1 hB hL1 hk K hK => ?_))) ?_
                    · have s116 : a1.tmps.getD 116 undef = .pointer (some ⟨b, off + k * 3 + 1, none⟩) := (hk 10 rfl).is rfl (fun _ h => h)
                      have cx := (HXC.out w1 hB).2
                      clear hk hL1
                      go_simp
                      exact hK _ _ (Below.refl _ _) rfl
                    refine EachKit.Each.cons (EachKit.GoalZ.mem rfl rfl (EachKit.OpGoal.free rfl (fun a1 w1 hB hL1 hk K hK => ?_))) ?_
                    · have s13 : a1.tmps.getD 13 undef = .complex .f64 X13 Y13 := hL1.old rfl og13
                      clear hk hL1
                      go_simp
                      exact hK _ _ (Below.refl _ _) rfl
                    refine EachKit.Each.cons (EachKit.GoalZ.mem rfl rfl (EachKit.OpGoal.free rfl (fun a1 w1 hB hL1 hk K hK => ?_))) ?_
                    · have s117 : a1.tmps.getD 117 undef = .slice xA xn xc := (hk 11 rfl).is rfl (fun _ h => h)
                      have s118 : a1.tmps.getD 118 undef = .complex .f64 X13 Y13 := (hk 12 rfl).is rfl (fun _ h => h)
                      have s117' := s117
                      rw [Array.getD_eq_getD_getElem?] at s117'
                      have s118' := s118
                      rw [Array.getD_eq_getD_getElem?] at s118'
                      clear hk hL1
                      go_simp
                      exact hK _ _ (Below.refl _ _) rfl
                    refine EachKit.Each.cons (EachKit.GoalZ.mem rfl rfl (EachKit.OpGoal.free rfl (fun a1 w1 hB hL1 hk K hK => ?_))) ?_
                    · have s119 : a1.tmps.getD 119 undef = .agg #[.slice xA xn xc, .complex .f64 X13 Y13] := (hk 13 rfl).is rfl (fun _ h => h)
                      have s119' := s119
                      rw [Array.getD_eq_getD_getElem?] at s119'
                      clear hk hL1
                      go_simp
                      exact hK _ _ ((Below.refl _ _).alloc (Nat.le_refl _) _) ⟨w1.heap.size, rfl, hB.size, heap_alloc_new w1 _⟩
                    refine EachKit.Each.cons (EachKit.GoalZ.mem rfl rfl (EachKit.OpGoal.free rfl (fun a1 w1 hB hL1 hk K hK => ?_))) ?_
                    · have s112 : a1.tmps.getD 112 undef = .slice trA trn trc := (hk 6 rfl).is rfl (fun _ h => h)
                      obtain ⟨v120, s120, g5, rfl, hg5, hb5⟩ := (hk 14 rfl).slot rfl
                      clear hk hL1
                      go_simp
                      refine (HAD.out g5 w1 hB (Array.getElem?_eq_some_iff.1 hb5).1 (by first | exact Blk.cell hb5 0 | exact (Blk.cell hb5 0).trans rfl) (by first | exact Blk.cell hb5 1 | exact (Blk.cell hb5 1).trans rfl)).mono ?_
                      rintro e w2 ⟨⟨A', c', s', rfl, _, hs2, hs3, hs4⟩, hb2⟩
                      exact hK _ _ hb2 ⟨A', c', s', rfl, hs2.mono (fun k hk => ⟨by have := hk.1; have := hB.size; omega, hk.2.1⟩), hs3, hs4⟩
                    refine EachKit.Each.cons (EachKit.GoalZ.mem rfl rfl (EachKit.OpGoal.free rfl (fun a1 w1 hB hL1 hk K hK => ?_))) ?_
                    · obtain ⟨v121, s121, A', c', s', rfl, hF⟩ := (hk 15 rfl).slot rfl
                      clear hk hL1
                      go_simp
                      exact hK _ _ (Below.refl _ _) ⟨A', c', s', rfl, hF⟩
                    refine EachKit.Each.cons (EachKit.GoalZ.mem rfl rfl (EachKit.OpGoal.free rfl (fun a1 w1 hB hL1 hk K hK => ?_))) ?_
                    · obtain ⟨v105, s105, A', c', s', rfl, hF⟩ := (hk 16 rfl).slot rfl
                      clear hk hL1
                      go_simp
                      exact hK _ _ (Below.refl _ _) ⟨A', c', s', rfl, hF⟩
                    refine EachKit.Each.cons (EachKit.GoalZ.pure rfl rfl (EachKit.OpPure.free rfl (fun a1 w2 w1 hL1 hk K hK => ?_))) ?_
                    · obtain ⟨v105, s105, A', c', s', rfl, hF⟩ := (hk 16 rfl).slot rfl
                      clear hk hL1 hF
                      go_simp
                      exact hK _ rfl
                    refine EachKit.Each.cons (EachKit.GoalZ.mem rfl rfl (EachKit.OpGoal.free rfl (fun a1 w1 hB hL1 hk K hK => ?_))) ?_
                    · have s106 : a1.tmps.getD 106 undef = .slice (some ⟨g, 0, none⟩) 2 cap := (hk 0 rfl).is rfl (fun _ h => h)
                      have s107 : a1.tmps.getD 107 undef = .int .i64 (q : Nat) := (hk 1 rfl).is rfl (fun _ h => h)
                      clear hk hL1
                      go_simp
                      exact hK _ _ (Below.refl _ _) rfl
                    refine EachKit.Each.cons (EachKit.GoalZ.mem rfl rfl (EachKit.OpGoal.free rfl (fun a1 w1 hB hL1 hk K hK => ?_))) ?_
                    · have s124 : a1.tmps.getD 124 undef = .pointer (some ⟨g, q * 3, none⟩) := (hk 19 rfl).is rfl (fun _ h => h)
                      clear hk hL1
                      go_simp
                      exact hK _ _ (Below.refl _ _) rfl
                    refine EachKit.Each.cons (EachKit.GoalZ.store rfl (EachKit.OpStore.free rfl (fun a1 w1 hB hL1 hk K hK => ?_))) ?_
                    · obtain ⟨v122, s122, A', c', s', rfl, hF⟩ := (hk 17 rfl).slot rfl
                      have s125 : a1.tmps.getD 125 undef = .pointer (some ⟨g, q * 3 + 2, none⟩) := (hk 20 rfl).is rfl (fun _ h => h)
                      have cx := (HNR.out w1 hB).1
                      have fx := (HNR.out w1 hB).2
                      clear hk hL1
                      go_simp
                      exact hK undef _ ⟨A', c', s', hF, rfl⟩
                    exact trivial
                  · rintro a' w1 w7 hB ⟨A', c', s', ⟨hs2, hs3, hs4⟩, rfl⟩ hL1 hk
                    obtain ⟨u, hu⟩ := hL1.form
                    subst hu
                    simp only [EachKit.setU, Act.put, List.getElem_toArray, List.getElem_cons_succ, List.getElem_cons_zero, List.setIfInBounds_toArray, List.set_cons_zero, List.set_cons_succ]
                    clear hk hL1
                    have hbg : b ≠ g := by omega
                    have hsz7 := setCell_size w1 ⟨g, q * 3 + 2, none⟩ (.slice A' s'.length c')
                    have HX7 : Hid ((w1.setCell ⟨g, q * 3 + 2, none⟩ (.slice A' s'.length c')).cell? ⟨b, off + k * 3, none⟩ = some (.string xnm)) := Lib.hid ((World.cell?_of_block (Below.heap_setCell w1 ⟨g, q * 3 + 2, none⟩ _ b hbg)).trans (HXC.out w1 hB).1)
                    have HB7 : Hid (RowKit.Below w.heap.size w (w1.setCell ⟨g, q * 3 + 2, none⟩ (.slice A' s'.length c'))) := Lib.hid ((HB6.out.trans (hB.mono HB6.out.size)).setCell (show w.heap.size ≤ g by omega) _)
                    have HN7 : Hid (RNow (Value.slice A9 nl c9).ownBlock w.heap.size (w1.setCell ⟨g, q * 3 + 2, none⟩ (.slice A' s'.length c')) (.slice (some ⟨g, 0, none⟩) 2 cap) (s.set q ⟨tnm, tcA, tcc, tcl, A', c', s'⟩)) := Lib.hid (by
                      have h1 := HN6.out
                      rw [← HSL.out] at h1
                      have h2 := h1.set (w1 := w1) hg6 (fun j hj => (HO6.out.lt j hj).2) hB HT.out hs2 (c' := c')
                      rw [HSL.out] at h2
                      exact h2)
                    have HO7 : Hid ((w1.setCell ⟨g, q * 3 + 2, none⟩ (.slice A' s'.length c')).ownsRow w.heap.size 9 1 (.slice A9 nl c9) nl (strs (nsK cs k))) := Lib.hid (own_of_block (ownM_below HO6.out hB) (fun j hj => Below.heap_setCell w1 ⟨g, q * 3 + 2, none⟩ _ j (fun e => HNE.out (by rw [hj, e]))))
                    have HTS : Hid (s'.length = s'.length) := rfl
                    have hrok := rowOk_of HTC.out HFB.out
                    have HSE : Hid (its s' = addS (its trl) xr (netOf xrem)) := Lib.hid (addS_eq (k := netOf xrem) hs3 HTO.out.set hrok (net_ne xrem) (fun p => by rw [hs4, look_append, look_one]))
                    have hg7 : g < (w1.setCell ⟨g, q * 3 + 2, none⟩ (.slice A' s'.length c')).heap.size := by rw [hsz7]; have := hB.size; omega
                    clear hs2 hs3 hs4 hsz7 HAD HNR HXC
                    generalize w1.setCell ⟨g, q * 3 + 2, none⟩ (.slice A' s'.length c') = w7 at HX7 HB7 HN7 HO7 hg7 ⊢
                    have x7 := HX7.out
                    have HPU := Lib.hid (by
                      have h1 := HO7.out
                      rw [← HNLN.out] at h1
                      have h2 := rput_any A9 c9 (nsK cs k) xnm w7 (S := fun j => j < w7.heap.size) ((own_texts h1).mono fun j hj => hj.2.2) (fun j hj => hj) (by have := nsK_len cs k; omega)
                      rw [nsK_step HX2.out hq HNM.out, HNLN.out] at h2
                      exact h2)
                    clear HX7 HN6 HB6 HO6 hB
                    go_wp2_with fail
                    refine HPU.out.mono ?_
                    rintro e w8 ⟨⟨v8, rfl, hown8⟩, hb8⟩
                    have hw7 := HB7.out.size
                    have HB8 := Lib.hid (HB7.out.trans (hb8.mono hw7))
                    have HO8 : Hid (w8.ownsRow w.heap.size 9 1 v8 (nsK cs (k + 1)).length (strs (nsK cs (k + 1)))) := Lib.hid (own_lower hown8 hw7)
                    have HN8 : Hid (RNow v8.ownBlock w.heap.size w8 (.slice (some ⟨g, 0, none⟩) 2 cap) (s.set q ⟨tnm, tcA, tcc, tcl, A', c', s'⟩)) := Lib.hid (HN7.out.fresh hb8 (.inr fun j hj => (hown8.lt j hj).1))
                    have HNE8 : Hid (v8.ownBlock ≠ some g) := Lib.hid (fun e => by have := (hown8.lt g e).1; omega)
                    have hg8 : g < w8.heap.size := by have := hb8.size; omega
                    obtain ⟨a', b', hab⟩ := st_set hq HTK.out (addS (its trl) xr (netOf xrem))
                    have HK8 : Hid ((s.set q ⟨tnm, tcA, tcc, tcl, A', c', s'⟩).map TM.key = st a' b') := Lib.hid (by
                      rw [List.map_set, HSM.out, ← hab]
                      show (st a b2).set q (tnm, tcl, its s') = _
                      rw [HSE.out]
                      rfl)
                    have hone : oneK (st a b2) ⟨xnm, xr, xrem⟩ = (0, st a' b') := by rw [HON.out, if_pos HHI.out, ← hab]; rfl
                    have HRU8 : Hid (runK (st a0 b0) 0 C0 = runK (st a' b') (k + 1) (C0.drop (k + 1))) := Lib.hid (by
                      rw [HRU.out, HST.out, hone, if_pos rfl])
                    have HKO8 : Hid (KeysOk (1000 + (k + 1 : Nat)) (st a' b')) := Lib.hid (by
                      have h1 := HKO.out.one ⟨xnm, xr, xrem⟩
                      rw [hone] at h1
                      exact h1.more (by omega))
                    generalize s.set q ⟨tnm, tcA, tcc, tcl, A', c', s'⟩ = s8 at HN8 HK8
                    clear hown8 hb8 HPU HN7 HO7 HB7 HSE hab hone x7
                    go_wp2_with fail
                    go_roundw
                    case rel => exact ⟨k + 1, s8, a', b', by omega, by go_num, HN8, HK8, HO8, HNE8, HRU8, HKO8, HB8.out, hg8⟩
                    case measure => simp [intOf]; omega

        · obtain rfl : k = n := by omega
          have hrun : runK (st a0 b0) 0 C0 = (0, 0, st a b2) := by
            rw [HRU.out, List.drop_of_length_le (by rw [← HC0.out, List.length_map, HN.out]; exact Nat.le_refl _)]
            rfl
          have hnk : nsK cs k = nmsOf (hasN nmT (C0.map Ch.nm)) (hasN nmU (C0.map Ch.nm)) := by
            unfold nsK
            rw [List.take_of_length_le (by rw [HN.out]; exact Nat.le_refl _), ← HC0.out, List.map_map]
            rfl
          have HAK3 : Hid (AK = (0, 0, st a b2, (nsK cs k).map (deltaK (st a b2) (st a0 b0)))) := Lib.hid (by
            have h1 := tell_names (a := a0) (b := b0) (a' := a) (b' := b2) (run_names (l := C0) (n := 0) (by rw [hrun]))
            rw [← HAK2.out, hrun, if_pos rfl, h1, hnk])
          have HNK := Lib.hid (nmsOf_mem (hasN nmT (C0.map Ch.nm)) (hasN nmU (C0.map Ch.nm)))
          rw [← hnk] at HNK
          obtain ⟨ns, hns⟩ : ∃ ns, nsK cs k = ns := ⟨_, rfl⟩
          rw [hns] at HO HNLN HAK3 HNK
          have HKO4 : Hid (KeysOk 1008 (st a b2)) := Lib.hid (HKO.out.more (by omega))
          clear hrun hnk hns HRU HKO HAK2
          go_wp2_with fail
          go_loopw [16, 17] (fun v16 i wr => ∃ (j : Nat) (xs : List XM), j ≤ nl ∧ i = .int .i64 j ∧ Hid (wr.ownsRow wo.heap.size 68 2 v16 xs.length (flatX xs)) ∧ Hid (∀ x ∈ xs, SRow wr (fun p => (wo.heap.size ≤ p ∧ p < wr.heap.size) ∧ v16.ownBlock ≠ some p) x.A x.rows) ∧ Hid (xs.map XM.key = (ns.take j).map (deltaK (st a b2) (st a0 b0))) ∧ xs.length ≤ 2 * j ∧ RowKit.Below wo.heap.size wo wr) (fun _ i _ => nl - (intOf i).toNat)
          case atStart => exact ⟨0, [], Nat.zero_le _, rfl, Lib.hid (World.ownsRow_nil _ _ _ _), Lib.hid (fun x hx => by simp at hx), Lib.hid rfl, by simp, Below.refl _ _⟩
          case round =>
            rename World => wq
            obtain ⟨r, xs, hr, rfl, HOX0, HXR0, HXK0, hxl0, hb⟩ := hrel
            have HBq := Lib.hid hb
            clear hb
            by_cases hrl : r < nl
            · obtain ⟨nm, hnm⟩ : ∃ nm, ns[r]? = some nm := ⟨_, List.getElem?_eq_getElem (by rw [HNLN.out]; exact hrl)⟩
              obtain ⟨gn, capn, hvn, hgn1, hgn2⟩ := HO.out.form (by omega)
              simp only [Value.slice.injEq, true_and] at hvn
              obtain ⟨rfl, rfl⟩ := hvn
              have HCN : Hid (wo.cell? ⟨gn, r, none⟩ = some (.string nm)) := Lib.hid (by
                rw [HO.out.cellAt _ (by omega), strs, List.getElem?_map, hnm]
                rfl)
              obtain ⟨f, hf2, hnf⟩ := HNK.out nm (List.mem_of_getElem? hnm)
              have HNF := Lib.hid hnf
              have HTK2 : Hid ((ns.take (r + 1)).map (deltaK (st a b2) (st a0 b0)) = (ns.take r).map (deltaK (st a b2) (st a0 b0)) ++ [deltaK (st a b2) (st a0 b0) nm]) := Lib.hid (by
                obtain ⟨h1, e1⟩ := List.getElem?_eq_some_iff.1 hnm
                rw [List.take_succ_eq_append_getElem h1, List.map_append, e1]
                rfl)
              clear hnm hnf
              go_wp2_with fail
              go_loopw [16, 18] (fun v16 i wr => ∃ (j : Nat) (xs : List XM), j ≤ 2 ∧ i = .int .i64 j ∧ Hid (wr.ownsRow wo.heap.size 68 2 v16 xs.length (flatX xs)) ∧ Hid (∀ x ∈ xs, SRow wr (fun p => (wo.heap.size ≤ p ∧ p < wr.heap.size) ∧ v16.ownBlock ≠ some p) x.A x.rows) ∧ Hid (xs.map XM.key = (ns.take r).map (deltaK (st a b2) (st a0 b0)) ++ (if f < j then [deltaK (st a b2) (st a0 b0) nm] else [])) ∧ xs.length ≤ 2 * r + j ∧ RowKit.Below wo.heap.size wo wr) (fun _ i _ => 2 - (intOf i).toNat)
              case atStart => exact ⟨0, xs, Nat.zero_le _, rfl, HOX0, HXR0, Lib.hid (by rw [HXK0.out, if_neg (Nat.not_lt_zero f), List.append_nil]), by omega, HBq.out⟩
              case round =>
                clear HOX0 HXR0 HXK0 hxl0 HBq
                rename World => wp
                obtain ⟨j, xs, hj, rfl, HOX1, HXR1, HXK, hxl, hb⟩ := hrel
                have HBp := Lib.hid hb
                have hsp := hb.size
                clear hb
                by_cases hj2 : j < 2
                · obtain ⟨t, ht, htn, htk⟩ := st_at HSM.out hj2
                  obtain ⟨tp, hto, hton, htok⟩ := st_at HL.out hj2
                  have hmt := List.mem_of_getElem? ht
                  have hmo := List.mem_of_getElem? hto
                  obtain ⟨bl, ol, rfl, hSl, _, _, _⟩ := HA.out.get hto
                  have hblw := HS.out bl hSl
                  have hsl2 := HSL.out
                  have HNWr : Hid (RNow (Value.slice (some ⟨gn, 0, none⟩) nl c9).ownBlock w.heap.size wo (.slice (some ⟨g, 0, none⟩) s.length cap) s) := Lib.hid (by rw [HSL.out]; exact HNW.out)
                  have HNC : Hid (∀ w1, RowKit.Below wo.heap.size wo w1 → w1.cell? ⟨g, j * 3, none⟩ = some (.string t.nm) ∧ w1.cell? ⟨g, j * 3 + 2, none⟩ = some (.slice t.rA t.rows.length t.rc)) := Lib.hid (fun w1 h => by
                    obtain ⟨b', off', e, _, d1, _, d3⟩ := ((HNWr.out.fresh h (.inl rfl)).row (by have := h.size; omega)).get ht
                    obtain ⟨rfl, rfl⟩ : g = b' ∧ 0 = off' := by simpa using e
                    rw [Nat.zero_add] at d1 d3
                    exact ⟨d1, d3⟩)
                  have HLC : Hid (∀ w1, RowKit.Below wo.heap.size wo w1 → w1.cell? ⟨bl, ol + j * 3 + 2, none⟩ = some (.slice tp.rA tp.rows.length tp.rc)) := Lib.hid (fun w1 h => by
                    obtain ⟨b', off', e, _, d1, _, d3⟩ := (HA.out.below (HB.out.trans (h.mono hs)) HS.out).get hto
                    obtain ⟨rfl, rfl⟩ : bl = b' ∧ ol = off' := by simpa using e
                    exact d3)
                  have HNR1 := Lib.hid (fun w1 (h : RowKit.Below wo.heap.size wo w1) => ((HNWr.out.fresh h (.inl rfl)).rows t hmt).mono (S' := fun p => p < w1.heap.size) fun p hp => hp.1)
                  have HLR1 := Lib.hid (fun w1 (h : RowKit.Below wo.heap.size wo w1) => ((HA.out.rows tp hmo).below (HB.out.trans (h.mono hs)) HS.out).mono (S' := fun p => p < w1.heap.size) fun p hp => by have := HS.out p hp; have := h.size; omega)
                  have hkb : KeysOk 1008 (s.map TM.key) := by rw [HSM.out]; exact HKO4.out
                  have hkb0 : KeysOk 1000 (l.map TM.key) := by rw [HL.out]; exact HK.out
                  have HTO := Lib.hid ((hkb.tabOk (by omega)).set t hmt)
                  have HOO := Lib.hid ((hkb0.tabOk (by omega)).set tp hmo)
                  have hrl2 : (t.rows.length : Int) ≤ 1008 := (hkb.of hmt).rlen
                  have hrl3 : (tp.rows.length : Int) ≤ 1000 := (hkb0.of hmo).rlen
                  have HVT : Hid (vol (its t.rows) ≤ 1008) := Lib.hid ((hkb.of hmt).vol)
                  have HVP : Hid (vol (its tp.rows) ≤ 1000) := Lib.hid ((hkb0.of hmo).vol)
                  have HFL1 := Lib.hid (fun w1 (h : RowKit.Below wo.heap.size wo w1) => rflip_any tp.rA tp.rc tp.rows w1 (HLR1.out w1 h) (fun p hp => hp) (by omega) HOO.out)
                  have HAD1 := Lib.hid (fun A' c' (fl : List IM) w1 (h : RowKit.Below wo.heap.size wo w1) (hS2 : SRow w1 (fun k => k < w1.heap.size) A' fl) (hf : its fl = flipS (its tp.rows)) => radd_any t.rA A' t.rc c' t.rows fl w1 (HNR1.out w1 h) hS2 (fun k hk => hk) (by omega) (by have := congrArg List.length hf; simp only [its, flipS, List.length_map] at this; omega)
                    (fun y hy => HTO.out.row hy) (fun y hy => by
                      have : y.it ∈ flipS (its tp.rows) := by rw [← hf]; exact List.mem_map.2 ⟨y, hy, rfl⟩
                      obtain ⟨z, hz, e⟩ := List.mem_map.1 this
                      have e1 : z.1 = y.r := congrArg Prod.fst e
                      rw [← e1]; exact HOO.out.set.rows z hz) (by have := HVT.out; have := HVP.out; rw [hf, vol_flip]; omega))
                  have HDE : Hid (f = j → deltaK (st a b2) (st a0 b0) nm = (nm, sumS (its t.rows) (flipS (its tp.rows)))) := Lib.hid (fun e => by
                    subst e
                    exact deltaK_eq (by rw [HNF.out]; exact findK_at f hf2 a b2) htk htok)
                  have hne := nmAt_ne f j hf2 hj2
                  rw [← HNF.out, ← htn] at hne
                  obtain ⟨tnm, tcA, tcc, tcl, trA, trc, trl⟩ := t
                  obtain ⟨onm, ocA, occ, ocl, orA, orc, orl⟩ := tp
                  dsimp only at HNC HLC HNR1 HLR1 HTO HOO hrl2 hrl3 HVT HVP HFL1 HAD1 HDE hne
                  obtain ⟨trn, htrn⟩ : ∃ trn, trl.length = trn := ⟨_, rfl⟩
                  obtain ⟨orn, horn⟩ : ∃ orn, orl.length = orn := ⟨_, rfl⟩
                  rw [htrn] at HNC hrl2 HAD1
                  rw [horn] at HLC hrl3 HFL1
                  clear ht htn htk hto hton htok hmt hmo hSl htrn horn HNWr hkb hkb0 HVT HVP
                  have d1 := (HNC.out wp HBp.out).1
                  have hgnp : gn < wp.heap.size := by omega
                  have cn := (HBp.out.cell (p := ⟨gn, r, none⟩) hgn2).trans HCN.out
                  have hj0 : (0 : Int) ≤ (j : Int) := by omega
                  have hjn : (j : Int) < 2 := by omega
                  have hr0 : (0 : Int) ≤ (r : Int) := by omega
                  have hrn : (r : Int) < (nl : Int) := by omega
                  go_upto_region 39 with (fail)
                  go_cut [154] (fun sb wx => sb = .bool (decide (j = f)) ∧ RowKit.Below wp.heap.size wp wx)
                  case first =>
                    go_quiet (fail)
                    go_wp2_with fail
                    go_meet
                    exact ⟨by first | rfl | rw [hne], ⟨rfl, rfl, rfl, Nat.le_refl _, fun _ _ => rfl⟩⟩
                  case rest =>
                  obtain ⟨rfl, hbi⟩ := hcut
                  rename World => wi
                  have HBi : Hid (RowKit.Below wo.heap.size wo wi) := Lib.hid (HBp.out.trans (hbi.mono hsp))
                  have hsi := HBi.out.size
                  have hpi := hbi.size
                  have HOX := Lib.hid (ownM_below HOX1.out hbi)
                  have HXR2 : Hid (∀ x ∈ xs, SRow wi (fun p => (wo.heap.size ≤ p ∧ p < wi.heap.size) ∧ u16.ownBlock ≠ some p) x.A x.rows) := Lib.hid (fun x hx => ((HXR1.out x hx).kept fun p hp => hbi.block p hp.1.2).mono fun p hp => ⟨⟨hp.1.1, by have := hp.1.2; omega⟩, hp.2⟩)
                  have hgni : gn < wi.heap.size := by omega
                  have cn := (HBi.out.cell (p := ⟨gn, r, none⟩) hgn2).trans HCN.out
                  have HNR := Lib.hid (fun w1 (h : RowKit.Below wi.heap.size wi w1) => (HNC.out w1 (HBi.out.trans (h.mono hsi))).2)
                  have HLR := Lib.hid (fun w1 (h : RowKit.Below wi.heap.size wi w1) => HLC.out w1 (HBi.out.trans (h.mono hsi)))
                  have HFL := Lib.hid (fun w1 (h : RowKit.Below wi.heap.size wi w1) => HFL1.out w1 (HBi.out.trans (h.mono hsi)))
                  have HAD := Lib.hid (fun A' c' (fl : List IM) w1 (h : RowKit.Below wi.heap.size wi w1) (hS2 : SRow w1 (fun k => k < w1.heap.size) A' fl) (hf : its fl = flipS (its orl)) => HAD1.out A' c' fl w1 (HBi.out.trans (h.mono hsi)) hS2 hf)
                  clear hbi HOX1 HXR1 HNC HLC HNR1 HLR1 HFL1 HAD1 d1 hne HBp hsp hpi hgnp
                  by_cases hjf : j = f
                  · obtain rfl : f = j := hjf.symm
                    have HDE2 := Lib.hid (HDE.out rfl)
                    have hdt : decide (f = f) = true := decide_eq_true rfl
                    rw [hdt]
                    clear HDE hdt hjf
                    go_upto_region 40 with (fail)
                    refine EachKit.region_firstK (L := 16) (F := 1) (LL := #[true, true, true, true, true, true, true, true, true, true, true, true, true, true, true, true, false]) (R := EachKit.holdsL [.is (.slice (some ⟨g, 0, none⟩) 2 cap), .is (.int .i64 (f : Nat)), .is (.pointer (some ⟨g, f * 3, none⟩)), .is (.pointer (some ⟨g, f * 3 + 2, none⟩)), .is (.slice trA trn trc), .is (.slice (some ⟨bl, ol, none⟩) 2 c), .is (.int .i64 (f : Nat)), .is (.pointer (some ⟨bl, ol + f * 3, none⟩)), .is (.pointer (some ⟨bl, ol + f * 3 + 2, none⟩)), .is (.slice orA orn orc), .list wi.heap.size (flipS (its orl)), .sumT wi.heap.size (its trl ++ flipS (its orl)), .sumT wi.heap.size (its trl ++ flipS (its orl)), .sumS wi.heap.size (its trl ++ flipS (its orl)), .is (.int .i64 0), .sumS wi.heap.size (its trl ++ flipS (its orl))]) (ds := [some 156, some 157, some 158, some 159, some 160, some 161, some 162, some 163, some 164, some 165, some 166, some 167, some 155, some 168, some 169, some 19, some 20]) (dl := [some 156, some 157, some 158, some 159, some 160, some 161, some 162, some 163, some 164, some 165, some 166, some 167, some 155, some 168, some 169, some 19]) (MS := [0, 0, 3, 7, 15, 0, 0, 96, 224, 480, 992, 2047, 4095, 8191, 8191, 16383, 65535]) mixed (by kernel_rfl) (by kernel_rfl) (by kernel_rfl) (by kernel_rfl) rfl (by kernel_rfl) (by kernel_rfl) rfl (by kernel_rfl) (by kernel_rfl) (EachKit.holdsL_mono _)
                      (fun a0 => a0.tmps.getD 0 undef = .slice (some ⟨bl, ol, none⟩) 2 c ∧ a0.tmps.getD 8 undef = .slice (some ⟨g, 0, none⟩) 2 cap ∧ a0.tmps.getD 18 undef = .int .i64 (f : Nat)) ⟨rfl, rfl, rfl⟩ ?_ ?_
                    · intro hds Q' a0 ⟨og0, og8, og18⟩
                      refine EachKit.Each.cons (fun _ => EachKit.OpGoal.free rfl (fun a1 w1 hB hL1 hk K hK => ?_)) ?_
                      · have s8 : a1.tmps.getD 8 undef = .slice (some ⟨g, 0, none⟩) 2 cap := hL1.old rfl og8
                        clear hk hL1
                        go_simp
                        exact hK _ _ (Below.refl _ _) rfl
                      refine EachKit.Each.cons (fun _ => EachKit.OpGoal.free rfl (fun a1 w1 hB hL1 hk K hK => ?_)) ?_
                      · have s18 : a1.tmps.getD 18 undef = .int .i64 (f : Nat) := hL1.old rfl og18
                        clear hk hL1
                        go_simp
                        exact hK _ _ (Below.refl _ _) rfl
                      refine EachKit.Each.cons (fun _ => EachKit.OpGoal.free rfl (fun a1 w1 hB hL1 hk K hK => ?_)) ?_
                      · have s156 : a1.tmps.getD 156 undef = .slice (some ⟨g, 0, none⟩) 2 cap := (hk 0 rfl).is rfl (fun _ h => h)
                        have s157 : a1.tmps.getD 157 undef = .int .i64 (f : Nat) := (hk 1 rfl).is rfl (fun _ h => h)
                        clear hk hL1
                        go_simp
                        exact hK _ _ (Below.refl _ _) rfl
                      refine EachKit.Each.cons (fun _ => EachKit.OpGoal.free rfl (fun a1 w1 hB hL1 hk K hK => ?_)) ?_
                      · have s158 : a1.tmps.getD 158 undef = .pointer (some ⟨g, f * 3, none⟩) := (hk 2 rfl).is rfl (fun _ h => h)
                        clear hk hL1
                        go_simp
                        exact hK _ _ (Below.refl _ _) rfl
                      refine EachKit.Each.cons (fun _ => EachKit.OpGoal.free rfl (fun a1 w1 hB hL1 hk K hK => ?_)) ?_
                      · have s159 : a1.tmps.getD 159 undef = .pointer (some ⟨g, f * 3 + 2, none⟩) := (hk 3 rfl).is rfl (fun _ h => h)
                        have cx := (HNR.out w1 hB)
                        clear hk hL1
                        go_simp
                        exact hK _ _ (Below.refl _ _) rfl
                      refine EachKit.Each.cons (fun _ => EachKit.OpGoal.free rfl (fun a1 w1 hB hL1 hk K hK => ?_)) ?_
                      · have s0 : a1.tmps.getD 0 undef = .slice (some ⟨bl, ol, none⟩) 2 c := hL1.old rfl og0
                        clear hk hL1
                        go_simp
                        exact hK _ _ (Below.refl _ _) rfl
                      refine EachKit.Each.cons (fun _ => EachKit.OpGoal.free rfl (fun a1 w1 hB hL1 hk K hK => ?_)) ?_
                      · have s18 : a1.tmps.getD 18 undef = .int .i64 (f : Nat) := hL1.old rfl og18
                        clear hk hL1
                        go_simp
                        exact hK _ _ (Below.refl _ _) rfl
                      refine EachKit.Each.cons (fun _ => EachKit.OpGoal.free rfl (fun a1 w1 hB hL1 hk K hK => ?_)) ?_
                      · have s161 : a1.tmps.getD 161 undef = .slice (some ⟨bl, ol, none⟩) 2 c := (hk 5 rfl).is rfl (fun _ h => h)
                        have s162 : a1.tmps.getD 162 undef = .int .i64 (f : Nat) := (hk 6 rfl).is rfl (fun _ h => h)
                        clear hk hL1
                        go_simp
                        exact hK _ _ (Below.refl _ _) rfl
                      refine EachKit.Each.cons (fun _ => EachKit.OpGoal.free rfl (fun a1 w1 hB hL1 hk K hK => ?_)) ?_
                      · have s163 : a1.tmps.getD 163 undef = .pointer (some ⟨bl, ol + f * 3, none⟩) := (hk 7 rfl).is rfl (fun _ h => h)
                        clear hk hL1
                        go_simp
                        exact hK _ _ (Below.refl _ _) rfl
                      refine EachKit.Each.cons (fun _ => EachKit.OpGoal.free rfl (fun a1 w1 hB hL1 hk K hK => ?_)) ?_
                      · have s164 : a1.tmps.getD 164 undef = .pointer (some ⟨bl, ol + f * 3 + 2, none⟩) := (hk 8 rfl).is rfl (fun _ h => h)
                        have cx := (HLR.out w1 hB)
                        clear hk hL1
                        go_simp
                        exact hK _ _ (Below.refl _ _) rfl
                      refine EachKit.Each.cons (fun _ => EachKit.OpGoal.free rfl (fun a1 w1 hB hL1 hk K hK => ?_)) ?_
                      · have s165 : a1.tmps.getD 165 undef = .slice orA orn orc := (hk 9 rfl).is rfl (fun _ h => h)
                        clear hk hL1
                        go_simp
                        refine (HFL.out w1 hB).mono ?_
                        rintro e w2 ⟨⟨A', c', s', rfl, _, hs2, hs3⟩, hb2⟩
                        exact hK _ _ hb2 ⟨A', c', s', rfl, hs2.mono (fun k hk => ⟨by have := hk.1; have := hB.size; omega, hk.2.1⟩), hs3⟩
                      refine EachKit.Each.cons (fun _ => EachKit.OpGoal.free rfl (fun a1 w1 hB hL1 hk K hK => ?_)) ?_
                      · have s160 : a1.tmps.getD 160 undef = .slice trA trn trc := (hk 4 rfl).is rfl (fun _ h => h)
                        obtain ⟨v166, s166, A', c', s', rfl, hF1, hF2⟩ := (hk 10 rfl).slot rfl
                        clear hk hL1
                        go_simp
                        refine (HAD.out A' c' s' w1 hB (hF1.mono fun k hk => hk.2) hF2).mono ?_
                        rintro e w2 ⟨⟨A2, c2, s2, rfl, _, hs2, hs3, hs4⟩, hb2⟩
                        exact hK _ _ hb2 ⟨A2, c2, s2, rfl, hs2.mono (fun k hk => ⟨by have := hk.1; have := hB.size; omega, hk.2.1⟩), hs3, fun p => by rw [hs4, its_append, hF2]⟩
                      refine EachKit.Each.cons (fun _ => EachKit.OpGoal.free rfl (fun a1 w1 hB hL1 hk K hK => ?_)) ?_
                      · obtain ⟨v167, s167, A', c', s', rfl, hF⟩ := (hk 11 rfl).slot rfl
                        clear hk hL1
                        go_simp
                        exact hK _ _ (Below.refl _ _) ⟨A', c', s', rfl, hF⟩
                      refine EachKit.Each.cons (fun _ => EachKit.OpGoal.free rfl (fun a1 w1 hB hL1 hk K hK => ?_)) ?_
                      · obtain ⟨v155, s155, A', c', s', rfl, hF⟩ := (hk 12 rfl).slot rfl
                        clear hk hL1
                        go_simp
                        exact hK _ _ (Below.refl _ _) ⟨A', c', s', rfl, hF⟩
                      refine EachKit.Each.cons (fun _ => EachKit.OpGoal.free rfl (fun a1 w1 hB hL1 hk K hK => ?_)) ?_
                      · obtain ⟨v155, s155, A', c', s', rfl, hF⟩ := (hk 12 rfl).slot rfl
                        clear hk hL1 hF
                        go_simp
                        exact hK _ _ (Below.refl _ _) rfl
                      refine EachKit.Each.cons (fun _ => EachKit.OpGoal.free rfl (fun a1 w1 hB hL1 hk K hK => ?_)) ?_
                      · obtain ⟨v168, s168, A', c', s', rfl, hF⟩ := (hk 13 rfl).slot rfl
                        clear hk hL1
                        go_simp
                        exact hK _ _ (Below.refl _ _) ⟨A', c', s', rfl, hF⟩
                      refine EachKit.Each.cons (fun h => absurd h (by decide)) ?_
                      exact trivial
                    · rintro a' w1 hB hL1 hk
                      obtain ⟨v19, s19, A', c', s', rfl, hs2, hs3, hs4⟩ := (hk 15 (by decide)).slot rfl
                      have s169 : a'.tmps.getD 169 undef = .int .i64 0 := (hk 14 (by decide)).is rfl (fun _ h => h)
                      obtain ⟨u, hu, hu2⟩ := hL1.form2
                      have u19 := (hu2 19).trans s19
                      have u169 := (hu2 169).trans s169
                      subst hu
                      clear hu2 s19 s169 hk hL1
                      simp only [EachKit.setU, Act.put, List.getElem_toArray, List.getElem_cons_succ, List.getElem_cons_zero, List.setIfInBounds_toArray, List.set_cons_zero, List.set_cons_succ]
                      rw [u19, u169]
                      refine wpAny_one (i := 16) (by kernel_rfl) rfl (fun K hK => ?_)
                      rw [if_pos (by rfl)]
                      go_simp
                      refine hK _ _ ?_
                      clear hK K
                      refine wpAny_done (by kernel_rfl) ?_ _
                      have HIE : Hid (its s' = sumS (its trl) (flipS (its orl))) := Lib.hid (SetOk_of_both HTO.out.set HOO.out.set hs3 hs4)
                      have HS2 := Lib.hid hs2
                      have HBW := Lib.hid hB
                      have hwi := hB.size
                      obtain ⟨sl, hsl⟩ : ∃ sl, s'.length = sl := ⟨_, rfl⟩
                      have HSLN := Lib.hid hsl
                      rw [hsl]
                      have HO7 := Lib.hid (ownM_below HOX.out hB)
                      have z1 := (HBW.out.cell (p := ⟨gn, r, none⟩) hgni).trans cn
                      clear hs2 hs3 hs4 hB hsl HAD HFL HNR HLR cn
                      go_wp2_with (at_builtin; refine wpList_append_any _ rfl _ _ 62 rfl wo.heap.size 68 i2 _ 2 40 Tryz.underlying62 hi2 hz02 hz12 hz22 rfl (by decide) _ _ _ rfl (HO7.out.alloc _) (w1.heap.size + 1) _ _ _ [.string nm, .slice A' sl c'] rfl ⟨rfl, fun _ => ⟨_, rfl, Nat.lt_succ_self _, World.news_of_block (heap_alloc_new w1 _)⟩⟩ ?f1 ?f2 ?f3 ?f4 ?_)
                      case f1 => first | exact ⟨rfl, rfl⟩ | skip
                      case f2 => unfold maxLen; omega
                      case f3 => omega
                      case f4 => first | omega | (simp; omega)
                      intro v8 w8 hown8 hgrow8 hat8
                      obtain ⟨hk1, hk2, hb8⟩ := snoc_blocks (v' := v8) (fun p hp => HOX.out.lt p hp) hsi HBi.out HBW.out _ hgrow8 (by
                        rcases hat8 with h | h
                        · exact .inl h
                        · exact .inr (by simpa using h))
                      have hkk : ∀ p, (wo.heap.size ≤ p ∧ p < wi.heap.size) ∧ u16.ownBlock ≠ some p → w8.heap[p]? = wi.heap[p]? := fun p hp => (hgrow8.block p (by simp; omega) (fun e => hp.2 e.symm)).trans ((Below.heap_alloc w1 _ p (by omega)).trans (HBW.out.block p hp.1.2))
                      have hkn : ∀ p, wi.heap.size ≤ p ∧ p < w1.heap.size → w8.heap[p]? = w1.heap[p]? := fun p hp => (hgrow8.block p (by simp; omega) (fun e => by have := (HOX.out.lt p e.symm).2; omega)).trans (Below.heap_alloc w1 _ p hp.2)
                      have hsz8 : w1.heap.size + 1 ≤ w8.heap.size := by have := hgrow8.size; rw [size_alloc'] at this; exact this
                      have hnb : ∀ p, p < w1.heap.size → u16.ownBlock ≠ some p → v8.ownBlock ≠ some p := fun p hp hne e => by
                        rcases hat8 with h | h
                        · exact hne (h ▸ e)
                        · rw [h] at e; have := Option.some.inj e; first | omega | (simp at this; omega)
                      obtain ⟨x', ex'⟩ : ∃ x' : XM, x' = ⟨nm, A', c', s'⟩ := ⟨_, rfl⟩
                      have HO8 : Hid (w8.ownsRow wo.heap.size 68 2 v8 (xs ++ [x']).length (flatX (xs ++ [x']))) := Lib.hid (by rw [flatX_append, flatX_one, List.length_append, ex']; simp only [XM.cs, HSLN.out]; exact hown8)
                      have HR8 : Hid (∀ x ∈ xs ++ [x'], SRow w8 (fun p => (wo.heap.size ≤ p ∧ p < w8.heap.size) ∧ v8.ownBlock ≠ some p) x.A x.rows) := Lib.hid (fun x hx => by
                        rcases List.mem_append.1 hx with hx | hx
                        · exact ((HXR2.out x hx).kept hkk).mono fun p hp => ⟨⟨hp.1.1, by omega⟩, hnb p (by omega) hp.2⟩
                        · rw [List.mem_singleton.1 hx, ex']
                          exact (HS2.out.kept hkn).mono fun p hp => ⟨⟨by omega, by omega⟩, hnb p hp.2 (fun e => by have := (HOX.out.lt p e).2; omega)⟩)
                      have HK8 : Hid ((xs ++ [x']).map XM.key = (ns.take r).map (deltaK (st a b2) (st a0 b0)) ++ (if f < f + 1 then [deltaK (st a b2) (st a0 b0) nm] else [])) := Lib.hid (by
                        rw [List.map_append, HXK.out, if_neg (Nat.lt_irrefl f), if_pos (Nat.lt_succ_self f), List.append_nil, ex', HDE2.out]
                        congr 1
                        show [(nm, its s')] = _
                        rw [HIE.out])
                      have HB8 := Lib.hid hb8
                      have hxl : (xs ++ [x']).length = xs.length + 1 := by simp
                      generalize xs ++ [x'] = xs8 at HO8 HR8 HK8 hxl
                      clear hown8 hgrow8 hat8 hk1 hk2 hb8 hkk hkn hnb HO7 HOX HXR2 HXK HS2 HBW HIE ex' z1 HBi
                      go_wp2_with fail
                      go_roundw
                      case rel => exact ⟨f + 1, xs8, by omega, by go_num, HO8, HR8, HK8, by omega, HB8.out⟩
                      case measure => simp [intOf]; omega
                  · have hdt : decide (j = f) = false := decide_eq_false hjf
                    rw [hdt]
                    have HK8 : Hid (xs.map XM.key = (ns.take r).map (deltaK (st a b2) (st a0 b0)) ++ (if f < j + 1 then [deltaK (st a b2) (st a0 b0) nm] else [])) := Lib.hid (by
                      rw [HXK.out]
                      by_cases h : f < j
                      · rw [if_pos h, if_pos (by omega)]
                      · rw [if_neg h, if_neg (by omega)])
                    go_wp2_with fail
                    go_roundw
                    case rel => exact ⟨j + 1, xs, by omega, by go_num, HOX, HXR2, HK8, by omega, HBi.out⟩
                    case measure => simp [intOf]; omega
                · obtain rfl : j = 2 := by omega
                  go_wp2_with fail
                  go_roundw
                  case rel => exact ⟨r + 1, xs, by omega, by go_num, HOX1, HXR1, Lib.hid (by rw [HXK.out, if_pos hf2, HTK2.out]), by omega, HBp.out⟩
                  case measure => simp [intOf]; omega
            · obtain rfl : r = nl := by omega
              have hkl : ns.take r = ns := List.take_of_length_le (by rw [HNLN.out]; exact Nat.le_refl _)
              obtain ⟨Ax, cx, rfl, hcx, hXR⟩ := own_deltas (S := fun p => p < wq.heap.size) HOX0.out (fun p _ h2 _ => h2) (fun x hx => (HXR0.out x hx).mono fun p hp => hp.1.2)
              have HXR2 := Lib.hid hXR
              rw [hkl] at HXK0
              clear hXR hkl
              go_wp2_with fail
              ((try simp only [Exit.inBlock, Exit.then]); refine bodyPost_ret (results_tmp4 rfl _ _ _) rfl ?_)
              have e := HAK3.out
              subst e
              refine ⟨_, _, rfl, HB.out.trans (HBq.out.mono hs), fun h => absurd rfl h, fun _ => ⟨⟨some ⟨g, 0, none⟩, cap, s, by rw [HSL.out]; rfl, ?_, HSM.out⟩, ⟨Ax, cx, xs, rfl, HXR2.out, HXK0.out⟩⟩⟩
              have h1 := HNW.out.fresh HBq.out (.inl rfl)
              rw [← HSL.out] at h1
              exact h1.row (by have := HBq.out.size; omega)
end Go.Proofs.YtajnnkapgnmoaaaGreat
