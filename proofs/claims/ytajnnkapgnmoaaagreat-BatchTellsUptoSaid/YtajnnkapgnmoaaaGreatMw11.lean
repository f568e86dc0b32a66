/-
  zset.Flip of a right set.
-/
import Derived.Test.YtajnnkapgnmoaaaGreatMw3
import Derived.Deep.RegionHeld3
import Derived.Test.YtajnnkapgnmoaaaGreatMw5
import Derived.Test.YtajnnkapgnmoaaaGreatMw0
import Derived.BigQuiet
import Derived.Lib.QuietBelow
import Derived.Test.YtajnnkapgnmoaaaGreatMw10
import Derived.Test.YtajnnkapgnmoaaaGreatMw9
set_option linter.unusedVariables false
set_option linter.unusedSimpArgs false
namespace Go.Proofs.YtajnnkapgnmoaaaGreat
open Go.RowKit

set_option maxHeartbeats 2000000 in
set_option maxRecDepth 100000 in
theorem zflip_any (A : Option Addr) (c : Nat) (l : List IM) (w : World) {S : Nat → Prop} (hA : SRow w S A l) (hS : ∀ k, S k → k < w.heap.size) (hl : l.length ≤ 1073741824) (hk : SOk l) :
    Calls Tryz.prog 37 #[.slice A l.length c] w fun e w' => (∃ A' c' s, e = .returned (.slice A' s.length c') ∧ ListRet w (flipS (its l)) w' A' c' s) ∧ Below w.heap.size w w' := by
  obtain ⟨i0, hi, hz0, hz1, hz2⟩ := info_parts item_info
  have hrt := Lib.hid (zright_any A c l w hA hS hl hk)
  obtain ⟨n, hn⟩ : ∃ n, l.length = n := ⟨_, rfl⟩
  have HN := Lib.hid hn
  have HA := Lib.hid hA
  have HS := Lib.hid hS
  have HK := Lib.hid hk
  rw [hn] at hl hrt ⊢
  clear hA hS hk hn
  have hst := run_store_tal Tryz.prog
  go_enter Tryz.func37, Tryz.ntmps37
  go_wp2_with fail
  refine hrt.out.mono ?_
  rintro e w1 ⟨rfl, hb1⟩
  have HB1 := Lib.hid hb1
  clear hb1 hrt
  go_wp2_with fail
  go_loopw [3, 11] (fun v i wr => ∃ (k : Nat) (ol : List IM), k ≤ n ∧ i = .int .i64 k ∧ wr.ownsRow w.heap.size 47 2 v ol.length (flatM ol) ∧ Below w.heap.size w wr ∧ ol.length = k ∧ Hid (∀ x ∈ ol, VRowS wr (fun g => NewS w wr g ∧ v.ownBlock ≠ some g) x.A x.r) ∧ Hid (its ol = flipS (its (l.take k)))) (fun _ i _ => n - (intOf i).toNat)
  case atStart => exact ⟨0, [], Nat.zero_le _, rfl, World.ownsRow_nil _ _ _ _, HB1.out, rfl, Lib.hid (fun x hx => by simp at hx), Lib.hid rfl⟩
  case round =>
    rename World => wo
    obtain ⟨k, ol, hk, rfl, hown, hb, hlen, HOR, HIT⟩ := hrel
    have HO := Lib.hid hown
    have HB := Lib.hid hb
    have hs := hb.size
    clear hown hb
    by_cases hlt : k < n
    · obtain ⟨x, hx⟩ : ∃ x, l[k]? = some x := ⟨_, List.getElem?_eq_getElem (by rw [HN.out]; exact hlt)⟩
      obtain ⟨b, off, rfl, hSb, hc1, hc2⟩ := (HA.out.below HB.out HS.out).get hx
      have hm := List.mem_of_getElem? hx
      have HIT2 := Lib.hid (its_take hx)
      have hkN := HK.out.okN hm
      have hx6 := (rowOk_len (HK.out.row hm)).2
      have hit := Lib.hid (fun w3 (hb : Below w.heap.size w w3) => item_any x.A x.c x.r (-x.k) w3 ((((HA.out.rows x hm).to HS.out).below hb).more hb.size) (by omega))
      have hfl := Lib.hid (fun w3 => tal_flip hkN w3)
      obtain ⟨xA, xc, xr, xk⟩ := x
      dsimp only at hc1 hc2 hit HIT2 hx6 hfl
      obtain ⟨xn, hxn⟩ : ∃ xn, xr.length = xn := ⟨_, rfl⟩
      rw [hxn] at hc1 hit
      clear hx hm hSb hxn hkN
      go_wp2_with fail
      have HBA : Hid (Below w.heap.size w (wo.alloc (.cells #[.slice xA xn xc, tal xk] 47))) := Lib.hid (HB.out.alloc hs _)
      have HGA : Hid ((wo.alloc (.cells #[.slice xA xn xc, tal xk] 47)).heap[wo.heap.size]? = some (.cells #[.slice xA xn xc, tal xk] 47 (0, 0))) := Lib.hid (heap_alloc_new wo _)
      have HBO : Hid (Below wo.heap.size wo (wo.alloc (.cells #[.slice xA xn xc, tal xk] 47))) := Lib.hid ((Below.refl wo.heap.size wo).alloc (Nat.le_refl _) _)
      have hsa : wo.heap.size < (wo.alloc (.cells #[.slice xA xn xc, tal xk] 47)).heap.size := by simp
      generalize wo.alloc (.cells #[.slice xA xn xc, tal xk] 47) = wa at HBA HGA HBO hsa ⊢
      generalize tal xk = T at HGA hfl hc2 ⊢
      have hno : some wo.heap.size ≠ u3.ownBlock := fun e => by have := (HO.out.lt _ e.symm).2; omega
      clear hc1 hc2
      refine wp_region_held_drew (S := fun w' => wa.grownBy w' u3.ownBlock) (by kernel_rfl) ⟨rfl, rfl, rfl, Nat.le_refl _, fun _ _ _ => rfl⟩ (fun hHeld => ?_)
      refine wpAnyH_take (i := 0) (v := u3) rfl (by kernel_rfl) (by kernel_rfl) (by kernel_rfl) (fun _ _ _ h => h) (Or.inl ⟨by rfl, fun w1 hSw => by (go_simp)⟩) (by assumption) ?_
      simp only [List.getElem_toArray, List.getElem_cons_zero, Act.put, List.setIfInBounds_toArray, List.set_cons_zero, List.set_cons_succ]
      refine wpAnyH_take (i := 1) (v := .pointer (some ⟨wo.heap.size, 0, none⟩)) rfl (by kernel_rfl) (by kernel_rfl) (by kernel_rfl) (fun _ _ _ h => h) (Or.inl ⟨by rfl, fun w1 hSw => by (go_simp)⟩) (by assumption) ?_
      simp only [List.getElem_toArray, List.getElem_cons_succ, List.getElem_cons_zero, Act.put, List.setIfInBounds_toArray, List.set_cons_zero, List.set_cons_succ]
      refine wpAnyH_take (i := 2) (v := .slice xA xn xc) rfl (by kernel_rfl) (by kernel_rfl) (by kernel_rfl) (fun _ _ _ h => h) (Or.inl ⟨by rfl, fun w1 hSw => by (have hcl := Blk.cell ((hSw.block _ hsa hno).trans HGA.out) 0; simp only [List.getElem?_toArray, List.getElem?_cons_zero] at hcl; go_simp)⟩) (by assumption) ?_
      simp only [List.getElem_toArray, List.getElem_cons_succ, List.getElem_cons_zero, Act.put, List.setIfInBounds_toArray, List.set_cons_zero, List.set_cons_succ]
      refine wpAnyH_take (i := 3) (v := .pointer (some ⟨wo.heap.size, 1, none⟩)) rfl (by kernel_rfl) (by kernel_rfl) (by kernel_rfl) (fun _ _ _ h => h) (Or.inl ⟨by rfl, fun w1 hSw => by (go_simp)⟩) (by assumption) ?_
      simp only [List.getElem_toArray, List.getElem_cons_succ, List.getElem_cons_zero, Act.put, List.setIfInBounds_toArray, List.set_cons_zero, List.set_cons_succ]
      refine wpAnyH_take (i := 4) (v := T) rfl (by kernel_rfl) (by kernel_rfl) (by kernel_rfl) (fun _ _ _ h => h) (Or.inl ⟨by rfl, fun w1 hSw => by (have hcl := Blk.cell ((hSw.block _ hsa hno).trans HGA.out) 1; simp only [List.getElem?_toArray, List.getElem?_cons_zero, List.getElem?_cons_succ] at hcl; go_simp)⟩) (by assumption) ?_
      simp only [List.getElem_toArray, List.getElem_cons_succ, List.getElem_cons_zero, Act.put, List.setIfInBounds_toArray, List.set_cons_zero, List.set_cons_succ]
      refine wpAnyH_ready (rs := [5]) (by kernel_rfl) (by simp) ?_
      refine AllReadyH.cons rfl (fun K hK => ?_) AllReadyH.nil
      simp only [List.getElem_toArray, List.getElem_cons_succ, List.getElem_cons_zero]
      go_simp
      refine (hfl.out _).mono ?_
      rintro e w3 ⟨rfl, rfl⟩
      go_wp2_with fail
      refine hK.out _ _ ⟨rfl, rfl, rfl, Nat.le_refl _, fun _ _ _ => rfl⟩ (fun hHeld => ?_)
      clear hK K
      refine wpAnyH_ready (rs := [6]) (by kernel_rfl) (by simp) ?_
      refine AllReadyH.cons rfl (fun K hK => ?_) AllReadyH.nil
      simp only [List.getElem_toArray, List.getElem_cons_succ, List.getElem_cons_zero]
      go_simp
      refine (hit.out _ (HBA.out.drew)).mono ?_
      rintro e w4 ⟨x', rfl, hxr, hxk, _, hxS, _, hb4⟩
      have HB4 := Lib.hid (HBO.out.drew.trans ((hb4.mono (B' := wo.heap.size) (Nat.le_of_lt hsa))))
      have HB4a : Hid (wa.grownBy w4 u3.ownBlock) := Lib.hid ⟨hb4.os, hb4.tape, hb4.output, hb4.size, fun k hk _ => hb4.block k hk⟩
      have HXS : Hid (VRowS w4 (NewS wa w4) x'.A xr) := Lib.hid hxS
      have HO4 := Lib.hid ((ownM_below HO.out HB4.out).alloc (.cells x'.cs.toArray 47))
      have hs4 : wa.heap.size ≤ w4.heap.size := hb4.size
      obtain ⟨xA', xc', xr', xk'⟩ := x'
      have HXR := Lib.hid hxr
      have HXK := Lib.hid hxk
      simp only [IM.val]
      simp only [IM.cs] at HO4
      clear hxr hxk hxS hb4 hit hfl
      go_wp2_with fail
      refine hK.out _ _ HB4a.out (fun hHeld => ?_)
      clear hK K
      refine wpAnyH_ready (rs := [7]) (by kernel_rfl) (by simp) ?_
      refine AllReadyH.cons rfl (fun K hK => ?_) AllReadyH.nil
      simp only [List.getElem_toArray, List.getElem_cons_succ, List.getElem_cons_zero]
      go_simp
      refine hK.out _ _ ⟨HB4a.out.os, HB4a.out.tape, HB4a.out.output, by have := HB4a.out.size; simp; omega, fun k hk hne => (Below.heap_alloc w4 _ k (by omega)).trans (HB4a.out.block k hk hne)⟩ (fun hHeld => ?_)
      clear hK K
      refine wpAnyH_ready (rs := [8]) (by kernel_rfl) (by simp) ?_
      refine AllReadyH.cons rfl (fun K hK => ?_) AllReadyH.nil
      simp only [List.getElem_toArray, List.getElem_cons_succ, List.getElem_cons_zero]
      refine Eq.mpr (if_pos rfl) ?_
      refine wp_append_any _ _ _ 42 rfl w.heap.size 47 i0 _ 2 40 Tryz.underlying42 hi hz0 hz1 hz2 rfl (by decide) _ _ _ rfl HO4.out (w4.heap.size + 1) _ _ _ (IM.cs ⟨xA', xc', xr', xk'⟩) rfl ⟨rfl, fun _ => ⟨_, rfl, Nat.lt_succ_self _, World.news_of_block (heap_alloc_new w4 _)⟩⟩ ?c1 ?c2 ?c3 ?c4 ?_
      case c1 => rw [← flatM_one]; exact flatM_ones _
      case c2 => unfold maxLen; omega
      case c3 => omega
      case c4 => first | omega | (simp; omega)
      intro v' w5 hown' hgrow hat
      replace hat : v'.ownBlock = u3.ownBlock ∨ v'.ownBlock = some (w4.heap.size + 1) := by
        rcases hat with h | h
        · exact .inl h
        · exact .inr (by simpa using h)
      obtain ⟨hor5, hb5⟩ := snoc_items (x' := ⟨xA', xc', xr', xk'⟩) HOR.out (fun g hg => HO.out.lt g hg) hs HB.out HB4.out (wc := wa) (Nat.le_of_lt hsa) (by rw [HXR.out] at *; exact HXS.out) _ hgrow hat
      have hg5 : wa.grownBy w5 u3.ownBlock := ⟨hgrow.os.trans HB4a.out.os, hgrow.tape.trans HB4a.out.tape, hgrow.output.trans HB4a.out.output, by have h1 := HB4a.out.size; have h2 := hgrow.size; simp at h2; omega, fun k hk hne => (hgrow.block k (by simp; omega) hne).trans ((Below.heap_alloc w4 _ k (by omega)).trans (HB4a.out.block k hk hne))⟩
      refine hK.out _ _ hg5 (fun hHeld => ?_)
      clear hK K
      simp only [Act.put, List.setIfInBounds_toArray, List.set_cons_zero, List.set_cons_succ]
      refine wpAnyH_take (i := 9) (v := v') rfl (by kernel_rfl) (by kernel_rfl) (by kernel_rfl) (fun _ _ _ h => h) (Or.inl ⟨by rfl, fun w1 hSw => by (go_simp)⟩) (by assumption) ?_
      simp only [List.getElem_toArray, List.getElem_cons_succ, List.getElem_cons_zero, Act.put, List.setIfInBounds_toArray, List.set_cons_zero, List.set_cons_succ]
      refine wpAnyH_done (by kernel_rfl) ?_ _
      have HO5 : Hid (w5.ownsRow w.heap.size 47 2 v' (ol ++ [(⟨xA', xc', xr', xk'⟩ : IM)]).length (flatM (ol ++ [(⟨xA', xc', xr', xk'⟩ : IM)]))) := Lib.hid (by rw [flatM_append, flatM_one, List.length_append]; exact hown')
      have HIT5 : Hid (its (ol ++ [(⟨xA', xc', xr', xk'⟩ : IM)]) = flipS (its (l.take (k + 1)))) := Lib.hid (by
        rw [its_append, HIT.out, HIT2.out]
        unfold flipS
        rw [List.map_append]
        show _ ++ [(xr', xk')] = _ ++ [(xr, -xk)]
        rw [show xr' = xr from HXR.out, show xk' = -xk from HXK.out])
      have hol5 : (ol ++ [(⟨xA', xc', xr', xk'⟩ : IM)]).length = k + 1 := by rw [List.length_append, hlen]; rfl
      have HOR5 := Lib.hid hor5
      have HB5 := Lib.hid hb5
      generalize ol ++ [(⟨xA', xc', xr', xk'⟩ : IM)] = ol5 at HO5 HOR5 HIT5 hol5
      clear hown' hgrow hat hor5 hb5 HO HOR HO4 HXS HB4 HB HXR HXK HIT HIT2 hHeld hg5 HB4a HBA HGA HBO hno
      go_wp2_with fail
      go_roundw
      case rel => exact ⟨k + 1, ol5, by omega, by go_num, HO5.out, HB5.out, hol5, HOR5, HIT5⟩
      case measure => simp [intOf]; omega
    · obtain rfl : k = n := by omega
      obtain ⟨A3, c3, rfl, hc3, hS3⟩ := own_items (S := NewS w wo) HO.out (fun g h1 h2 h3 => ⟨h1, h2, h3⟩) (fun x hx => (HOR.out x hx).mono fun g hg => hg.1)
      have HS3 := Lib.hid hS3
      clear hS3
      go_wp2_with fail
      go_ret
      refine ⟨⟨A3, c3, ol, rfl, hc3, HS3.out, ?_⟩, HB.out⟩
      rw [HIT.out, List.take_of_length_le (by rw [HN.out]; exact Nat.le_refl _)]
end Go.Proofs.YtajnnkapgnmoaaaGreat
/-
  batch.Apply.
-/
namespace Go.Proofs.YtajnnkapgnmoaaaGreat
open Go.RowKit

set_option maxHeartbeats 4000000 in
set_option maxRecDepth 100000 in
theorem bapply_any (A B : Option Addr) (c d : Nat) (l : List TM) (cs : List CM) (w : World) {S : Nat → Prop} (hA : TRow w S A l) (hS : ∀ k, S k → k < w.heap.size) (hk : KeysOk 1000 (l.map TM.key)) (h0 : 0 < l.length) (hC : ChRow w S B cs) (hcl : cs.length ≤ 1000000) (hcr : ∀ x ∈ cs, x.r.length ≤ 1000) :
    Calls Tryz.prog 13 #[.slice A l.length c, .slice B cs.length d] w fun e w' => ∃ v dv, e = .returned (.tuple #[v, dv, .int .i64 (applyK (l.map TM.key) (cs.map CM.ch)).1, .int .i64 (((applyK (l.map TM.key) (cs.map CM.ch)).2.1 : Nat) : Int)]) ∧ Below w.heap.size w w' ∧
      ((applyK (l.map TM.key) (cs.map CM.ch)).1 ≠ 0 → v = .slice none 0 0 ∧ dv = .slice none 0 0) ∧ ((applyK (l.map TM.key) (cs.map CM.ch)).1 = 0 → ApplyRet w w' (applyK (l.map TM.key) (cs.map CM.ch)).2.2.1 (applyK (l.map TM.key) (cs.map CM.ch)).2.2.2 v dv) := by
  obtain ⟨i0, hi, hz0, hz1, hz2⟩ := info_parts string_info
  obtain ⟨i1, hi', hz0', hz1', hz2'⟩ := info_parts delta_info
  have htab := hk.tabsOk (by omega)
  have htb := hk.tabOk (by omega)
  have her := Lib.hid (eright_any A c l w hA hS htab)
  have hcp := Lib.hid (fun w1 (hb : Below w.heap.size w w1) => bcopied_any A c l w1 (S := fun k => k < w1.heap.size) ((hA.below hb hS).mono fun k hk => Nat.lt_of_lt_of_le (hS k hk) hb.size) (fun k hk => hk) htab.len htab.clen htab.rlen fun t ht x hx => (htab.set t ht).row hx)
  obtain ⟨K0, hK0⟩ : ∃ K0, l.map TM.key = K0 := ⟨_, rfl⟩
  obtain ⟨C0, hC0⟩ : ∃ C0, cs.map CM.ch = C0 := ⟨_, rfl⟩
  obtain ⟨AK, hAK⟩ : ∃ AK, applyK K0 C0 = AK := ⟨_, rfl⟩
  rw [hK0] at hk
  rw [hK0, hC0, hAK]
  have hcn : C0.length = cs.length := by rw [← hC0, List.length_map]
  unfold applyK at hAK
  rw [hcn] at hAK
  obtain ⟨n, hn⟩ : ∃ n, cs.length = n := ⟨_, rfl⟩
  obtain ⟨ln, hln⟩ : ∃ ln, l.length = ln := ⟨_, rfl⟩
  have HN := Lib.hid hn
  have HLN := Lib.hid hln
  have HA := Lib.hid hA
  have HS := Lib.hid hS
  have HC := Lib.hid hC
  have HCR := Lib.hid hcr
  have HK := Lib.hid hk
  have HTS := Lib.hid htb
  have HK0 := Lib.hid hK0
  have HC0 := Lib.hid hC0
  rw [hn] at hcl hAK ⊢
  rw [hln] at h0 her hcp ⊢
  have HAK := Lib.hid hAK
  clear hA hS hC hcr hk htab htb hK0 hC0 hn hln hcn hAK
  go_enter Tryz.func13, Tryz.ntmps13
  go_wp2_with fail
  refine her.out.mono ?_
  rintro e w1 ⟨rfl, hb1⟩
  have HB1 := Lib.hid hb1
  clear hb1 her
  by_cases hm : 8 < n
  · have hm' : (8 : Int) < (n : Int) := by omega
    have HM := Lib.hid hm
    clear hm
    go_wp2_with fail
    ((try simp only [Exit.inBlock, Exit.then]); refine bodyPost_ret (results_tmp4 rfl _ _ _) rfl ?_)
    have e : AK = (4, 0, [], []) := by rw [← HAK.out, if_pos HM.out]
    subst e
    exact ⟨_, _, rfl, HB1.out, fun _ => ⟨rfl, rfl⟩, fun h => by simp at h⟩
  · by_cases hz : n = 0
    · subst hz
      go_wp2_with fail
      ((try simp only [Exit.inBlock, Exit.then]); refine bodyPost_ret (results_tmp4 rfl _ _ _) rfl ?_)
      have e : AK = (1, 0, [], []) := by rw [← HAK.out]; simp
      subst e
      exact ⟨_, _, rfl, HB1.out, fun _ => ⟨rfl, rfl⟩, fun h => by simp at h⟩
    · have hm1 : ¬ (8 : Int) < (n : Int) := by omega
      have hm2 : ¬ (n : Int) = 0 := by omega
      have HAK2 : Hid ((if (runK K0 0 C0).1 = 0 then (0, 0, (runK K0 0 C0).2.2, (onceN (C0.map Ch.nm)).map (deltaK (runK K0 0 C0).2.2 K0)) else ((runK K0 0 C0).1, (runK K0 0 C0).2.1, [], [])) = AK) := Lib.hid (by rw [← HAK.out, if_neg hm, if_neg hz])
      clear HAK hz
      go_wp2_with fail
      refine (hcp.out _ HB1.out).mono ?_
      rintro e w2 ⟨⟨v8, s0, rfl, hT⟩, hb2⟩
      have hB2 := HB1.out.trans (hb2.mono HB1.out.size)
      have hs0 : s0.length = ln := by have := congrArg List.length hT.key; simpa [HLN.out] using this
      have hbb := HB1.out.size
      obtain ⟨g, cap, rfl, hg1, hg2⟩ := hT.own.form (by omega)
      have HN2 : Hid (Now none w w2 (.slice (some ⟨g, 0, none⟩) s0.length cap) s0) := Lib.hid (by
        have := Now.of hT
        refine ⟨own_lower this.own hbb, fun t ht => (this.cols t ht).mono fun k hk => ⟨hk.1.lower hbb, hk.2⟩, fun t ht => (this.rows t ht).mono fun k hk => ⟨hk.1.lower hbb, hk.2⟩⟩)
      have HKS : Hid (s0.map TM.key = K0) := Lib.hid (by rw [hT.key]; exact HK0.out)
      have HB2 := Lib.hid hB2
      rw [hs0] at HN2 ⊢
      have hgw : w.heap.size ≤ g := by omega
      have hs2 := hB2.size
      clear hT hb2 hB2 hcp hbb hg1
      go_wp2_with fail
      go_loopw [9, 35] (fun v9 i wr => ∃ (k : Nat) (s : List TM) (ns : List ByteArray), k ≤ n ∧ i = .int .i64 k ∧ Hid (Now v9.ownBlock w wr (.slice (some ⟨g, 0, none⟩) ln cap) s) ∧ s.length = ln ∧ Hid (wr.ownsRow w.heap.size 9 1 v9 ns.length (strs ns)) ∧ Hid (v9.ownBlock ≠ some g) ∧ Hid (ns = (cs.take k).map CM.nm) ∧ Hid (runK K0 0 C0 = runK (s.map TM.key) k (C0.drop k)) ∧ Hid (KeysOk (1000 + k) (s.map TM.key)) ∧ Below w.heap.size w wr ∧ g < wr.heap.size) (fun _ i _ => n - (intOf i).toNat)
      case atStart => exact ⟨0, s0, [], Nat.zero_le _, rfl, HN2, hs0, Lib.hid (World.ownsRow_nil _ _ _ _), Lib.hid (by simp [Value.ownBlock]), Lib.hid rfl, Lib.hid (by rw [HKS.out]; rfl), Lib.hid (by rw [HKS.out]; exact HK.out.more (by omega)), HB2.out, hg2⟩
      case round =>
        rename World => wo
        obtain ⟨k, s, ns, hk, rfl, HNW, hsl, HO, HNE, HNS, HRU, HKO, hb, hgo⟩ := hrel
        have HB := Lib.hid hb
        have hs := hb.size
        have hnl : ns.length = k := by rw [HNS.out, List.length_map, List.length_take, HN.out]; omega
        clear hb
        by_cases hlt : k < n
        · obtain ⟨x, hx⟩ : ∃ x, cs[k]? = some x := ⟨_, List.getElem?_eq_getElem (by rw [HN.out]; exact hlt)⟩
          obtain ⟨b, off, rfl, hSb, hc1, hc2, hc3⟩ := (HC.out.below HB.out HS.out).get hx
          have hm := List.mem_of_getElem? hx
          have hCx : C0[k]? = some x.ch := by rw [← HC0.out, List.getElem?_map, hx]; rfl
          have HST : Hid (runK (s.map TM.key) k (C0.drop k) = if (oneK (s.map TM.key) ⟨x.nm, x.r, x.rem⟩).1 = 0 then runK (oneK (s.map TM.key) ⟨x.nm, x.r, x.rem⟩).2 (k + 1) (C0.drop (k + 1)) else ((oneK (s.map TM.key) ⟨x.nm, x.r, x.rem⟩).1, k, [])) := Lib.hid (runK_step hCx (s.map TM.key) k)
          have HNS2 : Hid (ns ++ [x.nm] = (cs.take (k + 1)).map CM.nm) := Lib.hid (by
            obtain ⟨h1, e1⟩ := List.getElem?_eq_some_iff.1 hx
            rw [List.take_succ_eq_append_getElem h1, List.map_append, e1, ← HNS.out]
            rfl)
          have hon := Lib.hid (fun w1 (hb : Below wo.heap.size wo w1) => bone_any u9.ownBlock w w1 g cap s (by rw [hsl]; exact HNW.out.below hb) ⟨hgw, Nat.lt_of_lt_of_le hgo hb.size⟩ (fun j hj => Nat.lt_of_lt_of_le (HO.out.lt j hj).2 hb.size) (1000 + k) (by omega) HKO.out x.nm x.r x.A x.c ((((HC.out.rows x hm).to HS.out).below (HB.out.trans (hb.mono hs))).more (by have := hb.size; omega)) (HCR.out x hm) x.rem)
          obtain ⟨xnm, xA, xc, xr, xrem⟩ := x
          dsimp only [CM.ch] at hc1 hc2 hc3 hon HST HNS2
          have HKO2 := Lib.hid (HKO.out.one ⟨xnm, xr, xrem⟩)
          obtain ⟨ok, hok⟩ : ∃ ok, oneK (s.map TM.key) ⟨xnm, xr, xrem⟩ = ok := ⟨_, rfl⟩
          rw [hok] at hon HST HKO2
          clear hok
          obtain ⟨q, ks'⟩ := ok
          dsimp only at hon HST HKO2
          rw [hsl] at hon
          generalize xr.length = xn at hc2 hon
          clear hx hm hSb hCx HKO
          go_wp2_with fail
          refine (hon.out _ ((Below.refl wo.heap.size wo).alloc (Nat.le_refl _) _)).mono ?_
          rintro e w3 ⟨rfl, hgr, hnew⟩
          have HB3 : Hid (Below w.heap.size w w3) := Lib.hid (((HB.out.alloc hs _)).grown hgr (by simp; omega) (fun j e => by have := Option.some.inj e; omega))
          have x0 : w3.cell? ⟨wo.heap.size, 0, none⟩ = some (.string xnm) := (World.cell?_of_block (hgr.block wo.heap.size (by simp) (fun e => by have := Option.some.inj e; omega))).trans (by simp)
          have hx3 : wo.heap.size < w3.heap.size := by have := hgr.size; simp at this; omega
          have hg3 : g < w3.heap.size := by omega
          by_cases hq : q = 0
          · subst hq
            obtain ⟨s', hs', hN', hk'⟩ := hnew rfl
            have HN3 := Lib.hid hN'
            have HK3 := Lib.hid hk'
            have HO3 : Hid (w3.ownsRow w.heap.size 9 1 u9 ns.length (strs ns)) := Lib.hid (((HO.out.alloc _)).kept hgr (.inr HNE.out))
            have HS3 := Lib.hid hs'
            have hs3 := HB3.out.size
            clear hnew hN' hk' hgr HNW HO hon
            go_wp2_with (at_builtin; refine wpList_append_any _ rfl _ _ 77 rfl w.heap.size 9 i0 _ 1 16 Tryz.underlying77 hi hz0 hz1 hz2 rfl (by decide) _ _ _ rfl (HO3.out.alloc _) (w3.heap.size + 1) _ _ _ [.string xnm] rfl ⟨rfl, fun _ => ⟨_, rfl, Nat.lt_succ_self _, World.news_of_block (heap_alloc_new w3 _)⟩⟩ ?c1 ?c2 ?c3 ?c4 ?_)
            case c1 => intro u hu; rw [List.mem_singleton.1 hu]; rfl
            case c2 => unfold maxLen; omega
            case c3 => omega
            case c4 => simp; omega
            intro v' w5 hown' hgrow hat
            have hat' : v'.ownBlock = u9.ownBlock ∨ ∃ j, v'.ownBlock = some j ∧ w3.heap.size ≤ j := by
              rcases hat with h | h
              · exact .inl h
              · exact .inr ⟨_, h, by simp⟩
            have hb3a : Below w3.heap.size w3 (w3.alloc (.cells #[.string xnm] 9)) := (Below.refl _ _).alloc (Nat.le_refl _) _
            have hN5 := (HN3.out.below hb3a).grown (o' := v'.ownBlock) HNE.out hgrow (by
              rcases hat with h | h
              · exact .inl h
              · exact .inr ⟨_, h, by simp⟩)
            have HN5 : Hid (Now v'.ownBlock w w5 (.slice (some ⟨g, 0, none⟩) ln cap) s') := Lib.hid hN5
            have HNE5 : Hid (v'.ownBlock ≠ some g) := Lib.hid (by
              rcases hat' with h | ⟨j, h, hj⟩
              · rw [h]; exact HNE.out
              · rw [h]; intro e; have := Option.some.inj e; omega)
            have HB5 : Hid (Below w.heap.size w w5) := Lib.hid ((HB3.out.alloc hs3 _).grown hgrow (by simp; omega) (fun j e => (HO3.out.lt j e).1))
            have HO5 : Hid (w5.ownsRow w.heap.size 9 1 v' (ns ++ [xnm]).length (strs (ns ++ [xnm]))) := Lib.hid (by
              rw [List.length_append]
              unfold strs
              rw [List.map_append, hnl]
              exact hown')
            have hg5 : g < w5.heap.size := by have := hgrow.size; simp at this; omega
            have HRU5 : Hid (runK K0 0 C0 = runK (s'.map TM.key) (k + 1) (C0.drop (k + 1))) := Lib.hid (by
              rw [HRU.out, HST.out, if_pos trivial, HK3.out])
            have HKO5 : Hid (KeysOk (1000 + (k + 1 : Nat)) (s'.map TM.key)) := Lib.hid (by
              rw [HK3.out]
              exact HKO2.out.more (by omega))
            clear hown' hgrow hat hat' hb3a hN5 HN3 HNE HO3 HB3 HB HRU HST HKO2 HK3 x0
            go_wp2_with fail
            go_roundw
            case rel => exact ⟨k + 1, s', ns ++ [xnm], by omega, by go_num, HN5, HS3.out, HO5, HNE5, HNS2, HRU5, HKO5, HB5.out, hg5⟩
            case measure => simp [intOf]; omega
          · have HQ := Lib.hid hq
            clear hnew hgr hon x0
            go_wp2_with fail
            ((try simp only [Exit.inBlock, Exit.then]); refine bodyPost_ret (results_tmp4 rfl _ _ _) rfl ?_)
            have e : AK = (q, k, [], []) := by rw [← HAK2.out, HRU.out, HST.out, if_neg HQ.out, if_neg HQ.out]
            subst e
            exact ⟨_, _, rfl, HB3.out, fun _ => ⟨rfl, rfl⟩, fun h => absurd h HQ.out⟩
        · obtain rfl : k = n := by omega
          have hrun : runK K0 0 C0 = (0, 0, s.map TM.key) := by
            rw [HRU.out, List.drop_of_length_le (by rw [← HC0.out, List.length_map, HN.out]; exact Nat.le_refl _)]
            rfl
          have hns : ns = C0.map Ch.nm := by
            rw [HNS.out, List.take_of_length_le (by rw [HN.out]; exact Nat.le_refl _), ← HC0.out, List.map_map]
            rfl
          have HAK3 : Hid (AK = (0, 0, s.map TM.key, (onceN ns).map (deltaK (s.map TM.key) K0))) := Lib.hid (by
            rw [← HAK2.out, hrun, hns]
            exact if_pos rfl)
          have HFO : Hid (∀ x ∈ onceN ns, ∃ i : Nat, findK x (s.map TM.key) = (i : Int) ∧ i < ln) := Lib.hid (fun x hx => by
            have hx2 := onceN_sub hx
            rw [hns] at hx2
            obtain ⟨y, hy, rfl⟩ := List.mem_map.1 hx2
            obtain ⟨i, h1, h2⟩ := runK_found C0 0 K0 (by rw [hrun]) y hy
            have h3 := runK_names C0 0 K0 (by rw [hrun])
            rw [hrun] at h3
            rw [findK_names, ← h3, ← findK_names] at h1
            refine ⟨i, h1, ?_⟩
            rw [← HK0.out, List.length_map, HLN.out] at h2
            exact h2)
          obtain ⟨gn, capn, rfl, hgn1, hgn2⟩ := HO.out.form (by omega)
          have HNW2 : Hid (Now (some gn) w wo (.slice (some ⟨g, 0, none⟩) ln cap) s) := HNW
          have HNE2 : Hid (some gn ≠ some g) := HNE
          have hlt1 := HO.out.lt gn rfl
          have hcapn : ns.length ≤ capn := (own_holds HO.out).2.2.2
          have hsn := Lib.hid (sort_names HO.out (by omega))
          have hol := onceN_len ns
          rw [hnl] at hsn ⊢
          clear hrun HRU HNS HNW HNE HO HAK2
          go_wp2_with fail
          refine hsn.out.mono ?_
          rintro e w3 ⟨rfl, hgr3, hH3⟩
          have hon := Lib.hid (once_names hH3 (by omega) hcapn)
          rw [hnl] at hon
          have HN3 := Lib.hid (HNW2.out.grown (o' := some gn) HNE2.out hgr3 (.inl rfl))
          have HB3 : Hid (Below w.heap.size w w3) := Lib.hid (HB.out.grown hgr3 hs (fun j e => by have := Option.some.inj e; omega))
          have hs3 := hgr3.size
          clear hgr3 hH3 hsn HNW2 HB
          go_wp2_with fail
          refine hon.out.mono ?_
          rintro e w4 ⟨rfl, hgr4, hcell⟩
          have HN4 := Lib.hid (HN3.out.grown (o' := some gn) HNE2.out hgr4 (.inl rfl))
          have HB4 : Hid (Below w.heap.size w w4) := Lib.hid (HB3.out.grown hgr4 (by omega) (fun j e => by have := Option.some.inj e; omega))
          have hs4 := hgr4.size
          have hg4 : g < w4.heap.size := by omega
          have hgn4 : gn < w4.heap.size := by omega
          have hw4 : w.heap.size ≤ w4.heap.size := by omega
          have HCE := Lib.hid hcell
          have HTR : Hid (TRow w4 (fun k => k < w4.heap.size) (some ⟨g, 0, none⟩) s) := Lib.hid (by
            have := HN4.out
            rw [← hsl] at this
            exact this.row ⟨hgw, hg4⟩)
          have HKO4 := Lib.hid (HKO.out.more (b' := 1000000) (by omega))
          obtain ⟨on, hon2⟩ : ∃ on, onceN ns = on := ⟨_, rfl⟩
          rw [hon2] at HCE HFO HAK3 hol ⊢
          obtain ⟨m, hm⟩ : ∃ m, on.length = m := ⟨_, rfl⟩
          have HM := Lib.hid hm
          rw [hm] at hol ⊢
          have hm8 : m ≤ 8 := by omega
          clear hgr4 hcell HN3 HB3 HKO hon hon2 hm hol hns hgn1 hgn2 hlt1 hs3 hs4 hs hgo
          go_wp2_with fail
          go_loopw [13, 58] (fun v13 i wr => ∃ (k : Nat) (dl : List XM), k ≤ m ∧ i = .int .i64 k ∧ Hid (wr.ownsRow w4.heap.size 52 2 v13 dl.length (flatX dl)) ∧ Below w4.heap.size w4 wr ∧ dl.length = k ∧ Hid (∀ x ∈ dl, SRow wr (fun b => NewS w4 wr b ∧ v13.ownBlock ≠ some b) x.A x.rows) ∧ Hid (dl.map XM.key = (on.take k).map (deltaK (s.map TM.key) K0))) (fun _ i _ => m - (intOf i).toNat)
          case atStart => exact ⟨0, [], Nat.zero_le _, rfl, Lib.hid (World.ownsRow_nil _ _ _ _), Below.refl _ _, rfl, Lib.hid (fun x hx => by simp at hx), Lib.hid rfl⟩
          case round =>
            rename World => wr
            obtain ⟨j, dl, hj, rfl, HO, hb, hdl, HDR, HDK⟩ := hrel
            have HB := Lib.hid hb
            have hs := hb.size
            clear hb
            by_cases hlt : j < m
            · obtain ⟨x, hx⟩ : ∃ x, on[j]? = some x := ⟨_, List.getElem?_eq_getElem (by rw [HM.out]; exact hlt)⟩
              have hcx := (HB.out.cell hgn4).trans (HCE.out j x hx)
              obtain ⟨i, hfi, hil⟩ := HFO.out x (List.mem_of_getElem? hx)
              obtain ⟨tn, htn⟩ : ∃ tn, s[i]? = some tn := ⟨_, List.getElem?_eq_getElem (by omega)⟩
              obtain ⟨tp, hto⟩ : ∃ tp, l[i]? = some tp := ⟨_, List.getElem?_eq_getElem (by rw [HLN.out]; exact hil)⟩
              have hkn : (s.map TM.key)[i]? = some tn.key := by rw [List.getElem?_map, htn]; rfl
              have hko : K0[i]? = some tp.key := by rw [← HK0.out, List.getElem?_map, hto]; rfl
              have HDE := Lib.hid (deltaK_eq hfi hkn hko)
              have HTK : Hid ((on.take (j + 1)).map (deltaK (s.map TM.key) K0) = (on.take j).map (deltaK (s.map TM.key) K0) ++ [deltaK (s.map TM.key) K0 x]) := Lib.hid (by
                obtain ⟨h1, e1⟩ := List.getElem?_eq_some_iff.1 hx
                rw [List.take_succ_eq_append_getElem h1, List.map_append, e1]
                rfl)
              have hTB := HKO4.out.tabOk (Int.le_refl _)
              have hs6 := hTB.len
              have hfd := Lib.hid (fun w1 (hb : Below w4.heap.size w4 w1) => bfind_any (some ⟨g, 0, none⟩) cap s x w1 (S := fun k => k < w1.heap.size) ((HTR.out.below hb (fun k hk => hk)).mono fun k hk => Nat.lt_of_lt_of_le hk hb.size) (fun k hk => hk) (by omega))
              rw [← findK_map, hfi, hsl] at hfd
              obtain ⟨gg, goff, hge, _, hn1, hn2, hn3⟩ := HTR.out.get htn
              obtain ⟨rfl, rfl⟩ : g = gg ∧ 0 = goff := by simpa using hge
              obtain ⟨b, off, rfl, hSb, hp1, hp2, hp3⟩ := (HA.out.below HB4.out HS.out).get hto
              rw [Nat.zero_add] at hn3
              have hb4 : b < w4.heap.size := by have := HS.out b hSb; omega
              have hmn := List.mem_of_getElem? htn
              have hmo := List.mem_of_getElem? hto
              have HSN := Lib.hid (hTB.set tn hmn)
              have HSO := Lib.hid (HTS.out.set tp hmo)
              have hrn := hTB.rlen tn hmn
              have hro := HTS.out.rlen tp hmo
              have HVN := Lib.hid (hTB.vol tn hmn)
              have HVO := Lib.hid (HTS.out.vol tp hmo)
              have HFL := Lib.hid (fun w1 (hb : Below w4.heap.size w4 w1) => zflip_any tp.rA tp.rc tp.rows w1 (S := fun k => k < w1.heap.size) (((HA.out.rows tp hmo).below (HB4.out.trans (hb.mono hw4)) HS.out).mono fun k hk => Nat.lt_of_lt_of_le (HS.out k hk) (by have := hb.size; omega)) (fun k hk => hk) (by omega) HSO.out)
              have HAD := Lib.hid (fun A' c' (fl : List IM) w1 (hb : Below w4.heap.size w4 w1) (hS2 : SRow w1 (fun k => k < w1.heap.size) A' fl) (hf : its fl = flipS (its tp.rows)) => zadd_any tn.rA A' tn.rc c' tn.rows fl w1 (S := fun k => k < w1.heap.size) (((HTR.out.rows tn hmn).below hb (fun k hk => hk)).mono fun k hk => Nat.lt_of_lt_of_le hk hb.size) hS2 (fun k hk => hk) (by omega) (by have := congrArg List.length hf; simp only [its, flipS, List.length_map] at this; omega)
                (fun y hy => HSN.out.row hy) (fun y hy => by
                  have : y.it ∈ flipS (its tp.rows) := by rw [← hf]; exact List.mem_map.2 ⟨y, hy, rfl⟩
                  obtain ⟨z, hz, e⟩ := List.mem_map.1 this
                  have e1 : z.1 = y.r := congrArg Prod.fst e
                  rw [← e1]; exact HSO.out.set.rows z hz) (by have := HVN.out; have := HVO.out; rw [hf, vol_flip]; omega))
              have HSE := Lib.hid (fun (fl s2 : List IM) (hf : its fl = flipS (its tp.rows)) (h1 : SetOk (its s2)) (h2 : ∀ q, look (its s2) q = look (its (tn.rows ++ fl)) q) => SetOk_of_both HSN.out.set HSO.out.set h1 (fun q => by rw [h2, its_append, hf]))
              have hl0 := HLN.out
              obtain ⟨tnm, tcA, tcc, tcl, trA, trc, trl⟩ := tn
              obtain ⟨onm, ocA, occ, ocl, orA, orc, orl⟩ := tp
              dsimp only [TM.key] at hn3 hp3 HFL HAD HSE HDE
              obtain ⟨xn, hxn⟩ : ∃ xn, trl.length = xn := ⟨_, rfl⟩
              obtain ⟨yn, hyn⟩ : ∃ yn, orl.length = yn := ⟨_, rfl⟩
              rw [hxn] at hn3 HAD
              rw [hyn] at hp3 HFL
              clear hn1 hn2 hp1 hp2 hSb hmn hmo hTB hrn hro hfi htn hto hkn hko hge hxn hyn hx
              go_wp2_with fail
              refine (hfd.out _ HB.out).mono ?_
              rintro e w5 ⟨rfl, hb5⟩
              have HB5 : Hid (Below w4.heap.size w4 w5) := Lib.hid (HB.out.trans (hb5.mono hs))
              have HR5 : Hid (Below wr.heap.size wr w5) := Lib.hid hb5
              clear hb5 hfd hcx
              go_wp2_with fail
              have hw5 : w4.heap.size ≤ w5.heap.size := HB5.out.size
              have hr5 : wr.heap.size ≤ w5.heap.size := HR5.out.size
              have HCN := Lib.hid (fun w1 (hb : Below w5.heap.size w5 w1) => ((HB5.out.trans (hb.mono hw5)).cell hg4).trans hn3)
              have HCO := Lib.hid (fun w1 (hb : Below w5.heap.size w5 w1) => ((HB5.out.trans (hb.mono hw5)).cell hb4).trans ((HB.out.cell hb4).symm.trans ((HB.out.cell hb4).trans hp3)))
              clear hn3 hp3
              refine wp_region_held_drew (S := fun w' => Below w5.heap.size w5 w') (by kernel_rfl) ((Below.refl _ _).drew) (fun hHeld => ?_)
              refine wpAnyH_take (i := 0) (v := .slice (some ⟨g, 0, none⟩) ln cap) rfl (by kernel_rfl) (by kernel_rfl) (by kernel_rfl) (fun _ _ _ h => h) (Or.inl ⟨by rfl, fun w1 hSw => by (go_simp)⟩) (by assumption) ?_
              simp only [List.getElem_toArray, List.getElem_cons_zero, Act.put, List.setIfInBounds_toArray, List.set_cons_zero, List.set_cons_succ]
              refine wpAnyH_take (i := 1) (v := .int .i64 (i : Int)) rfl (by kernel_rfl) (by kernel_rfl) (by kernel_rfl) (fun _ _ _ h => h) (Or.inl ⟨by rfl, fun w1 hSw => by (go_simp)⟩) (by assumption) ?_
              simp only [List.getElem_toArray, List.getElem_cons_succ, List.getElem_cons_zero, Act.put, List.setIfInBounds_toArray, List.set_cons_zero, List.set_cons_succ]
              refine wpAnyH_take (i := 2) (v := .pointer (some ⟨g, i * 3, none⟩)) rfl (by kernel_rfl) (by kernel_rfl) (by kernel_rfl) (fun _ _ _ h => h) (Or.inl ⟨by rfl, fun w1 hSw => by (go_simp)⟩) (by assumption) ?_
              simp only [List.getElem_toArray, List.getElem_cons_succ, List.getElem_cons_zero, Act.put, List.setIfInBounds_toArray, List.set_cons_zero, List.set_cons_succ]
              refine wpAnyH_take (i := 3) (v := .pointer (some ⟨g, i * 3 + 2, none⟩)) rfl (by kernel_rfl) (by kernel_rfl) (by kernel_rfl) (fun _ _ _ h => h) (Or.inl ⟨by rfl, fun w1 hSw => by (go_simp)⟩) (by assumption) ?_
              simp only [List.getElem_toArray, List.getElem_cons_succ, List.getElem_cons_zero, Act.put, List.setIfInBounds_toArray, List.set_cons_zero, List.set_cons_succ]
              refine wpAnyH_take (i := 4) (v := .slice trA xn trc) rfl (by kernel_rfl) (by kernel_rfl) (by kernel_rfl) (fun _ _ _ h => h) (Or.inl ⟨by rfl, fun w1 hSw => by (have hcl := HCN.out w1 hSw; go_simp)⟩) (by assumption) ?_
              simp only [List.getElem_toArray, List.getElem_cons_succ, List.getElem_cons_zero, Act.put, List.setIfInBounds_toArray, List.set_cons_zero, List.set_cons_succ]
              refine wpAnyH_take (i := 5) (v := .slice (some ⟨b, off, none⟩) ln c) rfl (by kernel_rfl) (by kernel_rfl) (by kernel_rfl) (fun _ _ _ h => h) (Or.inl ⟨by rfl, fun w1 hSw => by (go_simp)⟩) (by assumption) ?_
              simp only [List.getElem_toArray, List.getElem_cons_succ, List.getElem_cons_zero, Act.put, List.setIfInBounds_toArray, List.set_cons_zero, List.set_cons_succ]
              refine wpAnyH_take (i := 6) (v := .int .i64 (i : Int)) rfl (by kernel_rfl) (by kernel_rfl) (by kernel_rfl) (fun _ _ _ h => h) (Or.inl ⟨by rfl, fun w1 hSw => by (go_simp)⟩) (by assumption) ?_
              simp only [List.getElem_toArray, List.getElem_cons_succ, List.getElem_cons_zero, Act.put, List.setIfInBounds_toArray, List.set_cons_zero, List.set_cons_succ]
              refine wpAnyH_take (i := 7) (v := .pointer (some ⟨b, off + i * 3, none⟩)) rfl (by kernel_rfl) (by kernel_rfl) (by kernel_rfl) (fun _ _ _ h => h) (Or.inl ⟨by rfl, fun w1 hSw => by (go_simp)⟩) (by assumption) ?_
              simp only [List.getElem_toArray, List.getElem_cons_succ, List.getElem_cons_zero, Act.put, List.setIfInBounds_toArray, List.set_cons_zero, List.set_cons_succ]
              refine wpAnyH_take (i := 8) (v := .pointer (some ⟨b, off + i * 3 + 2, none⟩)) rfl (by kernel_rfl) (by kernel_rfl) (by kernel_rfl) (fun _ _ _ h => h) (Or.inl ⟨by rfl, fun w1 hSw => by (go_simp)⟩) (by assumption) ?_
              simp only [List.getElem_toArray, List.getElem_cons_succ, List.getElem_cons_zero, Act.put, List.setIfInBounds_toArray, List.set_cons_zero, List.set_cons_succ]
              refine wpAnyH_take (i := 9) (v := .slice orA yn orc) rfl (by kernel_rfl) (by kernel_rfl) (by kernel_rfl) (fun _ _ _ h => h) (Or.inl ⟨by rfl, fun w1 hSw => by (have hcl := HCO.out w1 hSw; go_simp)⟩) (by assumption) ?_
              simp only [List.getElem_toArray, List.getElem_cons_succ, List.getElem_cons_zero, Act.put, List.setIfInBounds_toArray, List.set_cons_zero, List.set_cons_succ]
              refine wpAnyH_ready (rs := [10]) (by kernel_rfl) (by simp) ?_
              refine AllReadyH.cons rfl (fun K hK => ?_) AllReadyH.nil
              simp only [List.getElem_toArray, List.getElem_cons_succ, List.getElem_cons_zero]
              go_simp
              refine (HFL.out _ HB5.out.drew).mono ?_
              rintro e w6 ⟨⟨A', c', fl, rfl, _, hfS, hfi⟩, hb6⟩
              have HH6 : Hid (Below w5.heap.size w5 w6) := Lib.hid (hHeld.trans hb6)
              have HB6 : Hid (Below w4.heap.size w4 w6) := Lib.hid (HB5.out.trans (HH6.out.mono hw5))
              have HA6 := Lib.hid (HAD.out A' c' fl w6 HB6.out (hfS.mono fun k hk => hk.2.1) hfi)
              have HS6 := Lib.hid (HSE.out fl)
              have HFI := Lib.hid hfi
              clear hb6 hfS hfi HAD HSE HFL hHeld
              generalize hfn : fl.length = fn at HA6 ⊢
              clear hfn
              go_wp2_with fail
              refine hK.out _ _ HH6.out (fun hHeld => ?_)
              clear hK K
              refine wpAnyH_ready (rs := [11]) (by kernel_rfl) (by simp) ?_
              refine AllReadyH.cons rfl (fun K hK => ?_) AllReadyH.nil
              simp only [List.getElem_toArray, List.getElem_cons_succ, List.getElem_cons_zero]
              go_simp
              refine HA6.out.mono ?_
              rintro e w7 ⟨⟨A2, c2, s2, rfl, _, hs2, hset, hlook⟩, hb7⟩
              have HH7 : Hid (Below w5.heap.size w5 w7) := Lib.hid (HH6.out.trans (hb7.mono HH6.out.size))
              have hs6 : w5.heap.size ≤ w6.heap.size := HH6.out.size
              have HX7 : Hid (SRow w7 (NewS wr w7) A2 s2) := Lib.hid (hs2.mono fun k hk => hk.lower (by omega))
              have HKY : Hid (deltaK (s.map TM.key) K0 x = (x, its s2)) := Lib.hid (by rw [HDE.out, HS6.out s2 HFI.out hset hlook])
              clear hb7 hs2 hset hlook HA6 HS6 HFI HDE hHeld
              obtain ⟨sn, hsn⟩ : ∃ sn, s2.length = sn := ⟨_, rfl⟩
              have HSL := Lib.hid hsn
              rw [hsn]
              clear hsn
              go_wp2_with fail
              refine hK.out _ _ HH7.out (fun hHeld => ?_)
              clear hK K
              refine wpAnyH_take (i := 12) (v := .tuple #[.slice A2 sn c2, .int .i64 0]) rfl (by kernel_rfl) (by kernel_rfl) (by kernel_rfl) (fun _ _ _ h => h) (Or.inl ⟨by rfl, fun w1 hSw => by (go_simp)⟩) (by assumption) ?_
              simp only [List.getElem_toArray, List.getElem_cons_succ, List.getElem_cons_zero, Act.put, List.setIfInBounds_toArray, List.set_cons_zero, List.set_cons_succ]
              refine wpAnyH_take (i := 13) (v := .slice A2 sn c2) rfl (by kernel_rfl) (by kernel_rfl) (by kernel_rfl) (fun _ _ _ h => h) (Or.inl ⟨by rfl, fun w1 hSw => by (go_simp)⟩) (by assumption) ?_
              simp only [List.getElem_toArray, List.getElem_cons_succ, List.getElem_cons_zero, Act.put, List.setIfInBounds_toArray, List.set_cons_zero, List.set_cons_succ]
              refine wpAnyH_take (i := 14) (v := .int .i64 0) rfl (by kernel_rfl) (by kernel_rfl) (by kernel_rfl) (fun _ _ _ h => h) (Or.inl ⟨by rfl, fun w1 hSw => by (go_simp)⟩) (by assumption) ?_
              simp only [List.getElem_toArray, List.getElem_cons_succ, List.getElem_cons_zero, Act.put, List.setIfInBounds_toArray, List.set_cons_zero, List.set_cons_succ]
              refine wpAnyH_take (i := 15) (v := .slice A2 sn c2) rfl (by kernel_rfl) (by kernel_rfl) (by kernel_rfl) (fun _ _ _ h => h) (Or.inl ⟨by rfl, fun w1 hSw => by (go_simp)⟩) (by assumption) ?_
              simp only [List.getElem_toArray, List.getElem_cons_succ, List.getElem_cons_zero, Act.put, List.setIfInBounds_toArray, List.set_cons_zero, List.set_cons_succ]
              refine wpAnyH_take (i := 16) (v := .int .i64 0) rfl (by kernel_rfl) (by kernel_rfl) (by kernel_rfl) (fun _ _ _ h => h) (Or.inl ⟨by rfl, fun w1 hSw => by (go_simp)⟩) (by assumption) ?_
              simp only [List.getElem_toArray, List.getElem_cons_succ, List.getElem_cons_zero, Act.put, List.setIfInBounds_toArray, List.set_cons_zero, List.set_cons_succ]
              refine wpAnyH_done (by kernel_rfl) ?_ _
              have HR7 : Hid (Below wr.heap.size wr w7) := Lib.hid (HR5.out.trans (HH7.out.mono hr5))
              have HO7 := Lib.hid (ownM_below HO.out HR7.out)
              have hs7 : wr.heap.size ≤ w7.heap.size := HR7.out.size
              clear HH7 HH6 HCN HCO HB6 HB5 HR5 hHeld hs6
              go_wp2_with (at_builtin; refine wpList_append_any _ rfl _ _ 31 rfl w4.heap.size 52 i1 _ 2 40 Tryz.underlying31 hi' hz0' hz1' hz2' rfl (by decide) _ _ _ rfl (HO7.out.alloc _) (w7.heap.size + 1) _ _ _ [.string x, .slice A2 sn c2] rfl ⟨rfl, fun _ => ⟨_, rfl, Nat.lt_succ_self _, World.news_of_block (heap_alloc_new w7 _)⟩⟩ ?d1 ?d2 ?d3 ?d4 ?_)
              case d1 => intro u hu; simp only [List.mem_cons, List.not_mem_nil, or_false] at hu; rcases hu with rfl | rfl <;> rfl
              case d2 => unfold maxLen; omega
              case d3 => omega
              case d4 => simp; omega
              intro v' w8 hown' hgrow hat
              replace hat : v'.ownBlock = u13.ownBlock ∨ v'.ownBlock = some (w7.heap.size + 1) := by
                rcases hat with h | h
                · exact .inl h
                · exact .inr (by simpa using h)
              obtain ⟨hk1, hk2, hb8⟩ := snoc_blocks (v' := v') (fun g hg => HO.out.lt g hg) hs HB.out HR7.out _ hgrow hat
              obtain ⟨x', ex'⟩ : ∃ x' : XM, x' = ⟨x, A2, c2, s2⟩ := ⟨_, rfl⟩
              have HO8 : Hid (w8.ownsRow w4.heap.size 52 2 v' (dl ++ [x']).length (flatX (dl ++ [x']))) := Lib.hid (by rw [flatX_append, flatX_one, List.length_append, ex', hdl]; simp only [XM.cs, HSL.out]; exact hown')
              have HD8 : Hid (∀ t ∈ dl ++ [x'], SRow w8 (fun g => NewS w4 w8 g ∧ v'.ownBlock ≠ some g) t.A t.rows) := Lib.hid (fun t ht => by
                rcases List.mem_append.1 ht with ht | ht
                · exact ((HDR.out t ht).kept fun g hg => (hk1 g hg).1).mono fun g hg => (hk1 g hg).2
                · rw [List.mem_singleton.1 ht, ex']
                  exact (HX7.out.kept fun g hg => (hk2 g hg).1).mono fun g hg => (hk2 g hg).2)
              have HK8 : Hid ((dl ++ [x']).map XM.key = (on.take (j + 1)).map (deltaK (s.map TM.key) K0)) := Lib.hid (by
                rw [List.map_append, HTK.out, HDK.out, HKY.out, ex']
                rfl)
              have hdl8 : (dl ++ [x']).length = j + 1 := by rw [List.length_append, hdl]; rfl
              have HB8 := Lib.hid hb8
              generalize dl ++ [x'] = dl8 at HO8 HD8 HK8 hdl8
              clear hown' hgrow hat hk1 hk2 hb8 HO HO7 HR7 HB HX7 HKY HTK HDK HDR ex' HSL
              go_wp2_with fail
              go_roundw
              case rel => exact ⟨j + 1, dl8, by omega, by go_num, HO8, HB8.out, hdl8, HD8, HK8⟩
              case measure => simp [intOf]; omega
            · obtain rfl : j = m := by omega
              obtain ⟨A3, c3, rfl, hc3, hX3⟩ := own_deltas (S := NewS w wr) HO.out (fun g h1 h2 h3 => ⟨by omega, h2, h3⟩) (fun t ht => (HDR.out t ht).mono fun g hg => hg.1.lower hw4)
              have HX3 := Lib.hid hX3
              have HBF := Lib.hid (HB4.out.trans (HB.out.mono hw4))
              clear hX3
              go_wp2_with fail
              ((try simp only [Exit.inBlock, Exit.then]); refine bodyPost_ret (results_tmp4 rfl _ _ _) rfl ?_)
              have e := HAK3.out
              subst e
              refine ⟨_, _, rfl, HBF.out, fun h => absurd rfl h, fun _ => ⟨⟨g, cap, s, by rw [hsl]; rfl, ⟨hgw, by omega⟩, ?_, rfl⟩, ⟨A3, c3, dl, rfl, HX3.out, ?_⟩⟩⟩
              · have h1 := HN4.out.below HB.out
                exact ⟨h1.own, fun t ht => (h1.cols t ht).mono fun k hk => ⟨hk.1, hk.2.1, by simp⟩, fun t ht => (h1.rows t ht).mono fun k hk => ⟨hk.1, hk.2.1, by simp⟩⟩
              · rw [HDK.out, List.take_of_length_le (by rw [HM.out]; exact Nat.le_refl _)]
end Go.Proofs.YtajnnkapgnmoaaaGreat
/-
  Package confluencekeep: Cols, at columns that are the same.
-/
set_option linter.unusedVariables false
set_option linter.unusedSimpArgs false
namespace Go.Proofs.YtajnnkapgnmoaaaGreat
open Go.RowKit

@[go_sem] theorem guard_col (op : BinOp) (x y : Operand) (xs ys : Array Value) (w : World) : (eqGuard op 100 x y (.agg xs) (.agg ys)).run Tryz.prog w = .ok () w := run_eqGuard_agg w op _ x y xs ys (by kernel_rfl)
@[go_sem] theorem neq_col (xn yn : ByteArray) (xk yk : Int) (w : World) :
    (binOp .neq 100 (.agg #[.string xn, .int .i64 xk]) (.agg #[.string yn, .int .i64 yk])).run Tryz.prog w = .ok (.bool (!(xn.toList == yn.toList && xk == yk))) w := by
  have hS : Tryz.prog.underlying 100 = some (.struct (Tryz.prog.fieldsOf 100)) := by kernel_rfl
  have hp : Tryz.prog.stoodInHeld 100 = false := by kernel_rfl
  have u1 := Tryz.underlying3
  have u3 := Tryz.underlying9
  rw [run_neq_struct, show (10000 : Nat) = 9999 + 1 from rfl, run_equalIn_agg w 9999 _ _ _ hS hp]
  simp only [Program.fieldsOf, Tryz.underlying100]
  go_simp
  by_cases h1 : xk = yk <;> by_cases h3 : xn.toList = yn.toList <;> simp [h1, h3]
theorem CRow.get {w : World} {B : Nat} {A : Option Addr} {l : List C} (h : CRow w B A l) {i : Nat} {x : C} (hx : l[i]? = some x) : ∃ b off, A = some ⟨b, off, none⟩ ∧ b < B ∧ w.cell? ⟨b, off + i * 2, none⟩ = some (.string x.nm) ∧ w.cell? ⟨b, off + i * 2 + 1, none⟩ = some (.int .i64 x.k) := by
  rcases h with rfl | ⟨b, off, e, hb, h⟩
  · simp at hx
  · exact ⟨b, off, e, hb, h i x hx⟩
set_option maxHeartbeats 1000000 in
set_option maxRecDepth 100000 in
theorem keepCols_same (A D : Option Addr) (c d : Nat) (l : List C) (hl : l.length ≤ 1000000) (w : World) (hA : CRow w w.heap.size A l) (hD : CRow w w.heap.size D l) :
    Calls Tryz.prog 23 #[.slice A l.length c, .slice D l.length d] w fun e w' => e = .returned (.bool true) ∧ Below w.heap.size w w' := by
  obtain ⟨n, hn⟩ : ∃ n, l.length = n := ⟨_, rfl⟩
  have HN := Lib.hid hn
  have HA := Lib.hid hA
  have HD := Lib.hid hD
  rw [hn] at hl ⊢
  clear hA hD hn
  go_enter Tryz.func23, Tryz.ntmps23
  go_wp2_with fail
  go_loopw [5] (fun i wr => ∃ k : Nat, k ≤ n ∧ i = .int .i64 k ∧ Below w.heap.size w wr) (fun i _ => n - (intOf i).toNat)
  case atStart => exact ⟨0, Nat.zero_le _, rfl, Below.refl _ _⟩
  case round =>
    rename World => wo
    obtain ⟨k, hk, rfl, hb⟩ := hrel
    have HB := Lib.hid hb
    clear hb
    by_cases hlt : k < n
    · obtain ⟨x, hx⟩ : ∃ x, l[k]? = some x := ⟨_, List.getElem?_eq_getElem (by rw [HN.out]; exact hlt)⟩
      obtain ⟨b, off, rfl, hb1, hc1, hc2⟩ := HA.out.get hx
      obtain ⟨b2, off2, rfl, hb2, hd1, hd2⟩ := HD.out.get hx
      have hc1 := (HB.out.cell (p := ⟨b, off + k * 2, none⟩) hb1).trans hc1
      have hc2 := (HB.out.cell (p := ⟨b, off + k * 2 + 1, none⟩) hb1).trans hc2
      have hd1 := (HB.out.cell (p := ⟨b2, off2 + k * 2, none⟩) hb2).trans hd1
      have hd2 := (HB.out.cell (p := ⟨b2, off2 + k * 2 + 1, none⟩) hb2).trans hd2
      obtain ⟨xn, xk⟩ := x
      dsimp only at hc1 hc2 hd1 hd2
      have e1 : (xn.toList == xn.toList) = true := beq_self_eq_true _
      have e2 : (xk == xk) = true := beq_self_eq_true _
      have hk0 : (0 : Int) ≤ (k : Int) := by omega
      have hkn : (k : Int) < (n : Int) := by omega
      clear hx
      go_wp2_with fail
      go_quiet (fail)
      go_wp2_with fail
      go_roundw
      case rel => exact ⟨k + 1, by omega, by go_num, ⟨HB.out.os, HB.out.tape, HB.out.output, HB.out.size, HB.out.block⟩⟩
      case measure => simp [intOf]; omega
    · obtain rfl : k = n := by omega
      go_wp2_with fail
      go_ret
      exact ⟨rfl, HB.out⟩
end Go.Proofs.YtajnnkapgnmoaaaGreat
/-
  Package confluencekeep: Set, at two sets that are the same.
-/
set_option linter.unusedVariables false
set_option linter.unusedSimpArgs false
namespace Go.Proofs.YtajnnkapgnmoaaaGreat
open Go.RowKit Go.Sort

set_option maxHeartbeats 4000000 in
set_option maxRecDepth 100000 in
theorem keepSet_same (A B : Option Addr) (c d : Nat) (l m : List IM) (w : World) {S : Nat → Prop} (hA : SRow w S A l) (hB : SRow w S B m) (hS : ∀ k, S k → k < w.heap.size) (hl : l.length ≤ 1073741824) (ho : SOk l) (he : its l = its m) :
    Calls Tryz.prog 15 #[.slice A l.length c, .slice B m.length d] w fun e w' => e = .returned (.bool true) ∧ Below w.heap.size w w' := by
  have mixed : Tryz.prog.follows .mixedOrders = true := by kernel_rfl
  have hlen : m.length = l.length := by have := congrArg List.length he; rw [its_len, its_len] at this; exact this.symm
  obtain ⟨n, hn⟩ : ∃ n, l.length = n := ⟨_, rfl⟩
  have HN := Lib.hid hn
  rw [hn] at hlen
  have HM := Lib.hid hlen
  have HA := Lib.hid hA
  have HB0 := Lib.hid hB
  have HS := Lib.hid hS
  have HO := Lib.hid ho
  have HE := Lib.hid he
  rw [hn] at hl ⊢
  rw [hlen]
  clear hA hB hS ho he hn hlen
  have hnn : ((n : Int) == (n : Int)) = true := beq_self_eq_true _
  go_enter Tryz.func15, Tryz.ntmps15
  go_wp2_with fail
  go_loopw [5] (fun i wr => ∃ k : Nat, k ≤ n ∧ i = .int .i64 k ∧ Below w.heap.size w wr) (fun i _ => n - (intOf i).toNat)
  case atStart => exact ⟨0, Nat.zero_le _, rfl, Below.refl _ _⟩
  case round =>
    obtain ⟨k, hk, rfl, hb⟩ := hrel
    have HB := Lib.hid hb
    have hs := hb.size
    clear hb
    by_cases hlt : k < n
    · obtain ⟨x, hx⟩ : ∃ x, l[k]? = some x := ⟨_, List.getElem?_eq_getElem (by rw [HN.out]; exact hlt)⟩
      obtain ⟨y, hy⟩ : ∃ y, m[k]? = some y := ⟨_, List.getElem?_eq_getElem (by rw [HM.out]; exact hlt)⟩
      have hxy : x.it = y.it := by
        have h1 : (its l)[k]? = some x.it := by unfold its; rw [List.getElem?_map, hx]; rfl
        have h2 : (its m)[k]? = some y.it := by unfold its; rw [List.getElem?_map, hy]; rfl
        rw [HE.out, h2] at h1
        exact (Option.some.inj h1).symm
      have er : y.r = x.r := (congrArg Prod.fst hxy).symm
      have ek : y.k = x.k := (congrArg Prod.snd hxy).symm
      obtain ⟨b, off, rfl, _, p0, p1⟩ := (HA.out.below HB.out HS.out).get hx
      obtain ⟨b2, off2, rfl, _, p2, p3⟩ := (HB0.out.below HB.out HS.out).get hy
      have hmx := List.mem_of_getElem? hx
      have hmy := List.mem_of_getElem? hy
      have hok := HO.out.row hmx
      have hx6 := (rowOk_len hok).2
      have hkN := HO.out.okN hmx
      rw [er] at p2
      rw [ek] at p3
      have hq := Lib.hid (fun w1 (hb : Below w.heap.size w w1) => keepRow_any x.A y.A x.c y.c x.r x.r (by omega) (by omega) w1 ((((HA.out.rows x hmx).to HS.out).below hb).more hb.size) (by have := (((HB0.out.rows y hmy).to HS.out).below hb).more hb.size; rw [er] at this; exact this))
      rw [show eqR x.r x.r = true from (eqR_iff _ _).2 rfl] at hq
      have q2 : ∀ w1, (binOp .neq 45 (tal x.k) (tal x.k)).run Tryz.prog w1 = .ok (.bool false) w1 := fun w1 => by
        rw [run_ne_tal hkN hkN, decide_eq_true rfl]; rfl
      have hgz2 := fun op t x' y' v => eqGuard_at_tal op t x' y' x.k v
      obtain ⟨xA, xc, xr, xk⟩ := x
      obtain ⟨yA, yc, yr, yk⟩ := y
      dsimp only at p0 p1 p2 p3 hq q2 hgz2
      generalize tal xk = T at p1 p3 q2 hgz2
      generalize xr.length = xn at p0 p2 hq
      have e0 := fun d os => cell_regrown p0 d os
      have e1 := fun d os => cell_regrown p1 d os
      have e2 := fun d os => cell_regrown p2 d os
      have e3 := fun d os => cell_regrown p3 d os
      have C1 := Lib.hid (fun d os => Calls.regrown_of (hq.out _ (HB.out.trans ((below_regrown wr d os).mono hs))))
      have hk0 : (0 : Int) ≤ (k : Int) := by omega
      have hk1 : (k : Int) < (n : Int) := by omega
      clear hx hy hxy er ek p0 p1 p2 p3 hmx hmy hok hx6 hkN hq
      go_upto_region 6 with (fail)
      refine wp_region_quiet_below (by assumption) (by kernel_rfl) ?_
      iterate 10 (quiet_step (first | (fail)))
      quiet_step (first | (go_at_call 38; exact C1.out _ _))
      iterate 14 (quiet_step (first | (fail)))
      refine wpQuiet_nil ?_
      intro _ hw'
      obtain ⟨⟨nq, osq⟩, hw''⟩ := hw'
      subst hw''
      have HB2 := Lib.hid (HB.out.trans ((below_regrown wr nq osq).mono hs))
      clear e0 e1 e2 e3 C1
      generalize grow (redrawn wr nq) osq = wf at HB2 ⊢
      go_wp2_with fail
      go_roundw
      case rel => exact ⟨k + 1, by omega, by go_num, HB2.out⟩
      case measure => simp [intOf]; omega
    · obtain rfl : k = n := by omega
      go_wp2_with fail
      go_ret
      exact ⟨rfl, HB.out⟩
end Go.Proofs.YtajnnkapgnmoaaaGreat
/-
  law16.both: the program's answer and the document's are the same.
-/
set_option linter.unusedVariables false
set_option linter.unusedSimpArgs false
namespace Go.Proofs.YtajnnkapgnmoaaaGreat
open Go.RowKit Go.Sort

theorem oneK_st (a b : List It) (c : Ch) : ∃ a' b', (oneK (st a b) c).2 = st a' b' := by
  rcases find_cases c.nm a b with h | ⟨q, hq, hf, _⟩
  · rw [oneK_no h]
    exact ⟨a, b, rfl⟩
  · obtain ⟨t, ht⟩ : ∃ t, (st a b)[q]? = some t := ⟨_, List.getElem?_eq_getElem (by show q < 2; exact hq)⟩
    rw [oneK_at hf ht]
    split
    · exact st_set hq ht _
    · exact ⟨a, b, rfl⟩
theorem runK_st : ∀ (l : List Ch) (n : Nat) (a b : List It), (runK (st a b) n l).1 = 0 → ∃ a' b', (runK (st a b) n l).2.2 = st a' b'
  | [], n, a, b, _ => ⟨a, b, rfl⟩
  | c :: l, n, a, b, h => by
    unfold runK at h ⊢
    split at h
    · rename_i h1
      rw [if_pos h1]
      obtain ⟨a', b', e⟩ := oneK_st a b c
      rw [e] at h ⊢
      exact runK_st l (n + 1) a' b' h
    · rename_i h1
      exact absurd h h1
theorem delta_ok {a b a' b' : List It} (h : KeysOk 2000 (st a b)) (h' : KeysOk 2000 (st a' b')) {nm : ByteArray} (hn : nm = nmT ∨ nm = nmU) : SetOk (deltaK (st a' b') (st a b) nm).2 ∧ vol (deltaK (st a' b') (st a b) nm).2 ≤ 4000 := by
  have go : ∀ {x y : List It} {cx cy : List C} {nx ny : ByteArray}, KeyOk 2000 (nx, cx, x) → KeyOk 2000 (ny, cy, y) → SetOk (sumS x (flipS y)) ∧ vol (sumS x (flipS y)) ≤ 4000 := fun {x y cx cy nx ny} hx hy => by
    have h1 : SetOk (sumS x (flipS y)) ∧ ∀ q, look (sumS x (flipS y)) q = look x q + look (flipS y) q := sumS_both hx.set hy.set.flip
    refine ⟨h1.1, ?_⟩
    have h2 := SetOk.vol_le h1.1.toOrd (l := x ++ flipS y) (fun q => by rw [h1.2, look_append])
    rw [vol_append, vol_flip] at h2
    have h3 := hx.vol
    have h4 := hy.vol
    dsimp only at h3 h4
    omega
  rcases hn with rfl | rfl
  · rw [deltaK_T]
    exact go (h'.keys (nmT, tC, b') (by simp [st])) (h.keys (nmT, tC, b) (by simp [st]))
  · rw [deltaK_U]
    exact go (h'.keys (nmU, uC, a') (by simp [st])) (h.keys (nmU, uC, a) (by simp [st]))
/-- two answers, held against one another -/
structure BothRet (w : World) (v v' dv dv' : Value) : Prop where
  tabs : ∃ (A1 A2 : Option Addr) (c1 c2 m : Nat) (s1 s2 : List TM), v = .slice A1 m c1 ∧ v' = .slice A2 m c2 ∧ s1.length = m ∧ s2.length = m ∧ m ≤ 2 ∧ TRow w (fun k => k < w.heap.size) A1 s1 ∧ TRow w (fun k => k < w.heap.size) A2 s2 ∧ s1.map TM.key = s2.map TM.key ∧
    (∀ t ∈ s1, t.cols.length ≤ 1000000 ∧ SOk t.rows ∧ t.rows.length ≤ 1073741824)
  tells : ∃ (A1 A2 : Option Addr) (c1 c2 m : Nat) (s1 s2 : List XM), dv = .slice A1 m c1 ∧ dv' = .slice A2 m c2 ∧ s1.length = m ∧ s2.length = m ∧ m ≤ 8 ∧ XRow w (fun k => k < w.heap.size) A1 s1 ∧ XRow w (fun k => k < w.heap.size) A2 s2 ∧ s1.map XM.key = s2.map XM.key ∧
    (∀ t ∈ s1, SOk t.rows ∧ t.rows.length ≤ 1073741824)
theorem bothRet_none (w : World) : BothRet w (.slice none 0 0) (.slice none 0 0) (.slice none 0 0) (.slice none 0 0) :=
  ⟨⟨none, none, 0, 0, 0, [], [], rfl, rfl, rfl, rfl, by omega, ⟨.inl rfl, fun x h => by simp at h, fun x h => by simp at h⟩, ⟨.inl rfl, fun x h => by simp at h, fun x h => by simp at h⟩, rfl, fun x h => by simp at h⟩,
   ⟨none, none, 0, 0, 0, [], [], rfl, rfl, rfl, rfl, by omega, ⟨.inl rfl, fun x h => by simp at h⟩, ⟨.inl rfl, fun x h => by simp at h⟩, rfl, fun x h => by simp at h⟩⟩
theorem bothRet_ok {w0 w1 w3 : World} {a0 b0 : List It} {C0 : List Ch} {v v' dv dv' : Value} (hk : KeysOk 1000 (st a0 b0)) (hz : (applyK (st a0 b0) C0).1 = 0) (hb : Below w1.heap.size w1 w3)
    (h1 : ApplyRet w0 w1 (applyK (st a0 b0) C0).2.2.1 (applyK (st a0 b0) C0).2.2.2 v dv) (h2 : RApplyRet w3 (applyK (st a0 b0) C0).2.2.1 (applyK (st a0 b0) C0).2.2.2 v' dv') : BothRet w3 v v' dv dv' := by
  have hC : C0.length ≤ 8 ∧ (runK (st a0 b0) 0 C0).1 = 0 ∧ applyK (st a0 b0) C0 = (0, 0, (runK (st a0 b0) 0 C0).2.2, (onceN (C0.map Ch.nm)).map (deltaK (runK (st a0 b0) 0 C0).2.2 (st a0 b0))) := by
    unfold applyK at hz ⊢
    split at hz
    · exact absurd hz (by simp)
    · rename_i q1
      split at hz
      · exact absurd hz (by simp)
      · rename_i q2
        split at hz
        · rename_i q3
          rw [if_neg q1, if_neg q2, if_pos q3]
          exact ⟨by omega, q3, rfl⟩
        · rename_i q3
          exact absurd hz q3
  obtain ⟨hC8, hr0, hA⟩ := hC
  obtain ⟨a', b', hst⟩ := runK_st C0 0 a0 b0 hr0
  have hk2 : KeysOk 2000 (st a' b') := by
    have := runK_ok C0 0 hk hr0
    rw [hst] at this
    exact this.more (by omega)
  have hk0 : KeysOk 2000 (st a0 b0) := hk.more (by omega)
  have hnm := run_names hr0
  rw [hA, hst] at h1 h2
  dsimp only at h1 h2
  obtain ⟨g, cap, s1, rfl, hg, hN, hs1⟩ := h1.tabs
  obtain ⟨A2, c2, s2, rfl, hT2, hs2⟩ := h2.tabs
  obtain ⟨D1, e1, x1, rfl, hX1, hx1⟩ := h1.tells
  obtain ⟨D2, e2, x2, rfl, hX2, hx2⟩ := h2.tells
  have l1 : s1.length = 2 := by have := congrArg List.length hs1; simpa [st] using this
  have l2 : s2.length = 2 := by have := congrArg List.length hs2; simpa [st] using this
  have lx : x1.length = (onceN (C0.map Ch.nm)).length := by have := congrArg List.length hx1; simpa using this
  have lx2 : x2.length = x1.length := by have := congrArg List.length (hx2.trans hx1.symm); simpa using this
  have hon := onceN_len (C0.map Ch.nm)
  rw [List.length_map] at hon
  have hk1 : KeysOk 2000 (s1.map TM.key) := by rw [hs1]; exact hk2
  have ht1 := hk1.tabOk (by omega)
  constructor
  · refine ⟨_, A2, cap, c2, 2, s1, s2, by rw [l1], by rw [l2], l1, l2, Nat.le_refl _, ?_, hT2, hs1.trans hs2.symm, fun t ht => ⟨by have := cols_len (ht1.cols t ht); omega, ht1.set t ht, by have := ht1.rlen t ht; omega⟩⟩
    exact ((hN.row hg).below hb (fun k hk => hk)).mono fun k hk => Nat.lt_of_lt_of_le hk hb.size
  · refine ⟨D1, D2, e1, e2, x1.length, x1, x2, rfl, by rw [lx2], rfl, lx2, by omega, ?_, hX2, hx1.trans hx2.symm, fun t ht => ?_⟩
    · exact (hX1.kept fun k hk => hb.block k hk.2.1).mono fun k hk => Nat.lt_of_lt_of_le hk.2.1 hb.size
    · have hmem : t.key ∈ (onceN (C0.map Ch.nm)).map (deltaK (st a' b') (st a0 b0)) := by rw [← hx1]; exact List.mem_map.2 ⟨t, ht, rfl⟩
      obtain ⟨nm, hn, e⟩ := List.mem_map.1 hmem
      have hd := delta_ok hk0 hk2 (hnm nm (onceN_sub hn))
      rw [e] at hd
      have hd1 : SetOk (its t.rows) := hd.1
      have hd2 : vol (its t.rows) ≤ 4000 := hd.2
      have hlen := len_vol hd1.nets
      rw [its_len] at hlen
      exact ⟨⟨hd1, by omega⟩, by omega⟩

set_option maxHeartbeats 4000000 in
set_option maxRecDepth 100000 in
theorem both_any (A B : Option Addr) (c d : Nat) (l : List TM) (cs : List CM) (a0 b0 : List It) (w : World) {S : Nat → Prop} (hA : TRow w S A l) (hS : ∀ k, S k → k < w.heap.size) (hl : l.map TM.key = st a0 b0) (hcap : ∀ t ∈ l, t.cols.length ≤ t.cc) (hk : KeysOk 1000 (st a0 b0)) (hC : ChRow w S B cs) (hcl : cs.length ≤ 1000000) (hcr : ∀ x ∈ cs, x.r.length ≤ 1000) :
    Calls Tryz.prog 10 #[.slice A 2 c, .slice B cs.length d] w fun e w' => (∃ v dv z, e = .returned (.tuple #[v, dv, z, .bool true])) ∧ Below w.heap.size w w' := by
  have mixed : Tryz.prog.follows .mixedOrders = true := by kernel_rfl
  have hln : l.length = 2 := by have := congrArg List.length hl; simpa [st] using this
  have hk' : KeysOk 1000 (l.map TM.key) := by rw [hl]; exact hk
  have HAP := Lib.hid (by have := bapply_any A B c d l cs w hA hS hk' (by omega) hC hcl hcr; rw [hln, hl] at this; exact this)
  have HIN := Lib.hid (fun w1 (hb : Below w.heap.size w w1) => by
    have := in16_any A c l w1 (S := fun k => k < w1.heap.size) ((hA.below hb hS).mono fun k hk => Nat.lt_of_lt_of_le (hS k hk) hb.size) (fun k hk => hk) (by omega)
    rw [hln] at this
    exact this)
  have HRA := Lib.hid (fun A' c' w1 (hb : Below w.heap.size w w1) (hT : TRow w1 (fun k => k < w1.heap.size) A' l) => rapply_any A' B c' d l cs a0 b0 w1 hT (fun k hk => hk) hl hcap hk ((hC.kept fun k hk => hb.block k (hS k hk)).mono fun k hk => Nat.lt_of_lt_of_le (hS k hk) hb.size) hcl hcr)
  have HTI := Lib.hid (fun A' c' w1 w2 (hb1 : Below w.heap.size w w1) (hb2 : Below w1.heap.size w1 w2) (h2 : w2.ownsRow w1.heap.size 66 3 (.slice A' 2 c') 2 (flatB l)) => by
    have hb := hb1.trans (hb2.mono hb1.size)
    rw [← hln] at h2
    obtain ⟨A3, c3, hv, _, hT⟩ := own_tabs (S := fun k => k < w2.heap.size) h2 (fun g _ h _ => h) (fun t ht => ((hA.cols t ht).kept fun k hk => hb.block k (hS k hk)).mono fun k hk => Nat.lt_of_lt_of_le (hS k hk) hb.size) (fun t ht => ((hA.rows t ht).kept fun k hk => hb.block k (hS k hk)).mono fun k hk => Nat.lt_of_lt_of_le (hS k hk) hb.size)
    obtain ⟨rfl, rfl⟩ : A' = A3 ∧ c' = c3 := by simpa using hv
    exact hT)
  obtain ⟨n, hn⟩ : ∃ n, cs.length = n := ⟨_, rfl⟩
  have HK := Lib.hid hk
  rw [hn] at HAP HRA ⊢
  obtain ⟨AK, hAK⟩ : ∃ AK, applyK (st a0 b0) (cs.map CM.ch) = AK := ⟨_, rfl⟩
  have HBO := Lib.hid (fun w1 w3 v v' dv dv' (hb : Below w1.heap.size w1 w3) (h1 : AK.1 ≠ 0 → v = .slice none 0 0 ∧ dv = .slice none 0 0) (h2 : AK.1 = 0 → ApplyRet w w1 AK.2.2.1 AK.2.2.2 v dv) (h3 : AK.1 ≠ 0 → v' = .slice none 0 0 ∧ dv' = .slice none 0 0) (h4 : AK.1 = 0 → RApplyRet w3 AK.2.2.1 AK.2.2.2 v' dv') => (by
    by_cases hz : AK.1 = 0
    · have e1 := h2 hz
      have e2 := h4 hz
      rw [← hAK] at e1 e2 hz
      exact bothRet_ok hk hz hb e1 e2
    · obtain ⟨rfl, rfl⟩ := h1 hz
      obtain ⟨rfl, rfl⟩ := h3 hz
      exact bothRet_none w3 : BothRet w3 v v' dv dv'))
  rw [hAK] at HAP HRA
  clear hA hS hl hcap hk hC hcl hcr hk' hln hn hAK
  go_enter Tryz.func10, Tryz.ntmps10
  go_wp2_with fail
  refine HAP.out.mono ?_
  rintro e w1 ⟨v, dv, rfl, hb1, ha1, ha2⟩
  have HB1 := Lib.hid hb1
  have hs1 := hb1.size
  have HA1 := Lib.hid ha1
  have HA2 := Lib.hid ha2
  clear hb1 ha1 ha2 HAP
  go_wp2_with fail
  refine (HIN.out w1 HB1.out).mono ?_
  rintro e w2 ⟨⟨A', c', rfl, _, h2⟩, hb2⟩
  have HT := Lib.hid (HTI.out A' c' w1 w2 HB1.out hb2 h2)
  have HB2 := Lib.hid (HB1.out.trans (hb2.mono hs1))
  have HB12 := Lib.hid hb2
  have hs2 := hb2.size
  clear h2 hb2 HIN HTI
  go_wp2_with fail
  refine (HRA.out A' c' w2 HB2.out HT.out).mono ?_
  rintro e w3 ⟨v', dv', rfl, hb3, hr1, hr2⟩
  have HB3 := Lib.hid (HB2.out.trans (hb3.mono (by omega)))
  obtain ⟨hTA, hTE⟩ := HBO.out w1 w3 v v' dv dv' (HB12.out.trans (hb3.mono hs2)) HA1.out HA2.out hr1 hr2
  obtain ⟨A1, A2, c1, c2, m, s1, s2, rfl, rfl, hl1, hl2, hm2, hT1, hT2, hkk, hok⟩ := hTA
  obtain ⟨D1, D2, e1, e2, r, x1, x2, rfl, rfl, hx1, hx2, hr8, hX1, hX2, hxk, hxo⟩ := hTE
  have HL1 := Lib.hid hl1
  have HL2 := Lib.hid hl2
  have HT1 := Lib.hid hT1
  have HT2 := Lib.hid hT2
  have HKK := Lib.hid hkk
  have HOK := Lib.hid hok
  have HX1 := Lib.hid hX1
  have HX2 := Lib.hid hX2
  have HXL1 := Lib.hid hx1
  have HXL2 := Lib.hid hx2
  have HXK := Lib.hid hxk
  have HXO := Lib.hid hxo
  obtain ⟨p, q, rest⟩ := AK
  obtain ⟨q2, q3⟩ := rest
  dsimp only
  clear hl1 hl2 hT1 hT2 hkk hok hX1 hX2 hx1 hx2 hxk hxo hb3 hr1 hr2 HA1 HA2 HBO HB12 HT HRA
  have n1 : (p != p) = false := by simp
  have n2 : ((q : Int) != (q : Int)) = false := by simp
  have n3 : ((m : Int) != (m : Int)) = false := by simp
  have n4 : ((r : Int) != (r : Int)) = false := by simp
  go_wp2_with fail
  go_loopw [16] (fun i wr => ∃ k : Nat, k ≤ m ∧ i = .int .i64 k ∧ RowKit.Below w3.heap.size w3 wr) (fun i _ => m - (intOf i).toNat)
  case atStart => exact ⟨0, Nat.zero_le _, rfl, Below.refl _ _⟩
  case round =>
    rename World => wo
    obtain ⟨k, hk, rfl, hb⟩ := hrel
    have HB := Lib.hid hb
    have hs := hb.size
    clear hb
    by_cases hlt : k < m
    · obtain ⟨t1, ht1⟩ : ∃ t, s1[k]? = some t := ⟨_, List.getElem?_eq_getElem (by rw [HL1.out]; exact hlt)⟩
      obtain ⟨t2, ht2⟩ : ∃ t, s2[k]? = some t := ⟨_, List.getElem?_eq_getElem (by rw [HL2.out]; exact hlt)⟩
      have hm1 := List.mem_of_getElem? ht1
      have hm2' := List.mem_of_getElem? ht2
      have hke : t1.key = t2.key := by
        have q1 : (s1.map TM.key)[k]? = some t1.key := by rw [List.getElem?_map, ht1]; rfl
        have q2 : (s2.map TM.key)[k]? = some t2.key := by rw [List.getElem?_map, ht2]; rfl
        rw [HKK.out, q2] at q1
        exact (Option.some.inj q1).symm
      have kn : t2.nm = t1.nm := (congrArg (fun z => z.1) hke).symm
      have kc : t2.cols = t1.cols := (congrArg (fun z => z.2.1) hke).symm
      have kr : its t2.rows = its t1.rows := (congrArg (fun z => z.2.2) hke).symm
      obtain ⟨o1, o2, o3⟩ := HOK.out t1 hm1
      obtain ⟨b1, f1, rfl, _, p1, p2, p3⟩ := (HT1.out.below HB.out (fun k hk => hk)).get ht1
      obtain ⟨b2, f2, rfl, _, p4, p5, p6⟩ := (HT2.out.below HB.out (fun k hk => hk)).get ht2
      have hco := Lib.hid (fun w4 (h : RowKit.Below w3.heap.size w3 w4) => keepCols_same t1.cA t2.cA t1.cc t2.cc t1.cols o1 w4 (((HT1.out.cols t1 hm1).kept fun k hk => h.block k hk).to fun k hk => Nat.lt_of_lt_of_le hk h.size) (by
        have := (((HT2.out.cols t2 hm2').kept fun k hk => h.block k hk).to (B := w4.heap.size) fun k hk => Nat.lt_of_lt_of_le hk h.size)
        rw [kc] at this
        exact this))
      have hse := Lib.hid (fun w4 (h : RowKit.Below w3.heap.size w3 w4) => keepSet_same t1.rA t2.rA t1.rc t2.rc t1.rows t2.rows w4 (S := fun k => k < w4.heap.size) (((HT1.out.rows t1 hm1).below h (fun k hk => hk)).mono fun k hk => Nat.lt_of_lt_of_le hk h.size) (((HT2.out.rows t2 hm2').below h (fun k hk => hk)).mono fun k hk => Nat.lt_of_lt_of_le hk h.size) (fun k hk => hk) o3 o2 kr.symm)
      rw [kn] at p4
      rw [kc] at p5
      obtain ⟨xnm, xcA, xcc, xcl, xrA, xrc, xrl⟩ := t1
      obtain ⟨ynm, ycA, ycc, ycl, yrA, yrc, yrl⟩ := t2
      dsimp only at p1 p2 p3 p4 p5 p6 hco hse
      generalize xcl.length = cn at p2 p5 hco
      generalize xrl.length = rn at p3 hse
      generalize yrl.length = rn2 at p6 hse
      have g1 := fun d os => cell_regrown p1 d os
      have g2 := fun d os => cell_regrown p2 d os
      have g3 := fun d os => cell_regrown p3 d os
      have g4 := fun d os => cell_regrown p4 d os
      have g5 := fun d os => cell_regrown p5 d os
      have g6 := fun d os => cell_regrown p6 d os
      have hnn : (xnm.toList == xnm.toList) = true := beq_self_eq_true _
      have HBA : Hid (∀ d os, RowKit.Below w3.heap.size w3 (grow (redrawn wo d) os)) := Lib.hid (fun d os => HB.out.trans ((below_regrown _ d os).mono hs))
      have C1 := Lib.hid (fun d os => Calls.regrown_of (hco.out _ (HBA.out d os)))
      have C2 := Lib.hid (fun d os => Calls.regrown_of (hse.out _ (HBA.out d os)))
      clear ht1 ht2 hm1 hm2' hke kn kc kr o1 o2 o3 hco hse p1 p2 p3 p4 p5 p6
      go_wp2_with fail
      refine wp_region_quiet_below (by assumption) (by kernel_rfl) ?_
      repeat (quiet_step (first | (go_at_call 23; exact C1.out _ _) | (go_at_call 15; exact C2.out _ _)))
      refine wpQuiet_nil ?_
      intro _ hw'
      obtain ⟨⟨nq, osq⟩, hw''⟩ := hw'
      subst hw''
      have HB4 := Lib.hid (HBA.out nq osq)
      clear g1 g2 g3 g4 g5 g6 HBA C1 C2
      generalize grow (redrawn wo nq) osq = wb at HB4 ⊢
      go_wp2_with fail
      go_roundw
      case rel => exact ⟨k + 1, by omega, by go_num, HB4.out⟩
      case measure => simp [intOf]; omega
    · obtain rfl : k = m := by omega
      go_wp2_with fail
      go_loopw [17] (fun i wr => ∃ j : Nat, j ≤ r ∧ i = .int .i64 j ∧ RowKit.Below w3.heap.size w3 wr) (fun i _ => r - (intOf i).toNat)
      case atStart => exact ⟨0, Nat.zero_le _, rfl, HB.out⟩
      case round =>
        rename World => wi
        obtain ⟨j, hj, rfl, hb⟩ := hrel
        have HBi := Lib.hid hb
        have hsi := hb.size
        clear hb
        by_cases hjr : j < r
        · obtain ⟨t1, ht1⟩ : ∃ t, x1[j]? = some t := ⟨_, List.getElem?_eq_getElem (by rw [HXL1.out]; exact hjr)⟩
          obtain ⟨t2, ht2⟩ : ∃ t, x2[j]? = some t := ⟨_, List.getElem?_eq_getElem (by rw [HXL2.out]; exact hjr)⟩
          have hm1 := List.mem_of_getElem? ht1
          have hm2' := List.mem_of_getElem? ht2
          have hke : t1.key = t2.key := by
            have q1 : (x1.map XM.key)[j]? = some t1.key := by rw [List.getElem?_map, ht1]; rfl
            have q2 : (x2.map XM.key)[j]? = some t2.key := by rw [List.getElem?_map, ht2]; rfl
            rw [HXK.out, q2] at q1
            exact (Option.some.inj q1).symm
          have kn : t2.nm = t1.nm := (congrArg Prod.fst hke).symm
          have kr : its t2.rows = its t1.rows := (congrArg Prod.snd hke).symm
          obtain ⟨o2, o3⟩ := HXO.out t1 hm1
          obtain ⟨b1, f1, rfl, _, p1, p3⟩ := (HX1.out.below HBi.out (fun k hk => hk)).get ht1
          obtain ⟨b2, f2, rfl, _, p4, p6⟩ := (HX2.out.below HBi.out (fun k hk => hk)).get ht2
          have hse := Lib.hid (fun w4 (h : RowKit.Below w3.heap.size w3 w4) => keepSet_same t1.A t2.A t1.c t2.c t1.rows t2.rows w4 (S := fun k => k < w4.heap.size) (((HX1.out.rows t1 hm1).below h (fun k hk => hk)).mono fun k hk => Nat.lt_of_lt_of_le hk h.size) (((HX2.out.rows t2 hm2').below h (fun k hk => hk)).mono fun k hk => Nat.lt_of_lt_of_le hk h.size) (fun k hk => hk) o3 o2 kr.symm)
          rw [kn] at p4
          obtain ⟨xnm, xrA, xrc, xrl⟩ := t1
          obtain ⟨ynm, yrA, yrc, yrl⟩ := t2
          dsimp only at p1 p3 p4 p6 hse
          generalize xrl.length = rn at p3 hse
          generalize yrl.length = rn2 at p6 hse
          have g1 := fun d os => cell_regrown p1 d os
          have g3 := fun d os => cell_regrown p3 d os
          have g4 := fun d os => cell_regrown p4 d os
          have g6 := fun d os => cell_regrown p6 d os
          have hnn : (xnm.toList == xnm.toList) = true := beq_self_eq_true _
          have HBA : Hid (∀ d os, RowKit.Below w3.heap.size w3 (grow (redrawn wi d) os)) := Lib.hid (fun d os => HBi.out.trans ((below_regrown _ d os).mono hsi))
          have C2 := Lib.hid (fun d os => Calls.regrown_of (hse.out _ (HBA.out d os)))
          clear ht1 ht2 hm1 hm2' hke kn kr o2 o3 hse p1 p3 p4 p6
          go_wp2_with fail
          refine wp_region_quiet_below (by assumption) (by kernel_rfl) ?_
          repeat (quiet_step (first | (go_at_call 15; exact C2.out _ _)))
          refine wpQuiet_nil ?_
          intro _ hw'
          obtain ⟨⟨nq, osq⟩, hw''⟩ := hw'
          subst hw''
          have HB4 := Lib.hid (HBA.out nq osq)
          clear g1 g3 g4 g6 HBA C2
          generalize grow (redrawn wi nq) osq = wb at HB4 ⊢
          go_wp2_with fail
          go_roundw
          case rel => exact ⟨j + 1, by omega, by go_num, HB4.out⟩
          case measure => simp [intOf]; omega
        · obtain rfl : j = r := by omega
          go_wp2_with fail
          ((try simp only [Exit.inBlock, Exit.then]); refine bodyPost_ret (results_tmp4 rfl _ _ _) rfl ?_)
          exact ⟨⟨_, _, _, rfl⟩, HB3.out.trans (HBi.out.mono HB3.out.size)⟩
end Go.Proofs.YtajnnkapgnmoaaaGreat
/-
  Package confluencekeep: near; cells of a row of values of the call's own, written over.
-/
set_option linter.unusedVariables false
set_option linter.unusedSimpArgs false
namespace Go.Proofs.YtajnnkapgnmoaaaGreat
open Go.RowKit

def nearK (k : Int) : Int := if k < -1000 ∨ 1000 < k then 0 else k
theorem near_any (k : Int) (w : World) : Calls Tryz.prog 19 #[.int .i64 k] w fun e w' => e = .returned (.int .i64 (nearK k)) ∧ w = w' := by
  unfold nearK
  by_cases h1 : k < -1000
  · rw [if_pos (.inl h1)]
    go_enter Tryz.func19, Tryz.ntmps19
    go_wp2
    go_ret
    exact ⟨rfl, rfl⟩
  · by_cases h2 : 1000 < k
    · rw [if_pos (.inr h2)]
      go_enter Tryz.func19, Tryz.ntmps19
      go_wp2
      go_ret
      exact ⟨rfl, rfl⟩
    · rw [if_neg (by omega)]
      go_enter Tryz.func19, Tryz.ntmps19
      go_wp2
      go_ret
      exact ⟨rfl, rfl⟩
theorem own_set_cell {w : World} {base n z : Nat} {e : TypeId} {g cap m : Nat} {xs : List Value} (h : w.ownsRow base e z (.slice (some ⟨g, 0, none⟩) m cap) n xs) (j : Nat) (u : Value) :
    (w.setCell ⟨g, j, none⟩ u).ownsRow base e z (.slice (some ⟨g, 0, none⟩) m cap) n (xs.set j u) := by
  obtain ⟨h1, h2⟩ := h
  refine ⟨by rw [List.length_set]; exact h1, .inr ?_⟩
  rcases h2 with ⟨h', _⟩ | ⟨g', cap', cur, h', hb, hg, hnc, hcm, hcs, htake⟩
  · simp at h'
  · simp only [Value.slice.injEq, Option.some.injEq, Addr.mk.injEq, and_true, true_and] at h'
    obtain ⟨rfl, rfl, rfl⟩ := h'
    refine ⟨g, cap, cur.setIfInBounds j u, rfl, hb, Blk.set_ hg _ _, hnc, hcm, by simpa using hcs, ?_⟩
    rw [Array.toList_setIfInBounds, List.take_set, htake]
theorem flat_setS : ∀ (l : List V) (i : Nat) (v : V) (s : ByteArray), l[i]? = some v → (flat l).set (i * 3 + 2) (.string s) = flat (l.set i ⟨v.k, v.n, s⟩)
  | [], i, v, s, h => by simp at h
  | x :: l, 0, v, s, h => by
    obtain rfl : x = v := by simpa using h
    rfl
  | x :: l, i + 1, v, s, h => by
    have ih := flat_setS l i v s (by simpa using h)
    show (V.cs x ++ flat l).set ((i + 1) * 3 + 2) _ = V.cs x ++ flat (l.set i _)
    rw [← ih, show (i + 1) * 3 + 2 = i * 3 + 2 + 1 + 1 + 1 by omega]
    rfl
theorem flat_setK : ∀ (l : List V) (i : Nat) (v : V) (k : Int), l[i]? = some v → (flat l).set (i * 3) (.int .i64 k) = flat (l.set i ⟨k, v.n, v.s⟩)
  | [], i, v, s, h => by simp at h
  | x :: l, 0, v, s, h => by
    obtain rfl : x = v := by simpa using h
    rfl
  | x :: l, i + 1, v, k, h => by
    have ih := flat_setK l i v k (by simpa using h)
    show (V.cs x ++ flat l).set ((i + 1) * 3) _ = V.cs x ++ flat (l.set i _)
    rw [← ih, show (i + 1) * 3 = i * 3 + 1 + 1 + 1 by omega]
    rfl
end Go.Proofs.YtajnnkapgnmoaaaGreat
