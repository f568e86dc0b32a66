/-
  Package confluenceref1's reader: what it computes is what wire's does.
-/
import Derived.Test.YtabhkfpglhfiiaaDoorBytes
import Derived.Test.YtabhkfpglhfiiaaDoorGet
import Derived.Deep.RegionHeld3
import Derived.StillTailTactics
import Derived.IntWalk
namespace Go.Proofs.YtabhkfpglhfiiaaDoor
open Go.RowKit
/-- a reader of confluenceref1 at block g -/
def RRd (w : World) (S : Nat → Prop) (g : Nat) (R : RS) : Prop :=
  S g ∧ R.at_ ≤ R.l.length ∧ R.l.length ≤ 4611686018427387904 ∧ ∃ v, w.heap[g]? = some (.cells #[v, .int .i64 R.at_, .bool (R.why != 0), .int .i64 R.why, .int .i64 R.fin] 44 (0, 0)) ∧ ByR w S v R.l
theorem set5 {w : World} {g k : Nat} {a b c d e u : Value} {t : TypeId} (h : w.heap[g]? = some (.cells #[a, b, c, d, e] t (0, 0))) : (w.setCell ⟨g, k, none⟩ u).heap[g]? = some (.cells (#[a, b, c, d, e].set! k u) t (0, 0)) := by
  show (w.heap.modify g _)[g]? = _
  rw [Array.getElem?_modify]
  simp [h]
theorem cell5 {w : World} {g : Nat} {a b c d e : Value} {t : TypeId} (h : w.heap[g]? = some (.cells #[a, b, c, d, e] t (0, 0))) :
    (w.cell? ⟨g, 0, none⟩ = some a ∧ w.cell? ⟨g, 1, none⟩ = some b ∧ w.cell? ⟨g, 2, none⟩ = some c ∧ w.cell? ⟨g, 3, none⟩ = some d ∧ w.cell? ⟨g, 4, none⟩ = some e) ∧ w.frozen? ⟨g, 1, none⟩ = false ∧ w.frozen? ⟨g, 2, none⟩ = false ∧ w.frozen? ⟨g, 3, none⟩ = false ∧ w.frozen? ⟨g, 4, none⟩ = false := by
  simp [World.cell?, World.frozen?, h]
theorem RRd.lt {w : World} {S : Nat → Prop} {g : Nat} {R : RS} (h : RRd w S g R) : g < w.heap.size := by
  obtain ⟨_, _, _, v, hg, _⟩ := h
  exact lt_of_block hg
theorem ByR.only {w w' : World} {S : Nat → Prop} {g : Nat} {v : Value} {l : List UInt8} (h : ByR w S v l) (hg : S g) (hw : Only g w w') : ByR w' S v l := by
  rcases h with h | ⟨b, o, c, rfl, h0, h1, h2, h3⟩
  · exact .inl h
  · refine .inr ⟨b, o, c, rfl, h0, by have := hw.size; omega, h2, fun i x hx => (hw.cell h1 ?_).trans (h3 i x hx)⟩
    rintro rfl
    exact h2 hg
theorem RRd.kept {w w' : World} {S : Nat → Prop} {g : Nat} {R : RS} (h : RRd w S g R) (hw : Below w.heap.size w w') : RRd w' S g R := by
  obtain ⟨h1, h2, h3, v, hg, hv⟩ := h
  exact ⟨h1, h2, h3, v, (hw.block g (lt_of_block hg)).trans hg, hv.only h1 (only_of_below hw)⟩
theorem RRd.drewN {w : World} {S : Nat → Prop} {g : Nat} {R : RS} (h : RRd w S g R) (n : Nat) : RRd (w.drewN n) S g R := h
theorem RRd.mono {w : World} {S T : Nat → Prop} {g : Nat} {R : RS} (h : RRd w S g R) (hg : T g) (hT : ∀ k, T k → S k) : RRd w T g R := by
  obtain ⟨h1, h2, h3, v, h4, hv⟩ := h
  refine ⟨hg, h2, h3, v, h4, ?_⟩
  rcases hv with h | ⟨b, o, c, rfl, h0, h1, h2, h3⟩
  · exact .inl h
  · exact .inr ⟨b, o, c, rfl, h0, h1, fun h => h2 (hT _ h), h3⟩

theorem rr_refuse (S : Nat → Prop) (g : Nat) (R : RS) (why at_ : Int) (hw : (why != 0) = true) (w : World) (hR : RRd w S g R) :
    Calls Tryd.prog 54 #[.pointer (some ⟨g, 0, none⟩), .int .i64 why, .int .i64 at_] w fun e w' => e = .returned (.tuple #[]) ∧ RRd w' S g (R.refuse why at_) ∧ Only g w w' := by
  obtain ⟨hSg, h1, h2, v, hg, hv⟩ := id hR
  obtain ⟨⟨c0, c1, c2, c3, c4⟩, f1, f2, f3, f4⟩ := cell5 hg
  by_cases h0 : (R.why == 0) = true
  · have e0 : R.refuse why at_ = { R with why := why, fin := at_ } := by rw [RS.refuse, if_pos h0]
    have h0' : (R.why != 0) = false := by simp at h0 ⊢; exact h0
    have h3 := set5 (k := 4) (u := .int .i64 at_) (set5 (k := 3) (u := .int .i64 why) (set5 (k := 2) (u := .bool true) hg))
    have ho : Only g w (((w.setCell ⟨g, 2, none⟩ (.bool true)).setCell ⟨g, 3, none⟩ (.int .i64 why)).setCell ⟨g, 4, none⟩ (.int .i64 at_)) := (((Out.refl (fun k => k = g) w).setCell (p := ⟨g, 2, none⟩) rfl _).setCell (p := ⟨g, 3, none⟩) rfl _ |>.setCell (p := ⟨g, 4, none⟩) rfl _).only
    have hfin : RRd (((w.setCell ⟨g, 2, none⟩ (.bool true)).setCell ⟨g, 3, none⟩ (.int .i64 why)).setCell ⟨g, 4, none⟩ (.int .i64 at_)) S g (R.refuse why at_) := by
      rw [e0]
      refine ⟨hSg, h1, h2, v, ?_, hv.only hSg ho⟩
      show _ = some (Obj.cells #[v, .int .i64 R.at_, .bool (why != 0), .int .i64 why, .int .i64 at_] _ _)
      rw [hw]
      exact h3
    have HF := Lib.hid hfin
    have HO := Lib.hid ho
    rw [h0'] at c2
    clear e0 h3 ho hfin hR hg hv hw
    go_enter Tryd.func54, Tryd.ntmps54
    go_wp2
    refine bodyPost_end (results_none rfl _ _ _) rfl ?_
    exact ⟨rfl, HF.out, HO.out⟩
  · have e0 : R.refuse why at_ = R := by rw [RS.refuse, if_neg h0]
    have h0' : (R.why != 0) = true := by simp at h0 ⊢; exact h0
    rw [e0]
    rw [h0'] at c2
    have HR := Lib.hid hR
    clear e0 hR hg hv h0 hw
    go_enter Tryd.func54, Tryd.ntmps54
    go_wp2
    refine bodyPost_end (results_none rfl _ _ _) rfl ?_
    exact ⟨rfl, HR.out, Only.refl _ _⟩

set_option maxRecDepth 100000 in
set_option maxHeartbeats 1000000 in
theorem rr_raw (S : Nat → Prop) (g : Nat) (R : RS) (n : Nat) (hn : n ≤ 65536) (hne : R.why = 0 → 0 < n ∨ R.l ≠ []) (w : World) (hR : RRd w S g R) :
    Calls Tryd.prog 55 #[.pointer (some ⟨g, 0, none⟩), .int .i64 n] w fun e w' => ∃ v, e = .returned v ∧ OwnB w.heap.size w' v (R.takeL n) ∧ RRd w' S g (R.take n) ∧ Only g w w' := by
  obtain ⟨i0, hi0, hz0, hz1, hz2⟩ := info_parts u8_info
  obtain ⟨hSg, h1, h2, v, hg, hv⟩ := id hR
  obtain ⟨⟨c0, c1, c2, c3, c4⟩, f1, f2, f3, f4⟩ := cell5 hg
  by_cases h0 : (R.why == 0) = true
  · have h0' : (R.why != 0) = false := by simp at h0 ⊢; exact h0
    rw [h0'] at c2
    by_cases hlt : R.l.length - R.at_ < n
    · have e1 : R.takeL n = [] := by rw [RS.takeL, if_pos h0, if_pos hlt]
      have e2 : R.take n = R.refuse 10 R.l.length := by rw [RS.take, if_pos h0, if_pos hlt]
      have hd : decide ((R.l.length : Int) - R.at_ < n) = true := by simp; omega
      rw [e1, e2]
      have hq : Hid (∀ nq, _) := Lib.hid fun nq => rr_refuse S g R 10 R.l.length (by decide) (w.drewN nq) (hR.drewN nq)
      have hlen : ∃ A c, v = .slice A R.l.length c := by
        rcases hv with ⟨rfl, e⟩ | ⟨b, o, c, rfl, _⟩
        · exact ⟨_, _, by rw [e]; rfl⟩
        · exact ⟨_, _, rfl⟩
      obtain ⟨A, c, rfl⟩ := hlen
      generalize R.l.length = m at *
      clear hv hR e1 e2 hlt hg h0 hne hn
      go_enter Tryd.func55, Tryd.ntmps55
      go_wp2_with fail
      go_quiet (fail)
      go_wp2_with fail
      refine (hq.out _).mono ?_
      rintro e w1 ⟨rfl, h3, h4⟩
      go_wp2
      go_ret
      exact ⟨_, rfl, World.ownsRow_nil _ _ _ _, h3, (out_drewN _ w _).only.trans h4⟩
    · have e1 : R.takeL n = (R.l.drop R.at_).take n := by rw [RS.takeL, if_pos h0, if_neg hlt]
      have e2 : R.take n = { R with at_ := R.at_ + n } := by rw [RS.take, if_pos h0, if_neg hlt]
      have hd : decide ((R.l.length : Int) - R.at_ < n) = false := by simp; omega
      rcases hv with ⟨rfl, e⟩ | ⟨b, o, c, rfl, hc, hb, hSb, hA⟩
      · have : R.l.length = 0 := by rw [e]; rfl
        exfalso
        rcases hne (by simpa using h0) with h | h
        · omega
        · exact h e
      · have hlen : ((R.l.drop R.at_).take n).length = n := by rw [List.length_take, List.length_drop]; omega
        have hw0 : Hid ((w.alloc (.cells #[] 5)).ownsRow w.heap.size 5 1 (.slice (some ⟨w.heap.size, 0, none⟩) 0 0) 0 []) := Lib.hid (World.ownsRow_lit w #[] 0 (Nat.le_refl _) (by decide) rfl)
        have hgl : g < w.heap.size := lt_of_block hg
        have hAs : Hid (BAt w b (o + R.at_) (R.takeL n)) := Lib.hid (by rw [e1]; exact hA.sub _ _)
        have hlenT : Hid ((R.takeL n).length = n) := Lib.hid (by rw [e1]; exact hlen)
        have e2' := Lib.hid e2
        have hgb : Hid (∀ w1 : World, w1.heap[g]? = w.heap[g]? → (w1.setCell ⟨g, 1, none⟩ (.int .i64 ((R.at_ : Int) + n))).heap[g]? = some (.cells #[.slice (some ⟨b, o, none⟩) R.l.length c, .int .i64 ((R.at_ : Int) + n), .bool false, .int .i64 R.why, .int .i64 R.fin] 44 (0, 0))) := Lib.hid fun w1 hw1 => by
          have := set5 (k := 1) (u := .int .i64 ((R.at_ : Int) + n)) (hw1.trans hg)
          rw [h0'] at this
          exact this
        have hbr : Hid (ByR w S (.slice (some ⟨b, o, none⟩) R.l.length c) R.l) := Lib.hid (.inr ⟨b, o, c, rfl, hc, hb, hSb, hA⟩)
        have h0'' : Hid ((R.why != 0) = false) := Lib.hid h0'
        have hend : Hid (∀ w1 v', w1.ownsRow w.heap.size 5 1 v' n (u8s (R.takeL n)) → Only g w w1 → w1.heap[g]? = w.heap[g]? → OwnB w.heap.size (w1.setCell ⟨g, 1, none⟩ (.int .i64 ((R.at_ : Int) + n))) v' (R.takeL n) ∧ RRd (w1.setCell ⟨g, 1, none⟩ (.int .i64 ((R.at_ : Int) + n))) S g (R.take n) ∧ Only g w (w1.setCell ⟨g, 1, none⟩ (.int .i64 ((R.at_ : Int) + n)))) := Lib.hid fun w1 v' hown ho hw1 => by
          have ho2 : Only g w (w1.setCell ⟨g, 1, none⟩ (.int .i64 ((R.at_ : Int) + n))) := ho.trans ((Out.refl (fun k => k = g) w1).setCell (p := ⟨g, 1, none⟩) rfl _).only
          refine ⟨ownB_of (m := n) (ownsRow_setCell_other hown (fun e => ?_) _) rfl, ?_, ho2⟩
          · have := (hown.lt g e).1; omega
          · rw [e2'.out]
            refine ⟨hSg, by show R.at_ + n ≤ R.l.length; omega, h2, _, ?_, hbr.out.only hSg ho2⟩
            show _ = some (Obj.cells #[_, .int .i64 ((R.at_ + n : Nat) : Int), .bool (R.why != 0), .int .i64 R.why, .int .i64 R.fin] _ _)
            rw [h0''.out]
            exact hgb.out w1 hw1
        have hal : Only g w (w.alloc (.cells #[] 5)) := only_of_below ((Below.refl _ _).alloc (Nat.le_refl _) _)
        have HAL := Lib.hid hal
        have hs1 : (0 : Int) ≤ (R.at_ : Int) := by omega
        have hs2 : (R.at_ : Int) ≤ (R.at_ : Int) + n := by omega
        have hs3 : (R.at_ : Int) + n ≤ (c : Int) := by omega
        have hs4 : IntKind.i64.wrap ((R.at_ : Int) + n) = (R.at_ : Int) + n := IntWalk.i64_in _ (by omega)
        have hs5 : ((R.at_ : Int) + n).toNat = R.at_ + n := by omega
        have hbw : b < w.heap.size := hb
        have Hg := Lib.hid hg
        generalize R.takeL n = tl at *
        generalize R.take n = tr at *
        generalize R.l.length = m at *
        generalize R.at_ = q at *
        clear hR hg hA hlen e1 e2 h0 h0' hal hgb hbr e2' h0'' hne
        by_cases hca : c = q
        · subst hca
          have hS : Hid (Reads (w.alloc (.cells #[] 5)) w.heap.size 1 (some ⟨b, o, none⟩) n (u8s tl)) := Lib.hid ⟨by rw [u8s_len, hlenT.out, Nat.mul_one], fun h => absurd h (by omega)⟩
          go_enter Tryd.func55, Tryd.ntmps55
          go_wp2_with fail
          go_quiet (fail)
          go_wp2_with fail
          go_region_held3 (fun w' => w'.cell? ⟨g, 0, none⟩ = some (.slice (some ⟨b, o, none⟩) m c) ∧ w'.cell? ⟨g, 1, none⟩ = some (.int .i64 c))
            (first
              | go_keep
              | (go_split_ands
                 refine ⟨?_, ?_⟩
                 · (rw [hgrow.cell_far _ (by simp; omega) (by simp [Value.ownBlock]; omega)]; assumption)
                 · (rw [hgrow.cell_far _ (by simp; omega) (by simp [Value.ownBlock]; omega)]; assumption)))
            ((refine step_append_any _ (by rfl) _ _ _ (by rfl) w.heap.size 5 i0 _ 1 1 Tryd.underlying29 hi0 hz0 hz1 hz2 rfl (by omega) (.slice (some ⟨w.heap.size, 0, none⟩) 0 0) 0 [] (by rfl) hw0.out w.heap.size (some ⟨b, o, none⟩) n _ (u8s tl) (by rfl) hS.out (u8s_ones _) (by unfold maxLen; omega) (by omega) (by simp) ?_; intro v' w1 hown1 hgrow hat))
          have hown2 : w1.ownsRow w.heap.size 5 1 v' n (u8s tl) := by simpa using hown1
          have hb1 : Below w.heap.size w ((w.drewN (nq + 1)).alloc (.cells #[] 5)) := (below_drewN (Below.refl _ _) _).alloc (Nat.le_refl _) _
          have hblk : w1.heap[g]? = w.heap[g]? := (hgrow.block g (by simp; omega) (by simp [Value.ownBlock]; omega)).trans (hb1.block g hgl)
          have hon : Only g w w1 := (only_of_below hb1).grown hgrow (fun k hk => by simp [Value.ownBlock] at hk; omega)
          obtain ⟨⟨d0, d1, d2, d3, d4⟩, e1, e2, e3, e4⟩ := cell5 (hblk.trans Hg.out)
          have HE := Lib.hid (hend.out w1 v' hown2 hon hblk)
          obtain ⟨A', n', c', rfl⟩ := OwnB.form (ownB_of hown2 rfl)
          clear hown1 hown2 hgrow hat hb1 hblk hon
          go_wp2_with fail
          go_ret
          exact ⟨_, rfl, HE.out⟩
        · have hS : Hid (Reads (w.alloc (.cells #[] 5)) w.heap.size 1 (some ⟨b, o + q, none⟩) n (u8s tl)) := Lib.hid ⟨by rw [u8s_len, hlenT.out, Nat.mul_one], fun _ => ⟨_, rfl, hbw, fun j u hu => ((World.cell?_alloc_lt w _ _ (by rw [add_at]; exact hbw)).trans (hAs.out.news j u hu))⟩⟩
          go_enter Tryd.func55, Tryd.ntmps55
          go_wp2_with fail
          go_quiet (fail)
          go_wp2_with fail
          go_region_held3 (fun w' => w'.cell? ⟨g, 0, none⟩ = some (.slice (some ⟨b, o, none⟩) m c) ∧ w'.cell? ⟨g, 1, none⟩ = some (.int .i64 q))
            (first
              | go_keep
              | (go_split_ands
                 refine ⟨?_, ?_⟩
                 · (rw [hgrow.cell_far _ (by simp; omega) (by simp [Value.ownBlock]; omega)]; assumption)
                 · (rw [hgrow.cell_far _ (by simp; omega) (by simp [Value.ownBlock]; omega)]; assumption)))
            ((refine step_append_any _ (by rfl) _ _ _ (by rfl) w.heap.size 5 i0 _ 1 1 Tryd.underlying29 hi0 hz0 hz1 hz2 rfl (by omega) (.slice (some ⟨w.heap.size, 0, none⟩) 0 0) 0 [] (by rfl) hw0.out w.heap.size (some ⟨b, o + q, none⟩) n _ (u8s tl) (by rfl) hS.out (u8s_ones _) (by unfold maxLen; omega) (by omega) (by simp) ?_; intro v' w1 hown1 hgrow hat))
          have hown2 : w1.ownsRow w.heap.size 5 1 v' n (u8s tl) := by simpa using hown1
          have hb1 : Below w.heap.size w ((w.drewN (nq + 1)).alloc (.cells #[] 5)) := (below_drewN (Below.refl _ _) _).alloc (Nat.le_refl _) _
          have hblk : w1.heap[g]? = w.heap[g]? := (hgrow.block g (by simp; omega) (by simp [Value.ownBlock]; omega)).trans (hb1.block g hgl)
          have hon : Only g w w1 := (only_of_below hb1).grown hgrow (fun k hk => by simp [Value.ownBlock] at hk; omega)
          obtain ⟨⟨d0, d1, d2, d3, d4⟩, e1, e2, e3, e4⟩ := cell5 (hblk.trans Hg.out)
          have HE := Lib.hid (hend.out w1 v' hown2 hon hblk)
          obtain ⟨A', n', c', rfl⟩ := OwnB.form (ownB_of hown2 rfl)
          clear hown1 hown2 hgrow hat hb1 hblk hon
          go_wp2_with fail
          go_ret
          exact ⟨_, rfl, HE.out⟩
  · have e1 : R.takeL n = [] := by rw [RS.takeL, if_neg h0]
    have e2 : R.take n = R := by rw [RS.take, if_neg h0]
    have h0' : (R.why != 0) = true := by simp at h0 ⊢; exact h0
    rw [h0'] at c2
    rw [e1, e2]
    have HR := Lib.hid hR
    clear e1 e2 hR hg hv h0 hne hn
    go_enter Tryd.func55, Tryd.ntmps55
    go_wp2
    go_ret
    exact ⟨_, rfl, World.ownsRow_nil _ _ _ _, HR.out, Only.refl _ _⟩
end Go.Proofs.YtabhkfpglhfiiaaDoor
