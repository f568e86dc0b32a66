/-
  Package confluenceref1's reader: numbers, texts, the end.
-/
import Derived.Test.YtabhkfpglhfiiaaDoorRefRd
namespace Go.Proofs.YtabhkfpglhfiiaaDoor
open Go.RowKit
theorem own_conv {w : World} {B : Nat} {v : Value} {l : List UInt8} (h : OwnB B w v l) : (convert 29 9 v).run Tryd.prog w = .ok (.string ⟨l.toArray⟩) w := by
  refine conv_bytes (S := fun _ => False) ?_
  rcases own_bts h with ⟨rfl, rfl⟩ | ⟨b, o, c, rfl, h0, h1, h2⟩
  · exact .inl ⟨rfl, rfl⟩
  · exact .inr ⟨b, o, c, rfl, h0, h1, fun h => h, h2⟩
set_option maxRecDepth 100000 in
theorem rr_number (S : Nat → Prop) (g : Nat) (R : RS) (n : Nat) (hn : n ≤ 8) (hne : 0 < n) (w : World) (hR : RRd w S g R) :
    Calls Tryd.prog 52 #[.pointer (some ⟨g, 0, none⟩), .int .i64 n] w fun e w' => e = .returned (.int .u64 (R.get n)) ∧ RRd w' S g (R.take n) ∧ Only g w w' := by
  have hp := Lib.hid (rr_raw S g R n (by omega) (fun _ => .inl hne) w hR)
  have hl : (R.takeL n).length ≤ 8 := by have := takeL_len R n; omega
  unfold RS.get
  generalize R.takeL n = l at *
  generalize R.take n = R' at *
  clear hR
  go_enter Tryd.func52, Tryd.ntmps52
  go_wp2_with fail
  refine hp.out.mono ?_
  rintro e w1 ⟨v, rfl, h1, h2, h3⟩
  have H2 := Lib.hid h2
  have H3 := Lib.hid h3
  clear h2 h3 hp
  obtain ⟨A, c, rfl, hA⟩ := h1.gets
  have HA := Lib.hid hA
  obtain ⟨m, em⟩ : ∃ m, m = l.length := ⟨_, rfl⟩
  have Hm := Lib.hid em
  rw [← em] at hl ⊢
  clear hA h1 em
  go_wp2_with fail
  go_loop [6, 7] (fun x i => ∃ k acc : Nat, k ≤ m ∧ i = .int .i64 ((k : Int) - 1) ∧ x = .int .u64 acc ∧ Hid (acc = num (l.drop k))) (fun _ i => (intOf i + 1).toNat)
  case atStart => exact ⟨m, 0, Nat.le_refl _, by first | rfl | go_num, rfl, Lib.hid (by rw [List.drop_of_length_le (by rw [Hm.out]; exact Nat.le_refl _)]; rfl)⟩
  case round =>
    obtain ⟨k, acc, hk, rfl, rfl, hacc⟩ := hrel
    by_cases h0 : k = 0
    · subst h0
      have hf : Hid (acc = num l) := hacc
      clear hacc
      have hd : decide ((0 : Int) ≤ ((0 : Nat) : Int) - 1) = false := by decide
      go_wp2_with fail
      go_ret
      exact ⟨by rw [hf.out]; rfl, H2.out, H3.out⟩
    · obtain ⟨j, rfl⟩ : ∃ j, k = j + 1 := ⟨k - 1, by omega⟩
      obtain ⟨x, hx⟩ : ∃ x, l[j]? = some x := ⟨_, List.getElem?_eq_getElem (by rw [← Hm.out]; omega)⟩
      obtain ⟨b, o, rfl, hc⟩ := HA.out _ x hx
      have hs : ((j + 1 : Nat) : Int) - 1 = j := by omega
      have hi0 : (0 : Int) ≤ (j : Int) := by omega
      have hi1 : (j : Int) < (m : Int) := by omega
      have Hx := Lib.hid hx
      rw [hs]
      clear hx hs h0
      have hb : Hid (bits BinOp.or IntKind.u64 (IntKind.u64.wrap ((acc : Int) * 256)) (IntKind.u64.wrap (x.toNat : Int)) = ((num (l.drop j) : Nat) : Int)) := Lib.hid (by
        rw [or_low acc x.toNat x.toNat_lt (by rw [hacc.out]; exact (num_bound l j (by rw [← Hm.out]; exact hl)).1), num_drop l j x Hx.out, hacc.out])
      clear hacc
      go_wp2_with fail
      rw [hb.out]
      go_round
      case rel => exact ⟨j, _, by omega, by first | rfl | go_num, rfl, Lib.hid rfl⟩
      case measure => simp [intOf]

theorem rr_Byte (S : Nat → Prop) (g : Nat) (R : RS) (w : World) (hR : RRd w S g R) :
    Calls Tryd.prog 38 #[.pointer (some ⟨g, 0, none⟩)] w fun e w' => e = .returned (.int .i64 (R.get 1 : Nat)) ∧ RRd w' S g (R.take 1) ∧ Only g w w' := by
  have hp : Hid (Calls Tryd.prog 52 #[.pointer (some ⟨g, 0, none⟩), .int .i64 1] w fun e w' => e = .returned (.int .u64 (R.get 1)) ∧ RRd w' S g (R.take 1) ∧ Only g w w') := Lib.hid (rr_number S g R 1 (by decide) (by decide) w hR)
  have hb : Hid (wrap64 (R.get 1 : Nat) = (R.get 1 : Nat)) := Lib.hid (wrap_i64_nat _ (by have := getR_lt R 1; omega))
  generalize R.get 1 = x at *
  generalize R.take 1 = R' at *
  clear hR
  go_enter Tryd.func38, Tryd.ntmps38
  go_wp2_with fail
  refine hp.out.mono ?_
  rintro e w1 ⟨rfl, h1, h2⟩
  go_wp2
  rw [hb.out]
  go_ret
  exact ⟨rfl, h1, h2⟩
theorem rr_Short (S : Nat → Prop) (g : Nat) (R : RS) (w : World) (hR : RRd w S g R) :
    Calls Tryd.prog 53 #[.pointer (some ⟨g, 0, none⟩)] w fun e w' => e = .returned (.int .i64 (R.get 2 : Nat)) ∧ RRd w' S g (R.take 2) ∧ Only g w w' := by
  have hp : Hid (Calls Tryd.prog 52 #[.pointer (some ⟨g, 0, none⟩), .int .i64 2] w fun e w' => e = .returned (.int .u64 (R.get 2)) ∧ RRd w' S g (R.take 2) ∧ Only g w w') := Lib.hid (rr_number S g R 2 (by decide) (by decide) w hR)
  have hb : Hid (wrap64 (R.get 2 : Nat) = (R.get 2 : Nat)) := Lib.hid (wrap_i64_nat _ (by have := getR_lt R 2; omega))
  generalize R.get 2 = x at *
  generalize R.take 2 = R' at *
  clear hR
  go_enter Tryd.func53, Tryd.ntmps53
  go_wp2_with fail
  refine hp.out.mono ?_
  rintro e w1 ⟨rfl, h1, h2⟩
  go_wp2
  rw [hb.out]
  go_ret
  exact ⟨rfl, h1, h2⟩
theorem rr_Long (S : Nat → Prop) (g : Nat) (R : RS) (w : World) (hR : RRd w S g R) :
    Calls Tryd.prog 39 #[.pointer (some ⟨g, 0, none⟩)] w fun e w' => e = .returned (.int .i64 (i64 (R.get 8))) ∧ RRd w' S g (R.take 8) ∧ Only g w w' := by
  have hp : Hid (Calls Tryd.prog 52 #[.pointer (some ⟨g, 0, none⟩), .int .i64 8] w fun e w' => e = .returned (.int .u64 (R.get 8)) ∧ RRd w' S g (R.take 8) ∧ Only g w w') := Lib.hid (rr_number S g R 8 (by decide) (by decide) w hR)
  generalize R.get 8 = x at *
  generalize R.take 8 = R' at *
  clear hR
  go_enter Tryd.func39, Tryd.ntmps39
  go_wp2_with fail
  refine hp.out.mono ?_
  rintro e w1 ⟨rfl, h1, h2⟩
  go_wp2
  go_ret
  exact ⟨rfl, h1, h2⟩
theorem rr_Fail (S : Nat → Prop) (g : Nat) (R : RS) (why : Int) (hw : (why != 0) = true) (w : World) (hR : RRd w S g R) :
    Calls Tryd.prog 41 #[.pointer (some ⟨g, 0, none⟩), .int .i64 why] w fun e w' => e = .returned (.tuple #[]) ∧ RRd w' S g (R.refuse why R.at_) ∧ Only g w w' := by
  have hp := Lib.hid (rr_refuse S g R why R.at_ hw w hR)
  obtain ⟨hSg, h1, h2, v, hg, hv⟩ := id hR
  obtain ⟨⟨c0, c1, c2, c3, c4⟩, _⟩ := cell5 hg
  clear hR hg hv c0 c2 c3 c4
  go_enter Tryd.func41, Tryd.ntmps41
  go_wp2_with fail
  refine hp.out.mono ?_
  rintro e w1 ⟨rfl, h1, h2⟩
  go_wp2
  refine bodyPost_end (results_none rfl _ _ _) rfl ?_
  exact ⟨rfl, h1, h2⟩

theorem rr_End (S : Nat → Prop) (g : Nat) (R : RS) (w : World) (hR : RRd w S g R) :
    Calls Tryd.prog 20 #[.pointer (some ⟨g, 0, none⟩)] w fun e w' => e = .returned (.tuple #[.int .i64 R.endE, .int .i64 R.endA]) ∧ Below w.heap.size w w' := by
  obtain ⟨hSg, h1, h2, v, hg, hv⟩ := id hR
  obtain ⟨⟨c0, c1, c2, c3, c4⟩, _⟩ := cell5 hg
  have hlen : ∃ A c, v = .slice A R.l.length c := by
    rcases hv with ⟨rfl, e⟩ | ⟨b, o, c, rfl, _⟩
    · exact ⟨_, _, by rw [e]; rfl⟩
    · exact ⟨_, _, rfl⟩
  obtain ⟨A, c, rfl⟩ := hlen
  unfold RS.endE RS.endA
  by_cases h0 : (R.why == 0) = true
  · have h0' : (R.why != 0) = false := by simp at h0 ⊢; exact h0
    rw [if_pos h0, if_pos h0]
    rw [h0'] at c2
    by_cases hlt : R.at_ < R.l.length
    · have hd : decide ((R.at_ : Int) < R.l.length) = true := by rw [decide_eq_true_eq]; omega
      rw [if_pos hlt, if_pos hlt]
      clear hv hR hg h0 h0'
      go_enter Tryd.func20, Tryd.ntmps20
      go_wp2_with fail
      go_quiet (fail)
      go_wp2_with fail
      go_quiet (fail)
      go_wp2_with fail
      go_ret2
      exact ⟨rfl, rfl, rfl, rfl, Nat.le_refl _, fun _ _ => rfl⟩
    · have hd : decide ((R.at_ : Int) < R.l.length) = false := by rw [decide_eq_false_iff_not]; omega
      rw [if_neg hlt, if_neg hlt]
      clear hv hR hg h0 h0'
      go_enter Tryd.func20, Tryd.ntmps20
      go_wp2_with fail
      go_quiet (fail)
      go_wp2_with fail
      go_ret2
      exact ⟨rfl, rfl, rfl, rfl, Nat.le_refl _, fun _ _ => rfl⟩
  · have h0' : (R.why != 0) = true := by simp at h0 ⊢; exact h0
    rw [if_neg h0, if_neg h0]
    rw [h0'] at c2
    clear hv hR hg h0 h0'
    go_enter Tryd.func20, Tryd.ntmps20
    go_wp2_with fail
    go_quiet (fail)
    go_wp2_with fail
    go_ret2
    exact ⟨rfl, rfl, rfl, rfl, Nat.le_refl _, fun _ _ => rfl⟩
theorem rr_Text (S : Nat → Prop) (g : Nat) (R : RS) (w : World) (hR : RRd w S g R) :
    Calls Tryd.prog 40 #[.pointer (some ⟨g, 0, none⟩), .int .i64 40] w fun e w' => e = .returned (.string (R.textS 40)) ∧ RRd w' S g (R.text 40) ∧ Only g w w' := by
  have hp := Lib.hid (rr_Short S g R w hR)
  have hf : Hid ((R.mid 40).why = 0 → 0 < R.get 2 ∨ (R.mid 40).l ≠ []) := Lib.hid (fun h => .inr (by rw [mid_l]; exact mid_full R 40 h))
  have hn : Hid (R.get 2 ≤ 65536) := Lib.hid (by have := getR_lt R 2; omega)
  have hm : Hid (R.mid 40 = if (R.take 2).why == 0 && decide ((40 : Int) < (R.get 2 : Int)) then (R.take 2).refuse 3 R.at_ else R.take 2) := Lib.hid rfl
  obtain ⟨hSg, h1, h2, v, hg, hv⟩ := id hR
  obtain ⟨⟨c0, c1, c2, c3, c4⟩, _⟩ := cell5 hg
  unfold RS.textS RS.text
  clear hR hg hv c0 c2 c3 c4
  generalize R.mid 40 = M at *
  generalize R.get 2 = n at *
  generalize R.take 2 = R' at *
  generalize R.at_ = q at *
  go_enter Tryd.func40, Tryd.ntmps40
  go_wp2_with fail
  refine hp.out.mono ?_
  rintro e w1 ⟨rfl, h3, h4⟩
  have HR := Lib.hid h3
  have HO := Lib.hid h4
  obtain ⟨hSg', h1', h2', v', hg', hv'⟩ := id h3
  obtain ⟨⟨d0, d1, d2, d3, d4⟩, _⟩ := cell5 hg'
  clear h3 h4 hg' hv' d0 d1 d3 d4 hp
  by_cases h0 : (R'.why == 0) = true
  · have h0' : (R'.why != 0) = false := by simp at h0 ⊢; exact h0
    rw [h0'] at d2
    by_cases hlo : (40 : Int) < (n : Int)
    · have hq := Lib.hid (rr_refuse S g R' 3 q (by decide) w1 HR.out)
      have hd : decide ((40 : Int) < (n : Int)) = true := by rw [decide_eq_true_eq]; exact hlo
      have e6 := hm.out
      rw [h0, hd] at e6
      have e7 : M = R'.refuse 3 q := e6
      rw [← e7] at hq
      have hMw : (M.why == 0) = false := by rw [e7]; simpa using refuse_why R' 3 q (by decide)
      have eS : Hid (M.takeL n = []) := Lib.hid (by rw [RS.takeL, if_neg (by rw [hMw]; decide)])
      have eT : Hid (M.take n = M) := Lib.hid (by rw [RS.take, if_neg (by rw [hMw]; decide)])
      clear hm e6 e7 h0 h0' hMw
      go_wp2_with fail
      refine hq.out.mono ?_
      rintro e w2 ⟨rfl, h5, h6⟩
      have H6 := Lib.hid (HO.out.trans h6)
      have H5 := Lib.hid h5
      clear h5 h6 hq
      go_wp2_with fail
      go_ret
      exact ⟨by rw [eS.out]; rfl, by rw [eT.out]; exact H5.out, H6.out⟩
    · have hd : decide ((40 : Int) < (n : Int)) = false := by rw [decide_eq_false_iff_not]; exact hlo
      have e6 := hm.out
      rw [h0, hd] at e6
      have e7 : M = R' := e6
      have ht := Lib.hid (rr_raw S g M n hn.out hf.out w1 (by rw [e7]; exact HR.out))
      clear hm e6 e7 h0 h0'
      go_wp2_with fail
      refine ht.out.mono ?_
      rintro e w3 ⟨v, rfl, h7, h8, h9⟩
      have hcv := own_conv h7
      have H8 := Lib.hid h8
      have H9 := Lib.hid (HO.out.trans h9)
      clear h7 h8 h9 ht
      go_wp2_with fail
      go_ret
      exact ⟨rfl, H8.out, H9.out⟩
  · have h0' : (R'.why == 0) = false := by simpa using h0
    have h0'' : (R'.why != 0) = true := by simp at h0 ⊢; exact h0
    rw [h0''] at d2
    have e6 := hm.out
    rw [h0'] at e6
    have e7 : M = R' := e6
    have ht := Lib.hid (rr_raw S g M n hn.out hf.out w1 (by rw [e7]; exact HR.out))
    clear hm e6 e7 h0 h0' h0''
    go_wp2_with fail
    refine ht.out.mono ?_
    rintro e w3 ⟨v, rfl, h7, h8, h9⟩
    have hcv := own_conv h7
    have H8 := Lib.hid h8
    have H9 := Lib.hid (HO.out.trans h9)
    clear h7 h8 h9 ht
    go_wp2_with fail
    go_ret
    exact ⟨rfl, H8.out, H9.out⟩
end Go.Proofs.YtabhkfpglhfiiaaDoor
