/-
  Package wire's reader: texts, the beginning.
-/
import Derived.Test.YtabhkfpglhfiiaaDoorReader4a
namespace Go.Proofs.YtabhkfpglhfiiaaDoor
open Go.RowKit
/-- the reader behind a text's length -/
def RS.mid (R : RS) (most : Int) : RS := if (R.take 2).why == 0 && decide (most < (R.get 2 : Int)) then (R.take 2).refuse 3 R.at_ else R.take 2
def RS.textS (R : RS) (most : Int) : ByteArray := ⟨((R.mid most).takeL (R.get 2)).toArray⟩
def RS.text (R : RS) (most : Int) : RS := (R.mid most).take (R.get 2)
theorem refuse_why (R : RS) (a b : Int) (ha : a ≠ 0) : (R.refuse a b).why ≠ 0 := by
  unfold RS.refuse
  by_cases h : (R.why == 0) = true
  · rw [if_pos h]; exact ha
  · rw [if_neg h]; simpa using h
theorem mid_l (R : RS) (most : Int) : (R.mid most).l = R.l := by
  unfold RS.mid
  split
  · rw [refuse_l, take_l]
  · rw [take_l]
theorem mid_full (R : RS) (most : Int) (h : (R.mid most).why = 0) : R.l ≠ [] := by
  unfold RS.mid at h
  split at h
  · exact absurd h (refuse_why _ _ _ (by decide))
  · exact take_full R 2 (by decide) h
/-- a slice of bytes made a string -/
theorem conv_bytes {w : World} {S : Nat → Prop} {v : Value} {l : List UInt8} (h : ByR w S v l) : (convert 29 9 v).run Tryd.prog w = .ok (.string ⟨l.toArray⟩) w := by
  rcases h with ⟨rfl, rfl⟩ | ⟨b, o, c, rfl, _, _, _, hA⟩
  · exact Lib.run_convert_nil_bytes w _ _ 5 0 Tryd.underlying29 Tryd.underlying5 Tryd.underlying9
  · refine run_convert_bytes_back w _ _ 5 _ c l Tryd.underlying29 Tryd.underlying5 Tryd.underlying9 fun j hj => ?_
    rw [add_at]
    exact hA j _ (List.getElem?_eq_getElem hj)

theorem rText (S : Nat → Prop) (g : Nat) (R : RS) (w : World) (hR : Rd w S g R) :
    Calls Tryd.prog 29 #[.pointer (some ⟨g, 0, none⟩), .int .i64 40] w fun e w' => e = .returned (.string (R.textS 40)) ∧ Rd w' S g (R.text 40) ∧ Out (fun k => k = g) w w' := by
  have hp := Lib.hid (rShort S g R w hR)
  have hf : Hid ((R.mid 40).why = 0 → 0 < R.get 2 ∨ (R.mid 40).l ≠ []) := Lib.hid (fun h => .inr (by rw [mid_l]; exact mid_full R 40 h))
  have hn : Hid (R.get 2 ≤ 4611686018427387904) := Lib.hid (by have := getR_lt R 2; omega)
  have hm : Hid (R.mid 40 = if (R.take 2).why == 0 && decide ((40 : Int) < (R.get 2 : Int)) then (R.take 2).refuse 3 R.at_ else R.take 2) := Lib.hid rfl
  obtain ⟨hSg, h1, h2, v, hg, hv⟩ := id hR
  obtain ⟨⟨c0, c1, c2, c3⟩, f1, f2, f3⟩ := cell4 hg
  unfold RS.textS RS.text
  clear hR hg hv c0 c2 c3 f1 f2 f3
  generalize R.mid 40 = M at *
  generalize R.get 2 = n at *
  generalize R.take 2 = R' at *
  generalize R.at_ = q at *
  go_enter Tryd.func29, Tryd.ntmps29
  go_wp2_with fail
  refine hp.out.mono ?_
  rintro e w1 ⟨rfl, h3, h4⟩
  have HR := Lib.hid h3
  have HO := Lib.hid h4
  obtain ⟨hSg', h1', h2', v', hg', hv'⟩ := id h3
  obtain ⟨⟨d0, d1, d2, d3⟩, e1, e2, e3⟩ := cell4 hg'
  clear h3 h4 hg' hv' d0 d1 d3 e1 e2 e3 hp
  by_cases h0 : (R'.why == 0) = true
  · by_cases hlo : (40 : Int) < (n : Int)
    · have hq := Lib.hid (refuse_any S g R' 3 q w1 HR.out)
      have hd : decide ((40 : Int) < (n : Int)) = true := by rw [decide_eq_true_eq]; exact hlo
      have e6 := hm.out
      rw [h0, hd] at e6
      have e7 : M = R'.refuse 3 q := e6
      rw [← e7] at hq
      clear hm e6 e7
      go_wp2_with fail
      refine hq.out.mono ?_
      rintro e w2 ⟨rfl, h5, h6⟩
      have H6 := Lib.hid (HO.out.trans h6)
      have ht := Lib.hid (take_any S g M n hn.out hf.out w2 h5)
      clear h5 h6 hq
      go_wp2_with fail
      refine ht.out.mono ?_
      rintro e w3 ⟨v, rfl, h7, h8, h9⟩
      have hcv := conv_bytes h7
      go_wp2_with fail
      go_ret
      exact ⟨rfl, h8, H6.out.trans h9⟩
    · have hd : decide ((40 : Int) < (n : Int)) = false := by rw [decide_eq_false_iff_not]; exact hlo
      have e6 := hm.out
      rw [h0, hd] at e6
      have e7 : M = R' := e6
      have ht := Lib.hid (take_any S g M n hn.out hf.out w1 (by rw [e7]; exact HR.out))
      clear hm e6 e7
      go_wp2_with fail
      refine ht.out.mono ?_
      rintro e w3 ⟨v, rfl, h7, h8, h9⟩
      have hcv := conv_bytes h7
      go_wp2_with fail
      go_ret
      exact ⟨rfl, h8, HO.out.trans h9⟩
  · have h0' : (R'.why == 0) = false := by simpa using h0
    have e6 := hm.out
    rw [h0'] at e6
    have e7 : M = R' := e6
    have ht := Lib.hid (take_any S g M n hn.out hf.out w1 (by rw [e7]; exact HR.out))
    clear hm e6 e7 h0
    go_wp2_with fail
    refine ht.out.mono ?_
    rintro e w3 ⟨v, rfl, h7, h8, h9⟩
    have hcv := conv_bytes h7
    go_wp2_with fail
    go_ret
    exact ⟨rfl, h8, HO.out.trans h9⟩

theorem newReader (v : Value) (l : List UInt8) (hl : l.length ≤ 549755813888) (w : World) (h : Bts w v l) :
    Calls Tryd.prog 11 #[v] w fun e w' => ∃ g, e = .returned (.pointer (some ⟨g, 0, none⟩)) ∧ w.heap.size ≤ g ∧ g < w'.heap.size ∧ Rd w' (fun k => k = g ∨ w'.heap.size ≤ k) g ⟨l, 0, 0, 0⟩ ∧ Below w.heap.size w w' := by
  have hp := Lib.hid (clone_any v l hl w h)
  clear h
  go_enter Tryd.func11, Tryd.ntmps11
  go_wp2_with fail
  refine hp.out.mono ?_
  rintro e w1 ⟨v', rfl, h1, h2⟩
  have H1 := Lib.hid h1
  have H2 := Lib.hid h2
  have hb := own_bts h1
  have hv : ∃ A n c, v' = .slice A n c := by
    rcases hb with ⟨rfl, e⟩ | ⟨b, o, c, rfl, _⟩
    · exact ⟨_, _, _, rfl⟩
    · exact ⟨_, _, _, rfl⟩
  obtain ⟨A, n, c, rfl⟩ := hv
  have hs := h2.size
  have Hb := Lib.hid hb
  clear h1 h2 hp hb
  go_wp2_with fail
  go_ret
  have ha : Below w1.heap.size w1 (w1.alloc (.cells #[.slice A n c, .int .i64 0, .int .i64 0, .int .i64 0] 55)) := (Below.refl _ _).alloc (Nat.le_refl _) _
  refine ⟨w1.heap.size, rfl, hs, by simp, ⟨.inl rfl, Nat.zero_le _, by show l.length ≤ _; omega, _, heap_alloc_new w1 _, ?_⟩, H2.out.trans (ha.mono hs)⟩
  rcases Hb.out with h | ⟨b, o, c', e, h0, h1, h2⟩
  · exact .inl h
  · refine .inr ⟨b, o, c', e, h0, by simp; omega, ?_, h2.below ha h1⟩
    simp
    omega
end Go.Proofs.YtabhkfpglhfiiaaDoor
