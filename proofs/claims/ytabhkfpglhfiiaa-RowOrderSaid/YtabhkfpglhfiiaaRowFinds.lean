/-
  The walk of RowFinds.
-/
import Derived.Test.YtabhkfpglhfiiaaKnown5
import Derived.Test.YtabhkfpglhfiiaaRowPlain
import Derived.Test.YtabhkfpglhfiiaaArgs
import Derived.Test.YtabhkfpglhfiiaaMem2
import Derived.Deep.DeepCutAuto
namespace Go.Proofs.Ytabhkfpglhfiiaa
open Go.RowKit

theorem i64_le {n : Nat} (h : n ≤ maxLen) : n ≤ 9223372036854775807 := by unfold maxLen at h; omega

set_option maxRecDepth 100000 in
set_option maxHeartbeats 4000000 in
/-- where the columns stand somewhere, and the row -/
theorem rowFinds_full (b o rb ro : Nat) (c d n m : Nat) (l : List C) (r : List V) (hl : l.length = n) (hr : r.length = m) (s : ByteArray) (at_ : Int) (w : World) (hn : n ≤ 9223372036854775807) (hm : m ≤ 9223372036854775807) (hnc : n ≤ c) (hmd : m ≤ d)
    (hat1 : -9223372036854775808 ≤ at_) (hat2 : at_ ≤ 9223372036854775807) (hb : b < w.heap.size) (hL : CAt w b o l) (hrb : rb < w.heap.size) (hR : VAt w rb ro r) :
    Calls Try.prog 6 #[.slice (some ⟨b, o, none⟩) n c, .slice (some ⟨rb, ro, none⟩) m d, .string s, .int .i64 at_] w fun e w' => e = .returned (.bool true) ∧ Below w.heap.size w w' := by
  have HL := Lib.hid hL
  have HR := Lib.hid hR
  have Hl := Lib.hid hl
  have Hr := Lib.hid hr
  clear hL hR hl hr
  go_enter Try.func6, Try.ntmps6
  go_upto_if 16 with (fail)
  go_cut [0] (fun s0 wx => ∃ n' : Nat, n' ≤ 8 ∧ n' ≤ n ∧ Hid (n' = min n 8) ∧ s0 = .slice (some ⟨b, o, none⟩) n' c ∧ wx = w)
  case first =>
    by_cases h8 : 8 < n
    · have hc0 : (8 : Int) ≤ (c : Int) := by omega
      go_wp2
      go_meet
      exact ⟨8, by omega, by omega, (by omega : 8 = min n 8), rfl, rfl⟩
    · go_wp2
      go_meet
      exact ⟨n, by omega, by omega, (by omega : n = min n 8), rfl, rfl⟩
  case rest =>
    obtain ⟨n', hn1, hn2, hn3, rfl, rfl⟩ := hcut
    go_upto_if 21 with (fail)
    go_cut [1] (fun s1 wx => ∃ m' : Nat, m' ≤ 8 ∧ m' ≤ m ∧ Hid (m' = min m 8) ∧ s1 = .slice (some ⟨rb, ro, none⟩) m' d ∧ wx = wc)
    case first =>
      by_cases h8 : 8 < m
      · have hc0 : (8 : Int) ≤ (d : Int) := by omega
        go_wp2
        go_meet
        exact ⟨8, by omega, by omega, (by omega : 8 = min m 8), rfl, rfl⟩
      · go_wp2
        go_meet
        exact ⟨m, by omega, by omega, (by omega : m = min m 8), rfl, rfl⟩
    case rest =>
      obtain ⟨m', hm1, hm2, hm3, rfl, rfl⟩ := hcut
      obtain ⟨w0, rfl⟩ : ∃ w0 : World, w0 = wc := ⟨_, rfl⟩
      -- the lists as they stand now
      have Hl' : Hid ((l.take 8).length = n') := Lib.hid (by rw [List.length_take, Hl.out, hn3.out]; omega)
      have Hr' : Hid ((r.take 8).length = m') := Lib.hid (by rw [List.length_take, Hr.out, hm3.out]; omega)
      have HL' : Hid (∀ w1, Below w0.heap.size w0 w1 → CAt w1 b o (l.take 8)) := Lib.hid fun w1 h1 => (HL.out.below h1 hb).take 8
      have HR' : Hid (∀ w1, Below w0.heap.size w0 w1 → VAt w1 rb ro (r.take 8)) := Lib.hid fun w1 h1 i v hv => (HR.out.below h1 hrb) i v (by
        rw [List.getElem?_take] at hv
        split at hv
        · exact hv
        · cases hv)
      generalize l.take 8 = l' at *
      generalize r.take 8 = r' at *
      clear HL HR Hl Hr hn3 hm3
      have hfind : Hid (Calls Try.prog 21 #[.slice (some ⟨b, o, none⟩) n' c, .string s] w0 fun e w' => e = .returned (.tuple #[.int .i64 (findN l' s), .bool (findB l' s)]) ∧ Below w0.heap.size w0 w') := Lib.hid (by
        have := find_any (some ⟨b, o, none⟩) c l' (by rw [Hl'.out]; omega) s w0 (.inr ⟨b, o, rfl, hb, HL'.out w0 (Below.refl _ _)⟩)
        rwa [Hl'.out] at this)
      have hcols : Hid (∀ w1, Below w0.heap.size w0 w1 → Calls Try.prog 22 #[.slice (some ⟨b, o, none⟩) n' c] w1 fun e w' => e = .returned (.int .i64 (colsE l')) ∧ Below w1.heap.size w1 w') := Lib.hid fun w1 h1 => by
        have := columns_any (some ⟨b, o, none⟩) c l' (by rw [Hl'.out]; omega) (by rw [Hl'.out]; omega) w1 (.inr ⟨b, o, rfl, by have := h1.size; omega, HL'.out w1 h1⟩)
        rwa [Hl'.out] at this
      have hfits : Hid (∀ w1, Below w0.heap.size w0 w1 → Calls Try.prog 23 #[.slice (some ⟨b, o, none⟩) n' c, .slice (some ⟨rb, ro, none⟩) m' d] w1 fun e w' => e = .returned (.bool (fitsB l' r')) ∧ Below w1.heap.size w1 w') := Lib.hid fun w1 h1 => by
        have := fits_any (some ⟨b, o, none⟩) (some ⟨rb, ro, none⟩) c d l' r' (by rw [Hl'.out]; omega) (by rw [Hr'.out]; omega) w1 (.inr ⟨b, o, rfl, by have := h1.size; omega, HL'.out w1 h1⟩) (.inr ⟨rb, ro, rfl, by have := h1.size; omega, HR'.out w1 h1⟩)
        rwa [Hl'.out, Hr'.out] at this
      have hright : Hid (∀ w1, Below w0.heap.size w0 w1 → Calls Try.prog 25 #[.slice (some ⟨rb, ro, none⟩) m' d] w1 fun e w' => e = .returned (.bool (rowOk r')) ∧ Below w1.heap.size w1 w') := Lib.hid fun w1 h1 => by
        have := rowRight_any (some ⟨rb, ro, none⟩) d r' (by rw [Hr'.out]; omega) w1 (.inr ⟨rb, ro, rfl, by have := h1.size; omega, HR'.out w1 h1⟩)
        rwa [Hr'.out] at this
      obtain ⟨F, hF⟩ : ∃ F : Int → Bool → Prop, F = fun kk ok => (∃ (q : Nat) (x : C), kk = (q : Int) ∧ ok = true ∧ q < n' ∧ l'[q]? = some x ∧ C.isB s x = true ∧ ∀ (i : Nat) (y : C), l'[i]? = some y → C.isB s y = true → q ≤ i) ∨
          (kk = 0 ∧ ok = false ∧ ∀ (i : Nat) (y : C), l'[i]? = some y → C.isB s y = false) := ⟨_, rfl⟩
      have HF := Lib.hid hF
      have hF0 : Hid (F (findN l' s) (findB l' s)) := Lib.hid (by
        rw [hF]
        cases hfb : findB l' s with
        | true =>
          obtain ⟨q, x, eq, hx, hpx, hmin⟩ := find_yes hfb
          exact .inl ⟨q, x, eq, rfl, by rw [← Hl'.out]; exact (List.getElem?_eq_some_iff.1 hx).1, hx, hpx, hmin⟩
        | false =>
          obtain ⟨e, hno⟩ := find_no hfb
          exact .inr ⟨e, rfl, hno⟩)
      clear hF
      generalize findN l' s = fN at *
      generalize findB l' s = fB at *
      go_wp2_with fail
      refine hfind.out.mono ?_
      rintro e w1 ⟨rfl, hb1⟩
      have B1 := Lib.hid hb1
      have hs1 := hb1.size
      clear hb1 hfind
      go_wp2_with fail
      go_loop [11] (fun i => ∃ k : Nat, k ≤ n' ∧ i = .int .i64 k) (fun i => n' - (intOf i).toNat)
      case atStart => exact ⟨0, Nat.zero_le _, rfl⟩
      case round =>
        obtain ⟨k, hk, rfl⟩ := hrel
        by_cases hlt : k < n'
        · obtain ⟨cc, hc⟩ : ∃ c, l'[k]? = some c := ⟨_, List.getElem?_eq_getElem (by rw [Hl'.out]; exact hlt)⟩
          obtain ⟨c1, _⟩ := HL'.out w1 B1.out k cc hc
          have hfo := hF0.out
          rw [HF.out] at hfo
          obtain ⟨cn, ck⟩ := cc
          rcases hfo with ⟨q, x, rfl, rfl, hq, _, _, hmin⟩ | ⟨rfl, rfl, hno⟩
          · by_cases hp : C.isB s ⟨cn, ck⟩ = true
            · have hqk : q ≤ k := hmin k _ hc hp
              have hp' : (cn.toList == s.toList) = true := hp
              clear hc hmin hp
              go_wp2_with fail
              go_round
              case rel => exact ⟨k + 1, by omega, by go_num⟩
              case measure => simp [intOf]; omega
            · have hp' : (cn.toList == s.toList) = false := by simpa [C.isB] using hp
              clear hc hmin hp
              go_wp2_with fail
              go_round
              case rel => exact ⟨k + 1, by omega, by go_num⟩
              case measure => simp [intOf]; omega
          · have hp' : (cn.toList == s.toList) = false := hno k _ hc
            clear hc hno
            go_wp2_with fail
            go_round
            case rel => exact ⟨k + 1, by omega, by go_num⟩
            case measure => simp [intOf]; omega
        · go_upto_region 11 with (fail)
          go_cut [9, 10, 79] (fun s9 s10 s79 wx => s79 = .bool false ∧ wx = w1)
          case first =>
            have hfo := hF0.out
            rw [HF.out] at hfo
            rcases hfo with ⟨q, x, rfl, rfl, hq, hx, hpx, _⟩ | ⟨rfl, rfl, _⟩
            · obtain ⟨c1, _⟩ := HL'.out w1 B1.out q x hx
              obtain ⟨cn, ck⟩ := x
              have hp' : (cn.toList == s.toList) = true := hpx
              have hq0 : (0 : Int) ≤ (q : Int) := by omega
              have hq1 : (q : Int) < (n' : Int) := by omega
              have d1 : decide ((q : Int) < 0) = false := by simp
              have d2 : decide (n' ≤ q) = false := by simp; omega
              clear hx hpx
              go_wp2_with fail
              go_meet
              exact ⟨rfl, rfl⟩
            · go_wp2_with fail
              go_meet
              exact ⟨rfl, rfl⟩
          case rest =>
            obtain ⟨rfl, hw⟩ := hcut
            obtain rfl : w1 = wc := hw.symm
            clear hw
            have hK : Hid (∀ w2, Below w0.heap.size w0 w2 → Calls Try.prog 24 #[] w2 fun e w' => e = .returned (.bool true) ∧ Below w0.heap.size w0 w') :=
              Lib.hid fun w2 h2 => (known5 w2).mono fun e w' ⟨he, hb⟩ => ⟨he, h2.trans (hb.mono h2.size)⟩
            have hcases : (colsE l' != 0) = true ∨ ((colsE l' != 0) = false ∧ fitsB l' r' = false) ∨ (colsE l' = 0 ∧ fitsB l' r' = true) := by
              by_cases h0 : colsE l' = 0
              · cases h1 : fitsB l' r' with
                | false => exact .inr (.inl ⟨by simp [h0], rfl⟩)
                | true => exact .inr (.inr ⟨h0, rfl⟩)
              · exact .inl (by simpa using h0)
            rcases hcases with hE | ⟨hE, hQ⟩ | ⟨hE, hQ⟩
            · generalize colsE l' = E at *
              go_wp2_with fail
              refine (hcols.out _ B1.out).mono ?_
              rintro e w2 ⟨rfl, hb2⟩
              have B2 := Lib.hid (B1.out.trans (hb2.mono hs1))
              clear hb2
              go_wp2_with fail
              refine (hK.out _ B2.out).mono ?_
              rintro e w3 ⟨rfl, hb3⟩
              have B3 := Lib.hid hb3
              clear hb3
              go_wp2_with fail
              go_ret
              exact ⟨rfl, B3.out⟩
            · rw [hQ] at hfits
              generalize colsE l' = E at *
              go_wp2_with fail
              refine (hcols.out _ B1.out).mono ?_
              rintro e w2 ⟨rfl, hb2⟩
              have B2 := Lib.hid (B1.out.trans (hb2.mono hs1))
              clear hb2
              go_wp2_with fail
              refine (hfits.out _ B2.out).mono ?_
              rintro e w3 ⟨rfl, hb3⟩
              have B3 := Lib.hid (B2.out.trans (hb3.mono B2.out.size))
              clear hb3
              go_wp2_with fail
              refine (hK.out _ B3.out).mono ?_
              rintro e w4 ⟨rfl, hb4⟩
              have B4 := Lib.hid hb4
              clear hb4
              go_wp2_with fail
              go_ret
              exact ⟨rfl, B4.out⟩
            · have hOk := rowOk_of hE hQ
              have hT : Hid (∀ (q : Nat) (v : V), r'[q]? = some v → rowOk (r'.set q ⟨3 - v.k, 0, ⟨#[]⟩⟩) = true ∧ fitsB l' (r'.set q ⟨3 - v.k, 0, ⟨#[]⟩⟩) = false ∧ (v.k = 1 ∨ v.k = 2)) :=
                Lib.hid fun q v hv => ⟨(turned hE hQ hv).1, (turned hE hQ hv).2, by
                  obtain ⟨h3, h4⟩ := fits_get hQ
                  have hq := (List.getElem?_eq_some_iff.1 hv).1
                  exact okB_kind (h4 q l'[q] v (List.getElem?_eq_getElem (by omega)) hv).1⟩
              have hm0 : 0 < m' := by
                have h3 := (fits_get hQ).1
                have h4 := (cols_len hE).1
                rw [← Hr'.out, ← h3]; exact h4
              have hmn : m' = n' := by
                have h3 := (fits_get hQ).1
                rw [← Hr'.out, ← Hl'.out, h3]
              have hm6 : m' ≤ 6 := by
                have h4 := (cols_len hE).2
                rw [hmn, ← Hl'.out]; exact h4
              have HMN := Lib.hid hmn
              rw [hQ] at hfits
              rw [hE] at hcols
              rw [hOk] at hright
              clear hE hQ hOk hmn
              go_wp2_with fail
              refine (hcols.out _ B1.out).mono ?_
              rintro e w2 ⟨rfl, hb2⟩
              have B2 := Lib.hid (B1.out.trans (hb2.mono hs1))
              clear hb2
              go_wp2_with fail
              refine (hfits.out _ B2.out).mono ?_
              rintro e w3 ⟨rfl, hb3⟩
              have B3 := Lib.hid (B2.out.trans (hb3.mono B2.out.size))
              clear hb3
              go_wp2_with fail
              refine (hright.out _ B3.out).mono ?_
              rintro e w4 ⟨rfl, hb4⟩
              have B4 := Lib.hid (B3.out.trans (hb4.mono B3.out.size))
              clear hb4 hright hcols hfits
              go_upto_if 94 with (fail)
              go_cut [3] (fun s3 wx => ∃ a : Int, 0 ≤ a ∧ a ≤ 9223372036854775807 ∧ s3 = .int .i64 a ∧ wx = w4)
              case first =>
                by_cases hneg : at_ < 0
                · go_wp2
                  go_meet
                  exact ⟨-(at_ + 1), by omega, by omega, by go_num, rfl⟩
                · go_wp2
                  go_meet
                  exact ⟨at_, by omega, by omega, rfl, rfl⟩
              case rest =>
                obtain ⟨a, ha0, ha1, rfl, hw⟩ := hcut
                obtain rfl : w4 = wc := hw.symm
                clear hw
                obtain ⟨i0, hi0, hz0, hz1, hz2⟩ := info_parts value_info
                have hcap : m' * 32 ≤ 140737488355328 := by omega
                have hlit : Hid ((w4.alloc (.cells #[] 49)).ownsRow w4.heap.size 49 3 (.slice (some ⟨w4.heap.size, 0, none⟩) 0 0) 0 []) := Lib.hid (World.ownsRow_lit w4 #[] 0 (Nat.le_refl _) (by decide) rfl)
                have hnews : Hid (∀ j u, (flat r')[j]? = some u → (w4.alloc (.cells #[] 49)).cell? ((⟨rb, ro, none⟩ : Addr).add j) = some u) := Lib.hid (HR'.out _ (B4.out.alloc B4.out.size _)).news
                go_wp2_with (at_builtin; refine wpList_append_own _ rfl _ _ 39 rfl w4.heap.size 49 i0 _ 3 32 Try.underlying39 hi0 hz0 hz1 hz2 rfl (by decide) _ _ _ rfl hlit.out ⟨rb, ro, none⟩ m' d (flat r') rfl ?c1 hnews.out ?c2 ?c3 ?c4 ?c5 ?_)
                case c1 => rw [flat_len, Hr'.out]
                case c2 => exact flat_ones _
                case c3 => unfold maxLen; omega
                case c4 => omega
                case c5 => simp
                intro v' w5 hown5 hgrow _
                have hb5 := (B4.out.alloc B4.out.size (.cells #[] 49)).grown hgrow (by have := B4.out.size; simp; omega) (fun g hg => by simp [Value.ownBlock] at hg; have := B4.out.size; omega)
                obtain ⟨g, cap, hv, hcap2, hg1, hg2, hX, hfz⟩ := own_full hown5 Hr'.out hm0
                have B5 := Lib.hid hb5
                have HX := Lib.hid hX
                have hg0 : w0.heap.size ≤ g := by have := B4.out.size; omega
                clear hown5 hgrow hb5 hX hlit hnews B1 B2 B3
                rw [hv]
                clear hv
                obtain ⟨q, hq⟩ : ∃ q : Nat, a % (m' : Int) = (q : Int) := ⟨(a % (m' : Int)).toNat, by have := Int.emod_nonneg a (show (m' : Int) ≠ 0 by omega); omega⟩
                have hq1 : q < m' := by have := Int.emod_lt_of_pos a (show (0 : Int) < (m' : Int) by omega); omega
                have hq2 : (0 : Int) ≤ (q : Int) := by omega
                have hq3 : (q : Int) < (m' : Int) := by omega
                obtain ⟨v, hvq⟩ : ∃ v, r'[q]? = some v := ⟨_, List.getElem?_eq_getElem (by rw [Hr'.out]; exact hq1)⟩
                obtain ⟨t1, t2, t3⟩ := hT.out q v hvq
                obtain ⟨x1, x2, x3⟩ := HX.out q v hvq
                rw [Nat.zero_add] at x1 x2 x3
                have HS := Lib.hid (HX.out.set3 hvq ⟨3 - v.k, 0, ⟨#[]⟩⟩)
                have HLEN : Hid ((r'.set q ⟨3 - v.k, 0, ⟨#[]⟩⟩).length = m') := Lib.hid (by rw [List.length_set, Hr'.out])
                have T1 := Lib.hid t1
                have T2 := Lib.hid t2
                have f1 := hfz (q * 3)
                have f2 := hfz (q * 3 + 1)
                have f3 := hfz (q * 3 + 2)
                clear t1 t2 hT hvq hfz
                obtain ⟨vk, vn, vs⟩ := v
                have hk1 : 1 ≤ vk ∧ vk ≤ 2 := by simp only at t3; omega
                obtain ⟨hk1, hk2⟩ := hk1
                clear t3
                have B6 := Lib.hid (((B5.out.setCell (p := ⟨g, q * 3, none⟩) hg0 (.int .i64 (3 - vk))).setCell (p := ⟨g, q * 3 + 1, none⟩) hg0 (.int .i64 0)).setCell (p := ⟨g, q * 3 + 2, none⟩) hg0 (.string ⟨#[]⟩))
                have hX : Hid (∀ w7, Below (((w5.setCell ⟨g, q * 3, none⟩ (.int .i64 (3 - vk))).setCell ⟨g, q * 3 + 1, none⟩ (.int .i64 0)).setCell ⟨g, q * 3 + 2, none⟩ (.string ⟨#[]⟩)).heap.size (((w5.setCell ⟨g, q * 3, none⟩ (.int .i64 (3 - vk))).setCell ⟨g, q * 3 + 1, none⟩ (.int .i64 0)).setCell ⟨g, q * 3 + 2, none⟩ (.string ⟨#[]⟩)) w7 →
                    VRow w7 w7.heap.size (some ⟨g, 0, none⟩) (r'.set q ⟨3 - vk, 0, ⟨#[]⟩⟩)) := Lib.hid fun w7 h7 => .inr ⟨g, 0, rfl, by have := h7.size; simp at this; omega, HS.out.below h7 (by simp; omega)⟩
                have hFit : Hid (Calls Try.prog 23 #[.slice (some ⟨b, o, none⟩) n' c, .slice (some ⟨g, 0, none⟩) m' cap] (((w5.setCell ⟨g, q * 3, none⟩ (.int .i64 (3 - vk))).setCell ⟨g, q * 3 + 1, none⟩ (.int .i64 0)).setCell ⟨g, q * 3 + 2, none⟩ (.string ⟨#[]⟩)) fun e w' =>
                    e = .returned (.bool false) ∧ Below (((w5.setCell ⟨g, q * 3, none⟩ (.int .i64 (3 - vk))).setCell ⟨g, q * 3 + 1, none⟩ (.int .i64 0)).setCell ⟨g, q * 3 + 2, none⟩ (.string ⟨#[]⟩)).heap.size (((w5.setCell ⟨g, q * 3, none⟩ (.int .i64 (3 - vk))).setCell ⟨g, q * 3 + 1, none⟩ (.int .i64 0)).setCell ⟨g, q * 3 + 2, none⟩ (.string ⟨#[]⟩)) w') := Lib.hid (by
                  have := fits_any (some ⟨b, o, none⟩) (some ⟨g, 0, none⟩) c cap l' (r'.set q ⟨3 - vk, 0, ⟨#[]⟩⟩) (by rw [Hl'.out]; omega) (by rw [HLEN.out]; omega) _ (.inr ⟨b, o, rfl, by have := B6.out.size; omega, HL'.out _ B6.out⟩) (hX.out _ (Below.refl _ _))
                  rwa [Hl'.out, HLEN.out, T2.out] at this)
                have hRt : Hid (∀ w7, Below (((w5.setCell ⟨g, q * 3, none⟩ (.int .i64 (3 - vk))).setCell ⟨g, q * 3 + 1, none⟩ (.int .i64 0)).setCell ⟨g, q * 3 + 2, none⟩ (.string ⟨#[]⟩)).heap.size (((w5.setCell ⟨g, q * 3, none⟩ (.int .i64 (3 - vk))).setCell ⟨g, q * 3 + 1, none⟩ (.int .i64 0)).setCell ⟨g, q * 3 + 2, none⟩ (.string ⟨#[]⟩)) w7 →
                    Calls Try.prog 25 #[.slice (some ⟨g, 0, none⟩) m' cap] w7 fun e w' => e = .returned (.bool true) ∧ Below w7.heap.size w7 w') := Lib.hid fun w7 h7 => by
                  have := rowRight_any (some ⟨g, 0, none⟩) cap (r'.set q ⟨3 - vk, 0, ⟨#[]⟩⟩) (by rw [HLEN.out]; omega) w7 (hX.out w7 h7)
                  rwa [HLEN.out, T1.out] at this
                go_wp2_with fail
                refine hFit.out.mono ?_
                rintro e w7 ⟨rfl, hb7⟩
                have H7 := Lib.hid hb7
                have B7 := Lib.hid (B6.out.trans (hb7.mono B6.out.size))
                clear hb7
                go_wp2_with fail
                refine (hRt.out _ H7.out).mono ?_
                rintro e w8 ⟨rfl, hb8⟩
                have B8 := Lib.hid (B7.out.trans (hb8.mono B7.out.size))
                clear hb8 H7
                go_wp2_with fail
                refine (hK.out _ B8.out).mono ?_
                rintro e w9 ⟨rfl, hb9⟩
                have B9 := Lib.hid hb9
                clear hb9
                go_wp2_with fail
                go_ret
                exact ⟨rfl, B9.out⟩

end Go.Proofs.Ytabhkfpglhfiiaa
