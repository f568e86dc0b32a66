/-
  The walk of RowFinds, the other ways.
-/
import Derived.Test.YtabhkfpglhfiiaaRowFinds
namespace Go.Proofs.Ytabhkfpglhfiiaa
open Go.RowKit

set_option maxRecDepth 100000 in
set_option maxHeartbeats 4000000 in
/-- where there are no columns -/
theorem rowFinds_nil (A D : Option Addr) (c d m : Nat) (s : ByteArray) (at_ : Int) (w : World) (hm : m ≤ 9223372036854775807) (hmd : m ≤ d) :
    Calls Try.prog 6 #[.slice A 0 c, .slice D m d, .string s, .int .i64 at_] w fun e w' => e = .returned (.bool true) ∧ Below w.heap.size w w' := by
  have hfind : Hid (∀ w1, Calls Try.prog 21 #[.slice A 0 c, .string s] w1 fun e w' => e = .returned (.tuple #[.int .i64 0, .bool false]) ∧ Below w1.heap.size w1 w') := Lib.hid fun w1 => find_any A c [] (by simp) s w1 (.inl rfl)
  have hcols : Hid (∀ w1, Calls Try.prog 22 #[.slice A 0 c] w1 fun e w' => e = .returned (.int .i64 23) ∧ Below w1.heap.size w1 w') := Lib.hid fun w1 => columns_any A c [] (by simp) (by simp) w1 (.inl rfl)
  by_cases h8 : 8 < m
  · have hc0 : (8 : Int) ≤ (d : Int) := by omega
    go_enter Try.func6, Try.ntmps6
    go_wp2_with fail
    refine (hfind.out _).mono ?_
    rintro e w1 ⟨rfl, hb1⟩
    have B1 := Lib.hid hb1
    clear hb1
    go_wp2_with fail
    refine wp_loop_rounds 1 ?_
    rw [rounds_succ]
    go_wp2_with fail
    refine (hcols.out _).mono ?_
    rintro e w2 ⟨rfl, hb2⟩
    have B2 := Lib.hid (B1.out.trans (hb2.mono B1.out.size))
    clear hb2
    go_wp2_with fail
    refine (known5 _).mono ?_
    rintro e w3 ⟨rfl, hb3⟩
    have B3 := Lib.hid (B2.out.trans (hb3.mono B2.out.size))
    clear hb3
    go_wp2_with fail
    go_ret
    exact ⟨rfl, B3.out⟩
  · go_enter Try.func6, Try.ntmps6
    go_wp2_with fail
    refine (hfind.out _).mono ?_
    rintro e w1 ⟨rfl, hb1⟩
    have B1 := Lib.hid hb1
    clear hb1
    go_wp2_with fail
    refine wp_loop_rounds 1 ?_
    rw [rounds_succ]
    go_wp2_with fail
    refine (hcols.out _).mono ?_
    rintro e w2 ⟨rfl, hb2⟩
    have B2 := Lib.hid (B1.out.trans (hb2.mono B1.out.size))
    clear hb2
    go_wp2_with fail
    refine (known5 _).mono ?_
    rintro e w3 ⟨rfl, hb3⟩
    have B3 := Lib.hid (B2.out.trans (hb3.mono B2.out.size))
    clear hb3
    go_wp2_with fail
    go_ret
    exact ⟨rfl, B3.out⟩

set_option maxRecDepth 100000 in
set_option maxHeartbeats 4000000 in
/-- where the columns stand somewhere, and the row is empty -/
theorem rowFinds_empty (b o : Nat) (D : Option Addr) (c d n : Nat) (l : List C) (hl : l.length = n) (s : ByteArray) (at_ : Int) (w : World) (hn : n ≤ 9223372036854775807) (hnc : n ≤ c)
    (hb : b < w.heap.size) (hL : CAt w b o l) :
    Calls Try.prog 6 #[.slice (some ⟨b, o, none⟩) n c, .slice D 0 d, .string s, .int .i64 at_] w fun e w' => e = .returned (.bool true) ∧ Below w.heap.size w w' := by
  have HL := Lib.hid hL
  have Hl := Lib.hid hl
  clear hL hl
  go_enter Try.func6, Try.ntmps6
  go_upto_if 16 with (fail)
  go_cut [0] (fun s0 wx => ∃ n' : Nat, n' ≤ 8 ∧ n' ≤ n ∧ Hid (n' = min n 8) ∧ s0 = .slice (some ⟨b, o, none⟩) n' c ∧ wx = w)
  case first =>
    by_cases h8 : 8 < n
    · have hc0 : (8 : Int) ≤ (c : Int) := by omega
      go_wp2
      go_meet
      exact ⟨8, by omega, by omega, (by omega : 8 = min n 8), rfl, rfl⟩
    · go_wp2
      go_meet
      exact ⟨n, by omega, by omega, (by omega : n = min n 8), rfl, rfl⟩
  case rest =>
    obtain ⟨n', hn1, hn2, hn3, rfl, rfl⟩ := hcut
    obtain ⟨w0, rfl⟩ : ∃ w0 : World, w0 = wc := ⟨_, rfl⟩
    -- the lists as they stand now
    have Hl' : Hid ((l.take 8).length = n') := Lib.hid (by rw [List.length_take, Hl.out, hn3.out]; omega)
    have HL' : Hid (∀ w1, Below w0.heap.size w0 w1 → CAt w1 b o (l.take 8)) := Lib.hid fun w1 h1 => (HL.out.below h1 hb).take 8
    generalize l.take 8 = l' at *
    clear HL Hl hn3
    have hfind : Hid (Calls Try.prog 21 #[.slice (some ⟨b, o, none⟩) n' c, .string s] w0 fun e w' => e = .returned (.tuple #[.int .i64 (findN l' s), .bool (findB l' s)]) ∧ Below w0.heap.size w0 w') := Lib.hid (by
      have := find_any (some ⟨b, o, none⟩) c l' (by rw [Hl'.out]; omega) s w0 (.inr ⟨b, o, rfl, hb, HL'.out w0 (Below.refl _ _)⟩)
      rwa [Hl'.out] at this)
    have hcols : Hid (∀ w1, Below w0.heap.size w0 w1 → Calls Try.prog 22 #[.slice (some ⟨b, o, none⟩) n' c] w1 fun e w' => e = .returned (.int .i64 (colsE l')) ∧ Below w1.heap.size w1 w') := Lib.hid fun w1 h1 => by
      have := columns_any (some ⟨b, o, none⟩) c l' (by rw [Hl'.out]; omega) (by rw [Hl'.out]; omega) w1 (.inr ⟨b, o, rfl, by have := h1.size; omega, HL'.out w1 h1⟩)
      rwa [Hl'.out] at this
    have hfits : Hid (∀ w1, Below w0.heap.size w0 w1 → Calls Try.prog 23 #[.slice (some ⟨b, o, none⟩) n' c, .slice D 0 d] w1 fun e w' => e = .returned (.bool (fitsB l' [])) ∧ Below w1.heap.size w1 w') := Lib.hid fun w1 h1 => by
      have := fits_any (some ⟨b, o, none⟩) D c d l' [] (by rw [Hl'.out]; omega) (by simp) w1 (.inr ⟨b, o, rfl, by have := h1.size; omega, HL'.out w1 h1⟩) (.inl rfl)
      rwa [Hl'.out] at this
    obtain ⟨F, hF⟩ : ∃ F : Int → Bool → Prop, F = fun kk ok => (∃ (q : Nat) (x : C), kk = (q : Int) ∧ ok = true ∧ q < n' ∧ l'[q]? = some x ∧ C.isB s x = true ∧ ∀ (i : Nat) (y : C), l'[i]? = some y → C.isB s y = true → q ≤ i) ∨
        (kk = 0 ∧ ok = false ∧ ∀ (i : Nat) (y : C), l'[i]? = some y → C.isB s y = false) := ⟨_, rfl⟩
    have HF := Lib.hid hF
    have hF0 : Hid (F (findN l' s) (findB l' s)) := Lib.hid (by
      rw [hF]
      cases hfb : findB l' s with
      | true =>
        obtain ⟨q, x, eq, hx, hpx, hmin⟩ := find_yes hfb
        exact .inl ⟨q, x, eq, rfl, by rw [← Hl'.out]; exact (List.getElem?_eq_some_iff.1 hx).1, hx, hpx, hmin⟩
      | false =>
        obtain ⟨e, hno⟩ := find_no hfb
        exact .inr ⟨e, rfl, hno⟩)
    clear hF
    generalize findN l' s = fN at *
    generalize findB l' s = fB at *
    go_wp2_with fail
    refine hfind.out.mono ?_
    rintro e w1 ⟨rfl, hb1⟩
    have B1 := Lib.hid hb1
    have hs1 := hb1.size
    clear hb1 hfind
    go_wp2_with fail
    go_loop [11] (fun i => ∃ k : Nat, k ≤ n' ∧ i = .int .i64 k) (fun i => n' - (intOf i).toNat)
    case atStart => exact ⟨0, Nat.zero_le _, rfl⟩
    case round =>
      obtain ⟨k, hk, rfl⟩ := hrel
      by_cases hlt : k < n'
      · obtain ⟨cc, hc⟩ : ∃ c, l'[k]? = some c := ⟨_, List.getElem?_eq_getElem (by rw [Hl'.out]; exact hlt)⟩
        obtain ⟨c1, _⟩ := HL'.out w1 B1.out k cc hc
        have hfo := hF0.out
        rw [HF.out] at hfo
        obtain ⟨cn, ck⟩ := cc
        rcases hfo with ⟨q, x, rfl, rfl, hq, _, _, hmin⟩ | ⟨rfl, rfl, hno⟩
        · by_cases hp : C.isB s ⟨cn, ck⟩ = true
          · have hqk : q ≤ k := hmin k _ hc hp
            have hp' : (cn.toList == s.toList) = true := hp
            clear hc hmin hp
            go_wp2_with fail
            go_round
            case rel => exact ⟨k + 1, by omega, by go_num⟩
            case measure => simp [intOf]; omega
          · have hp' : (cn.toList == s.toList) = false := by simpa [C.isB] using hp
            clear hc hmin hp
            go_wp2_with fail
            go_round
            case rel => exact ⟨k + 1, by omega, by go_num⟩
            case measure => simp [intOf]; omega
        · have hp' : (cn.toList == s.toList) = false := hno k _ hc
          clear hc hno
          go_wp2_with fail
          go_round
          case rel => exact ⟨k + 1, by omega, by go_num⟩
          case measure => simp [intOf]; omega
      · go_upto_region 11 with (fail)
        go_cut [9, 10, 79] (fun s9 s10 s79 wx => s79 = .bool false ∧ wx = w1)
        case first =>
          have hfo := hF0.out
          rw [HF.out] at hfo
          rcases hfo with ⟨q, x, rfl, rfl, hq, hx, hpx, _⟩ | ⟨rfl, rfl, _⟩
          · obtain ⟨c1, _⟩ := HL'.out w1 B1.out q x hx
            obtain ⟨cn, ck⟩ := x
            have hp' : (cn.toList == s.toList) = true := hpx
            have hq0 : (0 : Int) ≤ (q : Int) := by omega
            have hq1 : (q : Int) < (n' : Int) := by omega
            have d1 : decide ((q : Int) < 0) = false := by simp
            have d2 : decide (n' ≤ q) = false := by simp; omega
            clear hx hpx
            go_wp2_with fail
            go_meet
            exact ⟨rfl, rfl⟩
          · go_wp2_with fail
            go_meet
            exact ⟨rfl, rfl⟩
        case rest =>
          obtain ⟨rfl, hw⟩ := hcut
          obtain rfl : w1 = wc := hw.symm
          clear hw
          have hK : Hid (∀ w2, Below w0.heap.size w0 w2 → Calls Try.prog 24 #[] w2 fun e w' => e = .returned (.bool true) ∧ Below w0.heap.size w0 w') :=
            Lib.hid fun w2 h2 => (known5 w2).mono fun e w' ⟨he, hb⟩ => ⟨he, h2.trans (hb.mono h2.size)⟩
          have hcases : (colsE l' != 0) = true ∨ ((colsE l' != 0) = false ∧ fitsB l' [] = false) := by
            by_cases h0 : colsE l' = 0
            · refine .inr ⟨by simp [h0], ?_⟩
              have h4 := (cols_len h0).1
              unfold fitsB
              rw [decide_eq_false (by simp; intro h; subst h; simp at h4)]
              rfl
            · exact .inl (by simpa using h0)
          rcases hcases with hE | ⟨hE, hQ⟩
          · generalize colsE l' = E at *
            go_wp2_with fail
            refine (hcols.out _ B1.out).mono ?_
            rintro e w2 ⟨rfl, hb2⟩
            have B2 := Lib.hid (B1.out.trans (hb2.mono hs1))
            clear hb2
            go_wp2_with fail
            refine (hK.out _ B2.out).mono ?_
            rintro e w3 ⟨rfl, hb3⟩
            have B3 := Lib.hid hb3
            clear hb3
            go_wp2_with fail
            go_ret
            exact ⟨rfl, B3.out⟩
          · rw [hQ] at hfits
            generalize colsE l' = E at *
            go_wp2_with fail
            refine (hcols.out _ B1.out).mono ?_
            rintro e w2 ⟨rfl, hb2⟩
            have B2 := Lib.hid (B1.out.trans (hb2.mono hs1))
            clear hb2
            go_wp2_with fail
            refine (hfits.out _ B2.out).mono ?_
            rintro e w3 ⟨rfl, hb3⟩
            have B3 := Lib.hid (B2.out.trans (hb3.mono B2.out.size))
            clear hb3
            go_wp2_with fail
            refine (hK.out _ B3.out).mono ?_
            rintro e w4 ⟨rfl, hb4⟩
            have B4 := Lib.hid hb4
            clear hb4
            go_wp2_with fail
            go_ret
            exact ⟨rfl, B4.out⟩

/-- THE WALK -/
theorem rowFinds_walk (A D : Option Addr) (c d : Nat) (l : List C) (r : List V) (s : ByteArray) (at_ : Int) (w : World) (hn : l.length ≤ 9223372036854775807) (hm : r.length ≤ 9223372036854775807) (hnc : l.length ≤ c) (hmd : r.length ≤ d)
    (hat1 : -9223372036854775808 ≤ at_) (hat2 : at_ ≤ 9223372036854775807) (hA : CRow w w.heap.size A l) (hD : VRow w w.heap.size D r) :
    Calls Try.prog 6 #[.slice A l.length c, .slice D r.length d, .string s, .int .i64 at_] w fun e w' => e = .returned (.bool true) ∧ Below w.heap.size w w' := by
  rcases hA with rfl | ⟨b, o, rfl, hb, hL⟩
  · exact rowFinds_nil A D c d r.length s at_ w hm hmd
  · rcases hD with rfl | ⟨rb, ro, rfl, hrb, hR⟩
    · exact rowFinds_empty b o D c d l.length l rfl s at_ w hn hnc hb hL
    · exact rowFinds_full b o rb ro c d l.length r.length l r rfl rfl s at_ w hn hm hnc hmd hat1 hat2 hb hL hrb hR

end Go.Proofs.Ytabhkfpglhfiiaa
