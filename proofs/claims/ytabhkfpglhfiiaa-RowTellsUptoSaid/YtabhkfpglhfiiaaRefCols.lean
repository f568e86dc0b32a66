/-
  Package confluenceref5's Find and Columns.
-/
import Derived.Test.YtabhkfpglhfiiaaRefName
import Derived.Test.YtabhkfpglhfiiaaCols
import Derived.Test.YtabhkfpglhfiiaaRefFind
import Derived.BigQuiet
namespace Go.Proofs.Ytabhkfpglhfiiaa
open Go.RowKit
set_option maxRecDepth 100000 in
set_option maxHeartbeats 1000000 in
theorem refColumns_full (b o n c : Nat) (l : List C) (hl : l.length = n) (hn : n ≤ 6) (hnc : n ≤ c) (hp : 0 < n) (hsz : ∀ x ∈ l, x.nm.size ≤ 9223372036854775807) (w : World) (hb : b < w.heap.size) (hL : CAt w b o l) :
    Calls Try.prog 26 #[.slice (some ⟨b, o, none⟩) n c] w fun e w' => e = .returned (.int .i64 (colsR [] l)) ∧ Below w.heap.size w w' := by
  have HL := Lib.hid hL
  have Hl := Lib.hid hl
  have Hsz := Lib.hid hsz
  clear hL hl hsz
  have hg : ((n : Int) == 0) = false := by simp; omega
  have hd : decide (6 < (n : Int)) = false := by simp; omega
  go_enter Try.func26, Try.ntmps26
  go_wp2_with fail
  go_loopw [3] (fun i wr => ∃ k : Nat, k ≤ n ∧ i = .int .i64 k ∧ Below w.heap.size w wr ∧ Hid (colsR [] l = colsR (l.take k) (l.drop k))) (fun i _ => n - (intOf i).toNat)
  case atStart => exact ⟨0, Nat.zero_le _, rfl, Below.refl _ _, rfl⟩
  case round =>
    obtain ⟨k, hk, rfl, hbl, hz⟩ := hrel
    by_cases hlt : k < n
    · obtain ⟨cc, hc⟩ : ∃ c, l[k]? = some c := ⟨_, List.getElem?_eq_getElem (by rw [Hl.out]; exact hlt)⟩
      have hst := Lib.hid (hz.out.trans (colsR_step hc))
      have hnsz : cc.nm.size ≤ 9223372036854775807 := Hsz.out cc (List.mem_of_getElem? hc)
      have HB := Lib.hid hbl
      have hcell : Hid (∀ w1, Below w.heap.size w w1 → w1.cell? ⟨b, o + k * 2, none⟩ = some (.string cc.nm) ∧ w1.cell? ⟨b, o + k * 2 + 1, none⟩ = some (.int .i64 cc.k)) := Lib.hid fun w1 h1 => HL.out.below h1 hb k cc hc
      clear hc hz hbl
      obtain ⟨cn, ck⟩ := cc
      have hname := Lib.hid (refName_any cn hnsz wr)
      have hfind : Hid (∀ w1, Below w.heap.size w w1 → Calls Try.prog 43 #[.slice (some ⟨b, o, none⟩) k c, .string cn] w1 fun e w' => e = .returned (.tuple #[.int .i64 (findN (l.take k) cn), .bool (findB (l.take k) cn)]) ∧ w' = w1) := Lib.hid fun w1 hw1 => by
        have := refFind_any (some ⟨b, o, none⟩) c (l.take k) (by simp; omega) cn w1 (.inr ⟨b, o, rfl, by have := hw1.size; omega, (HL.out.below hw1 hb).take k⟩)
        rwa [List.length_take_of_le (by rw [Hl.out]; omega)] at this
      have hi0 : (0 : Int) ≤ (k : Int) := by omega
      have hi1 : (k : Int) < (n : Int) := by omega
      have hi2 : (k : Int) ≤ (c : Int) := by omega
      obtain ⟨x1, x2⟩ := hcell.out wr HB.out
      have x1 : wr.cell? ⟨b, o + k * 2, none⟩ = some (.string cn) := x1
      generalize findN (l.take k) cn = fn at *
      by_cases hnm : nameB cn = true
      · by_cases hkd : kindB ck = true
        · have hcases : ck = 1 ∨ ck = 2 := by
            unfold kindB at hkd
            simpa using hkd
          have hst' : Hid (colsR [] l = if findB (l.take k) cn then 21 else colsR (l.take (k + 1)) (l.drop (k + 1))) := Lib.hid (by rw [hst.out, if_neg (by simp [hnm, hkd])])
          rw [hnm] at hname
          clear hst hnm hkd x2
          generalize findB (l.take k) cn = fb at *
          rcases hcases with rfl | rfl
          all_goals
            go_wp2_with fail
            refine hname.out.mono ?_
            rintro e w2 ⟨rfl, b2⟩
            have B2 := Lib.hid (HB.out.trans (b2.mono HB.out.size))
            obtain ⟨y1, y2⟩ := hcell.out w2 B2.out
            have y1 : w2.cell? ⟨b, o + k * 2, none⟩ = some (.string cn) := y1
            have hf2 : ∀ q, Calls Try.prog 43 #[.slice (some ⟨b, o, none⟩) k c, .string cn] (w2.drewN q) fun e w' => e = .returned (.tuple #[.int .i64 fn, .bool fb]) ∧ w' = w2.drewN q := fun q => hfind.out _ ⟨B2.out.os, B2.out.tape, B2.out.output, B2.out.size, B2.out.block⟩
            have HF2 := Lib.hid hf2
            clear b2 hname hf2
            cases fb
            · have hst2 : Hid (colsR [] l = colsR (l.take (k + 1)) (l.drop (k + 1))) := hst'
              clear hst'
              go_wp2_with fail
              go_quiet ((go_at_call 43; exact Calls.quiet_of_same (HF2.out _)))
              go_wp2_with fail
              go_roundw
              case rel => exact ⟨k + 1, by omega, by go_num, ⟨B2.out.os, B2.out.tape, B2.out.output, B2.out.size, B2.out.block⟩, hst2⟩
              case measure => simp [intOf]; omega
            · have hst2 : Hid (colsR [] l = 21) := hst'
              clear hst'
              go_wp2_with fail
              go_quiet ((go_at_call 43; exact Calls.quiet_of_same (HF2.out _)))
              go_wp2_with fail
              go_ret
              exact ⟨by rw [hst2.out]; rfl, B2.out.os, B2.out.tape, B2.out.output, B2.out.size, B2.out.block⟩
        · rw [hnm] at hname
          have hst' : Hid (colsR [] l = 20) := Lib.hid (by rw [hst.out, if_pos (by simp [hkd])])
          have h1 : (ck != 1) = true := by unfold kindB at hkd; simp at hkd ⊢; omega
          have h2 : (ck != 2) = true := by unfold kindB at hkd; simp at hkd ⊢; omega
          clear hst hkd hnm hfind x2
          go_wp2_with fail
          refine hname.out.mono ?_
          rintro e w2 ⟨rfl, b2⟩
          have B2 := Lib.hid (HB.out.trans (b2.mono HB.out.size))
          obtain ⟨y1, y2⟩ := hcell.out w2 B2.out
          have y2 : w2.cell? ⟨b, o + k * 2 + 1, none⟩ = some (.int .i64 ck) := y2
          clear b2 hname
          go_wp2_with fail
          go_ret
          exact ⟨by rw [hst'.out]; rfl, B2.out⟩
      · have hnm' : nameB cn = false := by simpa using hnm
        rw [hnm'] at hname
        have hst' : Hid (colsR [] l = 20) := Lib.hid (by rw [hst.out, if_pos (by simp [hnm'])])
        clear hst hnm hnm' hfind x2
        go_wp2_with fail
        refine hname.out.mono ?_
        rintro e w2 ⟨rfl, b2⟩
        have B2 := Lib.hid (HB.out.trans (b2.mono HB.out.size))
        clear b2 hname
        go_wp2_with fail
        go_ret
        exact ⟨by rw [hst'.out]; rfl, B2.out⟩
    · have hst : Hid (colsR [] l = 0) := Lib.hid (by rw [hz.out, List.drop_of_length_le (by rw [Hl.out]; omega)]; rfl)
      clear hz
      go_wp2_with fail
      go_ret
      exact ⟨by rw [hst.out]; rfl, hbl⟩
theorem refColumns_any (A : Option Addr) (c : Nat) (l : List C) (hl : l.length ≤ 9223372036854775807) (hc : l.length ≤ c) (hsz : ∀ x ∈ l, x.nm.size ≤ 9223372036854775807) (w : World) (hA : CRow w w.heap.size A l) :
    Calls Try.prog 26 #[.slice A l.length c] w fun e w' => e = .returned (.int .i64 (colsE l)) ∧ Below w.heap.size w w' := by
  by_cases h0 : l.length = 0
  · have e0 : colsE l = 23 := by simp [colsE, h0]
    rw [e0, h0]
    clear hA h0 e0
    go_enter Try.func26, Try.ntmps26
    go_wp2
    go_ret
    exact ⟨rfl, Below.refl _ _⟩
  · by_cases h6 : 6 < l.length
    · have e0 : colsE l = 23 := by simp [colsE, h6]
      have hg : ((l.length : Int) == 0) = false := by simp; intro h; subst h; simp at h0
      have hd : decide (6 < (l.length : Int)) = true := by simp; omega
      rw [e0]
      clear hA h0 e0 h6
      go_enter Try.func26, Try.ntmps26
      go_wp2
      go_ret
      exact ⟨rfl, Below.refl _ _⟩
    · have e0 : colsE l = colsR [] l := by simp [colsE, h0, h6]
      rw [e0]
      rcases hA with h | ⟨b, o, rfl, hb, hL⟩
      · subst h; simp at h0
      · exact refColumns_full b o l.length c l rfl (by omega) hc (by omega) hsz w hb hL
end Go.Proofs.Ytabhkfpglhfiiaa
