/-
  Package row's contract: Columns.
-/
import Derived.Test.YtabhkfpglhfiiaaName
import Derived.Deep.RegionHeld3
namespace Go.Proofs.Ytabhkfpglhfiiaa
open Go.RowKit

def kindB (k : Int) : Bool := k == 1 || k == 2
/-- why columns may not be: 'pre' are those ahead -/
def colsR (pre : List C) : List C → Int
  | [] => 0
  | c :: r => if (!(nameB c.nm)) || !(kindB c.k) then 20 else if findB pre c.nm then 21 else colsR (pre ++ [c]) r
theorem colsR_step {l : List C} {k : Nat} {c : C} (h : l[k]? = some c) :
    colsR (l.take k) (l.drop k) = if (!(nameB c.nm)) || !(kindB c.k) then 20 else if findB (l.take k) c.nm then 21 else colsR (l.take (k + 1)) (l.drop (k + 1)) := by
  obtain ⟨h1, e1⟩ := List.getElem?_eq_some_iff.1 h
  rw [List.drop_eq_getElem_cons h1, e1, List.take_succ_eq_append_getElem h1, e1]
  rfl
def colsE (l : List C) : Int := if decide (l.length = 0) || decide (6 < l.length) then 23 else colsR [] l

theorem CAt.take {w : World} {b o : Nat} {l : List C} (h : CAt w b o l) (k : Nat) : CAt w b o (l.take k) := fun i c hc => h i c (by
  rw [List.getElem?_take] at hc
  split at hc
  · exact hc
  · cases hc)

set_option maxHeartbeats 1000000 in
theorem columns_full (b o n c : Nat) (l : List C) (hl : l.length = n) (hn : n ≤ 6) (hnc : n ≤ c) (hp : 0 < n) (w : World) (hb : b < w.heap.size) (hL : CAt w b o l) :
    Calls Try.prog 22 #[.slice (some ⟨b, o, none⟩) n c] w fun e w' => e = .returned (.int .i64 (colsR [] l)) ∧ Below w.heap.size w w' := by
  have HL := Lib.hid hL
  have Hl := Lib.hid hl
  clear hL hl
  have hg : ((n : Int) == 0) = false := by simp; omega
  have hd : decide (6 < (n : Int)) = false := by simp; omega
  go_enter Try.func22, Try.ntmps22
  go_wp2_with fail
  go_loopw [17] (fun i wr => ∃ k : Nat, k ≤ n ∧ i = .int .i64 k ∧ Below w.heap.size w wr ∧ Hid (colsR [] l = colsR (l.take k) (l.drop k))) (fun i _ => n - (intOf i).toNat)
  case atStart => exact ⟨0, Nat.zero_le _, rfl, Below.refl _ _, rfl⟩
  case round =>
    obtain ⟨k, hk, rfl, hbl, hz⟩ := hrel
    have hs := hbl.size
    by_cases hlt : k < n
    · obtain ⟨cc, hc⟩ : ∃ c, l[k]? = some c := ⟨_, List.getElem?_eq_getElem (by rw [Hl.out]; exact hlt)⟩
      have hst := Lib.hid (hz.out.trans (colsR_step hc))
      obtain ⟨c1, c2⟩ := HL.out.below hbl hb k cc hc
      clear hc hz
      obtain ⟨cn, ck⟩ := cc
      have hname := Lib.hid (name_any cn)
      have HB := Lib.hid (hbl.alloc hs (.cells #[.string cn, .int .i64 ck] 43))
      have hfind : Hid (∀ w1, Below w.heap.size w w1 → Calls Try.prog 21 #[.slice (some ⟨b, o, none⟩) k c, .string cn] w1 fun e w' =>
          e = .returned (.tuple #[.int .i64 (findN (l.take k) cn), .bool (findB (l.take k) cn)]) ∧ Below w1.heap.size w1 w') := Lib.hid fun w1 hw1 => by
        have := find_any (some ⟨b, o, none⟩) c (l.take k) (by simp; omega) cn w1 (.inr ⟨b, o, rfl, by have := hw1.size; omega, (HL.out.below hw1 hb).take k⟩)
        rwa [List.length_take_of_le (by rw [Hl.out]; omega)] at this
      by_cases hnm : nameB cn = true
      · by_cases hkd : kindB ck = true
        · rw [hnm] at hname
          have hst' : Hid (colsR [] l = if findB (l.take k) cn then 21 else colsR (l.take (k + 1)) (l.drop (k + 1))) := Lib.hid (by rw [hst.out, if_neg (by simp [hnm, hkd])])
          clear hst
          have hcases : ck = 1 ∨ ck = 2 := by
            unfold kindB at hkd
            simpa using hkd
          have hk0 : (0 : Int) ≤ (k : Int) := by omega
          have hk1 : (k : Int) ≤ (c : Int) := by omega
          clear hkd hnm
          generalize findN (l.take k) cn = fn at *
          by_cases hfb : findB (l.take k) cn = true
          · rw [hfb] at hfind
            have hst2 : Hid (colsR [] l = 21) := Lib.hid (by rw [hst'.out, if_pos hfb])
            clear hst' hfb
            rcases hcases with rfl | rfl
            all_goals
              go_wp2_with fail
              refine (hname.out _).mono ?_
              rintro e w' ⟨rfl, rfl⟩
              go_wp2_with fail
              go_region_held3 (fun w' => w'.cell? ⟨wr.heap.size, 0, none⟩ = some (.string cn)) (first | go_keep | (exact (hb3.cell (by simp)).trans (by simp)))
                (first | (go_at_call 21; refine (hfind.out _ HB.out.drew).mono ?_; rintro e w3 ⟨rfl, hb3⟩))
              have HB3 := Lib.hid (HB.out.drew.trans (hb3.mono (by simp; omega)))
              clear hb3
              go_wp2_with fail
              go_ret
              exact ⟨by rw [hst2.out]; rfl, HB3.out⟩
          · have hfb' : findB (l.take k) cn = false := by simpa using hfb
            rw [hfb'] at hfind
            have hst2 : Hid (colsR [] l = colsR (l.take (k + 1)) (l.drop (k + 1))) := Lib.hid (by rw [hst'.out, if_neg hfb])
            clear hst' hfb hfb'
            rcases hcases with rfl | rfl
            all_goals
              go_wp2_with fail
              refine (hname.out _).mono ?_
              rintro e w' ⟨rfl, rfl⟩
              go_wp2_with fail
              go_region_held3 (fun w' => w'.cell? ⟨wr.heap.size, 0, none⟩ = some (.string cn)) (first | go_keep | (exact (hb3.cell (by simp)).trans (by simp)))
                (first | (go_at_call 21; refine (hfind.out _ HB.out.drew).mono ?_; rintro e w3 ⟨rfl, hb3⟩))
              have hb4 := HB.out.drew.trans (hb3.mono (by simp; omega))
              clear hb3
              go_wp2_with fail
              go_roundw
              case rel => exact ⟨k + 1, by omega, by go_num, hb4, hst2⟩
              case measure => simp [intOf]; omega
        · rw [hnm] at hname
          have hst' : Hid (colsR [] l = 20) := Lib.hid (by rw [hst.out, if_pos (by simp [hkd])])
          have h1 : (ck != 1) = true := by unfold kindB at hkd; simp at hkd ⊢; omega
          have h2 : (ck != 2) = true := by unfold kindB at hkd; simp at hkd ⊢; omega
          clear hst hkd hnm hfind
          go_wp2_with fail
          refine (hname.out _).mono ?_
          rintro e w' ⟨rfl, rfl⟩
          go_wp2_with fail
          go_ret
          exact ⟨by rw [hst'.out]; rfl, HB.out⟩
      · have hnm' : nameB cn = false := by simpa using hnm
        rw [hnm'] at hname
        have hst' : Hid (colsR [] l = 20) := Lib.hid (by rw [hst.out, if_pos (by simp [hnm'])])
        clear hst hnm hnm' hfind
        go_wp2_with fail
        refine (hname.out _).mono ?_
        rintro e w' ⟨rfl, rfl⟩
        go_wp2_with fail
        go_ret
        exact ⟨by rw [hst'.out]; rfl, HB.out⟩
    · have hst : Hid (colsR [] l = 0) := Lib.hid (by rw [hz.out, List.drop_of_length_le (by rw [Hl.out]; omega)]; rfl)
      clear hz
      go_wp2_with fail
      go_ret
      exact ⟨by rw [hst.out]; rfl, hbl⟩

theorem columns_any (A : Option Addr) (c : Nat) (l : List C) (hl : l.length ≤ 9223372036854775807) (hc : l.length ≤ c) (w : World) (hA : CRow w w.heap.size A l) :
    Calls Try.prog 22 #[.slice A l.length c] w fun e w' => e = .returned (.int .i64 (colsE l)) ∧ Below w.heap.size w w' := by
  by_cases h0 : l.length = 0
  · have e0 : colsE l = 23 := by simp [colsE, h0]
    rw [e0, h0]
    clear hA h0 e0
    go_enter Try.func22, Try.ntmps22
    go_wp2
    go_ret
    exact ⟨rfl, Below.refl _ _⟩
  · by_cases h6 : 6 < l.length
    · have e0 : colsE l = 23 := by simp [colsE, h6]
      have hg : ((l.length : Int) == 0) = false := by simp; intro h; subst h; simp at h0
      rw [e0]
      clear hA h0 e0
      generalize l.length = n at *
      go_enter Try.func22, Try.ntmps22
      go_wp2
      go_ret
      exact ⟨rfl, Below.refl _ _⟩
    · have e0 : colsE l = colsR [] l := by unfold colsE; rw [if_neg]; simp [h0, h6]
      rw [e0]
      rcases hA with rfl | ⟨b, o, rfl, hb, hL⟩
      · exact absurd rfl h0
      · exact columns_full b o l.length c l rfl (by omega) hc (by omega) w hb hL

end Go.Proofs.Ytabhkfpglhfiiaa
