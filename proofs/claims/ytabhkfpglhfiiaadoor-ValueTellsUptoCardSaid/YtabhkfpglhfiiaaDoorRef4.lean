/-
  Package confluenceref4's Right, Less and Put: the same values as value's.
-/
import Derived.Test.YtabhkfpglhfiiaaDoorLess
import Derived.Test.YtabhkfpglhfiiaaDoorRef1b
import Derived.Test.YtabhkfpglhfiiaaDoorPut
namespace Go.Proofs.YtabhkfpglhfiiaaDoor
open Go.RowKit
set_option maxHeartbeats 400000 in
theorem ref4_right (k n : Int) (s : ByteArray) (w : World) :
    Calls Tryd.prog 21 #[.agg #[.int .i64 k, .int .i64 n, .string s]] w fun e w' =>
      e = .returned (.bool (V.okB ⟨k, n, s⟩)) ∧ w.alloc (.cells #[.int .i64 k, .int .i64 n, .string s] 24) = w' := by
  by_cases h1 : (k == 1) = true
  · have h12 : (k == 2) = false := by simp at h1 ⊢; omega
    by_cases he : s.toList = []
    · have hr : V.okB ⟨k, n, s⟩ = true := by simp [V.okB, h1, he]
      have he2 : s.toList.isEmpty = true := by rw [he]; rfl
      rw [hr]
      clear hr
      go_enter Tryd.func21, Tryd.ntmps21
      go_wp2
      go_ret
      exact ⟨rfl, rfl⟩
    · have he2 : s.toList.isEmpty = false := by simpa using he
      have hr : V.okB ⟨k, n, s⟩ = false := by simp [V.okB, h12, he]
      rw [hr]
      clear hr he
      go_enter Tryd.func21, Tryd.ntmps21
      go_wp2
      go_ret
      exact ⟨rfl, rfl⟩
  · have h1' : (k == 1) = false := by simpa using h1
    clear h1
    by_cases h2 : (k == 2) = true
    · by_cases h3 : n = 0
      · subst h3
        have hr : V.okB ⟨k, 0, s⟩ = decide ((s.size : Int) ≤ 40) := by simp [V.okB, h1', h2]
        rw [hr]
        clear hr
        go_enter Tryd.func21, Tryd.ntmps21
        go_wp2
        go_ret
        exact ⟨rfl, rfl⟩
      · have hr : V.okB ⟨k, n, s⟩ = false := by simp [V.okB, h1', h3]
        have h3' : (n == 0) = false := by simpa using h3
        rw [hr]
        clear hr h3
        go_enter Tryd.func21, Tryd.ntmps21
        go_wp2
        go_ret
        exact ⟨rfl, rfl⟩
    · have h2' : (k == 2) = false := by simpa using h2
      clear h2
      have hr : V.okB ⟨k, n, s⟩ = false := by simp [V.okB, h1', h2']
      rw [hr]
      clear hr
      go_enter Tryd.func21, Tryd.ntmps21
      go_wp2
      go_ret
      exact ⟨rfl, rfl⟩
set_option maxHeartbeats 400000 in
theorem ref4_less (k n : Int) (s : ByteArray) (k2 n2 : Int) (s2 : ByteArray) (w : World) :
    Calls Tryd.prog 22 #[.agg #[.int .i64 k, .int .i64 n, .string s], .agg #[.int .i64 k2, .int .i64 n2, .string s2]] w fun e w' =>
      e = .returned (.bool (V.lt ⟨k, n, s⟩ ⟨k2, n2, s2⟩)) ∧ Below w.heap.size w w' := by
  have hr1 := Lib.hid (ref4_right k n s)
  have hr2 := Lib.hid (ref4_right k2 n2 s2)
  unfold V.lt
  generalize V.okB ⟨k, n, s⟩ = q at *
  generalize V.okB ⟨k2, n2, s2⟩ = q2 at *
  cases q
  · rw [Bool.false_and, Bool.false_and]
    clear hr2
    go_enter Tryd.func22, Tryd.ntmps22
    go_wp2_with fail
    refine (hr1.out _).mono ?_
    rintro e w' ⟨rfl, rfl⟩
    go_wp2_with fail
    go_ret
    exact ⟨rfl, by repeat (first | exact Below.refl _ _ | refine Below.alloc ?_ (by simp <;> omega) _)⟩
  · cases q2
    · rw [Bool.and_false, Bool.false_and]
      go_enter Tryd.func22, Tryd.ntmps22
      go_wp2_with fail
      refine (hr1.out _).mono ?_
      rintro e w' ⟨rfl, rfl⟩
      go_wp2_with fail
      refine (hr2.out _).mono ?_
      rintro e w' ⟨rfl, rfl⟩
      go_wp2_with fail
      go_ret
      exact ⟨rfl, by repeat (first | exact Below.refl _ _ | refine Below.alloc ?_ (by simp <;> omega) _)⟩
    · rw [Bool.and_self, Bool.true_and]
      by_cases h1 : (k != k2) = true
      · have e0 : V.ltIn ⟨k, n, s⟩ ⟨k2, n2, s2⟩ = (k == 1) := if_pos h1
        rw [e0]
        clear e0
        go_enter Tryd.func22, Tryd.ntmps22
        go_wp2_with fail
        refine (hr1.out _).mono ?_
        rintro e w' ⟨rfl, rfl⟩
        go_wp2_with fail
        refine (hr2.out _).mono ?_
        rintro e w' ⟨rfl, rfl⟩
        go_wp2_with fail
        go_ret
        exact ⟨rfl, by repeat (first | exact Below.refl _ _ | refine Below.alloc ?_ (by simp <;> omega) _)⟩
      · have h1' : (k != k2) = false := by simpa using h1
        by_cases h2 : (k == 1) = true
        · have e0 : V.ltIn ⟨k, n, s⟩ ⟨k2, n2, s2⟩ = decide (n < n2) := (if_neg h1).trans (if_pos h2)
          rw [e0]
          clear e0 h1
          go_enter Tryd.func22, Tryd.ntmps22
          go_wp2_with fail
          refine (hr1.out _).mono ?_
          rintro e w' ⟨rfl, rfl⟩
          go_wp2_with fail
          refine (hr2.out _).mono ?_
          rintro e w' ⟨rfl, rfl⟩
          go_wp2_with fail
          go_ret
          exact ⟨rfl, by repeat (first | exact Below.refl _ _ | refine Below.alloc ?_ (by simp <;> omega) _)⟩
        · have h2' : (k == 1) = false := by simpa using h2
          have e0 : V.ltIn ⟨k, n, s⟩ ⟨k2, n2, s2⟩ = Op.bytesLess s.toList s2.toList := (if_neg h1).trans (if_neg h2)
          rw [e0]
          clear e0 h1 h2
          go_enter Tryd.func22, Tryd.ntmps22
          go_wp2_with fail
          refine (hr1.out _).mono ?_
          rintro e w' ⟨rfl, rfl⟩
          go_wp2_with fail
          refine (hr2.out _).mono ?_
          rintro e w' ⟨rfl, rfl⟩
          go_wp2_with fail
          go_ret
          exact ⟨rfl, by repeat (first | exact Below.refl _ _ | refine Below.alloc ?_ (by simp <;> omega) _)⟩

set_option maxRecDepth 100000 in
theorem ref4_Put (A : Option Addr) (c : Nat) (l : List UInt8) (x : V) (hl : l.length ≤ 137438953472) (hsz : x.s.size ≤ 137438953472) (w : World) (h : BR w A l) :
    Calls Tryd.prog 18 #[.slice A l.length c, x.val] w fun e w' => ∃ v, e = .returned v ∧ OwnB w.heap.size w' v (l ++ vB x) ∧ Below w.heap.size w w' := by
  obtain ⟨k, n, s⟩ := x
  have hsz : s.size ≤ 137438953472 := hsz
  have ha : Below w.heap.size w (w.alloc (.cells #[.int .i64 k, .int .i64 n, .string s] 24)) := (Below.refl _ _).alloc (Nat.le_refl _) _
  have hp := Lib.hid (ref1_Byte A c l k (by omega) _ (h.kept ha))
  have HA := Lib.hid ha
  clear h ha
  show Calls _ _ #[.slice A l.length c, .agg #[.int .i64 k, .int .i64 n, .string s]] _ _
  go_enter Tryd.func18, Tryd.ntmps18
  go_wp2_with fail
  refine hp.out.mono ?_
  rintro e w1 ⟨v1, rfl, hown, hb⟩
  obtain ⟨A1, c1, rfl, _, hr1, hlt1⟩ := OwnB.slice hown
  have hl1 : (l ++ leI k 1).length ≤ 274877906944 := by rw [List.length_append, leI_len]; omega
  have d0 : w1.cell? ⟨w.heap.size, 0, none⟩ = some (.int .i64 k) := by rw [hb.cell (by simp)]; simp
  have d1 : w1.cell? ⟨w.heap.size, 1, none⟩ = some (.int .i64 n) := by rw [hb.cell (by simp)]; simp
  have d2 : w1.cell? ⟨w.heap.size, 2, none⟩ = some (.string s) := by rw [hb.cell (by simp)]; simp
  obtain ⟨l1, el⟩ : ∃ l1, l1 = l ++ leI k 1 := ⟨_, rfl⟩
  rw [← el] at hl1 hr1 ⊢
  have Hl := Lib.hid el
  have HR1 := Lib.hid hr1
  have HB := Lib.hid (HA.out.trans (hb.mono (by simp)))
  clear hown hb hp hr1 hlt1 HA el
  by_cases hk : (k == 1) = true
  · have hq := Lib.hid (ref1_Long A1 c1 l1 n (by omega) w1 HR1.out)
    have hv : Hid (l1 ++ leI n 8 = l ++ vB ⟨k, n, s⟩) := Lib.hid (by rw [Hl.out, List.append_assoc]; simp [vB, hk])
    go_wp2_with fail
    refine hq.out.mono ?_
    rintro e w2 ⟨v2, rfl, hown2, hb2⟩
    rw [hv.out] at hown2
    have HO2 := Lib.hid (own_up hown2 fun q hq => Nat.le_trans HB.out.size (hown2.lt q hq).1)
    have HB2 := Lib.hid (HB.out.trans (hb2.mono HB.out.size))
    clear hown2 hb2 hq hv
    obtain ⟨A2, n2, c2, rfl⟩ := OwnB.form HO2.out
    go_wp2
    go_ret
    exact ⟨_, rfl, HO2.out, HB2.out⟩
  · have hk' : (k == 1) = false := by simpa using hk
    have hq := Lib.hid (ref1_Text A1 c1 l1 s hl1 (by omega) w1 HR1.out)
    have hv : Hid (l1 ++ textB s = l ++ vB ⟨k, n, s⟩) := Lib.hid (by rw [Hl.out, List.append_assoc]; simp [vB, hk'])
    clear hk
    go_wp2_with fail
    refine hq.out.mono ?_
    rintro e w2 ⟨v2, rfl, hown2, hb2⟩
    rw [hv.out] at hown2
    have HO2 := Lib.hid (own_up hown2 fun q hq => Nat.le_trans HB.out.size (hown2.lt q hq).1)
    have HB2 := Lib.hid (HB.out.trans (hb2.mono HB.out.size))
    clear hown2 hb2 hq hv
    obtain ⟨A2, n2, c2, rfl⟩ := OwnB.form HO2.out
    go_wp2
    go_ret
    exact ⟨_, rfl, HO2.out, HB2.out⟩
end Go.Proofs.YtabhkfpglhfiiaaDoor
