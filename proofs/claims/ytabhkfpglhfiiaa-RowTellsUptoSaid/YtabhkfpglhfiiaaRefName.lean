/-
  Package confluenceref5's Name.
-/
import Derived.Test.YtabhkfpglhfiiaaName
namespace Go.Proofs.Ytabhkfpglhfiiaa
open Go.RowKit
def wordsV : List Value := reservedL.map fun l => .string ⟨l.toArray⟩
theorem toList_mk (l : List UInt8) : (ByteArray.mk l.toArray).toList = l := by rw [ByteArray.toList_eq]
theorem words_at (k : Nat) (h : k < 23) : ∃ x : ByteArray, wordsV[k]? = some (.string x) ∧ reservedL[k]? = some x.toList := by
  have hl : reservedL.length = 23 := rfl
  have e : reservedL[k]? = some (reservedL[k]'(by omega)) := List.getElem?_eq_getElem (by omega)
  refine ⟨⟨(reservedL[k]'(by omega)).toArray⟩, ?_, ?_⟩
  · rw [wordsV, List.getElem?_map, e]; rfl
  · rw [toList_mk]; exact e
def resR (s : ByteArray) (l : List (List UInt8)) : Bool := l.any fun x => s.toList == x
theorem resR_step (s : ByteArray) (k : Nat) (x : List UInt8) (h : reservedL[k]? = some x) : resR s (reservedL.drop k) = ((s.toList == x) || resR s (reservedL.drop (k + 1))) := by
  have hlt := (List.getElem?_eq_some_iff.1 h).1
  have hx := (List.getElem?_eq_some_iff.1 h).2
  rw [List.drop_eq_getElem_cons hlt, hx]
  rfl
def refNameB (s : ByteArray) : Bool := if resB s then false else if lowL s.data.toList then (decide (1 ≤ (s.size : Int)) && decide ((s.size : Int) ≤ 12)) else false
theorem refNameB_eq (s : ByteArray) : refNameB s = nameB s := by
  have h1 : s.toList.isEmpty = !decide (1 ≤ (s.size : Int)) := by
    have : s.toList.length = s.size := by rw [ByteArray.toList_eq]; rfl
    cases h : s.toList with
    | nil => rw [h] at this; simp at this; simp [← this]
    | cons a l => rw [h] at this; simp at this; simp; omega
  unfold refNameB nameB
  rw [h1]
  cases resB s <;> cases lowL s.data.toList <;> simp
  by_cases h2 : s.size ≤ 12
  · have : (s.size : Int) ≤ 12 := by omega
    simp [h2, this]
  · have : ¬ (s.size : Int) ≤ 12 := by omega
    simp [h2, this]

set_option maxRecDepth 100000 in
set_option maxHeartbeats 4000000 in
theorem refName_any (s : ByteArray) (hs : s.size ≤ 9223372036854775807) (w : World) : Calls Try.prog 28 #[.string s] w fun e w' => e = .returned (.bool (nameB s)) ∧ Below w.heap.size w w' := by
  rw [← refNameB_eq]
  obtain ⟨W1, hW1⟩ : ∃ W1, W1 = w.alloc (.cells wordsV.toArray 9) := ⟨_, rfl⟩
  have HW : Hid (W1 = w.alloc (.cells wordsV.toArray 9)) := Lib.hid hW1
  have HB : Hid (Below w.heap.size w W1) := Lib.hid (by rw [hW1]; exact (Below.refl _ _).alloc (Nat.le_refl _) _)
  have hcell : Hid (∀ k x, wordsV[k]? = some x → W1.cell? ⟨w.heap.size, k, none⟩ = some x) := Lib.hid fun k x hx => by
    have hh : W1.heap[w.heap.size]? = some (.cells wordsV.toArray 9) := by rw [hW1]; exact heap_alloc_new w _
    simp only [World.cell?, hh]
    simpa using hx
  clear hW1
  go_enter Try.func28, Try.ntmps28
  go_wp2_with fail
  go_loopw [4] (fun i wr => ∃ k : Nat, k ≤ 23 ∧ i = .int .i64 k ∧ wr = W1 ∧ Hid (resB s = resR s (reservedL.drop k))) (fun i _ => 23 - (intOf i).toNat)
  case atStart => exact ⟨0, Nat.zero_le _, rfl, by rw [HW.out]; rfl, rfl⟩
  case round =>
    obtain ⟨k, hk, rfl, rfl, hz⟩ := hrel
    by_cases hlt : k < 23
    · obtain ⟨x, hx1, hx2⟩ := words_at k hlt
      have hc := hcell.out k _ hx1
      have hi0 : (0 : Int) ≤ (k : Int) := by omega
      have hi1 : (k : Int) < 23 := by omega
      have hst : Hid (resB s = ((s.toList == x.toList) || resR s (reservedL.drop (k + 1)))) := Lib.hid (by rw [hz.out, resR_step s k _ hx2])
      clear hz hx1 hx2
      by_cases he : (x.toList == s.toList) = true
      · have he2 : (s.toList == x.toList) = true := by
          have : x.toList = s.toList := by simpa using he
          simp [this]
        have hf : Hid (refNameB s = false) := Lib.hid (by unfold refNameB; rw [hst.out, he2]; rfl)
        clear hst he2
        go_wp2_with fail
        go_ret
        exact ⟨by rw [hf.out]; rfl, HB.out⟩
      · have he' : (x.toList == s.toList) = false := by simpa using he
        have he2 : (s.toList == x.toList) = false := by
          cases h : (s.toList == x.toList)
          · rfl
          · have : s.toList = x.toList := by simpa using h
            rw [this] at he'
            simp at he'
        have hst2 : Hid (resB s = resR s (reservedL.drop (k + 1))) := Lib.hid (by rw [hst.out, he2, Bool.false_or])
        clear hst he2 he
        go_wp2_with fail
        go_roundw
        case rel => exact ⟨k + 1, by omega, by go_num, trivial, hst2⟩
        case measure => simp [intOf]; omega
    · have hr : Hid (resB s = false) := Lib.hid (by rw [hz.out, List.drop_of_length_le (by show 23 ≤ k; omega)]; rfl)
      clear hz
      go_wp2_with fail
      go_loop [5] (fun i => ∃ k : Nat, k ≤ s.size ∧ i = .int .i64 k ∧ Hid (lowL s.data.toList = lowL (s.data.toList.drop k))) (fun i => s.size - (intOf i).toNat)
      case atStart => exact ⟨0, Nat.zero_le _, rfl, rfl⟩
      case round =>
        obtain ⟨k, hk, rfl, hz⟩ := hrel
        by_cases hlt : k < s.size
        · have hst := Lib.hid (hz.out.trans (lowL_step s k hlt))
          clear hz
          by_cases a1 : 97 ≤ (s[k].toNat : Int)
          · by_cases a2 : (s[k].toNat : Int) ≤ 122
            · rw [decide_eq_true a1, decide_eq_true a2] at hst
              have hst' : Hid (lowL s.data.toList = lowL (s.data.toList.drop (k + 1))) := by
                have := hst.out; rwa [Bool.and_self, Bool.true_and] at this
              clear hst
              go_wp2_with fail
              go_round
              case rel => exact ⟨k + 1, by omega, by go_num, hst'⟩
              case measure => simp [intOf]; omega
            · have hst' : Hid (refNameB s = false) := by
                have := hst.out
                rw [decide_eq_false a2, Bool.and_false, Bool.false_and] at this
                exact Lib.hid (by unfold refNameB; rw [hr.out, this]; rfl)
              clear hst
              go_wp2_with fail
              go_ret
              exact ⟨by rw [hst'.out]; rfl, HB.out⟩
          · have hst' : Hid (refNameB s = false) := by
              have := hst.out
              rw [decide_eq_false a1, Bool.false_and, Bool.false_and] at this
              exact Lib.hid (by unfold refNameB; rw [hr.out, this]; rfl)
            clear hst
            go_wp2_with fail
            go_ret
            exact ⟨by rw [hst'.out]; rfl, HB.out⟩
        · have e : k = s.size := by omega
          subst e
          have hf : Hid (refNameB s = (decide (1 ≤ (s.size : Int)) && decide ((s.size : Int) ≤ 12))) := Lib.hid (by
            have := hz.out
            rw [List.drop_of_length_le (by simp)] at this
            unfold refNameB
            rw [hr.out, this]
            rfl)
          clear hz
          by_cases h1 : 1 ≤ (s.size : Int)
          · have d1 : decide (1 ≤ (s.size : Int)) = true := decide_eq_true h1
            rw [d1, Bool.true_and] at hf
            go_wp2_with fail
            go_ret
            exact ⟨by rw [hf.out]; rfl, HB.out⟩
          · have d1 : decide (1 ≤ (s.size : Int)) = false := decide_eq_false h1
            rw [d1, Bool.false_and] at hf
            go_wp2_with fail
            go_ret
            exact ⟨by rw [hf.out]; rfl, HB.out⟩
end Go.Proofs.Ytabhkfpglhfiiaa
