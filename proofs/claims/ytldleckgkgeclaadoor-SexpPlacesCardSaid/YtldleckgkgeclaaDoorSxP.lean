/-
  What package sexp's reader computes, step by step; what begins at a place ends behind it. No program in sight.
-/
import Derived.Test.YtldleckgkgeclaaDoorSx0
set_option linter.unusedVariables false
set_option linter.unusedSimpArgs false
namespace Go.Proofs.YtldleckgkgeclaaDoor
open Go.RowKit
theorem numberE_end {s : ByteArray} {i : Nat} {n : Int} {e : Nat} (hi : i < s.size) (h : numberE s i = some (n, e)) : i < e ∧ e ≤ s.size := by
  unfold numberE at h
  have hf : i ≤ numFrom s i ∧ numFrom s i ≤ s.size := by unfold numFrom; split <;> omega
  have hr := runE_ge (p := digP) (s := s) _ (numFrom s i) rfl
  split at h
  · cases h
  · rename_i hne
    split at h
    · injection h with h
      injection h with _ h
      subst h
      exact ⟨by omega, hr.2 hf.2⟩
    · cases h
theorem oneE_end {s : ByteArray} {i : Nat} (wh : Bool) (hi : i < s.size) : (oneE s i wh).1.kids = [] ∧ ((oneE s i wh).2.2.1 = 0 → (i : Int) < (oneE s i wh).2.1 ∧ (oneE s i wh).2.1 ≤ s.size ∧ wh = false) ∧ ((oneE s i wh).2.2.1 ≠ 0 → 0 ≤ (oneE s i wh).2.2.2 ∧ (oneE s i wh).2.2.2 ≤ s.size) := by
  unfold oneE
  split
  · exact ⟨rfl, fun h => by simp at h, fun _ => ⟨by simp only; omega, by simp only; omega⟩⟩
  · rename_i hw
    have hwh : letP (bt s i) = true ∨ digP (bt s i) = true ∨ ((bt s i).toNat : Int) = 45 ∨ ((bt s i).toNat : Int) = 34 → wh = false := fun h => by
      cases wh
      · rfl
      · exact absurd (by simp; rcases h with h | h | h | h <;> simp [h]) hw
    split
    · rename_i hl
      have hr := runE_ge (p := letP) (s := s) _ i rfl
      have hlt := runE_lt hi hl
      exact ⟨rfl, fun _ => ⟨by simp only; omega, by have := hr.2 (by omega); simp only; omega, hwh (.inl hl)⟩, fun h => by simp at h⟩
    · split
      · rename_i hd
        have hdd : wh = false := hwh (by
          simp only [Bool.or_eq_true, decide_eq_true_eq] at hd
          rcases hd with h | h
          · exact .inr (.inl h)
          · exact .inr (.inr (.inl h)))
        cases hq : numberE s i with
        | none => exact ⟨rfl, fun h => by simp at h, fun _ => ⟨by simp only; omega, by simp only; omega⟩⟩
        | some ne =>
          obtain ⟨n, e⟩ := ne
          have := numberE_end hi hq
          exact ⟨rfl, fun _ => ⟨by simp only; omega, by simp only; omega, hdd⟩, fun h => by simp at h⟩
      · split
        · rename_i h34
          have ht := textR_ends s i _ (i + 1) [] rfl (by omega) (by omega) (by omega) (by simp)
          exact ⟨rfl, fun h => ⟨by have := (ht.1 h).1; simp only [textE]; omega, by have := (ht.1 h).2; simp only [textE]; omega, hwh (.inr (.inr (.inr h34)))⟩, fun h => ht.2.1 h⟩
        · exact ⟨rfl, fun h => by simp at h, fun _ => ⟨by simp only; omega, by simp only; omega⟩⟩
section
variable {s : ByteArray} {op dn : List T} {i : Nat}
theorem readE_blank (h : i < s.size) (hb : ((bt s i).toNat : Int) = 32 ∨ ((bt s i).toNat : Int) = 10) : readE s op dn i = readE s op dn (i + 1) := by
  rw [readE.eq_def, dif_pos h, if_pos hb]
theorem readE_open (h : i < s.size) (hc : ((bt s i).toNat : Int) = 40) : readE s op dn i = if 12 ≤ op.length then (zeroT, 14, (i : Int)) else if 0 < dn.length then (zeroT, 11, (i : Int)) else readE s (op ++ [.mk 1 ⟨#[]⟩ 0 [] i]) dn (i + 1) := by
  rw [readE.eq_def, dif_pos h, if_neg (by omega), if_pos hc]
theorem readE_close0 (h : i < s.size) (hc : ((bt s i).toNat : Int) = 41) (hop : op.length = 0) : readE s op dn i = (zeroT, 12, (i : Int)) := by
  rw [readE.eq_def, dif_pos h, if_neg (by omega), if_neg (by omega), if_pos hc]
  have e0 : op = [] := List.eq_nil_of_length_eq_zero hop
  subst e0
  rfl
theorem readE_close {m : Nat} {t : T} (h : i < s.size) (hc : ((bt s i).toNat : Int) = 41) (hm : op.length = m + 1) (ht : op[m]? = some t) : readE s op dn i = readE s (addE (op.take m) dn t).1 (addE (op.take m) dn t).2 (i + 1) := by
  rw [readE.eq_def, dif_pos h, if_neg (by omega), if_neg (by omega), if_pos hc, hm, Nat.add_sub_cancel, ht]
theorem readE_bad (h : i < s.size) (h32 : ¬ ((bt s i).toNat : Int) = 32) (h10 : ¬ ((bt s i).toNat : Int) = 10) (h40 : ¬ ((bt s i).toNat : Int) = 40) (h41 : ¬ ((bt s i).toNat : Int) = 41) (hw : ¬ (oneE s i (decide (0 < dn.length))).2.2.1 = 0) :
    readE s op dn i = (zeroT, (oneE s i (decide (0 < dn.length))).2.2.1, (oneE s i (decide (0 < dn.length))).2.2.2) := by
  rw [readE.eq_def, dif_pos h, if_neg (by omega), if_neg h40, if_neg h41, if_neg hw]
theorem readE_leaf (h : i < s.size) (h32 : ¬ ((bt s i).toNat : Int) = 32) (h10 : ¬ ((bt s i).toNat : Int) = 10) (h40 : ¬ ((bt s i).toNat : Int) = 40) (h41 : ¬ ((bt s i).toNat : Int) = 41) (hw : (oneE s i (decide (0 < dn.length))).2.2.1 = 0) :
    readE s op dn i = readE s (addE op dn (oneE s i (decide (0 < dn.length))).1).1 (addE op dn (oneE s i (decide (0 < dn.length))).1).2 (oneE s i (decide (0 < dn.length))).2.1.toNat := by
  rw [readE.eq_def, dif_pos h, if_neg (by omega), if_neg h40, if_neg h41, if_pos hw, dif_pos ((oneE_end _ h).2.1 hw).1]
theorem readE_end (h : ¬ i < s.size) : readE s op dn i = if 0 < op.length then (zeroT, (10 : Int), (s.size : Int)) else match dn with
    | t :: _ => (t, (0 : Int), (0 : Int))
    | [] => (zeroT, (10 : Int), (s.size : Int)) := by
  rw [readE.eq_def, dif_neg h]
  cases dn <;> rfl
end
end Go.Proofs.YtldleckgkgeclaaDoor
