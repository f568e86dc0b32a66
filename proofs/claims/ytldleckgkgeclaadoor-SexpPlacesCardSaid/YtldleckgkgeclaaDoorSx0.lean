/-
  What package sexp's reader computes. No program in sight.
-/
import Derived.Test.YtldleckgkgeclaaDoorTM
import Derived.Lib.ParseIntB
import Derived.Lib.Bytealg
set_option linter.unusedVariables false
set_option linter.unusedSimpArgs false
namespace Go.Proofs.YtldleckgkgeclaaDoor
open Go.RowKit
def letP (c : UInt8) : Bool := decide (97 ≤ (c.toNat : Int)) && decide ((c.toNat : Int) ≤ 122)
def digP (c : UInt8) : Bool := decide (48 ≤ (c.toNat : Int)) && decide ((c.toNat : Int) ≤ 57)
/-- the sign at a place -/
def bt (s : ByteArray) (i : Nat) : UInt8 := if h : i < s.size then s[i] else 0
theorem bt_eq {s : ByteArray} {i : Nat} (h : i < s.size) : bt s i = s[i] := dif_pos h
/-- how far the signs of a kind go on -/
def runE (p : UInt8 → Bool) (s : ByteArray) (i : Nat) : Nat := if i < s.size then (if p (bt s i) then runE p s (i + 1) else i) else i
termination_by s.size - i
theorem runE_end {p : UInt8 → Bool} {s : ByteArray} {i : Nat} (h : ¬ i < s.size) : runE p s i = i := by rw [runE, if_neg h]
theorem runE_stop {p : UInt8 → Bool} {s : ByteArray} {i : Nat} (h : p (bt s i) = false) : runE p s i = i := by
  rw [runE]
  split
  · rw [h]; rfl
  · rfl
theorem runE_step {p : UInt8 → Bool} {s : ByteArray} {i : Nat} (h : i < s.size) (hp : p (bt s i) = true) : runE p s i = runE p s (i + 1) := by
  rw [runE, if_pos h, hp]
  rfl
theorem runE_ge {p : UInt8 → Bool} {s : ByteArray} : ∀ (n i : Nat), s.size - i = n → i ≤ runE p s i ∧ (i ≤ s.size → runE p s i ≤ s.size)
  | n, i, hn => by
    by_cases h : i < s.size
    · cases hp : p (bt s i)
      · rw [runE_stop hp]; exact ⟨Nat.le_refl _, fun h => h⟩
      · obtain ⟨m, rfl⟩ : ∃ m, n = m + 1 := ⟨n - 1, by omega⟩
        have := runE_ge (p := p) (s := s) m (i + 1) (by omega)
        rw [runE_step h hp]
        exact ⟨by omega, fun _ => this.2 (by omega)⟩
    · rw [runE_end h]; exact ⟨Nat.le_refl _, fun h => h⟩
theorem runE_lt {p : UInt8 → Bool} {s : ByteArray} {i : Nat} (h : i < s.size) (hp : p (bt s i) = true) : i < runE p s i := by
  rw [runE_step h hp]
  have := (runE_ge (p := p) (s := s) _ (i + 1) rfl).1
  omega
/-- where the digits of a number begin -/
def numFrom (s : ByteArray) (i : Nat) : Nat := if ((bt s i).toNat : Int) = 45 then i + 1 else i
/-- a number and where it ends -/
def numberE (s : ByteArray) (i : Nat) : Option (Int × Nat) :=
  if runE digP s (numFrom s i) = numFrom s i then none else
    match Lib.parseIntB 64 (s.extract i (runE digP s (numFrom s i))).data.toList with
    | .ok v => some (v, runE digP s (numFrom s i))
    | _ => none
def hexDigits : ByteArray := ⟨#[48, 49, 50, 51, 52, 53, 54, 55, 56, 57, 97, 98, 99, 100, 101, 102]⟩
def hexE (c : UInt8) : Int := Lib.indexByte hexDigits.data.toList c
def encB (b : UInt8) : Value := .int .u8 (b.toNat : Int)
def encL (l : List UInt8) : List Value := l.map encB
def escB (a b : Int) : UInt8 := UInt8.ofNat (IntKind.u8.wrap (bits .or .i64 (IntKind.i64.wrap (a * 16)) b)).toNat
theorem escB_enc (a b : Int) : encB (escB a b) = .int .u8 (IntKind.u8.wrap (bits .or .i64 (IntKind.i64.wrap (a * 16)) b)) := by
  unfold escB encB
  generalize bits .or .i64 (IntKind.i64.wrap (a * 16)) b = x
  have h : 0 ≤ IntKind.u8.wrap x ∧ IntKind.u8.wrap x < 256 := by
    unfold IntKind.wrap
    simp [IntKind.bits, IntKind.signed]
    omega
  congr 1
  rw [UInt8.toNat_ofNat']
  omega
/-- a text that begins at a place: its bytes, where it ends, why it is refused, and where -/
def textR (s : ByteArray) (p : Nat) (i : Nat) (l : List UInt8) : List UInt8 × Nat × Int × Int :=
  if i < s.size then
    (if ((bt s i).toNat : Int) = 34 then (if 40 < l.length then ([], 0, 3, p) else (l, i + 1, 0, 0))
     else if ((bt s i).toNat : Int) = 92 then
       (if i + 1 < s.size then
          (if hexE (bt s (i + 1)) < 0 then ([], 0, 12, i)
           else if i + 2 < s.size then
             (if hexE (bt s (i + 2)) < 0 then ([], 0, 12, i) else textR s p (i + 3) (l ++ [escB (hexE (bt s (i + 1))) (hexE (bt s (i + 2)))]))
           else ([], 0, 10, s.size))
        else ([], 0, 10, s.size))
     else if ((bt s i).toNat : Int) < 32 ∨ 126 < ((bt s i).toNat : Int) then ([], 0, 12, i)
     else textR s p (i + 1) (l ++ [bt s i]))
  else ([], 0, 10, s.size)
termination_by s.size - i
def textE (s : ByteArray) (p : Nat) : List UInt8 × Nat × Int × Int := textR s p (p + 1) []
/-- the step that a sign at i is -/
theorem textR_end {s : ByteArray} {p i : Nat} {l : List UInt8} (h : ¬ i < s.size) : textR s p i l = ([], 0, 10, (s.size : Int)) := by rw [textR, if_neg h]
theorem textR_quote {s : ByteArray} {p i : Nat} {l : List UInt8} (h : i < s.size) (h34 : ((bt s i).toNat : Int) = 34) : textR s p i l = if 40 < l.length then ([], 0, 3, (p : Int)) else (l, i + 1, 0, 0) := by
  rw [textR, if_pos h, if_pos h34]
theorem textR_bad {s : ByteArray} {p i : Nat} {l : List UInt8} (h : i < s.size) (h34 : ¬ ((bt s i).toNat : Int) = 34) (h92 : ¬ ((bt s i).toNat : Int) = 92) (hb : ((bt s i).toNat : Int) < 32 ∨ 126 < ((bt s i).toNat : Int)) : textR s p i l = ([], 0, 12, (i : Int)) := by
  rw [textR, if_pos h, if_neg h34, if_neg h92, if_pos hb]
theorem textR_sign {s : ByteArray} {p i : Nat} {l : List UInt8} (h : i < s.size) (h34 : ¬ ((bt s i).toNat : Int) = 34) (h92 : ¬ ((bt s i).toNat : Int) = 92) (hb : ¬ (((bt s i).toNat : Int) < 32 ∨ 126 < ((bt s i).toNat : Int))) : textR s p i l = textR s p (i + 1) (l ++ [bt s i]) := by
  rw [textR, if_pos h, if_neg h34, if_neg h92, if_neg hb]
theorem textR_esc {s : ByteArray} {p i : Nat} {l : List UInt8} (h : i < s.size) (h92 : ((bt s i).toNat : Int) = 92) : textR s p i l =
    (if i + 1 < s.size then
          (if hexE (bt s (i + 1)) < 0 then ([], 0, 12, (i : Int))
           else if i + 2 < s.size then
             (if hexE (bt s (i + 2)) < 0 then ([], 0, 12, (i : Int)) else textR s p (i + 3) (l ++ [escB (hexE (bt s (i + 1))) (hexE (bt s (i + 2)))]))
           else ([], 0, 10, (s.size : Int)))
        else ([], 0, 10, (s.size : Int))) := by
  rw [textR, if_pos h, if_neg (by omega), if_pos h92]
theorem textR_escStop {s : ByteArray} {p i m : Nat} {l : List UInt8} (h : i < s.size) (h92 : ((bt s i).toNat : Int) = 92) (hm : m = 1 ∨ m = 2) (hp : m = 2 → i + 1 < s.size ∧ ¬ hexE (bt s (i + 1)) < 0) :
    (¬ i + m < s.size → textR s p i l = ([], 0, 10, (s.size : Int))) ∧ (i + m < s.size → hexE (bt s (i + m)) < 0 → textR s p i l = ([], 0, 12, (i : Int))) := by
  rw [textR_esc h h92]
  rcases hm with rfl | rfl
  · exact ⟨fun h1 => by rw [if_neg h1], fun h1 h2 => by rw [if_pos h1, if_pos h2]⟩
  · obtain ⟨h1, h2⟩ := hp rfl
    exact ⟨fun h3 => by rw [if_pos h1, if_neg h2, if_neg h3], fun h3 h4 => by rw [if_pos h1, if_neg h2, if_pos h3, if_pos h4]⟩
theorem textR_escGo {s : ByteArray} {p i : Nat} {l : List UInt8} (h : i < s.size) (h92 : ((bt s i).toNat : Int) = 92) (h1 : i + 1 < s.size) (h2 : ¬ hexE (bt s (i + 1)) < 0) (h3 : i + 2 < s.size) (h4 : ¬ hexE (bt s (i + 2)) < 0) :
    textR s p i l = textR s p (i + 3) (l ++ [escB (hexE (bt s (i + 1))) (hexE (bt s (i + 2)))]) := by
  rw [textR_esc h h92, if_pos h1, if_neg h2, if_pos h3, if_neg h4]
theorem textR_ends (s : ByteArray) (p : Nat) : ∀ (n i : Nat) (l : List UInt8), s.size - i = n → i ≤ s.size → p ≤ s.size → p < i → l.length ≤ i →
    ((textR s p i l).2.2.1 = 0 → p < (textR s p i l).2.1 ∧ (textR s p i l).2.1 ≤ s.size) ∧ ((textR s p i l).2.2.1 ≠ 0 → 0 ≤ (textR s p i l).2.2.2 ∧ (textR s p i l).2.2.2 ≤ s.size) ∧ (textR s p i l).1.length ≤ 40 ∧ (textR s p i l).2.1 ≤ s.size := by
  intro n
  induction n using Nat.strongRecOn with
  | _ n ih =>
    intro i l hn hi hp hpi hl
    by_cases h : i < s.size
    · by_cases h34 : ((bt s i).toNat : Int) = 34
      · rw [textR_quote h h34]
        split
        · exact ⟨fun h => by simp at h, fun _ => ⟨by simp only; omega, by simp only; omega⟩, by simp, by simp⟩
        · exact ⟨fun _ => ⟨by simp only; omega, by simp only; omega⟩, fun h => by simp at h, by simp only; omega, by simp only; omega⟩
      · by_cases h92 : ((bt s i).toNat : Int) = 92
        · rw [textR_esc h h92]
          by_cases h1 : i + 1 < s.size
          · rw [if_pos h1]
            by_cases h2 : hexE (bt s (i + 1)) < 0
            · rw [if_pos h2]
              exact ⟨fun h => by simp at h, fun _ => ⟨by simp only; omega, by simp only; omega⟩, by simp, by simp⟩
            · rw [if_neg h2]
              by_cases h3 : i + 2 < s.size
              · rw [if_pos h3]
                by_cases h4 : hexE (bt s (i + 2)) < 0
                · rw [if_pos h4]
                  exact ⟨fun h => by simp at h, fun _ => ⟨by simp only; omega, by simp only; omega⟩, by simp, by simp⟩
                · rw [if_neg h4]
                  exact ih (s.size - (i + 3)) (by omega) (i + 3) _ rfl (by omega) hp (by omega) (by simp; omega)
              · rw [if_neg h3]
                exact ⟨fun h => by simp at h, fun _ => ⟨by simp only; omega, by simp only; omega⟩, by simp, by simp⟩
          · rw [if_neg h1]
            exact ⟨fun h => by simp at h, fun _ => ⟨by simp only; omega, by simp only; omega⟩, by simp, by simp⟩
        · by_cases hb : ((bt s i).toNat : Int) < 32 ∨ 126 < ((bt s i).toNat : Int)
          · rw [textR_bad h h34 h92 hb]
            exact ⟨fun h => by simp at h, fun _ => ⟨by simp only; omega, by simp only; omega⟩, by simp, by simp⟩
          · rw [textR_sign h h34 h92 hb]
            exact ih (s.size - (i + 1)) (by omega) (i + 1) _ rfl (by omega) hp (by omega) (by simp; omega)
    · rw [textR_end h]
      exact ⟨fun h => by simp at h, fun _ => ⟨by simp only; omega, by simp only; omega⟩, by simp, by simp⟩
/-- what begins at a place, an opening apart: it, where it ends, why it is refused, and where -/
def oneE (s : ByteArray) (i : Nat) (wh : Bool) : T × Int × Int × Int :=
  if wh && (letP (bt s i) || digP (bt s i) || decide (((bt s i).toNat : Int) = 45) || decide (((bt s i).toNat : Int) = 34)) then (.mk 0 ⟨#[]⟩ 0 [] i, i + 1, 11, i)
  else if letP (bt s i) then (.mk 2 (s.extract i (runE letP s i)) 0 [] i, runE letP s i, 0, 0)
  else if digP (bt s i) || decide (((bt s i).toNat : Int) = 45) then
    (match numberE s i with
      | some (n, e) => (.mk 3 ⟨#[]⟩ n [] i, e, 0, 0)
      | none => (.mk 3 ⟨#[]⟩ 0 [] i, -1, 12, i))
  else if ((bt s i).toNat : Int) = 34 then (.mk 4 ⟨(textE s i).1.toArray⟩ 0 [] i, (textE s i).2.1, (textE s i).2.2.1, (textE s i).2.2.2)
  else (.mk 0 ⟨#[]⟩ 0 [] i, i + 1, 12, i)
/-- a tree gets one kid more -/
def T.kid (p t : T) : T := .mk p.k p.s p.n (p.kids ++ [t]) p.at_
/-- a tree is put where it belongs -/
def addE (op dn : List T) (t : T) : List T × List T :=
  match op[op.length - 1]? with
  | some p => (op.set (op.length - 1) (p.kid t), dn)
  | none => (op, dn ++ [t])
def zeroT : T := .mk 0 ⟨#[]⟩ 0 [] 0
/-- what is read from a place on -/
def readE (s : ByteArray) (op dn : List T) (i : Nat) : T × Int × Int :=
  if h : i < s.size then
    (if ((bt s i).toNat : Int) = 32 ∨ ((bt s i).toNat : Int) = 10 then readE s op dn (i + 1)
     else if ((bt s i).toNat : Int) = 40 then
       (if 12 ≤ op.length then (zeroT, 14, i) else if 0 < dn.length then (zeroT, 11, i) else readE s (op ++ [.mk 1 ⟨#[]⟩ 0 [] i]) dn (i + 1))
     else if ((bt s i).toNat : Int) = 41 then
       (match op[op.length - 1]? with
         | some t => readE s (addE (op.take (op.length - 1)) dn t).1 (addE (op.take (op.length - 1)) dn t).2 (i + 1)
         | none => (zeroT, 12, i))
     else if (oneE s i (decide (0 < dn.length))).2.2.1 = 0 then
       (if hj : (i : Int) < (oneE s i (decide (0 < dn.length))).2.1 then
         readE s (addE op dn (oneE s i (decide (0 < dn.length))).1).1 (addE op dn (oneE s i (decide (0 < dn.length))).1).2 (oneE s i (decide (0 < dn.length))).2.1.toNat
        else (zeroT, 0, 0))
     else (zeroT, (oneE s i (decide (0 < dn.length))).2.2.1, (oneE s i (decide (0 < dn.length))).2.2.2))
  else if 0 < op.length then (zeroT, 10, s.size)
  else (match dn with
    | t :: _ => (t, 0, 0)
    | [] => (zeroT, 10, s.size))
termination_by s.size - i
decreasing_by all_goals omega
end Go.Proofs.YtldleckgkgeclaaDoor
