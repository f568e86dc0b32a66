/-
  Values, rows and columns as they lie in memory; what stays of them while the world grows. No program in sight.
-/
import Derived.WalkKit
import Derived.WalkSpells
import Derived.Lib.Hide
import Derived.Deep.Draws
import Derived.RegionTactic
import Derived.Test.YtjhkihkiebnpaaaGreatDoorRows
import Derived.WalkLawsBesides
import Derived.Deep.QuietTactic
import Derived.BigQuiet
import Derived.Deep.RegionHeld3
import Derived.Deep.AppendLies
import Derived.ChangeAlike
import Derived.Deep.DeepCutAuto
set_option linter.unusedVariables false
set_option linter.unusedSimpArgs false
namespace Go.Proofs.YtjhkihkiebnpaaaGreatDoor
open Go.RowKit

/-- a value: kind, number, text -/
structure V where
  k : Int
  n : Int
  s : ByteArray
/-- a column: name, kind -/
structure C where
  nm : ByteArray
  k : Int

def V.val (v : V) : Value := .agg #[.int .i64 v.k, .int .i64 v.n, .string v.s]
def V.okB (v : V) : Bool := (v.k == 1 && v.s.toList.isEmpty) || (v.k == 2 && (v.n == 0 && decide ((v.s.size : Int) ≤ 40)))

/-- the values l lie at block b from off on -/
def VAt (w : World) (b off : Nat) (l : List V) : Prop := ∀ i v, l[i]? = some v →
  w.cell? ⟨b, off + i * 3, none⟩ = some (.int .i64 v.k) ∧ w.cell? ⟨b, off + i * 3 + 1, none⟩ = some (.int .i64 v.n) ∧ w.cell? ⟨b, off + i * 3 + 2, none⟩ = some (.string v.s)
def CAt (w : World) (b off : Nat) (l : List C) : Prop := ∀ i c, l[i]? = some c →
  w.cell? ⟨b, off + i * 2, none⟩ = some (.string c.nm) ∧ w.cell? ⟨b, off + i * 2 + 1, none⟩ = some (.int .i64 c.k)
/-- a slice at address A holds the values l, below block B -/
def VRow (w : World) (B : Nat) (A : Option Addr) (l : List V) : Prop := l = [] ∨ ∃ b off, A = some ⟨b, off, none⟩ ∧ b < B ∧ VAt w b off l
def CRow (w : World) (B : Nat) (A : Option Addr) (l : List C) : Prop := l = [] ∨ ∃ b off, A = some ⟨b, off, none⟩ ∧ b < B ∧ CAt w b off l

section
variable {w w' : World} {B B' b off : Nat} {A : Option Addr} {l : List V} {m : List C}
theorem VAt.below (h : VAt w b off l) (hb : Below B w w') (hB : b < B) : VAt w' b off l := fun i v hv => by
  obtain ⟨h1, h2, h3⟩ := h i v hv
  exact ⟨(hb.cell hB).trans h1, (hb.cell hB).trans h2, (hb.cell hB).trans h3⟩
theorem CAt.below (h : CAt w b off m) (hb : Below B w w') (hB : b < B) : CAt w' b off m := fun i v hv => by
  obtain ⟨h1, h2⟩ := h i v hv
  exact ⟨(hb.cell hB).trans h1, (hb.cell hB).trans h2⟩
theorem VRow.below (h : VRow w B A l) (hb : Below B w w') : VRow w' B A l := by
  rcases h with h | ⟨b, off, hA, hB, h⟩
  · exact .inl h
  · exact .inr ⟨b, off, hA, hB, h.below hb hB⟩
theorem CRow.below (h : CRow w B A m) (hb : Below B w w') : CRow w' B A m := by
  rcases h with h | ⟨b, off, hA, hB, h⟩
  · exact .inl h
  · exact .inr ⟨b, off, hA, hB, h.below hb hB⟩
theorem VRow.more (h : VRow w B A l) (hB : B ≤ B') : VRow w B' A l := by
  rcases h with h | ⟨b, off, hA, hb, h⟩
  · exact .inl h
  · exact .inr ⟨b, off, hA, by omega, h⟩
theorem CRow.more (h : CRow w B A m) (hB : B ≤ B') : CRow w B' A m := by
  rcases h with h | ⟨b, off, hA, hb, h⟩
  · exact .inl h
  · exact .inr ⟨b, off, hA, by omega, h⟩
end
theorem below_drewN {B : Nat} {a w : World} (h : Below B a w) (n : Nat) : Below B a (w.drewN n) := ⟨h.os, h.tape, h.output, h.size, h.block⟩

section
variable {P : Program} {md : Region.Mode} {ops : Array Oper} {Q : Exit → Act → World → Prop}
/-- one operation of a region that draws its order, where it alone may come up -/
theorem wpAny_one {i fuel : Nat} {o : Oper} {listed : Array Bool} {a : Act} {w : World} (hr : Region.ready md ops listed = [i]) (hi : ops[i]? = some o)
    (h : ∀ K' : Act → World → Prop, (∀ a w, wpAny P md ops Q fuel (listed.setIfInBounds i true) a w → K' a w) → if Region.wanted o (yielded ops a.tmps) = true then Oper.wp P o a w K' Q else K' (a.put o.dst undef) w) :
    wpAny P md ops Q (fuel + 1) listed a w := wpAny_ready hr (by simp) (AllReady.cons hi h AllReady.nil)
/-- an operation whose guard says no, passed over -/
theorem wpAny_skip {i fuel : Nat} {o : Oper} {listed : Array Bool} {a : Act} {w : World} (hi : ops[i]? = some o)
    (hs : Region.noSelect ops = true) (hf : Region.free md ops listed i = true) (hr : (Region.ready md ops listed).contains i = true)
    (hQ : ∀ c a w, Q (.panic c) (a.put o.dst undef) w → Q (.panic c) a w) (hw : Region.wanted o (yielded ops a.tmps) = false)
    (h : wpAny P md ops Q fuel (listed.setIfInBounds i true) (a.put o.dst undef) w) : wpAny P md ops Q (fuel + 1) listed a w :=
  wpAny_take hi hs hf hr hQ (Or.inr ⟨hw, rfl⟩) h
end

/-! ### rows that the call itself has made -/
def V.cs (v : V) : List Value := [.int .i64 v.k, .int .i64 v.n, .string v.s]
def flat (l : List V) : List Value := l.flatMap V.cs
theorem flat_len (l : List V) : (flat l).length = l.length * 3 := by
  induction l with
  | nil => rfl
  | cons v l ih => show ((V.cs v) ++ flat l).length = _; simp [ih, V.cs]; omega
theorem flat_get (l : List V) : ∀ (i : Nat) (v : V), l[i]? = some v → (flat l)[i * 3]? = some (.int .i64 v.k) ∧ (flat l)[i * 3 + 1]? = some (.int .i64 v.n) ∧ (flat l)[i * 3 + 2]? = some (.string v.s) := by
  induction l with
  | nil => intro i v h; simp at h
  | cons x l ih =>
    intro i v h
    have e : flat (x :: l) = V.cs x ++ flat l := rfl
    rw [e]
    cases i with
    | zero =>
      obtain rfl : x = v := by simpa using h
      exact ⟨rfl, rfl, rfl⟩
    | succ i =>
      have := ih i v (by simpa using h)
      have hl : (V.cs x).length = 3 := rfl
      rw [List.getElem?_append_right (by omega), List.getElem?_append_right (by omega), List.getElem?_append_right (by omega), hl]
      rw [show (i + 1) * 3 - 3 = i * 3 from by omega, show (i + 1) * 3 + 1 - 3 = i * 3 + 1 from by omega, show (i + 1) * 3 + 2 - 3 = i * 3 + 2 from by omega]
      exact this
theorem flat_one (v : V) : flat [v] = V.cs v := by simp [flat]
theorem flat_append (a b : List V) : flat (a ++ b) = flat a ++ flat b := by simp [flat]
theorem flat_snoc {l : List V} {k : Nat} {v : V} (h : l[k]? = some v) : flat (l.take (k + 1)) = flat (l.take k) ++ V.cs v := by
  obtain ⟨h1, e1⟩ := List.getElem?_eq_some_iff.1 h
  rw [List.take_succ_eq_append_getElem h1, flat_append, flat_one, e1]
theorem flat_ones (l : List V) : ∀ u ∈ flat l, u.oneCell' = true := by
  intro u hu
  obtain ⟨v, _, hv⟩ := List.mem_flatMap.1 hu
  simp only [V.cs, List.mem_cons, List.not_mem_nil, or_false] at hv
  rcases hv with rfl | rfl | rfl <;> rfl

/-- what is owned is a row -/
theorem own_row {w : World} {base : Nat} {e : TypeId} {v : Value} {l : List V} (h : w.ownsRow base e 3 v l.length (flat l)) :
    ∃ A c, v = .slice A l.length c ∧ l.length ≤ c ∧ VRow w w.heap.size A l ∧ (∀ b o, A = some ⟨b, o, none⟩ → base ≤ b) := by
  obtain ⟨_, hcase⟩ := id h
  rcases hcase with ⟨rfl, h0⟩ | ⟨g, cap, cur, rfl, hg, hh, hn, hcap, hsz, htake⟩
  · have e0 : l = [] := List.eq_nil_of_length_eq_zero h0
    exact ⟨none, 0, by rw [h0], by omega, .inl e0, fun b o hb => by cases hb⟩
  · refine ⟨some ⟨g, 0, none⟩, cap, rfl, hn, .inr ⟨g, 0, rfl, ?_, ?_⟩, ?_⟩
    · rcases Nat.lt_or_ge g w.heap.size with hlt | hge
      · exact hlt
      · rw [Array.getElem?_eq_none hge] at hh; cases hh
    · intro i x hx
      obtain ⟨f1, f2, f3⟩ := flat_get l i x hx
      have hi : i < l.length := (List.getElem?_eq_some_iff.1 hx).1
      rw [Nat.zero_add, h.cellAt _ (by omega), h.cellAt _ (by omega), h.cellAt _ (by omega)]
      exact ⟨f1, f2, f3⟩
    · intro b o hb
      injection hb with hb
      injection hb with hb _
      omega
end Go.Proofs.YtjhkihkiebnpaaaGreatDoor
/-
  Package value's contracts.
-/
namespace Go.Proofs.YtjhkihkiebnpaaaGreatDoor
open Go.RowKit

set_option maxHeartbeats 400000 in
theorem value_right (k n : Int) (s : ByteArray) (w : World) :
    Calls Tryz.prog 111 #[.agg #[.int .i64 k, .int .i64 n, .string s]] w fun e w' =>
      e = .returned (.bool (V.okB ⟨k, n, s⟩)) ∧ w.alloc (.cells #[.int .i64 k, .int .i64 n, .string s] 114) = w' := by
  by_cases h1 : (k == 1) = true
  · have hr : V.okB ⟨k, n, s⟩ = s.toList.isEmpty := by
      have : (k == 2) = false := by simp at h1 ⊢; omega
      simp [V.okB, h1, this]
    rw [hr]
    clear hr
    go_enter Tryz.func111, Tryz.ntmps111
    go_wp2
    go_ret
    exact ⟨rfl, rfl⟩
  · have h1' : (k == 1) = false := by simpa using h1
    clear h1
    by_cases h2 : (k == 2) = true
    · by_cases h3 : n = 0
      · subst h3
        have hr : V.okB ⟨k, 0, s⟩ = decide ((s.size : Int) ≤ 40) := by simp [V.okB, h1', h2]
        rw [hr]
        clear hr
        go_enter Tryz.func111, Tryz.ntmps111
        go_wp2
        go_ret
        exact ⟨rfl, rfl⟩
      · have hr : V.okB ⟨k, n, s⟩ = false := by simp [V.okB, h1', h3]
        rw [hr]
        clear hr
        go_enter Tryz.func111, Tryz.ntmps111
        go_wp2
        go_ret
        exact ⟨rfl, rfl⟩
    · have h2' : (k == 2) = false := by simpa using h2
      clear h2
      have hr : V.okB ⟨k, n, s⟩ = false := by simp [V.okB, h1', h2']
      rw [hr]
      clear hr
      go_enter Tryz.func111, Tryz.ntmps111
      go_wp2
      go_ret
      exact ⟨rfl, rfl⟩

end Go.Proofs.YtjhkihkiebnpaaaGreatDoor
/-
  Package row's contracts: Find, Right (and slices.IndexFunc, ContainsFunc at their closures).
-/
namespace Go.Proofs.YtjhkihkiebnpaaaGreatDoor
open Go.RowKit

/-- the first place from k on at which p holds, or -1 -/
def idx {α : Type} (p : α → Bool) : List α → Nat → Int
  | [], _ => -1
  | x :: l, k => if p x then (k : Int) else idx p l (k + 1)
theorem idx_step {α : Type} {p : α → Bool} {l : List α} {k : Nat} {x : α} (h : l[k]? = some x) : idx p (l.drop k) k = if p x then (k : Int) else idx p (l.drop (k + 1)) (k + 1) := by
  obtain ⟨h1, e1⟩ := List.getElem?_eq_some_iff.1 h
  rw [List.drop_eq_getElem_cons h1, e1]
  rfl
theorem idx_bd {α : Type} (p : α → Bool) (l : List α) : ∀ k : Nat, -1 ≤ idx p l k ∧ idx p l k < k + l.length ∧ (idx p l k = -1 ∨ (k : Int) ≤ idx p l k) := by
  induction l with
  | nil => intro k; simp [idx]; omega
  | cons x l ih =>
    intro k
    unfold idx
    have := ih (k + 1)
    split
    · simp; omega
    · simp only [List.length_cons]; omega

def C.isB (nm : ByteArray) (c : C) : Bool := c.nm.toList == nm.toList

theorem find_closure (cn : ByteArray) (ck : Int) (nm : ByteArray) (p : Addr) (w : World) (h0 : w.cell? p = some (.string nm)) :
    Calls Tryz.prog 28 #[.agg #[.string cn, .int .i64 ck], .pointer (some p)] w fun e w' => e = .returned (.bool (C.isB nm ⟨cn, ck⟩)) ∧ w.alloc (.cells #[.string cn, .int .i64 ck] 42) = w' := by
  have hp := block_lt_of_cell h0
  go_enter Tryz.func28, Tryz.ntmps28
  go_wp2
  go_ret
  exact ⟨rfl, rfl⟩

set_option maxHeartbeats 400000 in
theorem indexFunc_col_full (b o : Nat) (n c : Nat) (l : List C) (hl : l.length = n) (hn : n ≤ 9223372036854775807) (nm : ByteArray) (pb po : Nat) (w : World) (hb : b < w.heap.size) (hL : CAt w b o l)
    (h0 : w.cell? ⟨pb, po, none⟩ = some (.string nm)) :
    Calls Tryz.prog 27 #[.slice (some ⟨b, o, none⟩) n c, .func (.func 28) #[] #[.pointer (some ⟨pb, po, none⟩)]] w fun e w' =>
      e = .returned (.int .i64 (idx (C.isB nm) l 0)) ∧ Below w.heap.size w w' := by
  have HL := Lib.hid hL
  have Hl := Lib.hid hl
  have hp := block_lt_of_cell h0
  have H0 := Lib.hid h0
  clear hL hl h0
  go_enter Tryz.func27, Tryz.ntmps27
  go_wp2_with fail
  go_loopw [8] (fun i wr => ∃ k : Nat, k ≤ n ∧ i = .int .i64 k ∧ Below w.heap.size w wr ∧ Hid (idx (C.isB nm) l 0 = idx (C.isB nm) (l.drop k) k)) (fun i _ => n - (intOf i).toNat)
  case atStart => exact ⟨0, Nat.zero_le _, rfl, Below.refl _ _, rfl⟩
  case round =>
    obtain ⟨k, hk, rfl, hbl, hz⟩ := hrel
    by_cases hlt : k < n
    · obtain ⟨cc, hc⟩ : ∃ c, l[k]? = some c := ⟨_, List.getElem?_eq_getElem (by rw [Hl.out]; exact hlt)⟩
      have hst := Lib.hid (hz.out.trans (idx_step (p := C.isB nm) hc))
      obtain ⟨c1, c2⟩ := HL.out.below hbl hb k cc hc
      clear hc hz
      obtain ⟨cn, ck⟩ := cc
      have hs := hbl.size
      have hcl := Lib.hid (find_closure cn ck nm ⟨pb, po, none⟩ wr ((hbl.cell hp).trans H0.out))
      by_cases he : C.isB nm ⟨cn, ck⟩ = true
      · rw [he] at hcl
        rw [if_pos he] at hst
        clear he
        go_wp2_with fail
        refine (hcl.out).mono ?_
        rintro e w' ⟨rfl, rfl⟩
        go_wp2_with fail
        go_ret
        exact ⟨by rw [hst.out]; rfl, hbl.alloc hs _⟩
      · have he' : C.isB nm ⟨cn, ck⟩ = false := by simpa using he
        rw [he'] at hcl
        rw [if_neg he] at hst
        clear he he'
        go_wp2_with fail
        refine (hcl.out).mono ?_
        rintro e w' ⟨rfl, rfl⟩
        go_wp2_with fail
        go_roundw
        case rel => exact ⟨k + 1, by omega, by go_num, hbl.alloc hs _, hst⟩
        case measure => simp [intOf]; omega
    · go_wp2_with fail
      go_ret
      have e : k = n := by omega
      subst e
      exact ⟨by rw [hz.out, List.drop_of_length_le (by rw [Hl.out]; omega)]; rfl, hbl⟩

theorem indexFunc_col (A : Option Addr) (c : Nat) (l : List C) (hn : l.length ≤ 9223372036854775807) (nm : ByteArray) (pb po : Nat) (w : World) (hA : CRow w w.heap.size A l)
    (h0 : w.cell? ⟨pb, po, none⟩ = some (.string nm)) :
    Calls Tryz.prog 27 #[.slice A l.length c, .func (.func 28) #[] #[.pointer (some ⟨pb, po, none⟩)]] w fun e w' =>
      e = .returned (.int .i64 (idx (C.isB nm) l 0)) ∧ Below w.heap.size w w' := by
  rcases hA with rfl | ⟨b, o, rfl, hb, hL⟩
  · clear h0
    go_enter Tryz.func27, Tryz.ntmps27
    go_wp2
    refine wp_loop_rounds 1 ?_
    rw [rounds_succ]
    go_wp2
    go_ret
    exact ⟨rfl, Below.refl _ _⟩
  · exact indexFunc_col_full b o l.length c l rfl hn nm pb po w hb hL h0

/-- Find's results: the place, or 0; whether there is one -/
def findN (l : List C) (nm : ByteArray) : Int := if 0 ≤ idx (C.isB nm) l 0 then idx (C.isB nm) l 0 else 0
def findB (l : List C) (nm : ByteArray) : Bool := decide (0 ≤ idx (C.isB nm) l 0)

set_option maxHeartbeats 400000 in
theorem find_any (A : Option Addr) (c : Nat) (l : List C) (hn : l.length ≤ 9223372036854775807) (nm : ByteArray) (w : World) (hA : CRow w w.heap.size A l) :
    Calls Tryz.prog 13 #[.slice A l.length c, .string nm] w fun e w' =>
      e = .returned (.tuple #[.int .i64 (findN l nm), .bool (findB l nm)]) ∧ Below w.heap.size w w' := by
  have hb0 : Below w.heap.size w (w.alloc (.cells #[.string nm] 9)) := (Below.refl _ _).alloc (Nat.le_refl _) _
  have hc := Lib.hid (indexFunc_col A c l hn nm w.heap.size 0 (w.alloc (.cells #[.string nm] 9)) ((hA.below hb0).more (by simp)) (by simp))
  obtain ⟨b1, b2, b3⟩ := idx_bd (C.isB nm) l 0
  unfold findN findB
  clear hA
  generalize idx (C.isB nm) l 0 = r at *
  by_cases hr : 0 ≤ r
  · rw [if_pos hr, decide_eq_true hr]
    go_enter Tryz.func13, Tryz.ntmps13
    go_wp2_with fail
    refine (hc.out).mono ?_
    rintro e w' ⟨rfl, hb⟩
    have hb2 := hb0.trans (hb.mono (by simp))
    clear hb hb0
    go_wp2_with fail
    go_ret2
    exact ⟨rfl, hb2⟩
  · obtain rfl : r = -1 := by omega
    rw [if_neg hr, decide_eq_false hr]
    clear hr b1 b2 b3
    go_enter Tryz.func13, Tryz.ntmps13
    go_wp2_with fail
    refine (hc.out).mono ?_
    rintro e w' ⟨rfl, hb⟩
    have hb2 := hb0.trans (hb.mono (by simp))
    clear hb hb0
    go_wp2_with fail
    go_ret2
    exact ⟨rfl, hb2⟩

/-! ### Right -/
end Go.Proofs.YtjhkihkiebnpaaaGreatDoor
/-
  Package row's contracts: reserved, Name, Columns.
-/
namespace Go.Proofs.YtjhkihkiebnpaaaGreatDoor
open Go.RowKit

/-- the words that are none of names -/
def reservedL : List (List UInt8) := [[116, 97, 98, 108, 101], [102, 105, 108, 116, 101, 114], [112, 114, 111, 106, 101, 99, 116], [106, 111, 105, 110], [117, 110, 105, 111, 110], [100, 105, 115, 116, 105, 110, 99, 116], [103, 114, 111, 117, 112], [99, 111, 117, 110, 116], [115, 117, 109], [109, 105, 110], [109, 97, 120], [97, 100, 100], [115, 117, 98], [109, 117, 108], [110, 101, 103], [101, 113], [108, 116], [97, 110, 100], [111, 114], [110, 111, 116], [99, 97, 116], [108, 101, 110], [105, 102]]
def resB (s : ByteArray) : Bool := reservedL.any fun x => s.toList == x

theorem any_false {α : Type} {l : List α} {p : α → Bool} (h : l.any p = false) : ∀ x ∈ l, p x = false := by
  simpa [List.any_eq_false] using h

set_option maxHeartbeats 4000000 in
theorem reserved_any (s : ByteArray) (w : World) : Calls Tryz.prog 52 #[.string s] w fun e w' => e = .returned (.bool (resB s)) ∧ w = w' := by
  by_cases h : resB s = true
  · rw [h]
    obtain ⟨x, hx, e⟩ := List.any_eq_true.1 h
    have hs : s.toList = x := by simpa using e
    clear h e
    subst hs
    simp only [reservedL, List.mem_cons, List.not_mem_nil, or_false] at hx
    rcases hx with hx | hx | hx | hx | hx | hx | hx | hx | hx | hx | hx | hx | hx | hx | hx | hx | hx | hx | hx | hx | hx | hx | hx
    all_goals
      go_enter Tryz.func52, Tryz.ntmps52
      go_wp2
      go_ret
      exact ⟨rfl, rfl⟩
  · have h' : resB s = false := by simpa using h
    rw [h']
    have hn := any_false h'
    clear h h'
    simp only [reservedL, List.mem_cons, List.not_mem_nil, or_false, forall_eq_or_imp, forall_eq] at hn
    obtain ⟨h0, h1, h2, h3, h4, h5, h6, h7, h8, h9, h10, h11, h12, h13, h14, h15, h16, h17, h18, h19, h20, h21, h22⟩ := hn
    go_enter Tryz.func52, Tryz.ntmps52
    go_wp2
    go_ret
    exact ⟨rfl, rfl⟩

def lowL (l : List UInt8) : Bool := l.all fun c => decide (97 ≤ (c.toNat : Int)) && decide ((c.toNat : Int) ≤ 122)
theorem lowL_step (s : ByteArray) (k : Nat) (h : k < s.size) : lowL (s.data.toList.drop k) = ((decide (97 ≤ (s[k].toNat : Int)) && decide ((s[k].toNat : Int) ≤ 122)) && lowL (s.data.toList.drop (k + 1))) := by
  rw [List.drop_eq_getElem_cons (by simpa using h)]
  rfl
def nameB (s : ByteArray) : Bool := ((!s.toList.isEmpty && decide (s.size ≤ 12)) && !resB s) && lowL s.data.toList

set_option maxHeartbeats 400000 in
theorem name_loop (s : ByteArray) (w : World) (h1 : s.toList.isEmpty = false) (h2 : s.size ≤ 12) (h3 : resB s = false) :
    Calls Tryz.prog 26 #[.string s] w fun e w' => e = .returned (.bool (lowL s.data.toList)) ∧ w = w' := by
  have HR := Lib.hid (reserved_any s)
  rw [h3] at HR
  clear h3
  have hd : decide (12 < (s.size : Int)) = false := by simp; omega
  go_enter Tryz.func26, Tryz.ntmps26
  go_wp2_with fail
  refine (HR.out _).mono ?_
  rintro e w' ⟨rfl, rfl⟩
  go_wp2_with fail
  go_loop [17] (fun i => ∃ k : Nat, k ≤ s.size ∧ i = .int .i64 k ∧ Hid (lowL s.data.toList = lowL (s.data.toList.drop k))) (fun i => s.size - (intOf i).toNat)
  case atStart => exact ⟨0, Nat.zero_le _, rfl, rfl⟩
  case round =>
    obtain ⟨k, hk, rfl, hz⟩ := hrel
    by_cases hlt : k < s.size
    · have hst := Lib.hid (hz.out.trans (lowL_step s k hlt))
      clear hz
      by_cases a1 : 97 ≤ (s[k].toNat : Int)
      · by_cases a2 : (s[k].toNat : Int) ≤ 122
        · rw [decide_eq_true a1, decide_eq_true a2] at hst
          have hst' : Hid (lowL s.data.toList = lowL (s.data.toList.drop (k + 1))) := by
            have := hst.out; rwa [Bool.and_self, Bool.true_and] at this
          clear hst
          go_wp2_with fail
          go_round
          case rel => exact ⟨k + 1, by omega, by go_num, hst'⟩
          case measure => simp [intOf]; omega
        · have hst' : Hid (lowL s.data.toList = false) := by
            have := hst.out; rwa [decide_eq_false a2, Bool.and_false, Bool.false_and] at this
          clear hst
          go_wp2_with fail
          go_ret
          exact ⟨by rw [hst'.out]; rfl, rfl⟩
      · have hst' : Hid (lowL s.data.toList = false) := by
          have := hst.out; rwa [decide_eq_false a1, Bool.false_and, Bool.false_and] at this
        clear hst
        go_wp2_with fail
        go_ret
        exact ⟨by rw [hst'.out]; rfl, rfl⟩
    · go_wp2_with fail
      go_ret
      have e : k = s.size := by omega
      subst e
      exact ⟨by rw [hz.out, List.drop_of_length_le (by simp)]; rfl, rfl⟩

theorem name_any (s : ByteArray) (w : World) : Calls Tryz.prog 26 #[.string s] w fun e w' => e = .returned (.bool (nameB s)) ∧ w = w' := by
  by_cases h1 : s.toList.isEmpty = true
  · have e0 : nameB s = false := by simp [nameB, h1]
    rw [e0]
    clear e0
    go_enter Tryz.func26, Tryz.ntmps26
    go_wp2
    go_ret
    exact ⟨rfl, rfl⟩
  · have h1' : s.toList.isEmpty = false := by simpa using h1
    clear h1
    by_cases h2 : s.size ≤ 12
    · by_cases h3 : resB s = true
      · have e0 : nameB s = false := by simp [nameB, h3]
        rw [e0]
        have HR := Lib.hid (reserved_any s)
        rw [h3] at HR
        clear h3 e0
        go_enter Tryz.func26, Tryz.ntmps26
        go_wp2_with fail
        refine (HR.out _).mono ?_
        rintro e w' ⟨rfl, rfl⟩
        go_wp2_with fail
        go_ret
        exact ⟨rfl, rfl⟩
      · have h3' : resB s = false := by simpa using h3
        have e0 : nameB s = lowL s.data.toList := by simp [nameB, h1', h2, h3']
        rw [e0]
        exact name_loop s w h1' h2 h3'
    · have e0 : nameB s = false := by simp [nameB, h2]
      rw [e0]
      clear e0
      go_enter Tryz.func26, Tryz.ntmps26
      go_wp2
      go_ret
      exact ⟨rfl, rfl⟩

end Go.Proofs.YtjhkihkiebnpaaaGreatDoor
/-
  Expressions as plain trees, and as they lie in memory. No program in sight.
-/
namespace Go.Proofs.YtjhkihkiebnpaaaGreatDoor
open Go.RowKit

inductive E where
  | mk (k : Int) (s : ByteArray) (n : Int) (kids : List E)
def E.k : E → Int | .mk k _ _ _ => k
def E.s : E → ByteArray | .mk _ s _ _ => s
def E.n : E → Int | .mk _ _ n _ => n
def E.kids : E → List E | .mk _ _ _ l => l
theorem E.ind {P : E → Prop} (h : ∀ k s n l, (∀ e ∈ l, P e) → P (.mk k s n l)) : ∀ e, P e := by
  intro e
  exact E.rec (motive_1 := P) (motive_2 := fun l => ∀ e ∈ l, P e) (fun k s n l ih => h k s n l ih) (fun e he => by cases he) (fun e l h1 h2 x hx => by
    rcases List.mem_cons.1 hx with rfl | hx
    · exact h1
    · exact h2 x hx) e

/-- a slice at address A holds the expressions l, below block B, and so on downwards -/
inductive EKids (w : World) (B : Nat) : Option Addr → List E → Prop
  | nil (A : Option Addr) : EKids w B A []
  | mk (b off : Nat) (l : List E) (hn : l.length ≤ 9223372036854775807) (hb : b < B) (A : Nat → Option Addr) (c : Nat → Nat)
      (h : ∀ i e, l[i]? = some e → w.cell? ⟨b, off + i * 4, none⟩ = some (.int .i64 e.k) ∧ w.cell? ⟨b, off + i * 4 + 1, none⟩ = some (.string e.s) ∧
        w.cell? ⟨b, off + i * 4 + 2, none⟩ = some (.int .i64 e.n) ∧ w.cell? ⟨b, off + i * 4 + 3, none⟩ = some (.slice (A i) e.kids.length (c i)))
      (hk : ∀ i e, l[i]? = some e → EKids w B (A i) e.kids) : EKids w B (some ⟨b, off, none⟩) l
theorem EKids.low {w w' : World} {B : Nat} {A : Option Addr} {l : List E} (h : EKids w B A l) (hb : Below B w w') : EKids w' B A l := by
  induction h with
  | nil A => exact .nil A
  | mk b off l hn hlt A c h hk ih =>
    refine .mk b off l hn hlt A c (fun i e he => ?_) (fun i e he => ih i e he)
    obtain ⟨h1, h2, h3, h4⟩ := h i e he
    exact ⟨(hb.cell hlt).trans h1, (hb.cell hlt).trans h2, (hb.cell hlt).trans h3, (hb.cell hlt).trans h4⟩
theorem EKids.more {w : World} {B B' : Nat} {A : Option Addr} {l : List E} (h : EKids w B A l) (hB : B ≤ B') : EKids w B' A l := by
  induction h with
  | nil A => exact .nil A
  | mk b off l hn hlt A c h hk ih => exact .mk b off l hn (by omega) A c h (fun i e he => ih i e he)
theorem EKids.len {w : World} {B : Nat} {A : Option Addr} {l : List E} (h : EKids w B A l) : l.length ≤ 9223372036854775807 := by
  cases h with
  | nil A => simp
  | mk b off l hn hlt A c h hk => exact hn
/-- where the kids stand, while the world grows -/
theorem EKids.get_ {w : World} {A : Option Addr} {l : List E} (h : EKids w w.heap.size A l) : ∀ w1, Below w.heap.size w w1 → ∀ i e, l[i]? = some e →
    ∃ b o A' c', A = some ⟨b, o, none⟩ ∧ b < w.heap.size ∧ w1.cell? ⟨b, o + i * 4, none⟩ = some (.int .i64 e.k) ∧ w1.cell? ⟨b, o + i * 4 + 1, none⟩ = some (.string e.s) ∧
      w1.cell? ⟨b, o + i * 4 + 2, none⟩ = some (.int .i64 e.n) ∧ w1.cell? ⟨b, o + i * 4 + 3, none⟩ = some (.slice A' e.kids.length c') ∧ EKids w1 w1.heap.size A' e.kids := by
  intro w1 hb i e he
  cases h with
  | nil A => simp at he
  | mk b off l hn hlt A c h hk =>
    obtain ⟨h1, h2, h3, h4⟩ := h i e he
    exact ⟨b, off, A i, c i, rfl, hlt, (hb.cell hlt).trans h1, (hb.cell hlt).trans h2, (hb.cell hlt).trans h3, (hb.cell hlt).trans h4, ((hk i e he).low hb).more hb.size⟩
/-- an expression's value -/
def E.val (e : E) (A : Option Addr) (c : Nat) : Value := .agg #[.int .i64 e.k, .string e.s, .int .i64 e.n, .slice A e.kids.length c]

/-! ### the operations' names -/
def opAdd : List UInt8 := [97, 100, 100]
def opSub : List UInt8 := [115, 117, 98]
def opMul : List UInt8 := [109, 117, 108]
def opEq : List UInt8 := [101, 113]
def opLt : List UInt8 := [108, 116]
def opAnd : List UInt8 := [97, 110, 100]
def opOr : List UInt8 := [111, 114]
def opCat : List UInt8 := [99, 97, 116]
def opNeg : List UInt8 := [110, 101, 103]
def opNot : List UInt8 := [110, 111, 116]
def opLen : List UInt8 := [108, 101, 110]
def opIf : List UInt8 := [105, 102]
def opsL : List (List UInt8) := [opAdd, opSub, opMul, opEq, opLt, opAnd, opOr, opCat, opNeg, opNot, opLen, opIf]
theorem op_cases (l : List UInt8) : l ∈ opsL ∨ ∀ x ∈ opsL, (l == x) = false := by
  by_cases h : l ∈ opsL
  · exact .inl h
  · refine .inr fun x hx => ?_
    cases e : l == x
    · rfl
    · rw [show l = x by simpa using e] at h
      exact absurd hx h
def cntL (l : List UInt8) : Nat :=
  if l = opAdd ∨ l = opSub ∨ l = opMul ∨ l = opEq ∨ l = opLt ∨ l = opAnd ∨ l = opOr ∨ l = opCat then 2
  else if l = opNeg ∨ l = opNot ∨ l = opLen then 1 else if l = opIf then 3 else 0
def E.cnt (e : E) : Nat := cntL e.s.toList

mutual
def madeE : E → Bool
  | .mk k s n l => if k = 1 then nameB s && (n == 0 && l.length == 0) else if k = 2 then s.toList.isEmpty && l.length == 0
    else if k = 3 then n == 0 && l.length == 0 else if k = 4 then decide (0 < cntL s.toList) && (cntL s.toList == l.length && (n == 0 && madeL l)) else false
def madeL : List E → Bool
  | [] => true
  | e :: l => madeE e && madeL l
end
theorem madeL_all (l : List E) : madeL l = l.all madeE := by
  induction l with
  | nil => rfl
  | cons e l ih => rw [madeL, ih]; rfl

/-! ### types -/
def resultL (op : List UInt8) (l : List Int) : Int :=
  if op = opEq ∨ op = opLt then (if l.getD 0 0 = l.getD 1 0 then 1 else 0)
  else if op = opCat then (if l.all (· == 2) then 2 else 0)
  else if op = opLen then (if l.all (· == 2) then 1 else 0)
  else if op = opIf then (if l.getD 0 0 = 1 ∧ l.getD 1 0 = l.getD 2 0 then l.getD 1 0 else 0)
  else if l.all (· == 1) then 1 else 0
mutual
/-- kind, and why not -/
def typeE (cols : List C) : E → Int × Int
  | .mk k s n l => if k = 1 then (if findB cols s then ((cols.getD (findN cols s).toNat ⟨⟨#[]⟩, 0⟩).k, 0) else (0, 20))
    else if k = 2 then (1, 0) else if k = 3 then (2, 0)
    else if (typeL cols l).2 = 0 then (if 0 < resultL s.toList (typeL cols l).1 then (resultL s.toList (typeL cols l).1, 0) else (0, 22)) else (0, (typeL cols l).2)
def typeL (cols : List C) : List E → List Int × Int
  | [] => ([], 0)
  | e :: l => if (typeE cols e).2 = 0 then ((typeE cols e).1 :: (typeL cols l).1, (typeL cols l).2) else ([], (typeE cols e).2)
end

end Go.Proofs.YtjhkihkiebnpaaaGreatDoor
/-
  Package expr's contracts: count, Made.
-/
namespace Go.Proofs.YtjhkihkiebnpaaaGreatDoor
open Go.RowKit

set_option maxHeartbeats 4000000 in
theorem count_any (s : ByteArray) (w : World) : Calls Tryz.prog 131 #[.string s] w fun e w' => e = .returned (.int .i64 (cntL s.toList : Nat)) ∧ w = w' := by
  rcases op_cases s.toList with h | h
  · simp only [opsL, opAdd, opSub, opMul, opEq, opLt, opAnd, opOr, opCat, opNeg, opNot, opLen, opIf, List.mem_cons, List.not_mem_nil, or_false] at h
    rcases h with h | h | h | h | h | h | h | h | h | h | h | h
    all_goals
      obtain ⟨q, hq⟩ : ∃ q, q = cntL s.toList := ⟨_, rfl⟩
      rw [← hq]
      rw [h] at hq
      change q = _ at hq
      simp only [cntL, opAdd, opSub, opMul, opEq, opLt, opAnd, opOr, opCat, opNeg, opNot, opLen, opIf] at hq
      simp at hq
      subst hq
      go_enter Tryz.func131, Tryz.ntmps131
      go_wp2
      go_ret
      exact ⟨rfl, rfl⟩
  · have hq : cntL s.toList = 0 := by
      have hne : ∀ x ∈ opsL, s.toList ≠ x := fun x hx e => by have := h x hx; rw [e] at this; simp at this
      simp only [opsL, List.mem_cons, List.not_mem_nil, or_false, forall_eq_or_imp, forall_eq] at hne
      obtain ⟨h0, h1, h2, h3, h4, h5, h6, h7, h8, h9, h10, h11⟩ := hne
      simp [cntL, h0, h1, h2, h3, h4, h5, h6, h7, h8, h9, h10, h11]
    rw [hq]
    clear hq
    simp only [opsL, opAdd, opSub, opMul, opEq, opLt, opAnd, opOr, opCat, opNeg, opNot, opLen, opIf, List.mem_cons, List.not_mem_nil, or_false, forall_eq_or_imp, forall_eq] at h
    obtain ⟨h0, h1, h2, h3, h4, h5, h6, h7, h8, h9, h10, h11⟩ := h
    go_enter Tryz.func131, Tryz.ntmps131
    go_wp2
    go_ret
    exact ⟨rfl, rfl⟩

def MadeExp (e : E) : Prop := ∀ (A : Option Addr) (c : Nat) (w : World), EKids w w.heap.size A e.kids →
  Calls Tryz.prog 90 #[e.val A c] w fun r w' => r = .returned (.bool (madeE e)) ∧ Below w.heap.size w w'

theorem made_closure (k : Int) (s : ByteArray) (n : Int) (l : List E) (hM : MadeExp (.mk k s n l)) (A : Option Addr) (c : Nat) (w : World) (hA : EKids w w.heap.size A l) :
    Calls Tryz.prog 133 #[.agg #[.int .i64 k, .string s, .int .i64 n, .slice A l.length c]] w fun r w' => r = .returned (.bool (!madeE (.mk k s n l))) ∧ Below w.heap.size w w' := by
  have hb0 : Below w.heap.size w (w.alloc (.cells #[.int .i64 k, .string s, .int .i64 n, .slice A l.length c] 38)) := (Below.refl _ _).alloc (Nat.le_refl _) _
  have hc := Lib.hid (hM A c _ ((hA.low hb0).more hb0.size))
  clear hM hA
  simp only [E.val, E.k, E.s, E.n, E.kids] at hc
  generalize madeE (.mk k s n l) = q at *
  generalize l.length = m at *
  go_enter Tryz.func133, Tryz.ntmps133
  go_wp2_with fail
  refine (hc.out).mono ?_
  rintro e w' ⟨rfl, hb⟩
  have hb2 := hb0.trans (hb.mono (by simp))
  clear hb hb0
  go_wp2_with fail
  go_ret
  exact ⟨rfl, hb2⟩

set_option maxHeartbeats 400000 in
theorem indexFunc_made (A : Option Addr) (c : Nat) (l : List E) (hM : ∀ e ∈ l, MadeExp e) (w : World) (hA : EKids w w.heap.size A l) :
    Calls Tryz.prog 156 #[.slice A l.length c, .func (.func 133) #[] #[]] w fun e w' =>
      e = .returned (.int .i64 (idx (fun e => !madeE e) l 0)) ∧ Below w.heap.size w w' := by
  have hn := hA.len
  have HL := Lib.hid hA.get_
  have HM := Lib.hid hM
  obtain ⟨n, en⟩ : ∃ n, n = l.length := ⟨_, rfl⟩
  have Hl := Lib.hid en
  rw [← en] at hn ⊢
  clear hA hM en
  go_enter Tryz.func156, Tryz.ntmps156
  go_wp2_with fail
  go_loopw [8] (fun i wr => ∃ k : Nat, k ≤ n ∧ i = .int .i64 k ∧ Below w.heap.size w wr ∧ Hid (idx (fun e => !madeE e) l 0 = idx (fun e => !madeE e) (l.drop k) k)) (fun i _ => n - (intOf i).toNat)
  case atStart => exact ⟨0, Nat.zero_le _, rfl, Below.refl _ _, rfl⟩
  case round =>
    obtain ⟨k, hk, rfl, hbl, hz⟩ := hrel
    by_cases hlt : k < n
    · obtain ⟨x, hx⟩ : ∃ x, l[k]? = some x := ⟨_, List.getElem?_eq_getElem (by rw [← Hl.out]; exact hlt)⟩
      have hst := Lib.hid (hz.out.trans (idx_step (p := fun e => !madeE e) hx))
      obtain ⟨b, o, A', c', rfl, hb, c1, c2, c3, c4, hK⟩ := HL.out wr hbl k x hx
      have hMx := HM.out x (List.mem_of_getElem? hx)
      clear hx hz
      obtain ⟨xk, xs, xn, xl⟩ := x
      simp only [E.k, E.s, E.n, E.kids] at c1 c2 c3 c4 hK
      have hs := hbl.size
      have hcl := Lib.hid (made_closure xk xs xn xl hMx A' c' wr hK)
      clear hMx hK
      by_cases he : madeE (.mk xk xs xn xl) = true
      · rw [he] at hcl
        have hst' : Hid (idx (fun e => !madeE e) l 0 = idx (fun e => !madeE e) (l.drop (k + 1)) (k + 1)) := by
          have := hst.out
          rwa [if_neg (by simp [he])] at this
        clear he hst
        generalize xl.length = xm at *
        go_wp2_with fail
        refine (hcl.out).mono ?_
        rintro e w' ⟨rfl, hb2⟩
        have hb3 := hbl.trans (hb2.mono hs)
        clear hb2
        go_wp2_with fail
        go_roundw
        case rel => exact ⟨k + 1, by omega, by go_num, hb3, hst'⟩
        case measure => simp [intOf]; omega
      · have he' : madeE (.mk xk xs xn xl) = false := by simpa using he
        rw [he'] at hcl
        have hst' : Hid (idx (fun e => !madeE e) l 0 = (k : Int)) := by
          have := hst.out
          rwa [if_pos (by simp [he'])] at this
        clear he he' hst
        generalize xl.length = xm at *
        go_wp2_with fail
        refine (hcl.out).mono ?_
        rintro e w' ⟨rfl, hb2⟩
        have hb3 := hbl.trans (hb2.mono hs)
        clear hb2
        go_wp2_with fail
        go_ret
        exact ⟨by rw [hst'.out]; rfl, hb3⟩
    · go_wp2_with fail
      go_ret
      have e : k = n := by omega
      subst e
      exact ⟨by rw [hz.out, List.drop_of_length_le (by rw [← Hl.out]; omega)]; rfl, hbl⟩

theorem idx_any {α : Type} (p : α → Bool) (l : List α) : ∀ k, decide (0 ≤ idx p l k) = l.any p := by
  induction l with
  | nil => intro k; rfl
  | cons x l ih =>
    intro k
    unfold idx
    by_cases h : p x = true
    · rw [if_pos h]; simp [h]
    · rw [if_neg h, ih]; simp [h]
theorem not_all_ {α : Type} (p : α → Bool) (l : List α) : (!(l.all p)) = l.any fun v => !p v := by
  induction l with
  | nil => rfl
  | cons x l ih => rw [List.all_cons, List.any_cons, Bool.not_and, ih]

theorem containsFunc_made (A : Option Addr) (c : Nat) (l : List E) (hM : ∀ e ∈ l, MadeExp e) (w : World) (hA : EKids w w.heap.size A l) :
    Calls Tryz.prog 132 #[.slice A l.length c, .func (.func 133) #[] #[]] w fun e w' =>
      e = .returned (.bool (!(madeL l))) ∧ Below w.heap.size w w' := by
  have hc := Lib.hid (indexFunc_made A c l hM w hA)
  have e0 : (!(madeL l)) = decide (0 ≤ idx (fun v => !madeE v) l 0) := by
    rw [idx_any, madeL_all]; exact not_all_ madeE l
  rw [e0]
  clear hA e0 hM
  generalize idx (fun v => !madeE v) l 0 = r at *
  generalize l.length = m at *
  go_enter Tryz.func132, Tryz.ntmps132
  go_wp2_with fail
  refine (hc.out).mono ?_
  rintro e w' ⟨rfl, hb⟩
  have HB := Lib.hid hb
  clear hb
  go_wp2_with fail
  go_ret
  exact ⟨rfl, HB.out⟩
end Go.Proofs.YtjhkihkiebnpaaaGreatDoor
/-
  Package expr's contracts: Made, at every expression.
-/
namespace Go.Proofs.YtjhkihkiebnpaaaGreatDoor
open Go.RowKit

theorem nat_beq0 (m : Nat) : ((m : Int) == 0) = (m == 0) := by
  cases m with
  | zero => rfl
  | succ m => have : ((m + 1 : Nat) : Int) ≠ 0 := by omega
              simp
              omega
set_option maxRecDepth 100000 in
set_option maxHeartbeats 1000000 in
theorem made_step (k : Int) (s : ByteArray) (n : Int) (l : List E) (hM : ∀ e ∈ l, MadeExp e) : MadeExp (.mk k s n l) := by
  intro A c w hA
  simp only [E.val, E.k, E.s, E.n, E.kids] at hA ⊢
  have hb0 : Below w.heap.size w (w.alloc (.cells #[.int .i64 k, .string s, .int .i64 n, .slice A l.length c] 38)) := (Below.refl _ _).alloc (Nat.le_refl _) _
  have HB0 := Lib.hid hb0
  have hc := Lib.hid (containsFunc_made A c l hM _ ((hA.low hb0).more hb0.size))
  have hN := Lib.hid (name_any s)
  have hC := Lib.hid (count_any s)
  have hlen := hA.len
  have hz : Hid (madeE (.mk k s n l) = if k = 1 then nameB s && (n == 0 && l.length == 0) else if k = 2 then s.toList.isEmpty && l.length == 0
    else if k = 3 then n == 0 && l.length == 0 else if k = 4 then decide (0 < cntL s.toList) && (cntL s.toList == l.length && (n == 0 && madeL l)) else false) := Lib.hid (by rw [madeE])
  generalize madeE (.mk k s n l) = q at *
  generalize nameB s = qn at *
  generalize cntL s.toList = cn at *
  generalize madeL l = ql at *
  generalize l.length = m at *
  clear hM hA hb0
  by_cases h1 : k = 1
  · subst h1
    have hz1 : Hid (q = (qn && (n == 0 && m == 0))) := Lib.hid (by rw [hz.out, if_pos rfl])
    clear hz hc hC
    cases qn
    · obtain rfl : q = false := by rw [hz1.out]; rfl
      go_enter Tryz.func90, Tryz.ntmps90
      go_wp2_with fail
      refine (hN.out _).mono ?_
      rintro e w' ⟨rfl, rfl⟩
      go_wp2_with fail
      go_ret
      exact ⟨rfl, HB0.out⟩
    · by_cases hn : n = 0
      · subst hn
        have hz2 : Hid (q = ((m : Int) == 0)) := Lib.hid (by rw [hz1.out, nat_beq0]; simp)
        clear hz1
        go_enter Tryz.func90, Tryz.ntmps90
        go_wp2_with fail
        refine (hN.out _).mono ?_
        rintro e w' ⟨rfl, rfl⟩
        go_wp2_with fail
        go_ret
        exact ⟨by rw [hz2.out]; rfl, HB0.out⟩
      · have hn' : (n == 0) = false := by simpa using hn
        obtain rfl : q = false := by rw [hz1.out, hn']; rfl
        clear hz1 hn
        go_enter Tryz.func90, Tryz.ntmps90
        go_wp2_with fail
        refine (hN.out _).mono ?_
        rintro e w' ⟨rfl, rfl⟩
        go_wp2_with fail
        go_ret
        exact ⟨rfl, HB0.out⟩
  have h1' : (k == 1) = false := by simpa using h1
  by_cases h2 : k = 2
  · subst h2
    have hz1 : Hid (q = (s.toList.isEmpty && m == 0)) := Lib.hid (by rw [hz.out, if_neg (by decide), if_pos rfl])
    clear hz hc hC hN h1 h1'
    by_cases he : s.toList = []
    · have hz2 : Hid (q = ((m : Int) == 0)) := Lib.hid (by rw [hz1.out, he, nat_beq0]; simp)
      clear hz1
      go_enter Tryz.func90, Tryz.ntmps90
      go_wp2_with fail
      go_ret
      exact ⟨by rw [hz2.out]; rfl, HB0.out⟩
    · have he' : (s.toList == []) = false := by simpa using he
      obtain rfl : q = false := by rw [hz1.out]; cases h : s.toList with
        | nil => exact absurd h he
        | cons a l => rfl
      clear hz1 he
      go_enter Tryz.func90, Tryz.ntmps90
      go_wp2_with fail
      go_ret
      exact ⟨rfl, HB0.out⟩
  have h2' : (k == 2) = false := by simpa using h2
  by_cases h3 : k = 3
  · subst h3
    have hz1 : Hid (q = (n == 0 && m == 0)) := Lib.hid (by rw [hz.out, if_neg (by decide), if_neg (by decide), if_pos rfl])
    clear hz hc hC hN h1 h1' h2 h2'
    by_cases hn : n = 0
    · subst hn
      have hz2 : Hid (q = ((m : Int) == 0)) := Lib.hid (by rw [hz1.out, nat_beq0]; simp)
      clear hz1
      go_enter Tryz.func90, Tryz.ntmps90
      go_wp2_with fail
      go_ret
      exact ⟨by rw [hz2.out]; rfl, HB0.out⟩
    · have hn' : (n == 0) = false := by simpa using hn
      obtain rfl : q = false := by rw [hz1.out, hn']; rfl
      clear hz1 hn
      go_enter Tryz.func90, Tryz.ntmps90
      go_wp2_with fail
      go_ret
      exact ⟨rfl, HB0.out⟩
  have h3' : (k == 3) = false := by simpa using h3
  by_cases h4 : k = 4
  · subst h4
    have hz1 : Hid (q = (decide (0 < cn) && (cn == m && (n == 0 && ql)))) := Lib.hid (by rw [hz.out, if_neg (by decide), if_neg (by decide), if_neg (by decide), if_pos rfl])
    clear hz hN h1 h1' h2 h2' h3 h3'
    by_cases hc0 : cn = 0
    · subst hc0
      obtain rfl : q = false := by rw [hz1.out]; rfl
      go_enter Tryz.func90, Tryz.ntmps90
      go_wp2_with fail
      refine (hC.out _).mono ?_
      rintro e w' ⟨rfl, rfl⟩
      go_wp2_with fail
      go_ret
      exact ⟨rfl, HB0.out⟩
    have hcp : 0 < cn := by omega
    have hcp' : decide ((0 : Int) < (cn : Int)) = true := by rw [decide_eq_true_eq]; omega
    by_cases hm : cn = m
    · subst hm
      by_cases hn : n = 0
      · subst hn
        have hz2 : Hid (q = ql) := Lib.hid (by rw [hz1.out]; simp [hcp])
        clear hz1
        go_enter Tryz.func90, Tryz.ntmps90
        go_wp2_with fail
        refine (hC.out _).mono ?_
        rintro e w' ⟨rfl, rfl⟩
        go_wp2_with fail
        refine (hc.out).mono ?_
        rintro e w' ⟨rfl, hb⟩
        have HB := Lib.hid (HB0.out.trans (hb.mono (by simp)))
        clear hb
        go_wp2_with fail
        go_ret
        exact ⟨by rw [hz2.out]; rfl, HB.out⟩
      · have hn' : (n == 0) = false := by simpa using hn
        obtain rfl : q = false := by rw [hz1.out, hn']; simp
        clear hz1 hn
        go_enter Tryz.func90, Tryz.ntmps90
        go_wp2_with fail
        refine (hC.out _).mono ?_
        rintro e w' ⟨rfl, rfl⟩
        go_wp2_with fail
        go_ret
        exact ⟨rfl, HB0.out⟩
    · have hm' : ((cn : Int) == (m : Int)) = false := by simp; omega
      have hm2 : (cn == m) = false := by simpa using hm
      obtain rfl : q = false := by rw [hz1.out, hm2]; simp
      clear hz1
      go_enter Tryz.func90, Tryz.ntmps90
      go_wp2_with fail
      refine (hC.out _).mono ?_
      rintro e w' ⟨rfl, rfl⟩
      go_wp2_with fail
      go_ret
      exact ⟨rfl, HB0.out⟩
  · have h4' : (k == 4) = false := by simpa using h4
    obtain rfl : q = false := by rw [hz.out, if_neg h1, if_neg h2, if_neg h3, if_neg h4]
    clear hz hN hc hC
    go_enter Tryz.func90, Tryz.ntmps90
    go_wp2_with fail
    go_ret
    exact ⟨rfl, HB0.out⟩
theorem made_any : ∀ e, MadeExp e := E.ind made_step
end Go.Proofs.YtjhkihkiebnpaaaGreatDoor
/-
  Package expr's contracts: all, result.
-/
namespace Go.Proofs.YtjhkihkiebnpaaaGreatDoor
open Go.RowKit
/-- a slice of ints -/
def IRow (w : World) (B : Nat) (A : Option Addr) (l : List Int) : Prop := l = [] ∨ ∃ b off, A = some ⟨b, off, none⟩ ∧ b < B ∧ ∀ i z, l[i]? = some z → w.cell? ⟨b, off + i, none⟩ = some (.int .i64 z)
def ints (l : List Int) : List Value := l.map fun z => .int .i64 z
theorem IRow.below {w w' : World} {B : Nat} {A : Option Addr} {l : List Int} (h : IRow w B A l) (hb : Below B w w') : IRow w' B A l := by
  rcases h with h | ⟨b, o, hA, hB, h⟩
  · exact .inl h
  · exact .inr ⟨b, o, hA, hB, fun i z hz => (hb.cell hB).trans (h i z hz)⟩
theorem IRow.more {w : World} {B B' : Nat} {A : Option Addr} {l : List Int} (h : IRow w B A l) (hB : B ≤ B') : IRow w B' A l := by
  rcases h with h | ⟨b, o, hA, hb, h⟩
  · exact .inl h
  · exact .inr ⟨b, o, hA, by omega, h⟩
theorem own_below {w w' : World} {B n : Nat} {e : TypeId} {z : Nat} {v : Value} {xs : List Value} (h : w.ownsRow B e z v n xs) (hb : Below w.heap.size w w') : w'.ownsRow B e z v n xs := by
  refine ⟨h.1, ?_⟩
  rcases h.2 with hn | ⟨g, cap, cur, rfl, hg, hgg, rest⟩
  · exact .inl hn
  · exact .inr ⟨g, cap, cur, rfl, hg, by rw [hb.block g (Array.getElem?_eq_some_iff.1 hgg).1]; exact hgg, rest⟩
theorem own_ints {w : World} {base : Nat} {e : TypeId} {v : Value} {l : List Int} (h : w.ownsRow base e 1 v l.length (ints l)) : ∃ A c, v = .slice A l.length c ∧ l.length ≤ c ∧ IRow w w.heap.size A l := by
  obtain ⟨_, hcase⟩ := id h
  rcases hcase with ⟨rfl, h0⟩ | ⟨g, cap, cur, rfl, hg, hh, hn, hcap, hsz, htake⟩
  · exact ⟨none, 0, by rw [h0], by omega, .inl (List.eq_nil_of_length_eq_zero h0)⟩
  · refine ⟨some ⟨g, 0, none⟩, cap, rfl, hn, .inr ⟨g, 0, rfl, ?_, ?_⟩⟩
    · rcases Nat.lt_or_ge g w.heap.size with hlt | hge
      · exact hlt
      · rw [Array.getElem?_eq_none hge] at hh; cases hh
    · intro i z hz
      have hi : i < l.length := (List.getElem?_eq_some_iff.1 hz).1
      rw [Nat.zero_add, h.cellAt _ (by omega), ints, List.getElem?_map, hz]
      rfl

theorem all_closure (z k : Int) (b o : Nat) (w : World) (h0 : w.cell? ⟨b, o, none⟩ = some (.int .i64 k)) :
    Calls Tryz.prog 172 #[.int .i64 z, .pointer (some ⟨b, o, none⟩)] w fun e w' => e = .returned (.bool (z != k)) ∧ w = w' := by
  have hp := block_lt_of_cell h0
  go_enter Tryz.func172, Tryz.ntmps172
  go_wp2
  go_ret
  exact ⟨rfl, rfl⟩

set_option maxHeartbeats 400000 in
theorem indexFunc_ints (A : Option Addr) (c : Nat) (l : List Int) (hn : l.length ≤ 9223372036854775807) (k0 : Int) (pb po : Nat) (w : World) (hA : IRow w w.heap.size A l) (h0 : w.cell? ⟨pb, po, none⟩ = some (.int .i64 k0)) :
    Calls Tryz.prog 181 #[.slice A l.length c, .func (.func 172) #[] #[.pointer (some ⟨pb, po, none⟩)]] w fun e w' =>
      e = .returned (.int .i64 (idx (fun z => z != k0) l 0)) ∧ w = w' := by
  have HL := Lib.hid hA
  obtain ⟨n, en⟩ : ∃ n, n = l.length := ⟨_, rfl⟩
  have Hl := Lib.hid en
  have hcl := Lib.hid (fun z => all_closure z k0 pb po w h0)
  rw [← en] at hn ⊢
  clear hA en h0
  go_enter Tryz.func181, Tryz.ntmps181
  go_wp2_with fail
  go_loop [8] (fun i => ∃ k : Nat, k ≤ n ∧ i = .int .i64 k ∧ Hid (idx (fun z => z != k0) l 0 = idx (fun z => z != k0) (l.drop k) k)) (fun i => n - (intOf i).toNat)
  case atStart => exact ⟨0, Nat.zero_le _, rfl, rfl⟩
  case round =>
    obtain ⟨k, hk, rfl, hz⟩ := hrel
    by_cases hlt : k < n
    · obtain ⟨x, hx⟩ : ∃ x, l[k]? = some x := ⟨_, List.getElem?_eq_getElem (by rw [← Hl.out]; exact hlt)⟩
      have hst := Lib.hid (hz.out.trans (idx_step (p := fun z => z != k0) hx))
      rcases HL.out with hnil | ⟨b, o, rfl, hb, hc⟩
      · rw [hnil] at hx; simp at hx
      have c1 := hc k x hx
      clear hx hz hc
      by_cases he : (x != k0) = true
      · have hst' : Hid (idx (fun z => z != k0) l 0 = (k : Int)) := by
          have := hst.out
          rwa [if_pos he] at this
        clear hst
        go_wp2_with fail
        refine (hcl.out x).mono ?_
        rintro e w' ⟨rfl, rfl⟩
        rw [he]
        go_wp2_with fail
        go_ret
        exact ⟨by rw [hst'.out]; rfl, rfl⟩
      · have he' : (x != k0) = false := by simpa using he
        have hst' : Hid (idx (fun z => z != k0) l 0 = idx (fun z => z != k0) (l.drop (k + 1)) (k + 1)) := by
          have := hst.out
          rwa [if_neg he] at this
        clear he hst
        go_wp2_with fail
        refine (hcl.out x).mono ?_
        rintro e w' ⟨rfl, rfl⟩
        rw [he']
        go_wp2_with fail
        go_round
        case rel => exact ⟨k + 1, by omega, by go_num, hst'⟩
        case measure => simp [intOf]; omega
    · go_wp2_with fail
      go_ret
      have e : k = n := by omega
      subst e
      exact ⟨by rw [hz.out, List.drop_of_length_le (by rw [← Hl.out]; omega)]; rfl, rfl⟩

theorem all_any (A : Option Addr) (c : Nat) (l : List Int) (hn : l.length ≤ 9223372036854775807) (k : Int) (w : World) (hA : IRow w w.heap.size A l) :
    Calls Tryz.prog 157 #[.slice A l.length c, .int .i64 k] w fun e w' => e = .returned (.bool (l.all (· == k))) ∧ Below w.heap.size w w' := by
  have hb0 : Below w.heap.size w (w.alloc (.cells #[.int .i64 k] 3)) := (Below.refl _ _).alloc (Nat.le_refl _) _
  have hc := Lib.hid (indexFunc_ints A c l hn k w.heap.size 0 (w.alloc (.cells #[.int .i64 k] 3)) ((hA.below hb0).more hb0.size) (by simp))
  have e0 : l.all (· == k) = !decide (0 ≤ idx (fun z => z != k) l 0) := by
    rw [idx_any, ← Bool.not_not (l.all (· == k)), not_all_]; rfl
  rw [e0]
  clear hA e0 hn
  generalize idx (fun z => z != k) l 0 = r at *
  generalize l.length = m at *
  have hmf : ∀ (fn : Fn) (first cap : Array Value) (w : World), (Instr.makeFunc fn first cap).run Tryz.prog w = .ok (.func fn first cap) w := fun _ _ _ _ => rfl
  have hcf : Hid (Calls Tryz.prog 171 #[.slice A m c, .func (.func 172) #[] #[.pointer (some ⟨w.heap.size, 0, none⟩)]] (w.alloc (.cells #[.int .i64 k] 3)) fun e w' => e = .returned (.bool (decide (0 ≤ r))) ∧ (w.alloc (.cells #[.int .i64 k] 3)) = w') := by
    refine Lib.hid ?_
    generalize (w.alloc (.cells #[.int .i64 k] 3)) = w1 at *
    go_enter Tryz.func171, Tryz.ntmps171
    go_wp2_with fail
    refine (hc.out).mono ?_
    rintro e w' ⟨rfl, rfl⟩
    go_wp2_with fail
    go_ret
    exact ⟨rfl, rfl⟩
  clear hc
  go_enter Tryz.func157, Tryz.ntmps157
  go_wp2_with fail
  refine (hcf.out).mono ?_
  rintro e w' ⟨rfl, rfl⟩
  go_wp2_with fail
  go_ret
  exact ⟨rfl, hb0⟩
end Go.Proofs.YtjhkihkiebnpaaaGreatDoor
/-
  Package expr's contracts: result.
-/
namespace Go.Proofs.YtjhkihkiebnpaaaGreatDoor
open Go.RowKit

set_option maxHeartbeats 1000000 in
theorem result_any (A : Option Addr) (c : Nat) (l : List Int) (s : ByteArray) (hl : l.length = cntL s.toList) (hlc : l.length ≤ c) (h0 : 0 < l.length) (w : World) (hA : IRow w w.heap.size A l) :
    Calls Tryz.prog 134 #[.string s, .slice A l.length c] w fun e w' => e = .returned (.int .i64 (resultL s.toList l)) ∧ Below w.heap.size w w' := by
  have hl3 : l.length ≤ 3 := by rw [hl]; unfold cntL; repeat (first | split | omega)
  have hal := Lib.hid (fun k => all_any A c l (by omega) k w hA)
  rcases hA with hnil | ⟨b, o, rfl, hb, hc⟩
  · rw [hnil] at h0; simp at h0
  by_cases he : s.toList = opEq ∨ s.toList = opLt
  · have h2 : l.length = 2 := by rw [hl]; rcases he with he | he <;> rw [he] <;> rfl
    obtain ⟨a, b1, rfl⟩ : ∃ a b1, l = [a, b1] := by
      match l, h2 with
      | [a, b1], _ => exact ⟨a, b1, rfl⟩
    have c0 := hc 0 a rfl
    have c1 := hc 1 b1 rfl
    rw [Nat.add_zero] at c0
    have hr : resultL s.toList [a, b1] = if (a == b1) = true then 1 else 0 := by
      unfold resultL
      rw [if_pos he]
      simp
    rw [hr]
    clear hr hc hl hal
    simp only [List.length_cons, List.length_nil, Nat.zero_add, Nat.reduceAdd] at hlc ⊢
    have hx1 : (1 : Int) < 2 := by omega
    rcases he with he | he
    all_goals
      simp only [opEq, opLt] at he
      cases hq : (a == b1)
      all_goals
        go_enter Tryz.func134, Tryz.ntmps134
        go_wp2_with fail
        go_quiet (fail)
        go_wp2_with fail
        go_ret
        exact ⟨rfl, below_drewN (Below.refl _ _) _⟩
  have he1 : s.toList ≠ opEq := fun h => he (.inl h)
  have he2 : s.toList ≠ opLt := fun h => he (.inr h)
  have e1 : (s.toList == [101, 113]) = false := by simpa [opEq] using he1
  have e2 : (s.toList == [108, 116]) = false := by simpa [opLt] using he2
  by_cases h3 : s.toList = opCat
  · have hr : resultL s.toList l = if l.all (· == 2) = true then 2 else 0 := by
      unfold resultL
      rw [if_neg he, if_pos h3]
    rw [hr]
    have ha := Lib.hid (hal.out 2)
    clear hr he he1 he2 hal hc e1 e2 hl
    generalize l.all (· == 2) = q at *
    generalize l.length = n at *
    simp only [opCat] at h3
    cases q
    all_goals
      go_enter Tryz.func134, Tryz.ntmps134
      go_wp2_with fail
      refine (ha.out).mono ?_
      rintro e w' ⟨rfl, hb2⟩
      have HB := Lib.hid hb2
      clear hb2
      go_wp2_with fail
      go_ret
      exact ⟨rfl, HB.out⟩
  have e3 : (s.toList == [99, 97, 116]) = false := by simpa [opCat] using h3
  by_cases h4 : s.toList = opLen
  · have hr : resultL s.toList l = if l.all (· == 2) = true then 1 else 0 := by
      unfold resultL
      rw [if_neg he, if_neg h3, if_pos h4]
    rw [hr]
    have ha := Lib.hid (hal.out 2)
    clear hr he he1 he2 hal hc e1 e2 h3 e3 hl
    generalize l.all (· == 2) = q at *
    generalize l.length = n at *
    simp only [opLen] at h4
    cases q
    all_goals
      go_enter Tryz.func134, Tryz.ntmps134
      go_wp2_with fail
      refine (ha.out).mono ?_
      rintro e w' ⟨rfl, hb2⟩
      have HB := Lib.hid hb2
      clear hb2
      go_wp2_with fail
      go_ret
      exact ⟨rfl, HB.out⟩
  have e4 : (s.toList == [108, 101, 110]) = false := by simpa [opLen] using h4
  by_cases h5 : s.toList = opIf
  · have h2 : l.length = 3 := by rw [hl, h5]; rfl
    obtain ⟨a, b1, d, rfl⟩ : ∃ a b1 d, l = [a, b1, d] := by
      match l, h2 with
      | [a, b1, d], _ => exact ⟨a, b1, d, rfl⟩
    have c0 := hc 0 a rfl
    have c1 := hc 1 b1 rfl
    have c2 := hc 2 d rfl
    rw [Nat.add_zero] at c0
    have hr : resultL s.toList [a, b1, d] = if (a == 1) = true then (if (b1 == d) = true then b1 else 0) else 0 := by
      unfold resultL
      rw [if_neg he, if_neg h3, if_neg h4, if_pos h5]
      simp only [List.getD_cons_zero, List.getD_cons_succ, beq_iff_eq]
      by_cases ha : a = 1 <;> by_cases hb : b1 = d <;> simp [ha, hb]
    rw [hr]
    clear hr hc hl hal he he1 he2 e1 e2 h3 e3 h4 e4
    simp only [List.length_cons, List.length_nil, Nat.zero_add, Nat.reduceAdd] at hlc ⊢
    have hx1 : (1 : Int) < 3 := by omega
    have hx2 : (2 : Int) < 3 := by omega
    simp only [opIf] at h5
    cases hq : (a == 1)
    · go_enter Tryz.func134, Tryz.ntmps134
      go_wp2_with fail
      go_quiet (fail)
      go_wp2_with fail
      go_ret
      exact ⟨rfl, below_drewN (Below.refl _ _) _⟩
    · cases hq2 : (b1 == d)
      all_goals
        go_enter Tryz.func134, Tryz.ntmps134
        go_wp2_with fail
        go_quiet (fail)
        go_wp2_with fail
        go_ret
        exact ⟨rfl, below_drewN (Below.refl _ _) _⟩
  have e5 : (s.toList == [105, 102]) = false := by simpa [opIf] using h5
  have hr : resultL s.toList l = if l.all (· == 1) = true then 1 else 0 := by
    unfold resultL
    rw [if_neg he, if_neg h3, if_neg h4, if_neg h5]
  rw [hr]
  have ha := Lib.hid (hal.out 1)
  clear hr he he1 he2 hal hc h3 h4 h5 hl
  generalize l.all (· == 1) = q at *
  generalize l.length = n at *
  cases q
  all_goals
    go_enter Tryz.func134, Tryz.ntmps134
    go_wp2_with fail
    refine (ha.out).mono ?_
    rintro e w' ⟨rfl, hb2⟩
    have HB := Lib.hid hb2
    clear hb2
    go_wp2_with fail
    go_ret
    exact ⟨rfl, HB.out⟩
end Go.Proofs.YtjhkihkiebnpaaaGreatDoor
/-
  Package expr's contracts: typed, Type.
-/
namespace Go.Proofs.YtjhkihkiebnpaaaGreatDoor
open Go.RowKit
theorem CRow.get_ {w : World} {A : Option Addr} {l : List C} (h : CRow w w.heap.size A l) {k : Nat} {v : C} (hv : l[k]? = some v) : ∃ b o, A = some ⟨b, o, none⟩ ∧ b < w.heap.size ∧
    w.cell? ⟨b, o + k * 2, none⟩ = some (.string v.nm) ∧ w.cell? ⟨b, o + k * 2 + 1, none⟩ = some (.int .i64 v.k) := by
  rcases h with rfl | ⟨b, o, rfl, hlt, hA⟩
  · simp at hv
  · obtain ⟨h1, h2⟩ := hA k v hv
    exact ⟨b, o, rfl, hlt, h1, h2⟩
theorem idx_at {α : Type} (p : α → Bool) (l : List α) : ∀ k : Nat, 0 ≤ idx p l k → ∃ j x, idx p l k = ((k + j : Nat) : Int) ∧ l[j]? = some x := by
  induction l with
  | nil => intro k h; simp [idx] at h
  | cons x l ih =>
    intro k h
    unfold idx at h ⊢
    by_cases hp : p x = true
    · rw [if_pos hp]
      exact ⟨0, x, rfl, rfl⟩
    · rw [if_neg hp] at h ⊢
      obtain ⟨j, y, e, hy⟩ := ih (k + 1) h
      exact ⟨j + 1, y, by rw [e]; congr 1; omega, by simpa using hy⟩
theorem find_at {l : List C} {nm : ByteArray} (h : findB l nm = true) : ∃ (j : Nat) (x : C), findN l nm = (j : Int) ∧ l[j]? = some x := by
  unfold findB at h
  rw [decide_eq_true_eq] at h
  obtain ⟨j, x, e, hx⟩ := idx_at _ _ 0 h
  refine ⟨j, x, ?_, hx⟩
  unfold findN
  rw [if_pos h, e, Nat.zero_add]
theorem typeL_step (cols : List C) {l : List E} {k : Nat} {x : E} (hx : l[k]? = some x) :
    typeL cols (l.drop k) = if (typeE cols x).2 = 0 then ((typeE cols x).1 :: (typeL cols (l.drop (k + 1))).1, (typeL cols (l.drop (k + 1))).2) else ([], (typeE cols x).2) := by
  obtain ⟨h1, e1⟩ := List.getElem?_eq_some_iff.1 hx
  rw [List.drop_eq_getElem_cons h1, e1, typeL]
theorem made_kids {s : ByteArray} {k n : Int} {l : List E} (hk1 : k ≠ 1) (hk2 : k ≠ 2) (hk3 : k ≠ 3) (h : madeE (.mk k s n l) = true) : 0 < l.length ∧ l.length = cntL s.toList ∧ ∀ e ∈ l, madeE e = true := by
  rw [madeE, if_neg hk1, if_neg hk2, if_neg hk3] at h
  split at h
  · simp only [Bool.and_eq_true, decide_eq_true_eq, beq_iff_eq, madeL_all, List.all_eq_true] at h
    obtain ⟨h1, h2, h3, h4⟩ := h
    exact ⟨by omega, h2.symm, h4⟩
  · cases h
theorem cnt_le (s : List UInt8) : cntL s ≤ 3 := by unfold cntL; repeat (first | split | omega)

def TypedExp (cols : List C) (e : E) : Prop := madeE e = true → ∀ (A Ac : Option Addr) (c cc : Nat) (w : World), EKids w w.heap.size A e.kids → CRow w w.heap.size Ac cols →
  Calls Tryz.prog 91 #[e.val A c, .slice Ac cols.length cc] w fun r w' => r = .returned (.tuple #[.int .i64 (typeE cols e).1, .int .i64 (typeE cols e).2]) ∧ Below w.heap.size w w'

theorem int_info : (Tryz.prog.info? 3).map (fun i => (i.zero, i.size, i.bytes)) = some (some (.int .i64 0), 1, 8) := by kernel_rfl

set_option maxRecDepth 100000 in
set_option maxHeartbeats 1000000 in
theorem typed_step (cols : List C) (hcl : cols.length ≤ 9223372036854775807) (k : Int) (s : ByteArray) (n : Int) (l : List E) (hM : ∀ e ∈ l, TypedExp cols e) : TypedExp cols (.mk k s n l) := by
  intro hmade A Ac c cc w hA hAc
  simp only [E.val, E.k, E.s, E.n, E.kids] at hA ⊢
  have hb0 : Below w.heap.size w (w.alloc (.cells #[.int .i64 k, .string s, .int .i64 n, .slice A l.length c] 38)) := (Below.refl _ _).alloc (Nat.le_refl _) _
  have HB0 := Lib.hid hb0
  by_cases h1 : k = 1
  · subst h1
    have hz : Hid (typeE cols (.mk 1 s n l) = (if findB cols s then ((cols.getD (findN cols s).toNat ⟨⟨#[]⟩, 0⟩).k, 0) else (0, 20))) := Lib.hid (by rw [typeE, if_pos rfl])
    have hf := Lib.hid (find_any Ac cc cols hcl s _ ((hAc.below hb0).more hb0.size))
    cases hfb : findB cols s
    · rw [hfb] at hz hf
      have hz2 : Hid (typeE cols (.mk 1 s n l) = (0, 20)) := Lib.hid (by rw [hz.out]; rfl)
      generalize typeE cols (.mk 1 s n l) = q at *
      generalize findN cols s = fn at *
      generalize cols.length = m at *
      clear hz hA hAc hM hmade hb0
      generalize l.length = ln at *
      go_enter Tryz.func91, Tryz.ntmps91
      go_wp2_with fail
      refine (hf.out).mono ?_
      rintro e w' ⟨rfl, hb⟩
      have HB := Lib.hid (HB0.out.trans (hb.mono (by simp)))
      clear hb
      go_wp2_with fail
      go_ret2
      exact ⟨by rw [hz2.out]; rfl, HB.out⟩
    · obtain ⟨j, x, ej, hx⟩ := find_at hfb
      have hz2 : Hid (typeE cols (.mk 1 s n l) = (x.k, 0)) := Lib.hid (by rw [hz.out, if_pos hfb, ej, Int.toNat_natCast, List.getD_eq_getElem?_getD, hx]; rfl)
      obtain ⟨b, o, rfl, hlt, c1, c2⟩ := hAc.get_ hx
      have hj : j < cols.length := (List.getElem?_eq_some_iff.1 hx).1
      rw [hfb, ej] at hf
      generalize typeE cols (.mk 1 s n l) = q at *
      generalize cols.length = m at *
      clear hz hA hAc hM hmade hx hfb ej c1
      obtain ⟨xn, xk⟩ := x
      simp only at c2
      generalize l.length = ln at *
      go_enter Tryz.func91, Tryz.ntmps91
      go_wp2_with fail
      refine (hf.out).mono ?_
      rintro e w' ⟨rfl, hb⟩
      have c3 := ((hb0.trans (hb.mono (by simp))).cell hlt).trans c2
      have HB := Lib.hid (hb0.trans (hb.mono (by simp)))
      clear hb hb0
      go_wp2_with fail
      go_ret2
      exact ⟨by rw [hz2.out]; rfl, HB.out⟩
  have h1' : (k == 1) = false := by simpa using h1
  by_cases h2 : k = 2
  · subst h2
    have hz2 : Hid (typeE cols (.mk 2 s n l) = (1, 0)) := Lib.hid (by rw [typeE, if_neg (by decide), if_pos rfl])
    generalize typeE cols (.mk 2 s n l) = q at *
    clear hA hAc hM hmade hb0 h1 h1'
    generalize l.length = ln at *
    go_enter Tryz.func91, Tryz.ntmps91
    go_wp2_with fail
    go_ret2
    exact ⟨by rw [hz2.out]; rfl, HB0.out⟩
  have h2' : (k == 2) = false := by simpa using h2
  by_cases h3 : k = 3
  · subst h3
    have hz2 : Hid (typeE cols (.mk 3 s n l) = (2, 0)) := Lib.hid (by rw [typeE, if_neg (by decide), if_neg (by decide), if_pos rfl])
    generalize typeE cols (.mk 3 s n l) = q at *
    clear hA hAc hM hmade hb0 h1 h1' h2 h2'
    generalize l.length = ln at *
    go_enter Tryz.func91, Tryz.ntmps91
    go_wp2_with fail
    go_ret2
    exact ⟨by rw [hz2.out]; rfl, HB0.out⟩
  have h3' : (k == 3) = false := by simpa using h3
  obtain ⟨hl0, hlc, hmk⟩ := made_kids h1 h2 h3 hmade
  have hl3 : l.length ≤ 3 := by rw [hlc]; exact cnt_le _
  have hz : Hid (typeE cols (.mk k s n l) = if (typeL cols l).2 = 0 then (if 0 < resultL s.toList (typeL cols l).1 then (resultL s.toList (typeL cols l).1, 0) else (0, 22)) else (0, (typeL cols l).2)) := Lib.hid (by rw [typeE, if_neg h1, if_neg h2, if_neg h3])
  obtain ⟨i0, hi, hz0, hz1, hz2⟩ := info_parts int_info
  have HL := Lib.hid ((hA.low hb0).more hb0.size)
  have HC := Lib.hid ((hAc.below hb0).more hb0.size)
  have HM := Lib.hid hM
  have HMK := Lib.hid hmk
  have HLC := Lib.hid hlc
  obtain ⟨m, em⟩ : ∃ m, m = cols.length := ⟨_, rfl⟩
  obtain ⟨ln, eln⟩ : ∃ ln, ln = l.length := ⟨_, rfl⟩
  have Hm := Lib.hid em
  have Hln := Lib.hid eln
  generalize typeE cols (.mk k s n l) = q at *
  rw [← em]
  rw [← eln] at hl0 hl3 hb0 HB0 HL HC ⊢
  obtain ⟨w1, ew1⟩ : ∃ w1, w1 = (w.alloc (.cells #[.int .i64 k, .string s, .int .i64 n, .slice A ln c] 38)) := ⟨_, rfl⟩
  have HW1 := Lib.hid ew1
  have cs : w1.cell? ⟨w.heap.size, 1, none⟩ = some (.string s) := by rw [ew1]; simp
  have hws : w1.heap.size = w.heap.size + 1 := by rw [ew1]; simp
  rw [← ew1] at HL HC HB0
  clear hA hAc hM hmade hb0 h1 h2 h3 hmk hlc em eln ew1
  go_enter Tryz.func91, Tryz.ntmps91
  go_wp2_with fail
  go_loopw [8, 39] (fun v i wr => ∃ (j : Nat) (ts : List Int), j ≤ ln ∧ ts.length = j ∧ i = .int .i64 j ∧ wr.ownsRow w1.heap.size 3 1 v j (ints ts) ∧ Below w1.heap.size w1 wr ∧ Hid (typeL cols l = (ts ++ (typeL cols (l.drop j)).1, (typeL cols (l.drop j)).2))) (fun _ i _ => ln - (intOf i).toNat)
  case atStart => exact ⟨0, [], Nat.zero_le _, rfl, rfl, World.ownsRow_nil _ _ _ _, by rw [HW1.out]; exact Below.refl _ _, Lib.hid rfl⟩
  case round =>
    obtain ⟨j, ts, hj, htl, rfl, hown, hb, hzl⟩ := hrel
    have HO := Lib.hid hown
    have HB := Lib.hid hb
    have hs := hb.size
    have HTL := Lib.hid htl
    clear hown htl
    by_cases hlt : j < ln
    · obtain ⟨x, hx⟩ : ∃ x, l[j]? = some x := ⟨_, List.getElem?_eq_getElem (by rw [← Hln.out]; exact hlt)⟩
      obtain ⟨b, o, A', c', rfl, hbl, c1, c2, c3, c4, hK⟩ := HL.out.get_ wr hb j x hx
      have hMx := HM.out x (List.mem_of_getElem? hx) (HMK.out x (List.mem_of_getElem? hx))
      have hst := Lib.hid (hzl.out.trans (by rw [typeL_step cols hx]))
      clear hx hzl
      obtain ⟨xk, xs, xn, xl⟩ := x
      simp only [E.k, E.s, E.n, E.kids] at c1 c2 c3 c4 hK
      have HMX := Lib.hid hMx
      have HK := Lib.hid hK
      clear hMx hK
      generalize hq : typeE cols (.mk xk xs xn xl) = tq at *
      generalize hxm : xl.length = xm at *
      have hb1 : Below w1.heap.size w1 (wr.alloc (.cells #[.int .i64 xk, .string xs, .int .i64 xn, .slice A' xm c'] 38)) := hb.alloc hs _
      have hcl := Lib.hid (HMX.out A' Ac c' cc (wr.alloc (.cells #[.int .i64 xk, .string xs, .int .i64 xn, .slice A' xm c'] 38)) (by
        simp only [E.kids]
        have hb2 : Below wr.heap.size wr (wr.alloc (.cells #[.int .i64 xk, .string xs, .int .i64 xn, .slice A' xm c'] 38)) := (Below.refl _ _).alloc (Nat.le_refl _) _
        exact (HK.out.low hb2).more hb2.size) ((HC.out.below hb1).more hb1.size))
      simp only [E.val, E.k, E.s, E.n, E.kids, hq, hxm, ← Hm.out] at hcl
      have HB1 := Lib.hid hb1
      clear hb1 HMX HK
      obtain ⟨tk, tw⟩ := tq
      simp only at hst hcl
      go_wp2_with fail
      refine (hcl.out).mono ?_
      rintro e w2 ⟨rfl, hb3⟩
      have HB3 := Lib.hid (HB1.out.trans (hb3.mono (by simp; omega)))
      have HO3 := Lib.hid (own_below (HO.out.alloc (.cells #[.int .i64 xk, .string xs, .int .i64 xn, .slice A' xm c'] 38)) hb3)
      have hs3 := HB3.out.size
      clear hb3 HO hcl
      by_cases htw : tw = 0
      · subst htw
        have hzl2 : Hid (typeL cols l = ((ts ++ [tk]) ++ (typeL cols (l.drop (j + 1))).1, (typeL cols (l.drop (j + 1))).2)) := Lib.hid (by rw [hst.out, if_pos rfl, List.append_assoc]; rfl)
        clear hst
        go_wp2_with (at_builtin; refine wpList_append_own _ rfl _ _ 55 rfl w1.heap.size 3 i0 _ 1 8 Tryz.underlying55 hi hz0 hz1 hz2 rfl (by decide) _ _ _ rfl (HO3.out.alloc _) ⟨w2.heap.size, 0, none⟩ 1 1 [.int .i64 tk] rfl rfl ?c1 ?c2 ?c3 ?c4 ?c5 ?_)
        case c1 =>
          intro i u hu
          match i, hu with
          | 0, hu => simp at hu; subst hu; simp [Addr.add]
        case c2 => intro u hu; simp at hu; subst hu; rfl
        case c3 => unfold maxLen; omega
        case c4 => omega
        case c5 => simp; omega
        intro v' w3 hown' hgrow _
        have HO4 : Hid (w3.ownsRow w1.heap.size 3 1 v' (j + 1) (ints (ts ++ [tk]))) := Lib.hid (by unfold ints at hown' ⊢; rw [List.map_append, hws]; exact hown')
        have HB4 := Lib.hid ((HB3.out.alloc hs3 (.cells #[.int .i64 tk] 3)).grown hgrow (by simp; omega) (fun g hg => (HO3.out.lt g hg).1))
        have htl2 : Hid ((ts ++ [tk]).length = j + 1) := Lib.hid (by rw [List.length_append, HTL.out]; rfl)
        clear hown' hgrow
        go_wp2_with fail
        go_roundw
        case rel => exact ⟨j + 1, ts ++ [tk], by omega, htl2.out, by go_num, HO4.out, HB4.out, hzl2⟩
        case measure => simp [intOf]; omega
      · have htw' : (tw != 0) = true := by simpa using htw
        have hq2 : Hid (q = (0, tw)) := Lib.hid (by rw [hz.out, hst.out, if_neg htw, if_neg htw])
        clear hst hz
        go_wp2_with fail
        go_ret2
        exact ⟨by rw [hq2.out]; rfl, (HB0.out.trans (HB3.out.mono (by omega)))⟩
    · obtain rfl : j = ln := by omega
      have hzl2 : Hid (typeL cols l = (ts, 0)) := Lib.hid (by rw [hzl.out, List.drop_of_length_le (by rw [← Hln.out]; exact Nat.le_refl _), typeL, List.append_nil])
      obtain ⟨A2, c2, rfl, hc2, hI⟩ := own_ints (l := ts) (by rw [HTL.out]; exact HO.out)
      have hr := Lib.hid (result_any A2 c2 ts s (by rw [HTL.out]; exact Hln.out.trans HLC.out) hc2 (by rw [HTL.out]; exact hl0) wr hI)
      rw [HTL.out] at hr
      have cs2 : wr.cell? ⟨w.heap.size, 1, none⟩ = some (.string s) := (hb.cell (show w.heap.size < w1.heap.size by omega)).trans cs
      have hq3 : Hid (q = if 0 < resultL s.toList ts then (resultL s.toList ts, 0) else (0, 22)) := Lib.hid (by rw [hz.out, hzl2.out, if_pos rfl])
      rw [HTL.out]
      clear hz hzl hzl2 hI cs HO
      generalize resultL s.toList ts = rs at *
      by_cases hrs : 0 < rs
      · have hq2 : Hid (q = (rs, 0)) := Lib.hid (by rw [hq3.out, if_pos hrs])
        clear hq3
        go_wp2_with fail
        refine (hr.out).mono ?_
        rintro e w2 ⟨rfl, hb3⟩
        have HB3 := Lib.hid (HB.out.trans (hb3.mono hs))
        clear hb3 hr
        go_wp2_with fail
        go_ret2
        exact ⟨by rw [hq2.out]; rfl, (HB0.out.trans (HB3.out.mono (by omega)))⟩
      · have hq2 : Hid (q = (0, 22)) := Lib.hid (by rw [hq3.out, if_neg hrs])
        clear hq3
        go_wp2_with fail
        refine (hr.out).mono ?_
        rintro e w2 ⟨rfl, hb3⟩
        have HB3 := Lib.hid (HB.out.trans (hb3.mono hs))
        clear hb3 hr
        go_wp2_with fail
        go_ret2
        exact ⟨by rw [hq2.out]; rfl, (HB0.out.trans (HB3.out.mono (by omega)))⟩
theorem typed_any (cols : List C) (hcl : cols.length ≤ 9223372036854775807) : ∀ e, TypedExp cols e := E.ind (typed_step cols hcl)

/-- Type's answer -/
def typeTop (cols : List C) (e : E) : Int × Int := if madeE e = true then typeE cols e else (0, 22)
set_option maxRecDepth 100000 in
theorem type_any (cols : List C) (hcl : cols.length ≤ 9223372036854775807) (e : E) (A Ac : Option Addr) (c cc : Nat) (w : World) (hA : EKids w w.heap.size A e.kids) (hAc : CRow w w.heap.size Ac cols) :
    Calls Tryz.prog 47 #[e.val A c, .slice Ac cols.length cc] w fun r w' => r = .returned (.tuple #[.int .i64 (typeTop cols e).1, .int .i64 (typeTop cols e).2]) ∧ Below w.heap.size w w' := by
  obtain ⟨k, s, n, l⟩ := e
  simp only [E.val, E.k, E.s, E.n, E.kids] at hA ⊢
  have hb0 : Below w.heap.size w (w.alloc (.cells #[.int .i64 k, .string s, .int .i64 n, .slice A l.length c] 38)) := (Below.refl _ _).alloc (Nat.le_refl _) _
  have hm := Lib.hid (made_any (.mk k s n l) A c _ ((hA.low hb0).more hb0.size))
  simp only [E.val, E.k, E.s, E.n, E.kids] at hm
  have HB0 := Lib.hid hb0
  have hq : Hid (typeTop cols (.mk k s n l) = if madeE (.mk k s n l) = true then typeE cols (.mk k s n l) else (0, 22)) := Lib.hid rfl
  generalize typeTop cols (.mk k s n l) = q at *
  cases hmd : madeE (.mk k s n l)
  · rw [hmd] at hq hm
    have hq2 : Hid (q = (0, 22)) := Lib.hid (by rw [hq.out, if_neg (by decide)])
    clear hq hA hAc
    generalize l.length = ln at *
    generalize cols.length = m at *
    go_enter Tryz.func47, Tryz.ntmps47
    go_wp2_with fail
    refine (hm.out).mono ?_
    rintro e w' ⟨rfl, hb⟩
    have HB := Lib.hid (HB0.out.trans (hb.mono (by simp)))
    clear hb
    go_wp2_with fail
    go_ret2
    exact ⟨by rw [hq2.out]; rfl, HB.out⟩
  · rw [hmd] at hq hm
    have hq2 : Hid (q = typeE cols (.mk k s n l)) := Lib.hid (by rw [hq.out, if_pos rfl])
    have hty : Hid (∀ w1, Below w.heap.size w w1 → Calls Tryz.prog 91 #[.agg #[.int .i64 k, .string s, .int .i64 n, .slice A l.length c], .slice Ac cols.length cc] w1 fun r w' => r = .returned (.tuple #[.int .i64 q.1, .int .i64 q.2]) ∧ Below w1.heap.size w1 w') := Lib.hid (fun w1 hb1 => by
      rw [hq2.out]
      exact typed_any cols hcl (.mk k s n l) hmd A Ac c cc w1 ((hA.low hb1).more hb1.size) ((hAc.below hb1).more hb1.size))
    clear hq hA hAc hmd
    generalize l.length = ln at *
    generalize cols.length = m at *
    go_enter Tryz.func47, Tryz.ntmps47
    go_wp2_with fail
    refine (hm.out).mono ?_
    rintro e w' ⟨rfl, hb⟩
    have hb2 := hb0.trans (hb.mono (by simp))
    have HB := Lib.hid hb2
    have hty2 := Lib.hid (hty.out w' hb2)
    have c0 : w'.cell? ⟨w.heap.size, 0, none⟩ = some (.int .i64 k) := (hb.cell (by simp)).trans (by simp)
    have c1 : w'.cell? ⟨w.heap.size, 1, none⟩ = some (.string s) := (hb.cell (by simp)).trans (by simp)
    have c2 : w'.cell? ⟨w.heap.size, 2, none⟩ = some (.int .i64 n) := (hb.cell (by simp)).trans (by simp)
    have c3 : w'.cell? ⟨w.heap.size, 3, none⟩ = some (.slice A ln c) := (hb.cell (by simp)).trans (by simp)
    have hs2 := hb.size
    clear hb hb2 hty hm hb0
    go_wp2_with fail
    refine (hty2.out).mono ?_
    rintro e w3 ⟨rfl, hb⟩
    have HB3 := Lib.hid (HB.out.trans (hb.mono (by simp at hs2; omega)))
    clear hb
    go_wp2_with fail
    go_ret2
    exact ⟨rfl, HB3.out⟩
end Go.Proofs.YtjhkihkiebnpaaaGreatDoor
/-
  Rows that the call itself has made: appended, stored into. No program in sight.
-/
namespace Go.Proofs.YtjhkihkiebnpaaaGreatDoor
open Go.RowKit

theorem flat_split (l : List V) (j : Nat) (u : Value) (h : (flat l)[j]? = some u) : ∃ v : V, l[j / 3]? = some v ∧ (flat l)[j / 3 * 3 + j % 3]? = some u := by
  have hj : j < (flat l).length := (List.getElem?_eq_some_iff.1 h).1
  rw [flat_len] at hj
  exact ⟨l[j / 3]'(by omega), List.getElem?_eq_getElem (by omega), by rw [show j / 3 * 3 + j % 3 = j from by omega]; exact h⟩
theorem VAt.news {w : World} {b off : Nat} {l : List V} (h : VAt w b off l) (j : Nat) (u : Value) (hu : (flat l)[j]? = some u) : w.cell? ((⟨b, off, none⟩ : Addr).add j) = some u := by
  obtain ⟨v, hv, hf⟩ := flat_split l j u hu
  obtain ⟨f1, f2, f3⟩ := flat_get l _ v hv
  obtain ⟨c1, c2, c3⟩ := h _ v hv
  have e : (⟨b, off, none⟩ : Addr).add j = ⟨b, off + (j / 3 * 3 + j % 3), none⟩ := by
    unfold Addr.add
    split
    · subst_vars; rfl
    · rw [show j / 3 * 3 + j % 3 = j from by omega]
  rw [e]
  have : j % 3 = 0 ∨ j % 3 = 1 ∨ j % 3 = 2 := by omega
  rcases this with h3 | h3 | h3 <;> rw [h3] at hf ⊢
  · rw [Nat.add_zero] at hf ⊢; rw [f1] at hf; rw [c1]; exact hf
  · rw [f2] at hf; rw [← Nat.add_assoc, c2]; exact hf
  · rw [f3] at hf; rw [← Nat.add_assoc, c3]; exact hf

/-- a row of the call's own that is not empty -/
theorem own_full {w : World} {base : Nat} {e : TypeId} {v : Value} {l : List V} {n : Nat} (h : w.ownsRow base e 3 v n (flat l)) (hl : l.length = n) (hn : 0 < n) :
    ∃ g cap, v = .slice (some ⟨g, 0, none⟩) n cap ∧ n ≤ cap ∧ base ≤ g ∧ g < w.heap.size ∧ VAt w g 0 l ∧ ∀ j, w.frozen? ⟨g, j, none⟩ = false := by
  subst hl
  obtain ⟨_, hcase⟩ := id h
  rcases hcase with ⟨_, h0⟩ | ⟨g, cap, cur, rfl, hg, hh, hc, hcap, hsz, htake⟩
  · omega
  · refine ⟨g, cap, rfl, hc, hg, ?_, ?_, fun j => h.frozenAt j⟩
    · rcases Nat.lt_or_ge g w.heap.size with hlt | hge
      · exact hlt
      · rw [Array.getElem?_eq_none hge] at hh; cases hh
    · intro i x hx
      obtain ⟨f1, f2, f3⟩ := flat_get l i x hx
      have hi : i < l.length := (List.getElem?_eq_some_iff.1 hx).1
      rw [Nat.zero_add, h.cellAt _ (by omega), h.cellAt _ (by omega), h.cellAt _ (by omega)]
      exact ⟨f1, f2, f3⟩

/-- one value stored into a row -/
theorem VAt.set3 {w : World} {b : Nat} {l : List V} (h : VAt w b 0 l) {q : Nat} {x : V} (hx : l[q]? = some x) (v : V) :
    VAt (((w.setCell ⟨b, q * 3, none⟩ (.int .i64 v.k)).setCell ⟨b, q * 3 + 1, none⟩ (.int .i64 v.n)).setCell ⟨b, q * 3 + 2, none⟩ (.string v.s)) b 0 (l.set q v) := by
  intro i y hy
  have hq : q < l.length := (List.getElem?_eq_some_iff.1 hx).1
  obtain ⟨x1, x2, x3⟩ := h q x hx
  rw [Nat.zero_add] at x1 x2 x3 ⊢
  by_cases hi : i = q
  · subst hi
    rw [List.getElem?_set_self hq] at hy
    obtain rfl : v = y := by simpa using hy
    refine ⟨?_, ?_, ?_⟩
    · rw [World.cell?_setCell_other _ _ _ _ (by simp), World.cell?_setCell_other _ _ _ _ (by simp)]
      exact World.cell?_setCell_same _ _ _ x1
    · rw [World.cell?_setCell_other _ _ _ _ (by simp)]
      exact World.cell?_setCell_same _ _ _ ((World.cell?_setCell_other _ _ _ _ (by simp)).trans x2)
    · exact World.cell?_setCell_same _ _ _ ((World.cell?_setCell_other _ _ _ _ (by simp)).trans ((World.cell?_setCell_other _ _ _ _ (by simp)).trans x3))
  · rw [List.getElem?_set_ne (by omega)] at hy
    obtain ⟨y1, y2, y3⟩ := h i y hy
    rw [Nat.zero_add] at y1 y2 y3
    refine ⟨?_, ?_, ?_⟩
    all_goals
      rw [World.cell?_setCell_other _ _ _ _ (by simp <;> omega), World.cell?_setCell_other _ _ _ _ (by simp <;> omega), World.cell?_setCell_other _ _ _ _ (by simp <;> omega)]
      assumption
end Go.Proofs.YtjhkihkiebnpaaaGreatDoor
/-
  Trees of brackets as plain trees, and as they lie in memory; expressions that the call itself makes. No program in sight.
-/
namespace Go.Proofs.YtjhkihkiebnpaaaGreatDoor
open Go.RowKit

inductive T where
  | mk (k : Int) (s : ByteArray) (n : Int) (kids : List T) (at_ : Int)
def T.k : T → Int | .mk k _ _ _ _ => k
def T.s : T → ByteArray | .mk _ s _ _ _ => s
def T.n : T → Int | .mk _ _ n _ _ => n
def T.kids : T → List T | .mk _ _ _ l _ => l
def T.at_ : T → Int | .mk _ _ _ _ a => a
theorem T.ind {P : T → Prop} (h : ∀ k s n l a, (∀ e ∈ l, P e) → P (.mk k s n l a)) : ∀ e, P e := by
  intro e
  exact T.rec (motive_1 := P) (motive_2 := fun l => ∀ e ∈ l, P e) (fun k s n l a ih => h k s n l a ih) (fun e he => by cases he) (fun e l h1 h2 x hx => by
    rcases List.mem_cons.1 hx with rfl | hx
    · exact h1
    · exact h2 x hx) e
/-- a slice at address A holds the trees l, below block B, and so on downwards -/
inductive TKids (w : World) (B : Nat) : Option Addr → List T → Prop
  | nil (A : Option Addr) : TKids w B A []
  | mk (b off : Nat) (l : List T) (hn : l.length ≤ 9223372036854775807) (hb : b < B) (A : Nat → Option Addr) (c : Nat → Nat)
      (h : ∀ i e, l[i]? = some e → w.cell? ⟨b, off + i * 5, none⟩ = some (.int .i64 e.k) ∧ w.cell? ⟨b, off + i * 5 + 1, none⟩ = some (.string e.s) ∧
        w.cell? ⟨b, off + i * 5 + 2, none⟩ = some (.int .i64 e.n) ∧ w.cell? ⟨b, off + i * 5 + 3, none⟩ = some (.slice (A i) e.kids.length (c i)) ∧ w.cell? ⟨b, off + i * 5 + 4, none⟩ = some (.int .i64 e.at_) ∧ e.kids.length ≤ c i)
      (hk : ∀ i e, l[i]? = some e → TKids w B (A i) e.kids) : TKids w B (some ⟨b, off, none⟩) l
theorem TKids.low {w w' : World} {B : Nat} {A : Option Addr} {l : List T} (h : TKids w B A l) (hb : Below B w w') : TKids w' B A l := by
  induction h with
  | nil A => exact .nil A
  | mk b off l hn hlt A c h hk ih =>
    refine .mk b off l hn hlt A c (fun i e he => ?_) (fun i e he => ih i e he)
    obtain ⟨h1, h2, h3, h4, h5, h6⟩ := h i e he
    exact ⟨(hb.cell hlt).trans h1, (hb.cell hlt).trans h2, (hb.cell hlt).trans h3, (hb.cell hlt).trans h4, (hb.cell hlt).trans h5, h6⟩
theorem TKids.more {w : World} {B B' : Nat} {A : Option Addr} {l : List T} (h : TKids w B A l) (hB : B ≤ B') : TKids w B' A l := by
  induction h with
  | nil A => exact .nil A
  | mk b off l hn hlt A c h hk ih => exact .mk b off l hn (by omega) A c h (fun i e he => ih i e he)
theorem TKids.len {w : World} {B : Nat} {A : Option Addr} {l : List T} (h : TKids w B A l) : l.length ≤ 9223372036854775807 := by
  cases h with
  | nil A => simp
  | mk b off l hn hlt A c h hk => exact hn
theorem TKids.get_ {w : World} {A : Option Addr} {l : List T} (h : TKids w w.heap.size A l) : ∀ w1, Below w.heap.size w w1 → ∀ i e, l[i]? = some e →
    ∃ b o A' c', A = some ⟨b, o, none⟩ ∧ b < w.heap.size ∧ w1.cell? ⟨b, o + i * 5, none⟩ = some (.int .i64 e.k) ∧ w1.cell? ⟨b, o + i * 5 + 1, none⟩ = some (.string e.s) ∧
      w1.cell? ⟨b, o + i * 5 + 2, none⟩ = some (.int .i64 e.n) ∧ w1.cell? ⟨b, o + i * 5 + 3, none⟩ = some (.slice A' e.kids.length c') ∧ w1.cell? ⟨b, o + i * 5 + 4, none⟩ = some (.int .i64 e.at_) ∧ e.kids.length ≤ c' ∧ TKids w1 w1.heap.size A' e.kids := by
  intro w1 hb i e he
  cases h with
  | nil A => simp at he
  | mk b off l hn hlt A c h hk =>
    obtain ⟨h1, h2, h3, h4, h5, h6⟩ := h i e he
    exact ⟨b, off, A i, c i, rfl, hlt, (hb.cell hlt).trans h1, (hb.cell hlt).trans h2, (hb.cell hlt).trans h3, (hb.cell hlt).trans h4, (hb.cell hlt).trans h5, h6, ((hk i e he).low hb).more hb.size⟩
/-- a tree's value -/
def T.val (e : T) (A : Option Addr) (c : Nat) : Value := .agg #[.int .i64 e.k, .string e.s, .int .i64 e.n, .slice A e.kids.length c, .int .i64 e.at_]

/-! ### what expr.Read gives -/
def zeroE : E := .mk 0 ⟨#[]⟩ 0 []
mutual
def readT : T → E × Int × Int
  | .mk k s n l a => if k = 2 then (if nameB s then (.mk 1 s 0 [], 0, 0) else (zeroE, 20, a))
    else if k = 3 then (.mk 2 ⟨#[]⟩ n [], 0, 0) else if k = 4 then (.mk 3 s 0 [], 0, 0)
    else if k = 1 then
      (match l with
        | [] => (zeroE, 12, a)
        | x :: ks => if x.k = 2 ∧ cntL x.s.toList ≠ 0 then
            (if ks.length = cntL x.s.toList then (if (readL ks).2.1 = 0 then (.mk 4 x.s 0 (readL ks).1, 0, 0) else (zeroE, (readL ks).2.1, (readL ks).2.2)) else (zeroE, 23, a))
          else (zeroE, 12, a))
    else (zeroE, 12, a)
def readL : List T → List E × Int × Int
  | [] => ([], 0, 0)
  | x :: l => if (readT x).2.1 = 0 then ((readT x).1 :: (readL l).1, (readL l).2.1, (readL l).2.2) else ([], (readT x).2.1, (readT x).2.2)
end

/-! ### expressions in a row that the call itself has made -/
abbrev EP := E × Option Addr × Nat
def EP.cs (x : EP) : List Value := [.int .i64 x.1.k, .string x.1.s, .int .i64 x.1.n, .slice x.2.1 x.1.kids.length x.2.2]
def flatP (l : List EP) : List Value := l.flatMap EP.cs
theorem flatP_len (l : List EP) : (flatP l).length = l.length * 4 := by
  induction l with
  | nil => rfl
  | cons v l ih => show ((EP.cs v) ++ flatP l).length = _; simp [ih, EP.cs]; omega
theorem flatP_get (l : List EP) : ∀ (i : Nat) (v : EP), l[i]? = some v → (flatP l)[i * 4]? = some (.int .i64 v.1.k) ∧ (flatP l)[i * 4 + 1]? = some (.string v.1.s) ∧ (flatP l)[i * 4 + 2]? = some (.int .i64 v.1.n) ∧ (flatP l)[i * 4 + 3]? = some (.slice v.2.1 v.1.kids.length v.2.2) := by
  induction l with
  | nil => intro i v h; simp at h
  | cons x l ih =>
    intro i v h
    have e : flatP (x :: l) = EP.cs x ++ flatP l := rfl
    rw [e]
    cases i with
    | zero =>
      obtain rfl : x = v := by simpa using h
      exact ⟨rfl, rfl, rfl, rfl⟩
    | succ i =>
      have := ih i v (by simpa using h)
      have hl : (EP.cs x).length = 4 := rfl
      rw [List.getElem?_append_right (by omega), List.getElem?_append_right (by omega), List.getElem?_append_right (by omega), List.getElem?_append_right (by omega), hl]
      rw [show (i + 1) * 4 - 4 = i * 4 from by omega, show (i + 1) * 4 + 1 - 4 = i * 4 + 1 from by omega, show (i + 1) * 4 + 2 - 4 = i * 4 + 2 from by omega, show (i + 1) * 4 + 3 - 4 = i * 4 + 3 from by omega]
      exact this
theorem flatP_one (v : EP) : flatP [v] = EP.cs v := by simp [flatP]
theorem flatP_append (a b : List EP) : flatP (a ++ b) = flatP a ++ flatP b := by simp [flatP]
theorem flatP_ones (l : List EP) : ∀ u ∈ flatP l, u.oneCell' = true := by
  intro u hu
  obtain ⟨v, _, hv⟩ := List.mem_flatMap.1 hu
  simp only [EP.cs, List.mem_cons, List.not_mem_nil, or_false] at hv
  rcases hv with rfl | rfl | rfl | rfl <;> rfl
/-- the same as EKids, with all its blocks in S -/
inductive XKids (w : World) (S : Nat → Prop) : Option Addr → List E → Prop
  | nil (A : Option Addr) : XKids w S A []
  | mk (b off : Nat) (l : List E) (hn : l.length ≤ 9223372036854775807) (hb : S b) (A : Nat → Option Addr) (c : Nat → Nat)
      (h : ∀ i e, l[i]? = some e → w.cell? ⟨b, off + i * 4, none⟩ = some (.int .i64 e.k) ∧ w.cell? ⟨b, off + i * 4 + 1, none⟩ = some (.string e.s) ∧
        w.cell? ⟨b, off + i * 4 + 2, none⟩ = some (.int .i64 e.n) ∧ w.cell? ⟨b, off + i * 4 + 3, none⟩ = some (.slice (A i) e.kids.length (c i)))
      (hk : ∀ i e, l[i]? = some e → XKids w S (A i) e.kids) : XKids w S (some ⟨b, off, none⟩) l
theorem XKids.kept {w w' : World} {S : Nat → Prop} {A : Option Addr} {l : List E} (h : XKids w S A l) (hw : ∀ k, S k → w'.heap[k]? = w.heap[k]?) : XKids w' S A l := by
  induction h with
  | nil A => exact .nil A
  | mk b off l hn hlt A c h hk ih =>
    refine .mk b off l hn hlt A c (fun i e he => ?_) (fun i e he => ih i e he)
    have hc : ∀ o, w'.cell? ⟨b, o, none⟩ = w.cell? ⟨b, o, none⟩ := fun o => World.cell?_of_block (hw b hlt)
    obtain ⟨h1, h2, h3, h4⟩ := h i e he
    exact ⟨(hc _).trans h1, (hc _).trans h2, (hc _).trans h3, (hc _).trans h4⟩
theorem XKids.mono {w : World} {S S' : Nat → Prop} {A : Option Addr} {l : List E} (h : XKids w S A l) (hS : ∀ k, S k → S' k) : XKids w S' A l := by
  induction h with
  | nil A => exact .nil A
  | mk b off l hn hlt A c h hk ih => exact .mk b off l hn (hS b hlt) A c h (fun i e he => ih i e he)
theorem XKids.to {w : World} {S : Nat → Prop} {B : Nat} {A : Option Addr} {l : List E} (h : XKids w S A l) (hS : ∀ k, S k → k < B) : EKids w B A l := by
  induction h with
  | nil A => exact .nil A
  | mk b off l hn hlt A c h hk ih => exact .mk b off l hn (hS b hlt) A c h (fun i e he => ih i e he)
/-- what is owned is a row of expressions -/
theorem own_exprs {w : World} {base : Nat} {e : TypeId} {v : Value} {l : List EP} (h : w.ownsRow base e 4 v l.length (flatP l)) (hn : l.length ≤ 9223372036854775807) {S : Nat → Prop} (hS : ∀ g, base ≤ g → g < w.heap.size → S g) (hk : ∀ x ∈ l, XKids w S x.2.1 x.1.kids) :
    ∃ A c, v = .slice A (l.map Prod.fst).length c ∧ XKids w S A (l.map Prod.fst) := by
  obtain ⟨_, hcase⟩ := id h
  rcases hcase with ⟨rfl, h0⟩ | ⟨g, cap, cur, rfl, hg, hh, hc, hcap, hsz, htake⟩
  · have e0 : l = [] := List.eq_nil_of_length_eq_zero h0
    subst e0
    exact ⟨none, 0, rfl, .nil _⟩
  · refine ⟨some ⟨g, 0, none⟩, cap, by rw [List.length_map], .mk g 0 _ (by rw [List.length_map]; exact hn) ?_ (fun i => ((l[i]?).map fun x => x.2.1).getD none) (fun i => ((l[i]?).map fun x => x.2.2).getD 0) (fun i x hx => ?_) (fun i x hx => ?_)⟩
    · refine hS g hg ?_
      rcases Nat.lt_or_ge g w.heap.size with hlt | hge
      · exact hlt
      · rw [Array.getElem?_eq_none hge] at hh; cases hh
    · rw [List.getElem?_map] at hx
      cases hl : l[i]? with
      | none => rw [hl] at hx; cases hx
      | some y =>
        rw [hl] at hx
        obtain rfl : y.1 = x := by simpa using hx
        obtain ⟨f1, f2, f3, f4⟩ := flatP_get l i y hl
        have hi : i < l.length := (List.getElem?_eq_some_iff.1 hl).1
        rw [Nat.zero_add, h.cellAt _ (by omega), h.cellAt _ (by omega), h.cellAt _ (by omega), h.cellAt _ (by omega)]
        exact ⟨f1, f2, f3, f4⟩
    · rw [List.getElem?_map] at hx
      cases hl : l[i]? with
      | none => rw [hl] at hx; cases hx
      | some y =>
        rw [hl] at hx
        obtain rfl : y.1 = x := by simpa using hx
        exact hk y (List.mem_of_getElem? hl)
end Go.Proofs.YtjhkihkiebnpaaaGreatDoor
/-
  Package expr's Read: leaves.
-/
namespace Go.Proofs.YtjhkihkiebnpaaaGreatDoor
open Go.RowKit
theorem set4c {w : World} {g k : Nat} {a b c d u : Value} {t : TypeId} (h : w.heap[g]? = some (.cells #[a, b, c, d] t (0, 0))) : (w.setCell ⟨g, k, none⟩ u).heap[g]? = some (.cells (#[a, b, c, d].set! k u) t (0, 0)) := by
  show (w.heap.modify g _)[g]? = _
  rw [Array.getElem?_modify]
  simp [h]
/-- an expression stored into a box of the call's own -/
def put4 (w : World) (p : Nat) (x0 x1 x2 x3 : Value) : World := (((w.setCell ⟨p, 0, none⟩ x0).setCell ⟨p, 1, none⟩ x1).setCell ⟨p, 2, none⟩ x2).setCell ⟨p, 3, none⟩ x3
theorem put4_block {w : World} {p : Nat} {a b c d x0 x1 x2 x3 : Value} {t : TypeId} (h : w.heap[p]? = some (.cells #[a, b, c, d] t (0, 0))) : (put4 w p x0 x1 x2 x3).heap[p]? = some (.cells #[x0, x1, x2, x3] t (0, 0)) :=
  set4c (k := 3) (set4c (k := 2) (set4c (k := 1) (set4c (k := 0) h)))
theorem put4_below {w a : World} {p B : Nat} {x0 x1 x2 x3 : Value} (h : Below B a w) (hp : B ≤ p) : Below B a (put4 w p x0 x1 x2 x3) :=
  (((h.setCell (p := ⟨p, 0, none⟩) hp x0).setCell (p := ⟨p, 1, none⟩) hp x1).setCell (p := ⟨p, 2, none⟩) hp x2).setCell (p := ⟨p, 3, none⟩) hp x3
theorem cell4 {w : World} {g : Nat} {a b c d : Value} {t : TypeId} (h : w.heap[g]? = some (.cells #[a, b, c, d] t (0, 0))) :
    (w.cell? ⟨g, 0, none⟩ = some a ∧ w.cell? ⟨g, 1, none⟩ = some b ∧ w.cell? ⟨g, 2, none⟩ = some c ∧ w.cell? ⟨g, 3, none⟩ = some d) ∧ w.frozen? ⟨g, 0, none⟩ = false ∧ w.frozen? ⟨g, 1, none⟩ = false ∧ w.frozen? ⟨g, 2, none⟩ = false ∧ w.frozen? ⟨g, 3, none⟩ = false := by
  simp [World.cell?, World.frozen?, h]
/-- an expression in a cell, and two numbers: what is returned -/
theorem results_three {fn : Func} {p q r : Tmp} (h : fn.results = #[.cell p 38, .tmp q, .tmp r]) {tmps : Array Value} {w : World} {g : Nat} {x0 x1 x2 x3 u v : Value} {t : TypeId}
    (hp : tmps.getD p undef = .pointer (some ⟨g, 0, none⟩)) (hq : tmps.getD q undef = u) (hr : tmps.getD r undef = v) (hg : w.heap[g]? = some (.cells #[x0, x1, x2, x3] t (0, 0))) : (results fn tmps).run Tryz.prog w = .ok (.tuple #[.agg #[x0, x1, x2, x3], u, v]) w := by
  have hp' : tmps[p]?.getD undef = .pointer (some ⟨g, 0, none⟩) := by simpa using hp
  have hq' : tmps[q]?.getD undef = u := by simpa using hq
  have hr' : tmps[r]?.getD undef = v := by simpa using hr
  have hl := run_loadVar_row (P := Tryz.prog) w g t 38 #[x0, x1, x2, x3] (0, 0) _ hg Tryz.underlying38 rfl (by show _ = some 4; kernel_rfl)
  simp [results, h, hp', hq', hr', asAddr, hl]
inductive T.Fine : T → Prop
  | mk (k : Int) (s : ByteArray) (n : Int) (l : List T) (a : Int) (h1 : -9223372036854775808 ≤ n) (h2 : n ≤ 9223372036854775807) (h3 : s.size ≤ 1048576) (h : ∀ e ∈ l, T.Fine e) : T.Fine (.mk k s n l a)
def ReadExp (t : T) : Prop := ∀ (A : Option Addr) (c : Nat) (w : World), t.kids.length ≤ c → TKids w w.heap.size A t.kids →
  Calls Tryz.prog 106 #[t.val A c] w fun r w' => (∃ A' c', r = .returned (.tuple #[(readT t).1.val A' c', .int .i64 (readT t).2.1, .int .i64 (readT t).2.2]) ∧ XKids w' (fun k => w.heap.size ≤ k ∧ k < w'.heap.size) A' (readT t).1.kids) ∧ Below w.heap.size w w'
set_option maxRecDepth 100000 in
set_option maxHeartbeats 1000000 in
theorem read_leaf (k : Int) (s : ByteArray) (n : Int) (l : List T) (a : Int) (hk1 : k ≠ 1) : ReadExp (.mk k s n l a) := by
  intro A c w _ hA
  simp only [T.val, T.k, T.s, T.n, T.kids, T.at_] at hA ⊢
  have hz : Hid (readT (.mk k s n l a) = if k = 2 then (if nameB s then (.mk 1 s 0 [], 0, 0) else (zeroE, 20, a)) else if k = 3 then (.mk 2 ⟨#[]⟩ n [], 0, 0) else if k = 4 then (.mk 3 s 0 [], 0, 0) else (zeroE, 12, a)) := Lib.hid (by
    rw [readT.eq_def]
    simp only [if_neg hk1])
  obtain ⟨w1, ew1⟩ : ∃ w1, w1 = (w.alloc (.cells #[.int .i64 k, .string s, .int .i64 n, .slice A l.length c, .int .i64 a] 71)).alloc (.cells #[.int .i64 0, .string ⟨#[]⟩, .int .i64 0, .slice none 0 0] 38) := ⟨_, rfl⟩
  have hb1 : Below w.heap.size w w1 := by rw [ew1]; exact ((Below.refl _ _).alloc (Nat.le_refl _) _).alloc (by simp) _
  have HB1 := Lib.hid hb1
  have hB : Hid (w1.heap[w.heap.size + 1]? = some (.cells #[.int .i64 0, .string ⟨#[]⟩, .int .i64 0, .slice none 0 0] 38 (0, 0))) := Lib.hid (by
    rw [ew1]
    have := heap_alloc_new (w.alloc (.cells #[.int .i64 k, .string s, .int .i64 n, .slice A l.length c, .int .i64 a] 71)) (.cells #[.int .i64 0, .string ⟨#[]⟩, .int .i64 0, .slice none 0 0] 38)
    simpa using this)
  have HDD : Hid (w1.cell? ⟨w.heap.size, 0, none⟩ = some (.int .i64 k) ∧ w1.cell? ⟨w.heap.size, 1, none⟩ = some (.string s) ∧ w1.cell? ⟨w.heap.size, 2, none⟩ = some (.int .i64 n) ∧ w1.cell? ⟨w.heap.size, 3, none⟩ = some (.slice A l.length c)) := Lib.hid (by rw [ew1]; simp)
  have HD : Hid (w1.cell? ⟨w.heap.size, 4, none⟩ = some (.int .i64 a)) := Lib.hid (by rw [ew1]; simp)
  have HW1 := Lib.hid ew1
  have hN := Lib.hid (name_any s w1)
  generalize readT (.mk k s n l a) = q at *
  generalize l.length = ln at *
  clear hA ew1 hb1
  have hk1' : (k == 1) = false := by simpa using hk1
  by_cases h2 : k = 2
  · subst h2
    cases hnb : nameB s
    · have hq : Hid (q = (zeroE, 20, a)) := Lib.hid (by rw [hz.out, if_pos rfl, hnb]; rfl)
      rw [hnb] at hN
      clear hz
      go_enter Tryz.func106, Tryz.ntmps106
      go_wp2_with fail
      rw [← HW1.out]
      refine (hN.out).mono ?_
      rintro e w2 ⟨rfl, rfl⟩
      obtain ⟨⟨k0, k1, k2, k3⟩, f0, f1, f2, f3⟩ := cell4 hB.out
      have d4 := HD.out
      go_wp2_with fail
      go_region
      go_wp2_with fail
      refine bodyPost_ret (results_three rfl rfl rfl rfl (show ((put4 w1 (w.heap.size + 1) _ _ _ _).drew).heap[w.heap.size + 1]? = _ from put4_block hB.out)) rfl ?_
      exact ⟨⟨none, 0, by rw [hq.out]; rfl, by rw [hq.out]; exact .nil _⟩, (put4_below HB1.out (Nat.le_succ _)).drew⟩
    · have hq : Hid (q = (.mk 1 s 0 [], 0, 0)) := Lib.hid (by rw [hz.out, if_pos rfl, hnb]; rfl)
      rw [hnb] at hN
      clear hz
      go_enter Tryz.func106, Tryz.ntmps106
      go_wp2_with fail
      rw [← HW1.out]
      refine (hN.out).mono ?_
      rintro e w2 ⟨rfl, rfl⟩
      obtain ⟨⟨k0, k1, k2, k3⟩, f0, f1, f2, f3⟩ := cell4 hB.out
      obtain ⟨d0, d1, d2, d3⟩ := HDD.out
      go_wp2_with fail
      refine bodyPost_ret (results_three rfl rfl rfl rfl (put4_block hB.out)) rfl ?_
      exact ⟨⟨none, 0, by rw [hq.out]; rfl, by rw [hq.out]; exact .nil _⟩, put4_below HB1.out (Nat.le_succ _)⟩
  have h2' : (k == 2) = false := by simpa using h2
  by_cases h3 : k = 3
  · subst h3
    have hq : Hid (q = (.mk 2 ⟨#[]⟩ n [], 0, 0)) := Lib.hid (by rw [hz.out, if_neg (by decide), if_pos rfl])
    clear hz hN
    go_enter Tryz.func106, Tryz.ntmps106
    go_upto_if 7 with (fail)
    rw [← HW1.out]
    obtain ⟨⟨k0, k1, k2, k3⟩, f0, f1, f2, f3⟩ := cell4 hB.out
    obtain ⟨d0, d1, d2, d3⟩ := HDD.out
    go_wp2_with fail
    refine bodyPost_ret (results_three rfl rfl rfl rfl (put4_block hB.out)) rfl ?_
    exact ⟨⟨none, 0, by rw [hq.out]; rfl, by rw [hq.out]; exact .nil _⟩, put4_below HB1.out (Nat.le_succ _)⟩
  have h3' : (k == 3) = false := by simpa using h3
  by_cases h4 : k = 4
  · subst h4
    have hq : Hid (q = (.mk 3 s 0 [], 0, 0)) := Lib.hid (by rw [hz.out, if_neg (by decide), if_neg (by decide), if_pos rfl])
    clear hz hN
    go_enter Tryz.func106, Tryz.ntmps106
    go_upto_if 7 with (fail)
    rw [← HW1.out]
    obtain ⟨⟨k0, k1, k2, k3⟩, f0, f1, f2, f3⟩ := cell4 hB.out
    obtain ⟨d0, d1, d2, d3⟩ := HDD.out
    go_wp2_with fail
    refine bodyPost_ret (results_three rfl rfl rfl rfl (put4_block hB.out)) rfl ?_
    exact ⟨⟨none, 0, by rw [hq.out]; rfl, by rw [hq.out]; exact .nil _⟩, put4_below HB1.out (Nat.le_succ _)⟩
  have h4' : (k == 4) = false := by simpa using h4
  have hq : Hid (q = (zeroE, 12, a)) := Lib.hid (by rw [hz.out, if_neg h2, if_neg h3, if_neg h4])
  clear hz hN
  go_enter Tryz.func106, Tryz.ntmps106
  go_upto_if 7 with (fail)
  rw [← HW1.out]
  obtain ⟨⟨k0, k1, k2, k3⟩, f0, f1, f2, f3⟩ := cell4 hB.out
  obtain ⟨d0, d1, d2, d3⟩ := HDD.out
  have d4 := HD.out
  go_wp2_with fail
  go_region
  go_wp2_with fail
  refine bodyPost_ret (results_three rfl rfl rfl rfl (show ((put4 w1 (w.heap.size + 1) _ _ _ _).drew).heap[w.heap.size + 1]? = _ from put4_block hB.out)) rfl ?_
  exact ⟨⟨none, 0, by rw [hq.out]; rfl, by rw [hq.out]; exact .nil _⟩, (put4_below HB1.out (Nat.le_succ _)).drew⟩
end Go.Proofs.YtjhkihkiebnpaaaGreatDoor
