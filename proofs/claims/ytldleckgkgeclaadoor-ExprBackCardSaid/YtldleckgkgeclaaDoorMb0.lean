/-
  Values, rows and columns as they lie in memory; what stays of them while the world grows. No program in sight.
-/
import Derived.WalkKit
import Derived.WalkSpells
import Derived.Lib.Hide
import Derived.Deep.Draws
import Derived.RegionTactic
import Derived.Test.YtldleckgkgeclaaDoorRows
import Derived.WalkLawsBesides
import Derived.Deep.QuietTactic
import Derived.BigQuiet
import Derived.Deep.RegionHeld3
set_option linter.unusedVariables false
set_option linter.unusedSimpArgs false
namespace Go.Proofs.YtldleckgkgeclaaDoor
open Go.RowKit

/-- a value: kind, number, text -/
structure V where
  k : Int
  n : Int
  s : ByteArray
/-- a column: name, kind -/
structure C where
  nm : ByteArray
  k : Int

def V.val (v : V) : Value := .agg #[.int .i64 v.k, .int .i64 v.n, .string v.s]
def V.okB (v : V) : Bool := (v.k == 1 && v.s.toList.isEmpty) || (v.k == 2 && (v.n == 0 && decide ((v.s.size : Int) ≤ 40)))

/-- the values l lie at block b from off on -/
def VAt (w : World) (b off : Nat) (l : List V) : Prop := ∀ i v, l[i]? = some v →
  w.cell? ⟨b, off + i * 3, none⟩ = some (.int .i64 v.k) ∧ w.cell? ⟨b, off + i * 3 + 1, none⟩ = some (.int .i64 v.n) ∧ w.cell? ⟨b, off + i * 3 + 2, none⟩ = some (.string v.s)
def CAt (w : World) (b off : Nat) (l : List C) : Prop := ∀ i c, l[i]? = some c →
  w.cell? ⟨b, off + i * 2, none⟩ = some (.string c.nm) ∧ w.cell? ⟨b, off + i * 2 + 1, none⟩ = some (.int .i64 c.k)
/-- a slice at address A holds the values l, below block B -/
def VRow (w : World) (B : Nat) (A : Option Addr) (l : List V) : Prop := l = [] ∨ ∃ b off, A = some ⟨b, off, none⟩ ∧ b < B ∧ VAt w b off l
def CRow (w : World) (B : Nat) (A : Option Addr) (l : List C) : Prop := l = [] ∨ ∃ b off, A = some ⟨b, off, none⟩ ∧ b < B ∧ CAt w b off l

section
variable {w w' : World} {B B' b off : Nat} {A : Option Addr} {l : List V} {m : List C}
theorem VAt.below (h : VAt w b off l) (hb : Below B w w') (hB : b < B) : VAt w' b off l := fun i v hv => by
  obtain ⟨h1, h2, h3⟩ := h i v hv
  exact ⟨(hb.cell hB).trans h1, (hb.cell hB).trans h2, (hb.cell hB).trans h3⟩
theorem CAt.below (h : CAt w b off m) (hb : Below B w w') (hB : b < B) : CAt w' b off m := fun i v hv => by
  obtain ⟨h1, h2⟩ := h i v hv
  exact ⟨(hb.cell hB).trans h1, (hb.cell hB).trans h2⟩
theorem VRow.below (h : VRow w B A l) (hb : Below B w w') : VRow w' B A l := by
  rcases h with h | ⟨b, off, hA, hB, h⟩
  · exact .inl h
  · exact .inr ⟨b, off, hA, hB, h.below hb hB⟩
theorem CRow.below (h : CRow w B A m) (hb : Below B w w') : CRow w' B A m := by
  rcases h with h | ⟨b, off, hA, hB, h⟩
  · exact .inl h
  · exact .inr ⟨b, off, hA, hB, h.below hb hB⟩
theorem VRow.more (h : VRow w B A l) (hB : B ≤ B') : VRow w B' A l := by
  rcases h with h | ⟨b, off, hA, hb, h⟩
  · exact .inl h
  · exact .inr ⟨b, off, hA, by omega, h⟩
theorem CRow.more (h : CRow w B A m) (hB : B ≤ B') : CRow w B' A m := by
  rcases h with h | ⟨b, off, hA, hb, h⟩
  · exact .inl h
  · exact .inr ⟨b, off, hA, by omega, h⟩
end
theorem below_drewN {B : Nat} {a w : World} (h : Below B a w) (n : Nat) : Below B a (w.drewN n) := ⟨h.os, h.tape, h.output, h.size, h.block⟩

section
variable {P : Program} {md : Region.Mode} {ops : Array Oper} {Q : Exit → Act → World → Prop}
/-- one operation of a region that draws its order, where it alone may come up -/
theorem wpAny_one {i fuel : Nat} {o : Oper} {listed : Array Bool} {a : Act} {w : World} (hr : Region.ready md ops listed = [i]) (hi : ops[i]? = some o)
    (h : ∀ K' : Act → World → Prop, (∀ a w, wpAny P md ops Q fuel (listed.setIfInBounds i true) a w → K' a w) → if Region.wanted o (yielded ops a.tmps) = true then Oper.wp P o a w K' Q else K' (a.put o.dst undef) w) :
    wpAny P md ops Q (fuel + 1) listed a w := wpAny_ready hr (by simp) (AllReady.cons hi h AllReady.nil)
/-- an operation whose guard says no, passed over -/
theorem wpAny_skip {i fuel : Nat} {o : Oper} {listed : Array Bool} {a : Act} {w : World} (hi : ops[i]? = some o)
    (hs : Region.noSelect ops = true) (hf : Region.free md ops listed i = true) (hr : (Region.ready md ops listed).contains i = true)
    (hQ : ∀ c a w, Q (.panic c) (a.put o.dst undef) w → Q (.panic c) a w) (hw : Region.wanted o (yielded ops a.tmps) = false)
    (h : wpAny P md ops Q fuel (listed.setIfInBounds i true) (a.put o.dst undef) w) : wpAny P md ops Q (fuel + 1) listed a w :=
  wpAny_take hi hs hf hr hQ (Or.inr ⟨hw, rfl⟩) h
end

/-! ### rows that the call itself has made -/
def V.cs (v : V) : List Value := [.int .i64 v.k, .int .i64 v.n, .string v.s]
def flat (l : List V) : List Value := l.flatMap V.cs
theorem flat_len (l : List V) : (flat l).length = l.length * 3 := by
  induction l with
  | nil => rfl
  | cons v l ih => show ((V.cs v) ++ flat l).length = _; simp [ih, V.cs]; omega
theorem flat_get (l : List V) : ∀ (i : Nat) (v : V), l[i]? = some v → (flat l)[i * 3]? = some (.int .i64 v.k) ∧ (flat l)[i * 3 + 1]? = some (.int .i64 v.n) ∧ (flat l)[i * 3 + 2]? = some (.string v.s) := by
  induction l with
  | nil => intro i v h; simp at h
  | cons x l ih =>
    intro i v h
    have e : flat (x :: l) = V.cs x ++ flat l := rfl
    rw [e]
    cases i with
    | zero =>
      obtain rfl : x = v := by simpa using h
      exact ⟨rfl, rfl, rfl⟩
    | succ i =>
      have := ih i v (by simpa using h)
      have hl : (V.cs x).length = 3 := rfl
      rw [List.getElem?_append_right (by omega), List.getElem?_append_right (by omega), List.getElem?_append_right (by omega), hl]
      rw [show (i + 1) * 3 - 3 = i * 3 from by omega, show (i + 1) * 3 + 1 - 3 = i * 3 + 1 from by omega, show (i + 1) * 3 + 2 - 3 = i * 3 + 2 from by omega]
      exact this
theorem flat_one (v : V) : flat [v] = V.cs v := by simp [flat]
theorem flat_append (a b : List V) : flat (a ++ b) = flat a ++ flat b := by simp [flat]
theorem flat_snoc {l : List V} {k : Nat} {v : V} (h : l[k]? = some v) : flat (l.take (k + 1)) = flat (l.take k) ++ V.cs v := by
  obtain ⟨h1, e1⟩ := List.getElem?_eq_some_iff.1 h
  rw [List.take_succ_eq_append_getElem h1, flat_append, flat_one, e1]
theorem flat_ones (l : List V) : ∀ u ∈ flat l, u.oneCell' = true := by
  intro u hu
  obtain ⟨v, _, hv⟩ := List.mem_flatMap.1 hu
  simp only [V.cs, List.mem_cons, List.not_mem_nil, or_false] at hv
  rcases hv with rfl | rfl | rfl <;> rfl

/-- what is owned is a row -/
theorem own_row {w : World} {base : Nat} {e : TypeId} {v : Value} {l : List V} (h : w.ownsRow base e 3 v l.length (flat l)) :
    ∃ A c, v = .slice A l.length c ∧ l.length ≤ c ∧ VRow w w.heap.size A l ∧ (∀ b o, A = some ⟨b, o, none⟩ → base ≤ b) := by
  obtain ⟨_, hcase⟩ := id h
  rcases hcase with ⟨rfl, h0⟩ | ⟨g, cap, cur, rfl, hg, hh, hn, hcap, hsz, htake⟩
  · have e0 : l = [] := List.eq_nil_of_length_eq_zero h0
    exact ⟨none, 0, by rw [h0], by omega, .inl e0, fun b o hb => by cases hb⟩
  · refine ⟨some ⟨g, 0, none⟩, cap, rfl, hn, .inr ⟨g, 0, rfl, ?_, ?_⟩, ?_⟩
    · rcases Nat.lt_or_ge g w.heap.size with hlt | hge
      · exact hlt
      · rw [Array.getElem?_eq_none hge] at hh; cases hh
    · intro i x hx
      obtain ⟨f1, f2, f3⟩ := flat_get l i x hx
      have hi : i < l.length := (List.getElem?_eq_some_iff.1 hx).1
      rw [Nat.zero_add, h.cellAt _ (by omega), h.cellAt _ (by omega), h.cellAt _ (by omega)]
      exact ⟨f1, f2, f3⟩
    · intro b o hb
      injection hb with hb
      injection hb with hb _
      omega
end Go.Proofs.YtldleckgkgeclaaDoor
/-
  Package value's contracts.
-/
namespace Go.Proofs.YtldleckgkgeclaaDoor
open Go.RowKit

set_option maxHeartbeats 400000 in
theorem value_right (k n : Int) (s : ByteArray) (w : World) :
    Calls Tryd.prog 59 #[.agg #[.int .i64 k, .int .i64 n, .string s]] w fun e w' =>
      e = .returned (.bool (V.okB ⟨k, n, s⟩)) ∧ w.alloc (.cells #[.int .i64 k, .int .i64 n, .string s] 60) = w' := by
  by_cases h1 : (k == 1) = true
  · have hr : V.okB ⟨k, n, s⟩ = s.toList.isEmpty := by
      have : (k == 2) = false := by simp at h1 ⊢; omega
      simp [V.okB, h1, this]
    rw [hr]
    clear hr
    go_enter Tryd.func59, Tryd.ntmps59
    go_wp2
    go_ret
    exact ⟨rfl, rfl⟩
  · have h1' : (k == 1) = false := by simpa using h1
    clear h1
    by_cases h2 : (k == 2) = true
    · by_cases h3 : n = 0
      · subst h3
        have hr : V.okB ⟨k, 0, s⟩ = decide ((s.size : Int) ≤ 40) := by simp [V.okB, h1', h2]
        rw [hr]
        clear hr
        go_enter Tryd.func59, Tryd.ntmps59
        go_wp2
        go_ret
        exact ⟨rfl, rfl⟩
      · have hr : V.okB ⟨k, n, s⟩ = false := by simp [V.okB, h1', h3]
        rw [hr]
        clear hr
        go_enter Tryd.func59, Tryd.ntmps59
        go_wp2
        go_ret
        exact ⟨rfl, rfl⟩
    · have h2' : (k == 2) = false := by simpa using h2
      clear h2
      have hr : V.okB ⟨k, n, s⟩ = false := by simp [V.okB, h1', h2']
      rw [hr]
      clear hr
      go_enter Tryd.func59, Tryd.ntmps59
      go_wp2
      go_ret
      exact ⟨rfl, rfl⟩

end Go.Proofs.YtldleckgkgeclaaDoor
/-
  Package row's contracts: Find, Right (and slices.IndexFunc, ContainsFunc at their closures).
-/
namespace Go.Proofs.YtldleckgkgeclaaDoor
open Go.RowKit

/-- the first place from k on at which p holds, or -1 -/
def idx {α : Type} (p : α → Bool) : List α → Nat → Int
  | [], _ => -1
  | x :: l, k => if p x then (k : Int) else idx p l (k + 1)
theorem idx_step {α : Type} {p : α → Bool} {l : List α} {k : Nat} {x : α} (h : l[k]? = some x) : idx p (l.drop k) k = if p x then (k : Int) else idx p (l.drop (k + 1)) (k + 1) := by
  obtain ⟨h1, e1⟩ := List.getElem?_eq_some_iff.1 h
  rw [List.drop_eq_getElem_cons h1, e1]
  rfl
theorem idx_bd {α : Type} (p : α → Bool) (l : List α) : ∀ k : Nat, -1 ≤ idx p l k ∧ idx p l k < k + l.length ∧ (idx p l k = -1 ∨ (k : Int) ≤ idx p l k) := by
  induction l with
  | nil => intro k; simp [idx]; omega
  | cons x l ih =>
    intro k
    unfold idx
    have := ih (k + 1)
    split
    · simp; omega
    · simp only [List.length_cons]; omega

def C.isB (nm : ByteArray) (c : C) : Bool := c.nm.toList == nm.toList

theorem find_closure (cn : ByteArray) (ck : Int) (nm : ByteArray) (p : Addr) (w : World) (h0 : w.cell? p = some (.string nm)) :
    Calls Tryd.prog 83 #[.agg #[.string cn, .int .i64 ck], .pointer (some p)] w fun e w' => e = .returned (.bool (C.isB nm ⟨cn, ck⟩)) ∧ w.alloc (.cells #[.string cn, .int .i64 ck] 92) = w' := by
  have hp := block_lt_of_cell h0
  go_enter Tryd.func83, Tryd.ntmps83
  go_wp2
  go_ret
  exact ⟨rfl, rfl⟩

set_option maxHeartbeats 400000 in
theorem indexFunc_col_full (b o : Nat) (n c : Nat) (l : List C) (hl : l.length = n) (hn : n ≤ 9223372036854775807) (nm : ByteArray) (pb po : Nat) (w : World) (hb : b < w.heap.size) (hL : CAt w b o l)
    (h0 : w.cell? ⟨pb, po, none⟩ = some (.string nm)) :
    Calls Tryd.prog 82 #[.slice (some ⟨b, o, none⟩) n c, .func (.func 83) #[] #[.pointer (some ⟨pb, po, none⟩)]] w fun e w' =>
      e = .returned (.int .i64 (idx (C.isB nm) l 0)) ∧ Below w.heap.size w w' := by
  have HL := Lib.hid hL
  have Hl := Lib.hid hl
  have hp := block_lt_of_cell h0
  have H0 := Lib.hid h0
  clear hL hl h0
  go_enter Tryd.func82, Tryd.ntmps82
  go_wp2_with fail
  go_loopw [8] (fun i wr => ∃ k : Nat, k ≤ n ∧ i = .int .i64 k ∧ Below w.heap.size w wr ∧ Hid (idx (C.isB nm) l 0 = idx (C.isB nm) (l.drop k) k)) (fun i _ => n - (intOf i).toNat)
  case atStart => exact ⟨0, Nat.zero_le _, rfl, Below.refl _ _, rfl⟩
  case round =>
    obtain ⟨k, hk, rfl, hbl, hz⟩ := hrel
    by_cases hlt : k < n
    · obtain ⟨cc, hc⟩ : ∃ c, l[k]? = some c := ⟨_, List.getElem?_eq_getElem (by rw [Hl.out]; exact hlt)⟩
      have hst := Lib.hid (hz.out.trans (idx_step (p := C.isB nm) hc))
      obtain ⟨c1, c2⟩ := HL.out.below hbl hb k cc hc
      clear hc hz
      obtain ⟨cn, ck⟩ := cc
      have hs := hbl.size
      have hcl := Lib.hid (find_closure cn ck nm ⟨pb, po, none⟩ wr ((hbl.cell hp).trans H0.out))
      by_cases he : C.isB nm ⟨cn, ck⟩ = true
      · rw [he] at hcl
        rw [if_pos he] at hst
        clear he
        go_wp2_with fail
        refine (hcl.out).mono ?_
        rintro e w' ⟨rfl, rfl⟩
        go_wp2_with fail
        go_ret
        exact ⟨by rw [hst.out]; rfl, hbl.alloc hs _⟩
      · have he' : C.isB nm ⟨cn, ck⟩ = false := by simpa using he
        rw [he'] at hcl
        rw [if_neg he] at hst
        clear he he'
        go_wp2_with fail
        refine (hcl.out).mono ?_
        rintro e w' ⟨rfl, rfl⟩
        go_wp2_with fail
        go_roundw
        case rel => exact ⟨k + 1, by omega, by go_num, hbl.alloc hs _, hst⟩
        case measure => simp [intOf]; omega
    · go_wp2_with fail
      go_ret
      have e : k = n := by omega
      subst e
      exact ⟨by rw [hz.out, List.drop_of_length_le (by rw [Hl.out]; omega)]; rfl, hbl⟩

theorem indexFunc_col (A : Option Addr) (c : Nat) (l : List C) (hn : l.length ≤ 9223372036854775807) (nm : ByteArray) (pb po : Nat) (w : World) (hA : CRow w w.heap.size A l)
    (h0 : w.cell? ⟨pb, po, none⟩ = some (.string nm)) :
    Calls Tryd.prog 82 #[.slice A l.length c, .func (.func 83) #[] #[.pointer (some ⟨pb, po, none⟩)]] w fun e w' =>
      e = .returned (.int .i64 (idx (C.isB nm) l 0)) ∧ Below w.heap.size w w' := by
  rcases hA with rfl | ⟨b, o, rfl, hb, hL⟩
  · clear h0
    go_enter Tryd.func82, Tryd.ntmps82
    go_wp2
    refine wp_loop_rounds 1 ?_
    rw [rounds_succ]
    go_wp2
    go_ret
    exact ⟨rfl, Below.refl _ _⟩
  · exact indexFunc_col_full b o l.length c l rfl hn nm pb po w hb hL h0

/-- Find's results: the place, or 0; whether there is one -/
def findN (l : List C) (nm : ByteArray) : Int := if 0 ≤ idx (C.isB nm) l 0 then idx (C.isB nm) l 0 else 0
def findB (l : List C) (nm : ByteArray) : Bool := decide (0 ≤ idx (C.isB nm) l 0)

set_option maxHeartbeats 400000 in
theorem find_any (A : Option Addr) (c : Nat) (l : List C) (hn : l.length ≤ 9223372036854775807) (nm : ByteArray) (w : World) (hA : CRow w w.heap.size A l) :
    Calls Tryd.prog 64 #[.slice A l.length c, .string nm] w fun e w' =>
      e = .returned (.tuple #[.int .i64 (findN l nm), .bool (findB l nm)]) ∧ Below w.heap.size w w' := by
  have hb0 : Below w.heap.size w (w.alloc (.cells #[.string nm] 9)) := (Below.refl _ _).alloc (Nat.le_refl _) _
  have hc := Lib.hid (indexFunc_col A c l hn nm w.heap.size 0 (w.alloc (.cells #[.string nm] 9)) ((hA.below hb0).more (by simp)) (by simp))
  obtain ⟨b1, b2, b3⟩ := idx_bd (C.isB nm) l 0
  unfold findN findB
  clear hA
  generalize idx (C.isB nm) l 0 = r at *
  by_cases hr : 0 ≤ r
  · rw [if_pos hr, decide_eq_true hr]
    go_enter Tryd.func64, Tryd.ntmps64
    go_wp2_with fail
    refine (hc.out).mono ?_
    rintro e w' ⟨rfl, hb⟩
    have hb2 := hb0.trans (hb.mono (by simp))
    clear hb hb0
    go_wp2_with fail
    go_ret2
    exact ⟨rfl, hb2⟩
  · obtain rfl : r = -1 := by omega
    rw [if_neg hr, decide_eq_false hr]
    clear hr b1 b2 b3
    go_enter Tryd.func64, Tryd.ntmps64
    go_wp2_with fail
    refine (hc.out).mono ?_
    rintro e w' ⟨rfl, hb⟩
    have hb2 := hb0.trans (hb.mono (by simp))
    clear hb hb0
    go_wp2_with fail
    go_ret2
    exact ⟨rfl, hb2⟩

/-! ### Right -/
end Go.Proofs.YtldleckgkgeclaaDoor
/-
  Package row's contracts: reserved, Name, Columns.
-/
namespace Go.Proofs.YtldleckgkgeclaaDoor
open Go.RowKit

/-- the words that are none of names -/
def reservedL : List (List UInt8) := [[116, 97, 98, 108, 101], [102, 105, 108, 116, 101, 114], [112, 114, 111, 106, 101, 99, 116], [106, 111, 105, 110], [117, 110, 105, 111, 110], [100, 105, 115, 116, 105, 110, 99, 116], [103, 114, 111, 117, 112], [99, 111, 117, 110, 116], [115, 117, 109], [109, 105, 110], [109, 97, 120], [97, 100, 100], [115, 117, 98], [109, 117, 108], [110, 101, 103], [101, 113], [108, 116], [97, 110, 100], [111, 114], [110, 111, 116], [99, 97, 116], [108, 101, 110], [105, 102]]
def resB (s : ByteArray) : Bool := reservedL.any fun x => s.toList == x

theorem any_false {α : Type} {l : List α} {p : α → Bool} (h : l.any p = false) : ∀ x ∈ l, p x = false := by
  simpa [List.any_eq_false] using h

set_option maxHeartbeats 4000000 in
theorem reserved_any (s : ByteArray) (w : World) : Calls Tryd.prog 51 #[.string s] w fun e w' => e = .returned (.bool (resB s)) ∧ w = w' := by
  by_cases h : resB s = true
  · rw [h]
    obtain ⟨x, hx, e⟩ := List.any_eq_true.1 h
    have hs : s.toList = x := by simpa using e
    clear h e
    subst hs
    simp only [reservedL, List.mem_cons, List.not_mem_nil, or_false] at hx
    rcases hx with hx | hx | hx | hx | hx | hx | hx | hx | hx | hx | hx | hx | hx | hx | hx | hx | hx | hx | hx | hx | hx | hx | hx
    all_goals
      go_enter Tryd.func51, Tryd.ntmps51
      go_wp2
      go_ret
      exact ⟨rfl, rfl⟩
  · have h' : resB s = false := by simpa using h
    rw [h']
    have hn := any_false h'
    clear h h'
    simp only [reservedL, List.mem_cons, List.not_mem_nil, or_false, forall_eq_or_imp, forall_eq] at hn
    obtain ⟨h0, h1, h2, h3, h4, h5, h6, h7, h8, h9, h10, h11, h12, h13, h14, h15, h16, h17, h18, h19, h20, h21, h22⟩ := hn
    go_enter Tryd.func51, Tryd.ntmps51
    go_wp2
    go_ret
    exact ⟨rfl, rfl⟩

def lowL (l : List UInt8) : Bool := l.all fun c => decide (97 ≤ (c.toNat : Int)) && decide ((c.toNat : Int) ≤ 122)
theorem lowL_step (s : ByteArray) (k : Nat) (h : k < s.size) : lowL (s.data.toList.drop k) = ((decide (97 ≤ (s[k].toNat : Int)) && decide ((s[k].toNat : Int) ≤ 122)) && lowL (s.data.toList.drop (k + 1))) := by
  rw [List.drop_eq_getElem_cons (by simpa using h)]
  rfl
def nameB (s : ByteArray) : Bool := ((!s.toList.isEmpty && decide (s.size ≤ 12)) && !resB s) && lowL s.data.toList

set_option maxHeartbeats 400000 in
theorem name_loop (s : ByteArray) (w : World) (h1 : s.toList.isEmpty = false) (h2 : s.size ≤ 12) (h3 : resB s = false) :
    Calls Tryd.prog 31 #[.string s] w fun e w' => e = .returned (.bool (lowL s.data.toList)) ∧ w = w' := by
  have HR := Lib.hid (reserved_any s)
  rw [h3] at HR
  clear h3
  have hd : decide (12 < (s.size : Int)) = false := by simp; omega
  go_enter Tryd.func31, Tryd.ntmps31
  go_wp2_with fail
  refine (HR.out _).mono ?_
  rintro e w' ⟨rfl, rfl⟩
  go_wp2_with fail
  go_loop [17] (fun i => ∃ k : Nat, k ≤ s.size ∧ i = .int .i64 k ∧ Hid (lowL s.data.toList = lowL (s.data.toList.drop k))) (fun i => s.size - (intOf i).toNat)
  case atStart => exact ⟨0, Nat.zero_le _, rfl, rfl⟩
  case round =>
    obtain ⟨k, hk, rfl, hz⟩ := hrel
    by_cases hlt : k < s.size
    · have hst := Lib.hid (hz.out.trans (lowL_step s k hlt))
      clear hz
      by_cases a1 : 97 ≤ (s[k].toNat : Int)
      · by_cases a2 : (s[k].toNat : Int) ≤ 122
        · rw [decide_eq_true a1, decide_eq_true a2] at hst
          have hst' : Hid (lowL s.data.toList = lowL (s.data.toList.drop (k + 1))) := by
            have := hst.out; rwa [Bool.and_self, Bool.true_and] at this
          clear hst
          go_wp2_with fail
          go_round
          case rel => exact ⟨k + 1, by omega, by go_num, hst'⟩
          case measure => simp [intOf]; omega
        · have hst' : Hid (lowL s.data.toList = false) := by
            have := hst.out; rwa [decide_eq_false a2, Bool.and_false, Bool.false_and] at this
          clear hst
          go_wp2_with fail
          go_ret
          exact ⟨by rw [hst'.out]; rfl, rfl⟩
      · have hst' : Hid (lowL s.data.toList = false) := by
          have := hst.out; rwa [decide_eq_false a1, Bool.false_and, Bool.false_and] at this
        clear hst
        go_wp2_with fail
        go_ret
        exact ⟨by rw [hst'.out]; rfl, rfl⟩
    · go_wp2_with fail
      go_ret
      have e : k = s.size := by omega
      subst e
      exact ⟨by rw [hz.out, List.drop_of_length_le (by simp)]; rfl, rfl⟩

theorem name_any (s : ByteArray) (w : World) : Calls Tryd.prog 31 #[.string s] w fun e w' => e = .returned (.bool (nameB s)) ∧ w = w' := by
  by_cases h1 : s.toList.isEmpty = true
  · have e0 : nameB s = false := by simp [nameB, h1]
    rw [e0]
    clear e0
    go_enter Tryd.func31, Tryd.ntmps31
    go_wp2
    go_ret
    exact ⟨rfl, rfl⟩
  · have h1' : s.toList.isEmpty = false := by simpa using h1
    clear h1
    by_cases h2 : s.size ≤ 12
    · by_cases h3 : resB s = true
      · have e0 : nameB s = false := by simp [nameB, h3]
        rw [e0]
        have HR := Lib.hid (reserved_any s)
        rw [h3] at HR
        clear h3 e0
        go_enter Tryd.func31, Tryd.ntmps31
        go_wp2_with fail
        refine (HR.out _).mono ?_
        rintro e w' ⟨rfl, rfl⟩
        go_wp2_with fail
        go_ret
        exact ⟨rfl, rfl⟩
      · have h3' : resB s = false := by simpa using h3
        have e0 : nameB s = lowL s.data.toList := by simp [nameB, h1', h2, h3']
        rw [e0]
        exact name_loop s w h1' h2 h3'
    · have e0 : nameB s = false := by simp [nameB, h2]
      rw [e0]
      clear e0
      go_enter Tryd.func31, Tryd.ntmps31
      go_wp2
      go_ret
      exact ⟨rfl, rfl⟩

end Go.Proofs.YtldleckgkgeclaaDoor
/-
  Package value's contract: Less.
-/
namespace Go.Proofs.YtldleckgkgeclaaDoor
open Go.RowKit

def V.ltIn (a b : V) : Bool := if (a.k != b.k) then a.k == 1 else if (a.k == 1) then decide (a.n < b.n) else Op.bytesLess a.s.toList b.s.toList
def V.lt (a b : V) : Bool := (V.okB a && V.okB b) && V.ltIn a b

set_option maxHeartbeats 400000 in
theorem value_less (k n : Int) (s : ByteArray) (k2 n2 : Int) (s2 : ByteArray) (w : World) :
    Calls Tryd.prog 85 #[.agg #[.int .i64 k, .int .i64 n, .string s], .agg #[.int .i64 k2, .int .i64 n2, .string s2]] w fun e w' =>
      e = .returned (.bool (V.lt ⟨k, n, s⟩ ⟨k2, n2, s2⟩)) ∧ Below w.heap.size w w' := by
  have hr1 := Lib.hid (value_right k n s)
  have hr2 := Lib.hid (value_right k2 n2 s2)
  unfold V.lt
  generalize V.okB ⟨k, n, s⟩ = q at *
  generalize V.okB ⟨k2, n2, s2⟩ = q2 at *
  cases q
  · rw [Bool.false_and, Bool.false_and]
    clear hr2
    go_enter Tryd.func85, Tryd.ntmps85
    go_wp2_with fail
    refine (hr1.out _).mono ?_
    rintro e w' ⟨rfl, rfl⟩
    go_wp2_with fail
    go_ret
    exact ⟨rfl, by repeat (first | exact Below.refl _ _ | refine Below.alloc ?_ (by simp <;> omega) _)⟩
  · cases q2
    · rw [Bool.and_false, Bool.false_and]
      go_enter Tryd.func85, Tryd.ntmps85
      go_wp2_with fail
      refine (hr1.out _).mono ?_
      rintro e w' ⟨rfl, rfl⟩
      go_wp2_with fail
      refine (hr2.out _).mono ?_
      rintro e w' ⟨rfl, rfl⟩
      go_wp2_with fail
      go_ret
      exact ⟨rfl, by repeat (first | exact Below.refl _ _ | refine Below.alloc ?_ (by simp <;> omega) _)⟩
    · rw [Bool.and_self, Bool.true_and]
      by_cases h1 : (k != k2) = true
      · have e0 : V.ltIn ⟨k, n, s⟩ ⟨k2, n2, s2⟩ = (k == 1) := if_pos h1
        rw [e0]
        clear e0
        go_enter Tryd.func85, Tryd.ntmps85
        go_wp2_with fail
        refine (hr1.out _).mono ?_
        rintro e w' ⟨rfl, rfl⟩
        go_wp2_with fail
        refine (hr2.out _).mono ?_
        rintro e w' ⟨rfl, rfl⟩
        go_wp2_with fail
        go_ret
        exact ⟨rfl, by repeat (first | exact Below.refl _ _ | refine Below.alloc ?_ (by simp <;> omega) _)⟩
      · have h1' : (k != k2) = false := by simpa using h1
        by_cases h2 : (k == 1) = true
        · have e0 : V.ltIn ⟨k, n, s⟩ ⟨k2, n2, s2⟩ = decide (n < n2) := (if_neg h1).trans (if_pos h2)
          rw [e0]
          clear e0 h1
          go_enter Tryd.func85, Tryd.ntmps85
          go_wp2_with fail
          refine (hr1.out _).mono ?_
          rintro e w' ⟨rfl, rfl⟩
          go_wp2_with fail
          refine (hr2.out _).mono ?_
          rintro e w' ⟨rfl, rfl⟩
          go_wp2_with fail
          go_ret
          exact ⟨rfl, by repeat (first | exact Below.refl _ _ | refine Below.alloc ?_ (by simp <;> omega) _)⟩
        · have h2' : (k == 1) = false := by simpa using h2
          have e0 : V.ltIn ⟨k, n, s⟩ ⟨k2, n2, s2⟩ = Op.bytesLess s.toList s2.toList := (if_neg h1).trans (if_neg h2)
          rw [e0]
          clear e0 h1 h2
          go_enter Tryd.func85, Tryd.ntmps85
          go_wp2_with fail
          refine (hr1.out _).mono ?_
          rintro e w' ⟨rfl, rfl⟩
          go_wp2_with fail
          refine (hr2.out _).mono ?_
          rintro e w' ⟨rfl, rfl⟩
          go_wp2_with fail
          go_ret
          exact ⟨rfl, by repeat (first | exact Below.refl _ _ | refine Below.alloc ?_ (by simp <;> omega) _)⟩

end Go.Proofs.YtldleckgkgeclaaDoor
/-
  Package confluencekeep's contracts: Num, Nums.
-/
namespace Go.Proofs.YtldleckgkgeclaaDoor
open Go.RowKit

theorem value_info : (Tryd.prog.info? 60).map (fun i => (i.zero, i.size, i.bytes)) = some (some (.agg #[.int .i64 0, .int .i64 0, .string ByteArray.empty]), 3, 32) := by kernel_rfl

theorem keep_num (n : Int) (w : World) :
    Calls Tryd.prog 30 #[.int .i64 n] w fun e w' => e = .returned (.agg #[.int .i64 1, .int .i64 n, .string ⟨#[]⟩]) ∧ w.alloc (.cells #[.int .i64 1, .int .i64 n, .string ⟨#[]⟩] 60) = w' := by
  go_enter Tryd.func30, Tryd.ntmps30
  go_wp2
  exact bodyPost_ret (v := .agg #[.int .i64 1, .int .i64 n, .string ⟨#[]⟩]) (by simp [results, Tryd.results30, go_sem]) rfl ⟨rfl, rfl⟩

def numV (n : Int) : V := ⟨1, n, ⟨#[]⟩⟩
/-- a new row -/
def NewRow (w : World) (l : List V) (e : Ending) (w' : World) : Prop := ∃ v, e = .returned v ∧ w'.ownsRow w.heap.size 60 3 v l.length (flat l) ∧ Below w.heap.size w w'

set_option maxHeartbeats 1000000 in
theorem nums_any (b o c : Nat) (zs : List Int) (n : Nat) (hz : zs.length = n) (hn : n ≤ 1000) (w : World) (hb : b < w.heap.size) (hc : ∀ k, k < n → w.cell? ⟨b, o + k, none⟩ = some (.int .i64 (zs.getD k 0))) :
    Calls Tryd.prog 28 #[.slice (some ⟨b, o, none⟩) n c] w (NewRow w (zs.map numV)) := by
  obtain ⟨i0, hi, hz0, hz1, hz2⟩ := info_parts value_info
  have HC := Lib.hid hc
  have HZ := Lib.hid hz
  clear hc hz
  go_enter Tryd.func28, Tryd.ntmps28
  go_wp2_with fail
  go_loopw [3, 4] (fun v i wr => ∃ k : Nat, k ≤ n ∧ i = .int .i64 k ∧ wr.ownsRow w.heap.size 60 3 v k (flat ((zs.map numV).take k)) ∧ Below w.heap.size w wr) (fun _ i _ => n - (intOf i).toNat)
  case atStart => exact ⟨0, Nat.zero_le _, rfl, World.ownsRow_nil _ _ _ _, Below.refl _ _⟩
  case round =>
    obtain ⟨k, hk, rfl, hown, hbl⟩ := hrel
    have HO := Lib.hid hown
    have HB := Lib.hid hbl
    have hs := hbl.size
    clear hown
    by_cases hlt : k < n
    · have hcell := (hbl.cell hb).trans (HC.out k hlt)
      have hsn := Lib.hid (flat_snoc (l := zs.map numV) (k := k) (v := numV (zs.getD k 0)) (by rw [List.getElem?_map, List.getElem?_eq_getElem (by rw [HZ.out]; exact hlt), List.getD_eq_getElem?_getD, List.getElem?_eq_getElem (by rw [HZ.out]; exact hlt)]; rfl))
      generalize zs.getD k 0 = x at *
      clear hbl
      go_wp2_with fail
      refine (keep_num x _).mono ?_
      rintro e w' ⟨rfl, rfl⟩
      go_wp2_with (at_builtin; refine wpList_append_own _ rfl _ _ 67 rfl w.heap.size 60 i0 _ 3 32 Tryd.underlying67 hi hz0 hz1 hz2 rfl (by decide) _ _ _ rfl ((HO.out.alloc _).alloc _) ⟨wr.heap.size + 1, 0, none⟩ 1 1 (V.cs (numV x)) rfl rfl ?c1 ?c2 ?c3 ?c4 ?c5 ?_)
      case c1 =>
        intro j u hj
        match j, hj with
        | 0, hj => simp [V.cs] at hj; subst hj; simp [Addr.add, numV]
        | 1, hj => simp [V.cs] at hj; subst hj; simp [Addr.add, numV]
        | 2, hj => simp [V.cs] at hj; subst hj; simp [Addr.add, numV]
      case c2 => rw [← flat_one]; exact flat_ones _
      case c3 => unfold maxLen; omega
      case c4 => omega
      case c5 => simp; omega
      intro v' w1 hown' hgrow _
      have ho2 : w1.ownsRow w.heap.size 60 3 v' (k + 1) (flat ((zs.map numV).take (k + 1))) := by rw [hsn.out]; exact hown'
      have hb2 := ((HB.out.alloc hs _).alloc (by simp; omega) _).grown hgrow (by simp; omega) (fun g hg => (HO.out.lt g hg).1)
      clear hown' hgrow hcell
      go_wp2_with fail
      go_roundw
      case rel => exact ⟨k + 1, by omega, by go_num, ho2, hb2⟩
      case measure => simp [intOf]; omega
    · clear hbl
      go_wp2_with fail
      go_ret
      obtain rfl : k = n := by omega
      have ho := HO.out
      rw [List.take_of_length_le (by simp [HZ.out])] at ho
      exact ⟨_, rfl, by simpa [HZ.out] using ho, HB.out⟩

end Go.Proofs.YtldleckgkgeclaaDoor
