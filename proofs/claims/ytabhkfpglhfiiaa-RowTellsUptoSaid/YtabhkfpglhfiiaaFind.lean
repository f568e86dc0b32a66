/-
  Package row's contracts: Find, Right (and slices.IndexFunc, ContainsFunc at their closures).
-/
import Derived.Test.YtabhkfpglhfiiaaValue
namespace Go.Proofs.Ytabhkfpglhfiiaa
open Go.RowKit

/-- the first place from k on at which p holds, or -1 -/
def idx {α : Type} (p : α → Bool) : List α → Nat → Int
  | [], _ => -1
  | x :: l, k => if p x then (k : Int) else idx p l (k + 1)
theorem idx_step {α : Type} {p : α → Bool} {l : List α} {k : Nat} {x : α} (h : l[k]? = some x) : idx p (l.drop k) k = if p x then (k : Int) else idx p (l.drop (k + 1)) (k + 1) := by
  obtain ⟨h1, e1⟩ := List.getElem?_eq_some_iff.1 h
  rw [List.drop_eq_getElem_cons h1, e1]
  rfl
theorem idx_bd {α : Type} (p : α → Bool) (l : List α) : ∀ k : Nat, -1 ≤ idx p l k ∧ idx p l k < k + l.length ∧ (idx p l k = -1 ∨ (k : Int) ≤ idx p l k) := by
  induction l with
  | nil => intro k; simp [idx]; omega
  | cons x l ih =>
    intro k
    unfold idx
    have := ih (k + 1)
    split
    · simp; omega
    · simp only [List.length_cons]; omega

def C.isB (nm : ByteArray) (c : C) : Bool := c.nm.toList == nm.toList

theorem find_closure (cn : ByteArray) (ck : Int) (nm : ByteArray) (p : Addr) (w : World) (h0 : w.cell? p = some (.string nm)) :
    Calls Try.prog 53 #[.agg #[.string cn, .int .i64 ck], .pointer (some p)] w fun e w' => e = .returned (.bool (C.isB nm ⟨cn, ck⟩)) ∧ w.alloc (.cells #[.string cn, .int .i64 ck] 43) = w' := by
  have hp := block_lt_of_cell h0
  go_enter Try.func53, Try.ntmps53
  go_wp2
  go_ret
  exact ⟨rfl, rfl⟩

set_option maxHeartbeats 400000 in
theorem indexFunc_col_full (b o : Nat) (n c : Nat) (l : List C) (hl : l.length = n) (hn : n ≤ 9223372036854775807) (nm : ByteArray) (pb po : Nat) (w : World) (hb : b < w.heap.size) (hL : CAt w b o l)
    (h0 : w.cell? ⟨pb, po, none⟩ = some (.string nm)) :
    Calls Try.prog 52 #[.slice (some ⟨b, o, none⟩) n c, .func (.func 53) #[] #[.pointer (some ⟨pb, po, none⟩)]] w fun e w' =>
      e = .returned (.int .i64 (idx (C.isB nm) l 0)) ∧ Below w.heap.size w w' := by
  have HL := Lib.hid hL
  have Hl := Lib.hid hl
  have hp := block_lt_of_cell h0
  have H0 := Lib.hid h0
  clear hL hl h0
  go_enter Try.func52, Try.ntmps52
  go_wp2_with fail
  go_loopw [8] (fun i wr => ∃ k : Nat, k ≤ n ∧ i = .int .i64 k ∧ Below w.heap.size w wr ∧ Hid (idx (C.isB nm) l 0 = idx (C.isB nm) (l.drop k) k)) (fun i _ => n - (intOf i).toNat)
  case atStart => exact ⟨0, Nat.zero_le _, rfl, Below.refl _ _, rfl⟩
  case round =>
    obtain ⟨k, hk, rfl, hbl, hz⟩ := hrel
    by_cases hlt : k < n
    · obtain ⟨cc, hc⟩ : ∃ c, l[k]? = some c := ⟨_, List.getElem?_eq_getElem (by rw [Hl.out]; exact hlt)⟩
      have hst := Lib.hid (hz.out.trans (idx_step (p := C.isB nm) hc))
      obtain ⟨c1, c2⟩ := HL.out.below hbl hb k cc hc
      clear hc hz
      obtain ⟨cn, ck⟩ := cc
      have hs := hbl.size
      have hcl := Lib.hid (find_closure cn ck nm ⟨pb, po, none⟩ wr ((hbl.cell hp).trans H0.out))
      by_cases he : C.isB nm ⟨cn, ck⟩ = true
      · rw [he] at hcl
        rw [if_pos he] at hst
        clear he
        go_wp2_with fail
        refine (hcl.out).mono ?_
        rintro e w' ⟨rfl, rfl⟩
        go_wp2_with fail
        go_ret
        exact ⟨by rw [hst.out]; rfl, hbl.alloc hs _⟩
      · have he' : C.isB nm ⟨cn, ck⟩ = false := by simpa using he
        rw [he'] at hcl
        rw [if_neg he] at hst
        clear he he'
        go_wp2_with fail
        refine (hcl.out).mono ?_
        rintro e w' ⟨rfl, rfl⟩
        go_wp2_with fail
        go_roundw
        case rel => exact ⟨k + 1, by omega, by go_num, hbl.alloc hs _, hst⟩
        case measure => simp [intOf]; omega
    · go_wp2_with fail
      go_ret
      have e : k = n := by omega
      subst e
      exact ⟨by rw [hz.out, List.drop_of_length_le (by rw [Hl.out]; omega)]; rfl, hbl⟩

theorem indexFunc_col (A : Option Addr) (c : Nat) (l : List C) (hn : l.length ≤ 9223372036854775807) (nm : ByteArray) (pb po : Nat) (w : World) (hA : CRow w w.heap.size A l)
    (h0 : w.cell? ⟨pb, po, none⟩ = some (.string nm)) :
    Calls Try.prog 52 #[.slice A l.length c, .func (.func 53) #[] #[.pointer (some ⟨pb, po, none⟩)]] w fun e w' =>
      e = .returned (.int .i64 (idx (C.isB nm) l 0)) ∧ Below w.heap.size w w' := by
  rcases hA with rfl | ⟨b, o, rfl, hb, hL⟩
  · clear h0
    go_enter Try.func52, Try.ntmps52
    go_wp2
    refine wp_loop_rounds 1 ?_
    rw [rounds_succ]
    go_wp2
    go_ret
    exact ⟨rfl, Below.refl _ _⟩
  · exact indexFunc_col_full b o l.length c l rfl hn nm pb po w hb hL h0

/-- Find's results: the place, or 0; whether there is one -/
def findN (l : List C) (nm : ByteArray) : Int := if 0 ≤ idx (C.isB nm) l 0 then idx (C.isB nm) l 0 else 0
def findB (l : List C) (nm : ByteArray) : Bool := decide (0 ≤ idx (C.isB nm) l 0)

set_option maxHeartbeats 400000 in
theorem find_any (A : Option Addr) (c : Nat) (l : List C) (hn : l.length ≤ 9223372036854775807) (nm : ByteArray) (w : World) (hA : CRow w w.heap.size A l) :
    Calls Try.prog 21 #[.slice A l.length c, .string nm] w fun e w' =>
      e = .returned (.tuple #[.int .i64 (findN l nm), .bool (findB l nm)]) ∧ Below w.heap.size w w' := by
  have hb0 : Below w.heap.size w (w.alloc (.cells #[.string nm] 9)) := (Below.refl _ _).alloc (Nat.le_refl _) _
  have hc := Lib.hid (indexFunc_col A c l hn nm w.heap.size 0 (w.alloc (.cells #[.string nm] 9)) ((hA.below hb0).more (by simp)) (by simp))
  obtain ⟨b1, b2, b3⟩ := idx_bd (C.isB nm) l 0
  unfold findN findB
  clear hA
  generalize idx (C.isB nm) l 0 = r at *
  by_cases hr : 0 ≤ r
  · rw [if_pos hr, decide_eq_true hr]
    go_enter Try.func21, Try.ntmps21
    go_wp2_with fail
    refine (hc.out).mono ?_
    rintro e w' ⟨rfl, hb⟩
    have hb2 := hb0.trans (hb.mono (by simp))
    clear hb hb0
    go_wp2_with fail
    go_ret2
    exact ⟨rfl, hb2⟩
  · obtain rfl : r = -1 := by omega
    rw [if_neg hr, decide_eq_false hr]
    clear hr b1 b2 b3
    go_enter Try.func21, Try.ntmps21
    go_wp2_with fail
    refine (hc.out).mono ?_
    rintro e w' ⟨rfl, hb⟩
    have hb2 := hb0.trans (hb.mono (by simp))
    clear hb hb0
    go_wp2_with fail
    go_ret2
    exact ⟨rfl, hb2⟩

/-! ### Right -/
theorem right_closure (k n : Int) (s : ByteArray) (w : World) :
    Calls Try.prog 57 #[.agg #[.int .i64 k, .int .i64 n, .string s]] w fun e w' => e = .returned (.bool (!V.okB ⟨k, n, s⟩)) ∧ Below w.heap.size w w' := by
  have hv := Lib.hid (value_right k n s)
  generalize V.okB ⟨k, n, s⟩ = q at *
  go_enter Try.func57, Try.ntmps57
  go_wp2_with fail
  refine (hv.out _).mono ?_
  rintro e w' ⟨rfl, rfl⟩
  go_wp2_with fail
  go_ret
  exact ⟨rfl, by repeat (first | exact Below.refl _ _ | refine Below.alloc ?_ (by simp) _)⟩

set_option maxHeartbeats 400000 in
theorem indexFunc_val_full (b o : Nat) (n c : Nat) (l : List V) (hl : l.length = n) (hn : n ≤ 9223372036854775807) (w : World) (hb : b < w.heap.size) (hL : VAt w b o l) :
    Calls Try.prog 75 #[.slice (some ⟨b, o, none⟩) n c, .func (.func 57) #[] #[]] w fun e w' =>
      e = .returned (.int .i64 (idx (fun v => !V.okB v) l 0)) ∧ Below w.heap.size w w' := by
  have HL := Lib.hid hL
  have Hl := Lib.hid hl
  clear hL hl
  go_enter Try.func75, Try.ntmps75
  go_wp2_with fail
  go_loopw [8] (fun i wr => ∃ k : Nat, k ≤ n ∧ i = .int .i64 k ∧ Below w.heap.size w wr ∧ Hid (idx (fun v => !V.okB v) l 0 = idx (fun v => !V.okB v) (l.drop k) k)) (fun i _ => n - (intOf i).toNat)
  case atStart => exact ⟨0, Nat.zero_le _, rfl, Below.refl _ _, rfl⟩
  case round =>
    obtain ⟨k, hk, rfl, hbl, hz⟩ := hrel
    by_cases hlt : k < n
    · obtain ⟨cc, hc⟩ : ∃ c, l[k]? = some c := ⟨_, List.getElem?_eq_getElem (by rw [Hl.out]; exact hlt)⟩
      have hst := Lib.hid (hz.out.trans (idx_step (p := fun v => !V.okB v) hc))
      obtain ⟨c1, c2, c3⟩ := HL.out.below hbl hb k cc hc
      clear hc hz
      obtain ⟨vk, vn, vs⟩ := cc
      have hs := hbl.size
      have hcl := Lib.hid (right_closure vk vn vs wr)
      by_cases he : V.okB ⟨vk, vn, vs⟩ = true
      · rw [he] at hcl
        have hst' : Hid (idx (fun v => !V.okB v) l 0 = idx (fun v => !V.okB v) (l.drop (k + 1)) (k + 1)) := by
          have := hst.out
          rwa [if_neg (by simp [he])] at this
        clear he hst
        go_wp2_with fail
        refine (hcl.out).mono ?_
        rintro e w' ⟨rfl, hb2⟩
        have hb3 := hbl.trans (hb2.mono hs)
        clear hb2
        go_wp2_with fail
        go_roundw
        case rel => exact ⟨k + 1, by omega, by go_num, hb3, hst'⟩
        case measure => simp [intOf]; omega
      · have he' : V.okB ⟨vk, vn, vs⟩ = false := by simpa using he
        rw [he'] at hcl
        have hst' : Hid (idx (fun v => !V.okB v) l 0 = (k : Int)) := by
          have := hst.out
          rwa [if_pos (by simp [he'])] at this
        clear he he' hst
        go_wp2_with fail
        refine (hcl.out).mono ?_
        rintro e w' ⟨rfl, hb2⟩
        have hb3 := hbl.trans (hb2.mono hs)
        clear hb2
        go_wp2_with fail
        go_ret
        exact ⟨by rw [hst'.out]; rfl, hb3⟩
    · go_wp2_with fail
      go_ret
      have e : k = n := by omega
      subst e
      exact ⟨by rw [hz.out, List.drop_of_length_le (by rw [Hl.out]; omega)]; rfl, hbl⟩

theorem indexFunc_val (A : Option Addr) (c : Nat) (l : List V) (hn : l.length ≤ 9223372036854775807) (w : World) (hA : VRow w w.heap.size A l) :
    Calls Try.prog 75 #[.slice A l.length c, .func (.func 57) #[] #[]] w fun e w' =>
      e = .returned (.int .i64 (idx (fun v => !V.okB v) l 0)) ∧ Below w.heap.size w w' := by
  rcases hA with rfl | ⟨b, o, rfl, hb, hL⟩
  · go_enter Try.func75, Try.ntmps75
    go_wp2
    refine wp_loop_rounds 1 ?_
    rw [rounds_succ]
    go_wp2
    go_ret
    exact ⟨rfl, Below.refl _ _⟩
  · exact indexFunc_val_full b o l.length c l rfl hn w hb hL

theorem idx_all (p : V → Bool) (l : List V) : ∀ k, decide (0 ≤ idx p l k) = l.any p := by
  induction l with
  | nil => intro k; rfl
  | cons x l ih =>
    intro k
    unfold idx
    by_cases h : p x = true
    · rw [if_pos h]; simp [h]
    · rw [if_neg h, ih]; simp [h]

theorem not_all (p : V → Bool) (l : List V) : (!(l.all p)) = l.any fun v => !p v := by
  induction l with
  | nil => rfl
  | cons x l ih => rw [List.all_cons, List.any_cons, Bool.not_and, ih]

theorem containsFunc_val (A : Option Addr) (c : Nat) (l : List V) (hn : l.length ≤ 9223372036854775807) (w : World) (hA : VRow w w.heap.size A l) :
    Calls Try.prog 56 #[.slice A l.length c, .func (.func 57) #[] #[]] w fun e w' =>
      e = .returned (.bool (!(l.all V.okB))) ∧ Below w.heap.size w w' := by
  have hc := Lib.hid (indexFunc_val A c l hn w hA)
  have e0 : (!(l.all V.okB)) = decide (0 ≤ idx (fun v => !V.okB v) l 0) := by
    rw [idx_all]; exact not_all V.okB l
  rw [e0]
  clear hA e0
  generalize idx (fun v => !V.okB v) l 0 = r at *
  go_enter Try.func56, Try.ntmps56
  go_wp2_with fail
  refine (hc.out).mono ?_
  rintro e w' ⟨rfl, hb⟩
  have HB := Lib.hid hb
  clear hb
  go_wp2_with fail
  go_ret
  exact ⟨rfl, HB.out⟩

def rowOk (l : List V) : Bool := (decide (0 < l.length) && decide (l.length ≤ 6)) && l.all V.okB

set_option maxHeartbeats 400000 in
theorem rowRight_any (A : Option Addr) (c : Nat) (l : List V) (hn : l.length ≤ 9223372036854775807) (w : World) (hA : VRow w w.heap.size A l) :
    Calls Try.prog 25 #[.slice A l.length c] w fun e w' => e = .returned (.bool (rowOk l)) ∧ Below w.heap.size w w' := by
  have hc := Lib.hid (containsFunc_val A c l hn w hA)
  clear hA
  by_cases h1 : 0 < l.length
  · by_cases h2 : l.length ≤ 6
    · have e0 : rowOk l = l.all V.okB := by simp [rowOk, h1, h2]
      rw [e0]
      generalize l.all V.okB = q at *
      generalize l.length = n at *
      have hmf : ∀ (fn : Fn) (first cap : Array Value) (w : World), (Instr.makeFunc fn first cap).run Try.prog w = .ok (.func fn first cap) w := fun _ _ _ _ => rfl
      go_enter Try.func25, Try.ntmps25
      go_wp2_with fail
      refine (hc.out).mono ?_
      rintro e w' ⟨rfl, hb⟩
      have HB := Lib.hid hb
      clear hb
      go_wp2_with fail
      go_ret
      exact ⟨by simp, HB.out⟩
    · have e0 : rowOk l = false := by simp [rowOk, h2]
      rw [e0]
      generalize l.length = n at *
      clear hc
      go_enter Try.func25, Try.ntmps25
      go_wp2
      go_ret
      exact ⟨rfl, Below.refl _ _⟩
  · have e0 : rowOk l = false := by simp [rowOk, h1]
    rw [e0]
    have hz : l.length = 0 := by omega
    rw [hz]
    clear hc hz h1
    go_enter Try.func25, Try.ntmps25
    go_wp2
    go_ret
    exact ⟨rfl, Below.refl _ _⟩

end Go.Proofs.Ytabhkfpglhfiiaa
