/-
  Package plan's contracts: word, atoms, column, agg, all (the forms of trees).
-/
import Derived.Test.YtjhkihkiebnpaaaGreatDoorMp1
set_option linter.unusedVariables false
set_option linter.unusedSimpArgs false
namespace Go.Proofs.YtjhkihkiebnpaaaGreatDoor
open Go.RowKit
set_option linter.unusedVariables false
set_option linter.unusedSimpArgs false
theorem TKids.sub {w : World} {B b off : Nat} {l : List T} (h : TKids w B (some ⟨b, off, none⟩) l) (i m : Nat) : TKids w B (some ⟨b, off + i * 5, none⟩) ((l.drop i).take m) := by
  cases h with
  | nil A => simp; exact .nil _
  | mk _ _ _ hn hlt A c h hk =>
    have hget : ∀ j e, ((l.drop i).take m)[j]? = some e → l[i + j]? = some e := fun j e he => by
      rw [List.getElem?_take] at he
      split at he
      · rw [List.getElem?_drop] at he; exact he
      · cases he
    refine .mk b (off + i * 5) _ (by rw [List.length_take, List.length_drop]; omega) hlt (fun j => A (i + j)) (fun j => c (i + j)) (fun j e he => ?_) (fun j e he => hk _ e (hget j e he))
    have := h (i + j) e (hget j e he)
    rw [show off + i * 5 + j * 5 = off + (i + j) * 5 by omega]
    exact this
theorem block_alloc_new5 (w : World) (k : Int) (s : ByteArray) (n : Int) (A : Option Addr) (m c : Nat) (a : Int) : (w.alloc (.cells #[.int .i64 k, .string s, .int .i64 n, .slice A m c, .int .i64 a] 71)).heap[w.heap.size]? = some (.cells #[.int .i64 k, .string s, .int .i64 n, .slice A m c, .int .i64 a] 71 (0, 0)) := heap_alloc_new w _
theorem box_below (w : World) (cs : Array Value) (t : TypeId) : Below w.heap.size w (w.alloc (.cells cs t)) := (Below.refl _ _).alloc (Nat.le_refl _) _
theorem atoms_closure (x : T) (A : Option Addr) (c : Nat) (w : World) :
    Calls Tryz.prog 140 #[x.val A c] w fun e w' => e = .returned (.bool (x.k != 2)) ∧ Below w.heap.size w w' := by
  obtain ⟨k, s, n, l, a⟩ := x
  simp only [T.val, T.k, T.s, T.n, T.kids, T.at_]
  have hb0 := box_below w #[.int .i64 k, .string s, .int .i64 n, .slice A l.length c, .int .i64 a] 71
  generalize l.length = m at *
  go_enter Tryz.func140, Tryz.ntmps140
  go_wp2_with fail
  go_ret
  exact ⟨rfl, hb0⟩
set_option maxHeartbeats 400000 in
theorem indexFunc_atoms (A : Option Addr) (c : Nat) (l : List T) (w : World) (hA : TKids w w.heap.size A l) :
    Calls Tryz.prog 161 #[.slice A l.length c, .func (.func 140) #[] #[]] w fun e w' =>
      e = .returned (.int .i64 (idx (fun e : T => e.k != 2) l 0)) ∧ Below w.heap.size w w' := by
  have hn := hA.len
  have HL := Lib.hid hA.get_
  obtain ⟨n, en⟩ : ∃ n, n = l.length := ⟨_, rfl⟩
  have Hl := Lib.hid en
  rw [← en] at hn ⊢
  clear hA en
  go_enter Tryz.func161, Tryz.ntmps161
  go_wp2_with fail
  go_loopw [8] (fun i wr => ∃ k : Nat, k ≤ n ∧ i = .int .i64 k ∧ Below w.heap.size w wr ∧ Hid (idx (fun e : T => e.k != 2) l 0 = idx (fun e : T => e.k != 2) (l.drop k) k)) (fun i _ => n - (intOf i).toNat)
  case atStart => exact ⟨0, Nat.zero_le _, rfl, Below.refl _ _, rfl⟩
  case round =>
    obtain ⟨k, hk, rfl, hbl, hz⟩ := hrel
    by_cases hlt : k < n
    · obtain ⟨x, hx⟩ : ∃ x, l[k]? = some x := ⟨_, List.getElem?_eq_getElem (by rw [← Hl.out]; exact hlt)⟩
      have hst := Lib.hid (hz.out.trans (idx_step (p := fun e : T => e.k != 2) hx))
      obtain ⟨b, o, A', c', rfl, hb, c1, c2, c3, c4, c5, hc', hK⟩ := HL.out wr hbl k x hx
      clear hx hz
      have hs := hbl.size
      have hcl := Lib.hid (atoms_closure x A' c' wr)
      clear hK
      obtain ⟨xk, xs, xn, xl, xa⟩ := x
      simp only [T.k, T.s, T.n, T.kids, T.at_, T.val] at c1 c2 c3 c4 c5 hc' hcl
      by_cases he : ((T.mk xk xs xn xl xa).k != 2) = true
      · have hst' : Hid (idx (fun e : T => e.k != 2) l 0 = (k : Int)) := by
          have := hst.out
          rwa [if_pos he] at this
        simp only [T.k] at he
        rw [he] at hcl
        clear he hst
        generalize xl.length = xm at *
        go_wp2_with fail
        refine (hcl.out).mono ?_
        rintro e w' ⟨rfl, hb2⟩
        have hb3 := hbl.trans (hb2.mono hs)
        clear hb2
        go_wp2_with fail
        go_ret
        exact ⟨by rw [hst'.out]; rfl, hb3⟩
      · have he' : ((T.mk xk xs xn xl xa).k != 2) = false := by simpa using he
        have hst' : Hid (idx (fun e : T => e.k != 2) l 0 = idx (fun e : T => e.k != 2) (l.drop (k + 1)) (k + 1)) := by
          have := hst.out
          rwa [if_neg he] at this
        simp only [T.k] at he'
        rw [he'] at hcl
        clear he he' hst
        generalize xl.length = xm at *
        go_wp2_with fail
        refine (hcl.out).mono ?_
        rintro e w' ⟨rfl, hb2⟩
        have hb3 := hbl.trans (hb2.mono hs)
        clear hb2
        go_wp2_with fail
        go_roundw
        case rel => exact ⟨k + 1, by omega, by go_num, hb3, hst'⟩
        case measure => simp [intOf]; omega
    · go_wp2_with fail
      go_ret
      have e : k = n := by omega
      subst e
      exact ⟨by rw [hz.out, List.drop_of_length_le (by rw [← Hl.out]; omega)]; rfl, hbl⟩
theorem containsFunc_atoms (A : Option Addr) (c : Nat) (l : List T) (w : World) (hA : TKids w w.heap.size A l) :
    Calls Tryz.prog 138 #[.slice A l.length c, .func (.func 140) #[] #[]] w fun e w' =>
      e = .returned (.bool (l.any fun e : T => e.k != 2)) ∧ Below w.heap.size w w' := by
  have hc := Lib.hid (indexFunc_atoms A c l w hA)
  rw [← idx_any (fun e : T => e.k != 2) l 0]
  clear hA
  generalize idx (fun e : T => e.k != 2) l 0 = r at *
  generalize l.length = m at *
  go_enter Tryz.func138, Tryz.ntmps138
  go_wp2_with fail
  refine (hc.out).mono ?_
  rintro e w' ⟨rfl, hb⟩
  have HB := Lib.hid hb
  clear hb
  go_wp2_with fail
  go_ret
  exact ⟨rfl, HB.out⟩
theorem all_not {α : Type} (p : α → Bool) (l : List α) : (!(l.any fun v => !p v)) = l.all p := by rw [← not_all_, Bool.not_not]
theorem atomsT_mk (k : Int) (s : ByteArray) (n : Int) (l : List T) (a : Int) : atomsT (.mk k s n l a) = (k == 1 && !(l.any fun e => e.k != 2)) := by
  show _ = (k == 1 && !(l.any fun v => !(v.k == 2)))
  rw [all_not fun e : T => e.k == 2]
  rfl
theorem atoms_any (t : T) (A : Option Addr) (c : Nat) (w : World) (hA : TKids w w.heap.size A t.kids) :
    Calls Tryz.prog 104 #[t.val A c] w fun e w' => e = .returned (.bool (atomsT t)) ∧ Below w.heap.size w w' := by
  obtain ⟨k, s, n, l, a⟩ := t
  rw [atomsT_mk]
  change TKids w w.heap.size A l at hA
  have hb0 := box_below w #[.int .i64 k, .string s, .int .i64 n, .slice A l.length c, .int .i64 a] 71
  have hcf := Lib.hid (containsFunc_atoms A c l _ ((hA.low hb0).more hb0.size))
  have HB0 := Lib.hid hb0
  clear hA hb0
  generalize (l.any fun e => e.k != 2) = q at *
  simp only [T.val, T.k, T.s, T.n, T.kids, T.at_]
  generalize l.length = m at *
  by_cases h1 : k = 1
  · subst h1
    go_enter Tryz.func104, Tryz.ntmps104
    go_wp2_with fail
    refine (hcf.out).mono ?_
    rintro e w' ⟨rfl, hb⟩
    have HB := Lib.hid (HB0.out.trans (hb.mono HB0.out.size))
    clear hb
    cases q
    all_goals
      go_wp2_with fail
      go_ret
      exact ⟨rfl, HB.out⟩
  · have h1' : (k == 1) = false := by simpa using h1
    go_enter Tryz.func104, Tryz.ntmps104
    go_wp2_with fail
    go_ret
    exact ⟨by rw [h1']; rfl, HB0.out⟩
theorem headK_get {l : List T} {x : T} (h : l[0]? = some x) : headK l = x.k := by
  cases l with
  | nil => simp at h
  | cons y l => simp at h; subst h; rfl
theorem column_any (t : T) (A : Option Addr) (c : Nat) (w : World) (hA : TKids w w.heap.size A t.kids) :
    Calls Tryz.prog 103 #[t.val A c] w fun e w' => e = .returned (.bool (columnT t)) ∧ Below w.heap.size w w' := by
  obtain ⟨k, s, n, l, a⟩ := t
  simp only [T.val, T.k, T.s, T.n, T.kids, T.at_] at hA ⊢
  have hb0 := box_below w #[.int .i64 k, .string s, .int .i64 n, .slice A l.length c, .int .i64 a] 71
  have hlen := hA.len
  by_cases h1 : k = 1
  · subst h1
    by_cases h2 : l.length = 2
    · obtain ⟨x, hx⟩ : ∃ x, l[0]? = some x := ⟨_, List.getElem?_eq_getElem (by omega)⟩
      obtain ⟨b, o, A', c', rfl, hb, c1, c2, c3, c4, c5, hc', hK⟩ := hA.get_ _ (Below.refl _ _) 0 x hx
      rw [Nat.zero_mul, Nat.add_zero] at c1
      have d1 := (hb0.cell hb).trans c1
      rw [show columnT (.mk 1 s n l a) = (x.k == 2) from by
        show ((1 : Int) == 1 && (l.length == 2 && headK l == 2)) = (x.k == 2)
        rw [h2, headK_get hx]; rfl]
      have HB0 := Lib.hid hb0
      obtain ⟨xk, xs, xn, xl, xa⟩ := x
      simp only [T.k, T.s, T.n, T.kids, T.at_] at c1 d1 ⊢
      clear hb0 hA hK hc' hlen hx c2 c3 c4 c5
      generalize l.length = m at *
      subst h2
      by_cases hx2 : xk = 2
      · subst hx2
        go_enter Tryz.func103, Tryz.ntmps103
        go_wp2_with fail
        go_ret
        exact ⟨rfl, HB0.out⟩
      · have hx2' : (xk == 2) = false := by simpa using hx2
        rw [hx2']
        go_enter Tryz.func103, Tryz.ntmps103
        go_wp2_with fail
        go_ret
        exact ⟨rfl, HB0.out⟩
    · rw [show columnT (.mk 1 s n l a) = false from by
        show ((1 : Int) == 1 && (l.length == 2 && headK l == 2)) = false
        rw [show (l.length == 2) = false from by simpa using h2]; rfl]
      have h2' : ((l.length : Int) == 2) = false := by
        rw [beq_eq_false_iff_ne]; omega
      have HB0 := Lib.hid hb0
      clear hb0 hA h2
      generalize l.length = m at *
      go_enter Tryz.func103, Tryz.ntmps103
      go_wp2_with fail
      go_ret
      exact ⟨rfl, HB0.out⟩
  · have h1' : (k == 1) = false := by simpa using h1
    rw [show columnT (.mk k s n l a) = false from by
      show (k == 1 && (l.length == 2 && headK l == 2)) = false
      rw [h1']; rfl]
    have HB0 := Lib.hid hb0
    clear hb0 hA
    generalize l.length = m at *
    go_enter Tryz.func103, Tryz.ntmps103
    go_wp2_with fail
    go_ret
    exact ⟨rfl, HB0.out⟩
theorem agg_any (t : T) (A : Option Addr) (c : Nat) (w : World) (hA : TKids w w.heap.size A t.kids) :
    Calls Tryz.prog 105 #[t.val A c] w fun e w' => e = .returned (.bool (aggT t)) ∧ Below w.heap.size w w' := by
  have hb0 := box_below w #[.int .i64 t.k, .string t.s, .int .i64 t.n, .slice A t.kids.length c, .int .i64 t.at_] 71
  have hat := Lib.hid (atoms_any t A c _ ((hA.low hb0).more hb0.size))
  rw [show aggT t = (atomsT t && (t.kids.length == 2 || t.kids.length == 3)) from rfl]
  have hlen := hA.len
  have HB0 := Lib.hid hb0
  clear hA hb0
  generalize atomsT t = q at *
  obtain ⟨k, s, n, l, a⟩ := t
  simp only [T.val, T.k, T.s, T.n, T.kids, T.at_] at *
  generalize l.length = m at *
  have h5 := block_alloc_new5 w k s n A m c a
  by_cases h2 : m = 2
  · subst h2
    go_enter Tryz.func105, Tryz.ntmps105
    go_wp2_with fail
    refine (hat.out).mono ?_
    rintro e w' ⟨rfl, hb⟩
    have HB := Lib.hid (HB0.out.trans (hb.mono HB0.out.size))
    obtain ⟨⟨k0, k1, k2, k3, k4⟩, _, _, _, _, _⟩ := cell5 ((hb.block w.heap.size (by simp)).trans h5)
    clear hb
    cases q
    all_goals
      go_wp2_with fail
      go_ret
      exact ⟨rfl, HB.out⟩
  · have h2' : ((m : Int) == 2) = false := by rw [beq_eq_false_iff_ne]; omega
    have h2'' : (m == 2) = false := by simpa using h2
    by_cases h3 : m = 3
    · subst h3
      go_enter Tryz.func105, Tryz.ntmps105
      go_wp2_with fail
      refine (hat.out).mono ?_
      rintro e w' ⟨rfl, hb⟩
      have HB := Lib.hid (HB0.out.trans (hb.mono HB0.out.size))
      obtain ⟨⟨k0, k1, k2, k3, k4⟩, _, _, _, _, _⟩ := cell5 ((hb.block w.heap.size (by simp)).trans h5)
      clear hb
      cases q
      all_goals
        go_wp2_with fail
        go_ret
        exact ⟨rfl, HB.out⟩
    · have h3' : ((m : Int) == 3) = false := by rw [beq_eq_false_iff_ne]; omega
      have h3'' : (m == 3) = false := by simpa using h3
      rw [h2'', h3'']
      go_enter Tryz.func105, Tryz.ntmps105
      go_wp2_with fail
      refine (hat.out).mono ?_
      rintro e w' ⟨rfl, hb⟩
      have HB := Lib.hid (HB0.out.trans (hb.mono HB0.out.size))
      obtain ⟨⟨k0, k1, k2, k3, k4⟩, _, _, _, _, _⟩ := cell5 ((hb.block w.heap.size (by simp)).trans h5)
      clear hb
      cases q
      all_goals
        go_wp2_with fail
        go_ret
        exact ⟨rfl, HB.out⟩
theorem all_closure_col (x : T) (A : Option Addr) (c b o : Nat) (w : World) (hA : TKids w w.heap.size A x.kids) (h0 : w.cell? ⟨b, o, none⟩ = some (.func (.func 103) #[] #[])) :
    Calls Tryz.prog 139 #[x.val A c, .pointer (some ⟨b, o, none⟩)] w fun e w' => e = .returned (.bool (!columnT x)) ∧ Below w.heap.size w w' := by
  have hb0 := box_below w #[.int .i64 x.k, .string x.s, .int .i64 x.n, .slice A x.kids.length c, .int .i64 x.at_] 71
  have hat := Lib.hid (column_any x A c _ ((hA.low hb0).more hb0.size))
  have hp := block_lt_of_cell h0
  have h0' := (hb0.cell hp).trans h0
  have HB0 := Lib.hid hb0
  clear hA hb0
  generalize columnT x = q at *
  obtain ⟨k, s, n, l, a⟩ := x
  simp only [T.val, T.k, T.s, T.n, T.kids, T.at_] at *
  generalize l.length = m at *
  go_enter Tryz.func139, Tryz.ntmps139
  go_wp2_with fail
  refine (hat.out).mono ?_
  rintro e w' ⟨rfl, hb⟩
  have HB := Lib.hid (HB0.out.trans (hb.mono HB0.out.size))
  clear hb
  go_wp2_with fail
  go_ret
  exact ⟨rfl, HB.out⟩
set_option maxHeartbeats 400000 in
theorem indexFunc_all_col (A : Option Addr) (c : Nat) (l : List T) (pb po : Nat) (w : World) (hA : TKids w w.heap.size A l) (h0 : w.cell? ⟨pb, po, none⟩ = some (.func (.func 103) #[] #[])) :
    Calls Tryz.prog 161 #[.slice A l.length c, .func (.func 139) #[] #[.pointer (some ⟨pb, po, none⟩)]] w fun e w' =>
      e = .returned (.int .i64 (idx (fun e : T => !columnT e) l 0)) ∧ Below w.heap.size w w' := by
  have hn := hA.len
  have HL := Lib.hid hA.get_
  obtain ⟨n, en⟩ : ∃ n, n = l.length := ⟨_, rfl⟩
  have Hl := Lib.hid en
  rw [← en] at hn ⊢
  clear hA en
  go_enter Tryz.func161, Tryz.ntmps161
  go_wp2_with fail
  go_loopw [8] (fun i wr => ∃ k : Nat, k ≤ n ∧ i = .int .i64 k ∧ Below w.heap.size w wr ∧ Hid (idx (fun e : T => !columnT e) l 0 = idx (fun e : T => !columnT e) (l.drop k) k)) (fun i _ => n - (intOf i).toNat)
  case atStart => exact ⟨0, Nat.zero_le _, rfl, Below.refl _ _, rfl⟩
  case round =>
    obtain ⟨k, hk, rfl, hbl, hz⟩ := hrel
    by_cases hlt : k < n
    · obtain ⟨x, hx⟩ : ∃ x, l[k]? = some x := ⟨_, List.getElem?_eq_getElem (by rw [← Hl.out]; exact hlt)⟩
      have hst := Lib.hid (hz.out.trans (idx_step (p := fun e : T => !columnT e) hx))
      obtain ⟨b, o, A', c', rfl, hb, c1, c2, c3, c4, c5, hc', hK⟩ := HL.out wr hbl k x hx
      clear hx hz
      have hs := hbl.size
      have hcl := Lib.hid (all_closure_col x A' c' pb po wr hK ((hbl.cell (block_lt_of_cell h0)).trans h0))
      clear hK
      obtain ⟨xk, xs, xn, xl, xa⟩ := x
      simp only [T.k, T.s, T.n, T.kids, T.at_, T.val] at c1 c2 c3 c4 c5 hc' hcl
      by_cases he : (!columnT (T.mk xk xs xn xl xa)) = true
      · have hst' : Hid (idx (fun e : T => !columnT e) l 0 = (k : Int)) := by
          have := hst.out
          rwa [if_pos he] at this
        rw [he] at hcl
        clear he hst
        generalize xl.length = xm at *
        go_wp2_with fail
        refine (hcl.out).mono ?_
        rintro e w' ⟨rfl, hb2⟩
        have hb3 := hbl.trans (hb2.mono hs)
        clear hb2
        go_wp2_with fail
        go_ret
        exact ⟨by rw [hst'.out]; rfl, hb3⟩
      · have he' : (!columnT (T.mk xk xs xn xl xa)) = false := by simpa using he
        have hst' : Hid (idx (fun e : T => !columnT e) l 0 = idx (fun e : T => !columnT e) (l.drop (k + 1)) (k + 1)) := by
          have := hst.out
          rwa [if_neg he] at this
        rw [he'] at hcl
        clear he he' hst
        generalize xl.length = xm at *
        go_wp2_with fail
        refine (hcl.out).mono ?_
        rintro e w' ⟨rfl, hb2⟩
        have hb3 := hbl.trans (hb2.mono hs)
        clear hb2
        go_wp2_with fail
        go_roundw
        case rel => exact ⟨k + 1, by omega, by go_num, hb3, hst'⟩
        case measure => simp [intOf]; omega
    · go_wp2_with fail
      go_ret
      have e : k = n := by omega
      subst e
      exact ⟨by rw [hz.out, List.drop_of_length_le (by rw [← Hl.out]; omega)]; rfl, hbl⟩
theorem containsFunc_all_col (A : Option Addr) (c : Nat) (l : List T) (pb po : Nat) (w : World) (hA : TKids w w.heap.size A l) (h0 : w.cell? ⟨pb, po, none⟩ = some (.func (.func 103) #[] #[])) :
    Calls Tryz.prog 138 #[.slice A l.length c, .func (.func 139) #[] #[.pointer (some ⟨pb, po, none⟩)]] w fun e w' =>
      e = .returned (.bool (l.any fun e : T => !columnT e)) ∧ Below w.heap.size w w' := by
  have hc := Lib.hid (indexFunc_all_col A c l pb po w hA h0)
  rw [← idx_any (fun e : T => !columnT e) l 0]
  clear hA h0
  generalize idx (fun e : T => !columnT e) l 0 = r at *
  generalize l.length = m at *
  go_enter Tryz.func138, Tryz.ntmps138
  go_wp2_with fail
  refine (hc.out).mono ?_
  rintro e w' ⟨rfl, hb⟩
  have HB := Lib.hid hb
  clear hb
  go_wp2_with fail
  go_ret
  exact ⟨rfl, HB.out⟩
theorem all_col (A : Option Addr) (c : Nat) (l : List T) (w : World) (hA : TKids w w.heap.size A l) :
    Calls Tryz.prog 102 #[.slice A l.length c, .func (.func 103) #[] #[]] w fun e w' => e = .returned (.bool (l.all columnT)) ∧ Below w.heap.size w w' := by
  have hb0 := box_below w #[.func (.func 103) #[] #[]] 155
  have hcf := Lib.hid (containsFunc_all_col A c l w.heap.size 0 _ ((hA.low hb0).more hb0.size) (by simp))
  rw [← all_not columnT l]
  have HB0 := Lib.hid hb0
  clear hA hb0
  generalize (l.any fun e => !columnT e) = q at *
  generalize l.length = m at *
  have hmf : ∀ (fn : Fn) (first cap : Array Value) (w : World), (Instr.makeFunc fn first cap).run Tryz.prog w = .ok (.func fn first cap) w := fun _ _ _ _ => rfl
  go_enter Tryz.func102, Tryz.ntmps102
  go_wp2_with fail
  refine (hcf.out).mono ?_
  rintro e w' ⟨rfl, hb⟩
  have HB := Lib.hid (HB0.out.trans (hb.mono HB0.out.size))
  clear hb
  go_wp2_with fail
  go_ret
  exact ⟨rfl, HB.out⟩
theorem all_closure_agg (x : T) (A : Option Addr) (c b o : Nat) (w : World) (hA : TKids w w.heap.size A x.kids) (h0 : w.cell? ⟨b, o, none⟩ = some (.func (.func 105) #[] #[])) :
    Calls Tryz.prog 139 #[x.val A c, .pointer (some ⟨b, o, none⟩)] w fun e w' => e = .returned (.bool (!aggT x)) ∧ Below w.heap.size w w' := by
  have hb0 := box_below w #[.int .i64 x.k, .string x.s, .int .i64 x.n, .slice A x.kids.length c, .int .i64 x.at_] 71
  have hat := Lib.hid (agg_any x A c _ ((hA.low hb0).more hb0.size))
  have hp := block_lt_of_cell h0
  have h0' := (hb0.cell hp).trans h0
  have HB0 := Lib.hid hb0
  clear hA hb0
  generalize aggT x = q at *
  obtain ⟨k, s, n, l, a⟩ := x
  simp only [T.val, T.k, T.s, T.n, T.kids, T.at_] at *
  generalize l.length = m at *
  go_enter Tryz.func139, Tryz.ntmps139
  go_wp2_with fail
  refine (hat.out).mono ?_
  rintro e w' ⟨rfl, hb⟩
  have HB := Lib.hid (HB0.out.trans (hb.mono HB0.out.size))
  clear hb
  go_wp2_with fail
  go_ret
  exact ⟨rfl, HB.out⟩
set_option maxHeartbeats 400000 in
theorem indexFunc_all_agg (A : Option Addr) (c : Nat) (l : List T) (pb po : Nat) (w : World) (hA : TKids w w.heap.size A l) (h0 : w.cell? ⟨pb, po, none⟩ = some (.func (.func 105) #[] #[])) :
    Calls Tryz.prog 161 #[.slice A l.length c, .func (.func 139) #[] #[.pointer (some ⟨pb, po, none⟩)]] w fun e w' =>
      e = .returned (.int .i64 (idx (fun e : T => !aggT e) l 0)) ∧ Below w.heap.size w w' := by
  have hn := hA.len
  have HL := Lib.hid hA.get_
  obtain ⟨n, en⟩ : ∃ n, n = l.length := ⟨_, rfl⟩
  have Hl := Lib.hid en
  rw [← en] at hn ⊢
  clear hA en
  go_enter Tryz.func161, Tryz.ntmps161
  go_wp2_with fail
  go_loopw [8] (fun i wr => ∃ k : Nat, k ≤ n ∧ i = .int .i64 k ∧ Below w.heap.size w wr ∧ Hid (idx (fun e : T => !aggT e) l 0 = idx (fun e : T => !aggT e) (l.drop k) k)) (fun i _ => n - (intOf i).toNat)
  case atStart => exact ⟨0, Nat.zero_le _, rfl, Below.refl _ _, rfl⟩
  case round =>
    obtain ⟨k, hk, rfl, hbl, hz⟩ := hrel
    by_cases hlt : k < n
    · obtain ⟨x, hx⟩ : ∃ x, l[k]? = some x := ⟨_, List.getElem?_eq_getElem (by rw [← Hl.out]; exact hlt)⟩
      have hst := Lib.hid (hz.out.trans (idx_step (p := fun e : T => !aggT e) hx))
      obtain ⟨b, o, A', c', rfl, hb, c1, c2, c3, c4, c5, hc', hK⟩ := HL.out wr hbl k x hx
      clear hx hz
      have hs := hbl.size
      have hcl := Lib.hid (all_closure_agg x A' c' pb po wr hK ((hbl.cell (block_lt_of_cell h0)).trans h0))
      clear hK
      obtain ⟨xk, xs, xn, xl, xa⟩ := x
      simp only [T.k, T.s, T.n, T.kids, T.at_, T.val] at c1 c2 c3 c4 c5 hc' hcl
      by_cases he : (!aggT (T.mk xk xs xn xl xa)) = true
      · have hst' : Hid (idx (fun e : T => !aggT e) l 0 = (k : Int)) := by
          have := hst.out
          rwa [if_pos he] at this
        rw [he] at hcl
        clear he hst
        generalize xl.length = xm at *
        go_wp2_with fail
        refine (hcl.out).mono ?_
        rintro e w' ⟨rfl, hb2⟩
        have hb3 := hbl.trans (hb2.mono hs)
        clear hb2
        go_wp2_with fail
        go_ret
        exact ⟨by rw [hst'.out]; rfl, hb3⟩
      · have he' : (!aggT (T.mk xk xs xn xl xa)) = false := by simpa using he
        have hst' : Hid (idx (fun e : T => !aggT e) l 0 = idx (fun e : T => !aggT e) (l.drop (k + 1)) (k + 1)) := by
          have := hst.out
          rwa [if_neg he] at this
        rw [he'] at hcl
        clear he he' hst
        generalize xl.length = xm at *
        go_wp2_with fail
        refine (hcl.out).mono ?_
        rintro e w' ⟨rfl, hb2⟩
        have hb3 := hbl.trans (hb2.mono hs)
        clear hb2
        go_wp2_with fail
        go_roundw
        case rel => exact ⟨k + 1, by omega, by go_num, hb3, hst'⟩
        case measure => simp [intOf]; omega
    · go_wp2_with fail
      go_ret
      have e : k = n := by omega
      subst e
      exact ⟨by rw [hz.out, List.drop_of_length_le (by rw [← Hl.out]; omega)]; rfl, hbl⟩
theorem containsFunc_all_agg (A : Option Addr) (c : Nat) (l : List T) (pb po : Nat) (w : World) (hA : TKids w w.heap.size A l) (h0 : w.cell? ⟨pb, po, none⟩ = some (.func (.func 105) #[] #[])) :
    Calls Tryz.prog 138 #[.slice A l.length c, .func (.func 139) #[] #[.pointer (some ⟨pb, po, none⟩)]] w fun e w' =>
      e = .returned (.bool (l.any fun e : T => !aggT e)) ∧ Below w.heap.size w w' := by
  have hc := Lib.hid (indexFunc_all_agg A c l pb po w hA h0)
  rw [← idx_any (fun e : T => !aggT e) l 0]
  clear hA h0
  generalize idx (fun e : T => !aggT e) l 0 = r at *
  generalize l.length = m at *
  go_enter Tryz.func138, Tryz.ntmps138
  go_wp2_with fail
  refine (hc.out).mono ?_
  rintro e w' ⟨rfl, hb⟩
  have HB := Lib.hid hb
  clear hb
  go_wp2_with fail
  go_ret
  exact ⟨rfl, HB.out⟩
theorem all_agg (A : Option Addr) (c : Nat) (l : List T) (w : World) (hA : TKids w w.heap.size A l) :
    Calls Tryz.prog 102 #[.slice A l.length c, .func (.func 105) #[] #[]] w fun e w' => e = .returned (.bool (l.all aggT)) ∧ Below w.heap.size w w' := by
  have hb0 := box_below w #[.func (.func 105) #[] #[]] 155
  have hcf := Lib.hid (containsFunc_all_agg A c l w.heap.size 0 _ ((hA.low hb0).more hb0.size) (by simp))
  rw [← all_not aggT l]
  have HB0 := Lib.hid hb0
  clear hA hb0
  generalize (l.any fun e => !aggT e) = q at *
  generalize l.length = m at *
  have hmf : ∀ (fn : Fn) (first cap : Array Value) (w : World), (Instr.makeFunc fn first cap).run Tryz.prog w = .ok (.func fn first cap) w := fun _ _ _ _ => rfl
  go_enter Tryz.func102, Tryz.ntmps102
  go_wp2_with fail
  refine (hcf.out).mono ?_
  rintro e w' ⟨rfl, hb⟩
  have HB := Lib.hid (HB0.out.trans (hb.mono HB0.out.size))
  clear hb
  go_wp2_with fail
  go_ret
  exact ⟨rfl, HB.out⟩
end Go.Proofs.YtjhkihkiebnpaaaGreatDoor
/-
  Package plan's contracts: word, kind.
-/
namespace Go.Proofs.YtjhkihkiebnpaaaGreatDoor
open Go.RowKit
set_option linter.unusedVariables false
set_option linter.unusedSimpArgs false
theorem word_any (t : T) (A : Option Addr) (c : Nat) (w : World) (hA : TKids w w.heap.size A t.kids) :
    Calls Tryz.prog 101 #[t.val A c] w fun e w' => e = .returned (.string (wordT t)) ∧ Below w.heap.size w w' := by
  obtain ⟨k, s, n, l, a⟩ := t
  change TKids w w.heap.size A l at hA
  rw [show wordT (.mk k s n l a) = wordL k l from rfl]
  simp only [T.val, T.k, T.s, T.n, T.kids, T.at_]
  have hb0 := box_below w #[.int .i64 k, .string s, .int .i64 n, .slice A l.length c, .int .i64 a] 71
  have hlen := hA.len
  by_cases h1 : k = 1
  · subst h1
    by_cases h2 : l.length = 0
    · obtain rfl : l = [] := List.eq_nil_of_length_eq_zero h2
      rw [show wordL 1 [] = ⟨#[]⟩ from rfl]
      have HB0 := Lib.hid hb0
      clear hb0 hA hlen h2
      simp only [List.length_nil] at *
      go_enter Tryz.func101, Tryz.ntmps101
      go_wp2_with fail
      go_ret
      exact ⟨rfl, HB0.out⟩
    · obtain ⟨x, hx⟩ : ∃ x, l[0]? = some x := ⟨_, List.getElem?_eq_getElem (by omega)⟩
      obtain ⟨b, o, A', c', rfl, hb, c1, c2, c3, c4, c5, hc', hK⟩ := hA.get_ _ (Below.refl _ _) 0 x hx
      rw [Nat.zero_mul, Nat.add_zero] at c1 c2
      have d1 := (hb0.cell hb).trans c1
      have d2 := (hb0.cell hb).trans c2
      have hw : wordL 1 l = if x.k = 2 then x.s else ⟨#[]⟩ := by
        cases l with
        | nil => simp at hx
        | cons y l =>
          simp at hx; subst hx
          show (if (1 : Int) = 1 ∧ y.k = 2 then y.s else ⟨#[]⟩) = _
          by_cases e : y.k = 2
          · rw [if_pos ⟨rfl, e⟩, if_pos e]
          · rw [if_neg (fun h => e h.2), if_neg e]
      rw [hw]
      have HB0 := Lib.hid hb0
      clear hb0 hA hK hc' hx c3 c4 c5 hw
      generalize l.length = m at *
      have h2' : ((m : Int) == 0) = false := by rw [beq_eq_false_iff_ne]; omega
      by_cases hx2 : x.k = 2
      · rw [if_pos hx2]
        rw [hx2] at c1 d1
        generalize x.s = xs at *
        clear hx2 x
        go_enter Tryz.func101, Tryz.ntmps101
        go_wp2_with fail
        go_ret
        exact ⟨rfl, HB0.out⟩
      · rw [if_neg hx2]
        generalize x.s = xs at *
        generalize x.k = xk at *
        have hx2' : (xk == 2) = false := by simpa using hx2
        clear x
        go_enter Tryz.func101, Tryz.ntmps101
        go_wp2_with fail
        go_ret
        exact ⟨rfl, HB0.out⟩
  · have h1' : (k == 1) = false := by simpa using h1
    rw [show wordL k l = ⟨#[]⟩ from by
      cases l with
      | nil => rfl
      | cons x l => exact if_neg fun h => h1 h.1]
    have HB0 := Lib.hid hb0
    clear hb0 hA
    generalize l.length = m at *
    go_enter Tryz.func101, Tryz.ntmps101
    go_wp2_with fail
    go_ret
    exact ⟨rfl, HB0.out⟩
theorem kind_table (l : List T) : kindW wTable l = if l.length = 2 ∧ (l.getD 1 zeroT).k = 2 then 1 else 0 := by unfold kindW; rw [if_pos rfl]
theorem kind_filter (l : List T) : kindW wFilter l = if l.length = 3 then 2 else 0 := by unfold kindW; rw [if_neg (by decide), if_pos rfl]
theorem kind_project (l : List T) : kindW wProject l = if 3 ≤ l.length ∧ (midL l 1).all columnT = true then 3 else 0 := by unfold kindW; rw [if_neg (by decide), if_neg (by decide), if_pos rfl]
theorem kind_join (l : List T) : kindW wJoin l = if l.length = 5 ∧ atomsT (l.getD 1 zeroT) = true ∧ atomsT (l.getD 2 zeroT) = true then 4 else 0 := by unfold kindW; rw [if_neg (by decide), if_neg (by decide), if_neg (by decide), if_pos rfl]
theorem kind_union (l : List T) : kindW wUnion l = if l.length = 3 then 5 else 0 := by unfold kindW; rw [if_neg (by decide), if_neg (by decide), if_neg (by decide), if_neg (by decide), if_pos rfl]
theorem kind_distinct (l : List T) : kindW wDistinct l = if l.length = 2 then 6 else 0 := by unfold kindW; rw [if_neg (by decide), if_neg (by decide), if_neg (by decide), if_neg (by decide), if_neg (by decide), if_pos rfl]
theorem kind_group (l : List T) : kindW wGroup l = if 3 ≤ l.length ∧ atomsT (l.getD 1 zeroT) = true ∧ (midL l 2).all aggT = true then 7 else 0 := by unfold kindW; rw [if_neg (by decide), if_neg (by decide), if_neg (by decide), if_neg (by decide), if_neg (by decide), if_neg (by decide), if_pos rfl]
theorem kind_none {wd : List UInt8} (h : ∀ x ∈ wordsL, (wd == x) = false) (l : List T) : kindW wd l = 0 := by
  have hne : ∀ x ∈ wordsL, wd ≠ x := fun x hx e => by have := h x hx; rw [e] at this; simp at this
  unfold kindW
  rw [if_neg (hne wTable (by simp [wordsL])), if_neg (hne wFilter (by simp [wordsL])), if_neg (hne wProject (by simp [wordsL])), if_neg (hne wJoin (by simp [wordsL])), if_neg (hne wUnion (by simp [wordsL])), if_neg (hne wDistinct (by simp [wordsL])), if_neg (hne wGroup (by simp [wordsL]))]
theorem getD_some {l : List T} {i : Nat} {x : T} (h : l[i]? = some x) : l.getD i zeroT = x := by rw [List.getD_eq_getElem?_getD, h]; rfl
/-- what stands behind the call of word -/
structure AtKind (w w2 : World) (k : Int) (s : ByteArray) (n : Int) (A : Option Addr) (m c : Nat) (a : Int) : Prop where
  box : w2.heap[w.heap.size]? = some (.cells #[.int .i64 k, .string s, .int .i64 n, .slice A m c, .int .i64 a] 71 (0, 0))
  bel : Below w.heap.size w w2
set_option maxHeartbeats 1000000 in
theorem kind_any (t : T) (A : Option Addr) (c : Nat) (w : World) (hc : t.kids.length ≤ c) (hA : TKids w w.heap.size A t.kids) :
    Calls Tryz.prog 56 #[t.val A c] w fun e w' => e = .returned (.int .i64 (kindT t)) ∧ Below w.heap.size w w' := by
  obtain ⟨k, s, n, l, a⟩ := t
  change l.length ≤ c at hc
  change TKids w w.heap.size A l at hA
  have hb0 := Lib.hid (box_below w #[.int .i64 k, .string s, .int .i64 n, .slice A l.length c, .int .i64 a] 71)
  have hx0 := Lib.hid (block_alloc_new5 w k s n A l.length c a)
  have hwd := Lib.hid (word_any (.mk k s n l a) A c (w.alloc (.cells #[.int .i64 k, .string s, .int .i64 n, .slice A l.length c, .int .i64 a] 71)) ((hA.low hb0.out).more hb0.out.size))
  rw [show kindT (.mk k s n l a) = kindW (wordT (.mk k s n l a)).toList l from rfl]
  generalize wordT (.mk k s n l a) = wd at *
  simp only [T.val, T.k, T.s, T.n, T.kids, T.at_] at hwd ⊢
  have hlen := hA.len
  have HA := Lib.hid hA
  clear hA
  rcases word_cases wd.toList with h | h
  · simp only [wordsL, List.mem_cons, List.not_mem_nil, or_false] at h
    rcases h with h | h | h | h | h | h | h
    · obtain ⟨r, hr⟩ : ∃ r, r = kindW wd.toList l := ⟨_, rfl⟩
      rw [← hr]
      rw [h, kind_table] at hr
      simp only [wTable] at h
      have HR := Lib.hid hr.symm
      clear hr
      by_cases h2 : l.length = 2
      · obtain ⟨x, hx⟩ : ∃ x, l[1]? = some x := ⟨_, List.getElem?_eq_getElem (by omega)⟩
        rw [h2, getD_some hx] at HR
        generalize l.length = m at *
        subst h2
        go_enter Tryz.func56, Tryz.ntmps56
        go_wp2_with fail
        refine (hwd.out).mono ?_
        rintro e w2 ⟨rfl, hb⟩
        have HX2 := Lib.hid ((hb.block w.heap.size (by simp)).trans hx0.out)
        have HB2 := Lib.hid (hb0.out.trans (hb.mono hb0.out.size))
        obtain ⟨⟨k0, k1, k2, k3, k4⟩, _, _, _, _, _⟩ := cell5 HX2.out
        clear hb hwd hb0 hx0
        obtain ⟨b, o, A', c', rfl, hb, c1, c2, c3, c4, c5, hc', hK⟩ := HA.out.get_ _ HB2.out 1 x hx
        rw [Nat.one_mul] at c1
        clear c2 c3 c4 c5 hc' hK hx HA
        generalize x.k = xk at *
        by_cases hx2 : xk = 2
        · subst hx2
          go_wp2_with fail
          go_ret
          exact ⟨by show Ending.returned (Value.int .i64 1) = _; rw [← HR.out, if_pos ⟨trivial, trivial⟩], HB2.out⟩
        · have hx2' : (xk == 2) = false := by simpa using hx2
          go_wp2_with fail
          go_ret
          exact ⟨by show Ending.returned (Value.int .i64 0) = _; rw [← HR.out, if_neg (fun h => hx2 h.2)], HB2.out⟩
      · generalize l.length = m at *
        clear HA
        have h2' : ((m : Int) == 2) = false := by rw [beq_eq_false_iff_ne]; omega
        go_enter Tryz.func56, Tryz.ntmps56
        go_wp2_with fail
        refine (hwd.out).mono ?_
        rintro e w2 ⟨rfl, hb⟩
        have HX2 := Lib.hid ((hb.block w.heap.size (by simp)).trans hx0.out)
        have HB2 := Lib.hid (hb0.out.trans (hb.mono hb0.out.size))
        obtain ⟨⟨k0, k1, k2, k3, k4⟩, _, _, _, _, _⟩ := cell5 HX2.out
        clear hb hwd hb0 hx0
        go_wp2_with fail
        go_ret
        exact ⟨by show Ending.returned (Value.int .i64 0) = _; rw [← HR.out, if_neg (fun h => h2 h.1)], HB2.out⟩
    · rw [h, kind_filter]
      simp only [wFilter] at h
      generalize l.length = m at *
      clear HA
      by_cases h2 : m = 3
      · subst h2
        rw [if_pos rfl]
        go_enter Tryz.func56, Tryz.ntmps56
        go_wp2_with fail
        refine (hwd.out).mono ?_
        rintro e w2 ⟨rfl, hb⟩
        have HX2 := Lib.hid ((hb.block w.heap.size (by simp)).trans hx0.out)
        have HB2 := Lib.hid (hb0.out.trans (hb.mono hb0.out.size))
        obtain ⟨⟨k0, k1, k2, k3, k4⟩, _, _, _, _, _⟩ := cell5 HX2.out
        clear hb hwd hb0 hx0
        go_wp2_with fail
        go_ret
        exact ⟨rfl, HB2.out⟩
      · rw [if_neg h2]
        have h2' : ((m : Int) == 3) = false := by rw [beq_eq_false_iff_ne]; omega
        go_enter Tryz.func56, Tryz.ntmps56
        go_wp2_with fail
        refine (hwd.out).mono ?_
        rintro e w2 ⟨rfl, hb⟩
        have HX2 := Lib.hid ((hb.block w.heap.size (by simp)).trans hx0.out)
        have HB2 := Lib.hid (hb0.out.trans (hb.mono hb0.out.size))
        obtain ⟨⟨k0, k1, k2, k3, k4⟩, _, _, _, _, _⟩ := cell5 HX2.out
        clear hb hwd hb0 hx0
        go_wp2_with fail
        go_ret
        exact ⟨rfl, HB2.out⟩
    · obtain ⟨r, hr⟩ : ∃ r, r = kindW wd.toList l := ⟨_, rfl⟩
      rw [← hr]
      rw [h, kind_project] at hr
      simp only [wProject] at h
      have HR := Lib.hid hr.symm
      clear hr
      by_cases h2 : 3 ≤ l.length
      · have hml : (midL l 1).length = l.length - 2 := by unfold midL; rw [List.length_take, List.length_drop]; omega
        obtain ⟨x, hx⟩ : ∃ x, l[1]? = some x := ⟨_, List.getElem?_eq_getElem (by omega)⟩
        go_enter Tryz.func56, Tryz.ntmps56
        go_wp2_with fail
        refine (hwd.out).mono ?_
        rintro e w2 ⟨rfl, hb⟩
        have HX2 := Lib.hid ((hb.block w.heap.size (by simp)).trans hx0.out)
        have HB2 := Lib.hid (hb0.out.trans (hb.mono hb0.out.size))
        obtain ⟨⟨k0, k1, k2, k3, k4⟩, _, _, _, _, _⟩ := cell5 HX2.out
        clear hb hwd hb0 hx0
        obtain ⟨b, o, A', c', rfl, hb9, _⟩ := HA.out.get_ _ HB2.out 1 x hx
        have hal := Lib.hid (all_col (some ⟨b, o + 1 * 5, none⟩) (c - 1) (midL l 1) w2 ((((HA.out.low HB2.out).more HB2.out.size)).sub 1 _))
        rw [hml] at hal
        clear hml HA hx
        generalize (midL l 1).all columnT = q at *
        generalize l.length = m at *
        go_wp2_with fail
        refine (hal.out).mono ?_
        rintro e w3 ⟨rfl, hb⟩
        have HB3 := Lib.hid (HB2.out.trans (hb.mono HB2.out.size))
        clear hb
        cases q
        · go_wp2_with fail
          go_ret
          exact ⟨by show Ending.returned (Value.int .i64 0) = _; rw [← HR.out, if_neg (fun h => by simp at h)], HB3.out⟩
        · go_wp2_with fail
          go_ret
          exact ⟨by show Ending.returned (Value.int .i64 3) = _; rw [← HR.out, if_pos ⟨h2, trivial⟩], HB3.out⟩
      · generalize l.length = m at *
        clear HA
        go_enter Tryz.func56, Tryz.ntmps56
        go_wp2_with fail
        refine (hwd.out).mono ?_
        rintro e w2 ⟨rfl, hb⟩
        have HX2 := Lib.hid ((hb.block w.heap.size (by simp)).trans hx0.out)
        have HB2 := Lib.hid (hb0.out.trans (hb.mono hb0.out.size))
        obtain ⟨⟨k0, k1, k2, k3, k4⟩, _, _, _, _, _⟩ := cell5 HX2.out
        clear hb hwd hb0 hx0
        go_wp2_with fail
        go_ret
        exact ⟨by show Ending.returned (Value.int .i64 0) = _; rw [← HR.out, if_neg (fun h => h2 h.1)], HB2.out⟩
    · obtain ⟨r, hr⟩ : ∃ r, r = kindW wd.toList l := ⟨_, rfl⟩
      rw [← hr]
      rw [h, kind_join] at hr
      simp only [wJoin] at h
      have HR := Lib.hid hr.symm
      clear hr
      by_cases h2 : l.length = 5
      · obtain ⟨x, hx⟩ : ∃ x, l[1]? = some x := ⟨_, List.getElem?_eq_getElem (by omega)⟩
        obtain ⟨y, hy⟩ : ∃ y, l[2]? = some y := ⟨_, List.getElem?_eq_getElem (by omega)⟩
        rw [h2, getD_some hx, getD_some hy] at HR
        generalize l.length = m at *
        subst h2
        go_enter Tryz.func56, Tryz.ntmps56
        go_wp2_with fail
        refine (hwd.out).mono ?_
        rintro e w2 ⟨rfl, hb⟩
        have HX2 := Lib.hid ((hb.block w.heap.size (by simp)).trans hx0.out)
        have HB2 := Lib.hid (hb0.out.trans (hb.mono hb0.out.size))
        obtain ⟨⟨k0, k1, k2, k3, k4⟩, _, _, _, _, _⟩ := cell5 HX2.out
        clear hb hwd hb0 hx0
        obtain ⟨b, o, A1, d1, rfl, hb9, c1, c2, c3, c4, c5, hd1, hK1⟩ := HA.out.get_ _ HB2.out 1 x hx
        rw [Nat.one_mul] at c1 c2 c3 c4 c5
        have ha1 := Lib.hid (atoms_any x A1 d1 w2 hK1)
        generalize atomsT x = q1 at *
        obtain ⟨xk, xs, xn, xl, xa⟩ := x
        simp only [T.val, T.k, T.s, T.n, T.kids, T.at_] at c1 c2 c3 c4 c5 ha1
        clear hK1 hd1 hx
        generalize xl.length = xm at *
        go_wp2_with fail
        refine (ha1.out).mono ?_
        rintro e w3 ⟨rfl, hb⟩
        have HB3 := Lib.hid (HB2.out.trans (hb.mono HB2.out.size))
        have HX3 := Lib.hid ((hb.block w.heap.size (by have := (Array.getElem?_eq_some_iff.1 HX2.out).1; exact this)).trans HX2.out)
        obtain ⟨⟨m0, m1, m2, m3, m4⟩, _, _, _, _, _⟩ := cell5 HX3.out
        clear hb
        cases q1
        · go_wp2_with fail
          go_ret
          exact ⟨by show Ending.returned (Value.int .i64 0) = _; rw [← HR.out, if_neg (fun h => by simp at h)], HB3.out⟩
        · obtain ⟨b', o', A2, d2, e9, hb8, e1, e2, e3, e4, e5, hd2, hK2⟩ := HA.out.get_ _ HB3.out 2 y hy
          obtain ⟨rfl, rfl⟩ : b' = b ∧ o' = o := by injection e9 with e9; injection e9 with e9 e10; exact ⟨e9.symm, e10.symm⟩
          have ha2 := Lib.hid (atoms_any y A2 d2 w3 hK2)
          generalize atomsT y = q2 at *
          obtain ⟨yk, ys, yn, yl, ya⟩ := y
          simp only [T.val, T.k, T.s, T.n, T.kids, T.at_] at e1 e2 e3 e4 e5 ha2
          clear hK2 hd2 hy HA
          generalize yl.length = ym at *
          go_wp2_with fail
          refine (ha2.out).mono ?_
          rintro e w4 ⟨rfl, hb⟩
          have HB4 := Lib.hid (HB3.out.trans (hb.mono HB3.out.size))
          clear hb
          cases q2
          · go_wp2_with fail
            go_ret
            exact ⟨by show Ending.returned (Value.int .i64 0) = _; rw [← HR.out, if_neg (fun h => by simp at h)], HB4.out⟩
          · go_wp2_with fail
            go_ret
            exact ⟨by show Ending.returned (Value.int .i64 4) = _; rw [← HR.out, if_pos ⟨trivial, trivial, trivial⟩], HB4.out⟩
      · generalize l.length = m at *
        clear HA
        have h2' : ((m : Int) == 5) = false := by rw [beq_eq_false_iff_ne]; omega
        go_enter Tryz.func56, Tryz.ntmps56
        go_wp2_with fail
        refine (hwd.out).mono ?_
        rintro e w2 ⟨rfl, hb⟩
        have HX2 := Lib.hid ((hb.block w.heap.size (by simp)).trans hx0.out)
        have HB2 := Lib.hid (hb0.out.trans (hb.mono hb0.out.size))
        obtain ⟨⟨k0, k1, k2, k3, k4⟩, _, _, _, _, _⟩ := cell5 HX2.out
        clear hb hwd hb0 hx0
        go_wp2_with fail
        go_ret
        exact ⟨by show Ending.returned (Value.int .i64 0) = _; rw [← HR.out, if_neg (fun h => h2 h.1)], HB2.out⟩
    · rw [h, kind_union]
      simp only [wUnion] at h
      generalize l.length = m at *
      clear HA
      by_cases h2 : m = 3
      · subst h2
        rw [if_pos rfl]
        go_enter Tryz.func56, Tryz.ntmps56
        go_wp2_with fail
        refine (hwd.out).mono ?_
        rintro e w2 ⟨rfl, hb⟩
        have HX2 := Lib.hid ((hb.block w.heap.size (by simp)).trans hx0.out)
        have HB2 := Lib.hid (hb0.out.trans (hb.mono hb0.out.size))
        obtain ⟨⟨k0, k1, k2, k3, k4⟩, _, _, _, _, _⟩ := cell5 HX2.out
        clear hb hwd hb0 hx0
        go_wp2_with fail
        go_ret
        exact ⟨rfl, HB2.out⟩
      · rw [if_neg h2]
        have h2' : ((m : Int) == 3) = false := by rw [beq_eq_false_iff_ne]; omega
        go_enter Tryz.func56, Tryz.ntmps56
        go_wp2_with fail
        refine (hwd.out).mono ?_
        rintro e w2 ⟨rfl, hb⟩
        have HX2 := Lib.hid ((hb.block w.heap.size (by simp)).trans hx0.out)
        have HB2 := Lib.hid (hb0.out.trans (hb.mono hb0.out.size))
        obtain ⟨⟨k0, k1, k2, k3, k4⟩, _, _, _, _, _⟩ := cell5 HX2.out
        clear hb hwd hb0 hx0
        go_wp2_with fail
        go_ret
        exact ⟨rfl, HB2.out⟩
    · rw [h, kind_distinct]
      simp only [wDistinct] at h
      generalize l.length = m at *
      clear HA
      by_cases h2 : m = 2
      · subst h2
        rw [if_pos rfl]
        go_enter Tryz.func56, Tryz.ntmps56
        go_wp2_with fail
        refine (hwd.out).mono ?_
        rintro e w2 ⟨rfl, hb⟩
        have HX2 := Lib.hid ((hb.block w.heap.size (by simp)).trans hx0.out)
        have HB2 := Lib.hid (hb0.out.trans (hb.mono hb0.out.size))
        obtain ⟨⟨k0, k1, k2, k3, k4⟩, _, _, _, _, _⟩ := cell5 HX2.out
        clear hb hwd hb0 hx0
        go_wp2_with fail
        go_ret
        exact ⟨rfl, HB2.out⟩
      · rw [if_neg h2]
        have h2' : ((m : Int) == 2) = false := by rw [beq_eq_false_iff_ne]; omega
        go_enter Tryz.func56, Tryz.ntmps56
        go_wp2_with fail
        refine (hwd.out).mono ?_
        rintro e w2 ⟨rfl, hb⟩
        have HX2 := Lib.hid ((hb.block w.heap.size (by simp)).trans hx0.out)
        have HB2 := Lib.hid (hb0.out.trans (hb.mono hb0.out.size))
        obtain ⟨⟨k0, k1, k2, k3, k4⟩, _, _, _, _, _⟩ := cell5 HX2.out
        clear hb hwd hb0 hx0
        go_wp2_with fail
        go_ret
        exact ⟨rfl, HB2.out⟩
    · obtain ⟨r, hr⟩ : ∃ r, r = kindW wd.toList l := ⟨_, rfl⟩
      rw [← hr]
      rw [h, kind_group] at hr
      simp only [wGroup] at h
      have HR := Lib.hid hr.symm
      clear hr
      by_cases h2 : 3 ≤ l.length
      · have hml : (midL l 2).length = l.length - 3 := by unfold midL; rw [List.length_take, List.length_drop]; omega
        obtain ⟨x, hx⟩ : ∃ x, l[1]? = some x := ⟨_, List.getElem?_eq_getElem (by omega)⟩
        rw [getD_some hx] at HR
        go_enter Tryz.func56, Tryz.ntmps56
        go_wp2_with fail
        refine (hwd.out).mono ?_
        rintro e w2 ⟨rfl, hb⟩
        have HX2 := Lib.hid ((hb.block w.heap.size (by simp)).trans hx0.out)
        have HB2 := Lib.hid (hb0.out.trans (hb.mono hb0.out.size))
        obtain ⟨⟨k0, k1, k2, k3, k4⟩, _, _, _, _, _⟩ := cell5 HX2.out
        clear hb hwd hb0 hx0
        obtain ⟨b, o, A1, d1, rfl, hb9, c1, c2, c3, c4, c5, hd1, hK1⟩ := HA.out.get_ _ HB2.out 1 x hx
        rw [Nat.one_mul] at c1 c2 c3 c4 c5
        have ha1 := Lib.hid (atoms_any x A1 d1 w2 hK1)
        generalize atomsT x = q1 at *
        obtain ⟨xk, xs, xn, xl, xa⟩ := x
        simp only [T.val, T.k, T.s, T.n, T.kids, T.at_] at c1 c2 c3 c4 c5 ha1
        clear hK1 hd1 hx
        generalize xl.length = xm at *
        have hal := Lib.hid (fun w3 (h : Below w.heap.size w w3) => all_agg (some ⟨b, o + 2 * 5, none⟩) (c - 2) (midL l 2) w3 ((((HA.out.low h).more h.size)).sub 2 _))
        rw [hml] at hal
        clear hml HA
        generalize (midL l 2).all aggT = q2 at *
        generalize l.length = m at *
        go_wp2_with fail
        refine (ha1.out).mono ?_
        rintro e w3 ⟨rfl, hb⟩
        have HB3 := Lib.hid (HB2.out.trans (hb.mono HB2.out.size))
        have HX3 := Lib.hid ((hb.block w.heap.size (by have := (Array.getElem?_eq_some_iff.1 HX2.out).1; exact this)).trans HX2.out)
        obtain ⟨⟨m0, m1, m2, m3, m4⟩, _, _, _, _, _⟩ := cell5 HX3.out
        clear hb
        cases q1
        · go_wp2_with fail
          go_ret
          exact ⟨by show Ending.returned (Value.int .i64 0) = _; rw [← HR.out, if_neg (fun h => by simp at h)], HB3.out⟩
        · go_wp2_with fail
          refine (hal.out _ HB3.out).mono ?_
          rintro e w4 ⟨rfl, hb⟩
          have HB4 := Lib.hid (HB3.out.trans (hb.mono HB3.out.size))
          clear hb
          cases q2
          · go_wp2_with fail
            go_ret
            exact ⟨by show Ending.returned (Value.int .i64 0) = _; rw [← HR.out, if_neg (fun h => by simp at h)], HB4.out⟩
          · go_wp2_with fail
            go_ret
            exact ⟨by show Ending.returned (Value.int .i64 7) = _; rw [← HR.out, if_pos ⟨h2, trivial, trivial⟩], HB4.out⟩
      · generalize l.length = m at *
        clear HA
        go_enter Tryz.func56, Tryz.ntmps56
        go_wp2_with fail
        refine (hwd.out).mono ?_
        rintro e w2 ⟨rfl, hb⟩
        have HX2 := Lib.hid ((hb.block w.heap.size (by simp)).trans hx0.out)
        have HB2 := Lib.hid (hb0.out.trans (hb.mono hb0.out.size))
        obtain ⟨⟨k0, k1, k2, k3, k4⟩, _, _, _, _, _⟩ := cell5 HX2.out
        clear hb hwd hb0 hx0
        go_wp2_with fail
        go_ret
        exact ⟨by show Ending.returned (Value.int .i64 0) = _; rw [← HR.out, if_neg (fun h => h2 h.1)], HB2.out⟩
  · rw [kind_none h]
    simp only [wordsL, wTable, wFilter, wProject, wJoin, wUnion, wDistinct, wGroup, List.mem_cons, List.not_mem_nil, or_false, forall_eq_or_imp, forall_eq] at h
    obtain ⟨h0, h1, h2, h3, h4, h5, h6⟩ := h
    generalize l.length = m at *
    clear HA
    go_enter Tryz.func56, Tryz.ntmps56
    go_wp2_with fail
    refine (hwd.out).mono ?_
    rintro e w2 ⟨rfl, hb⟩
    have HX2 := Lib.hid ((hb.block w.heap.size (by simp)).trans hx0.out)
    have HB2 := Lib.hid (hb0.out.trans (hb.mono hb0.out.size))
    obtain ⟨⟨k0, k1, k2, k3, k4⟩, _, _, _, _, _⟩ := cell5 HX2.out
    clear hb hwd hb0 hx0
    go_wp2_with fail
    go_ret
    exact ⟨rfl, HB2.out⟩
end Go.Proofs.YtjhkihkiebnpaaaGreatDoor
/-
  Package plan's reader: refuse, name, names, expr.
-/
namespace Go.Proofs.YtjhkihkiebnpaaaGreatDoor
open Go.RowKit
set_option linter.unusedVariables false
set_option linter.unusedSimpArgs false
/-- of what was there, only block g has turned -/
structure Only (g : Nat) (w w' : World) : Prop where
  os : w'.os = w.os
  tape : w'.tape = w.tape
  output : w'.output = w.output
  size : w.heap.size ≤ w'.heap.size
  block : ∀ k, k < w.heap.size → k ≠ g → w'.heap[k]? = w.heap[k]?
theorem Only.refl (g : Nat) (w : World) : Only g w w := ⟨rfl, rfl, rfl, Nat.le_refl _, fun _ _ _ => rfl⟩
theorem Only.trans {g : Nat} {a b c : World} (h : Only g a b) (k : Only g b c) : Only g a c :=
  ⟨k.os.trans h.os, k.tape.trans h.tape, k.output.trans h.output, Nat.le_trans h.size k.size, fun i hi hg => (k.block i (Nat.lt_of_lt_of_le hi h.size) hg).trans (h.block i hi hg)⟩
theorem only_of_below {g : Nat} {w w' : World} (h : Below w.heap.size w w') : Only g w w' := ⟨h.os, h.tape, h.output, h.size, fun k hk _ => h.block k hk⟩
theorem Only.cell {g : Nat} {w w' : World} (h : Only g w w') {p : Addr} (h1 : p.block < w.heap.size) (h2 : p.block ≠ g) : w'.cell? p = w.cell? p := World.cell?_of_block (w := w) (h.block p.block h1 h2)
theorem Only.below {g B : Nat} {w w' : World} (h : Only g w w') (hB : B ≤ w.heap.size) (hg : B ≤ g) : Below B w w' := ⟨h.os, h.tape, h.output, h.size, fun k hk => h.block k (by omega) (by omega)⟩
theorem Only.alloc {g : Nat} {w w' : World} (h : Only g w w') (o : Obj) : Only g w (w'.alloc o) := h.trans (only_of_below ((Below.refl _ _).alloc (Nat.le_refl _) o))
theorem Only.bel {g : Nat} {w w1 w' : World} (h : Only g w w1) (hb : Below w1.heap.size w1 w') : Only g w w' := h.trans (only_of_below hb)
theorem Only.setNew {g : Nat} {w w' : World} (h : Only g w w') {p : Addr} (hp : w.heap.size ≤ p.block) (u : Value) : Only g w (w'.setCell p u) :=
  ⟨h.os, h.tape, h.output, by simp [World.setCell]; exact h.size, fun k hk hne => (Below.heap_setCell w' p u k (by omega)).trans (h.block k hk hne)⟩
theorem Only.grown {g : Nat} {w a w1 : World} {row : Option Nat} (h : Only g w a) (hg : a.grownBy w1 row) (hr : ∀ k, row = some k → w.heap.size ≤ k) : Only g w w1 :=
  ⟨hg.os.trans h.os, hg.tape.trans h.tape, hg.output.trans h.output, Nat.le_trans h.size hg.size, fun k hk hne => (hg.block k (Nat.lt_of_lt_of_le hk h.size) (fun e => by have := hr k e.symm; omega)).trans (h.block k hk hne)⟩
/-- the reader at block g is in state st -/
def RAt (w : World) (g : Nat) (st : RSt) : Prop := w.heap[g]? = some (.cells #[.int .i64 st.1, .int .i64 st.2] 76 (0, 0))
theorem RAt.lt {w : World} {g : Nat} {st : RSt} (h : RAt w g st) : g < w.heap.size := (Array.getElem?_eq_some_iff.1 h).1
theorem RAt.kept {w w' : World} {g : Nat} {st : RSt} (h : RAt w g st) (hb : Below w.heap.size w w') : RAt w' g st := (hb.block g h.lt).trans h
theorem cell2 {w : World} {g : Nat} {a b : Value} {t : TypeId} (h : w.heap[g]? = some (.cells #[a, b] t (0, 0))) :
    (w.cell? ⟨g, 0, none⟩ = some a ∧ w.cell? ⟨g, 1, none⟩ = some b) ∧ w.frozen? ⟨g, 0, none⟩ = false ∧ w.frozen? ⟨g, 1, none⟩ = false := by
  simp [World.cell?, World.frozen?, h]
theorem set2c {w : World} {g k : Nat} {a b u : Value} {t : TypeId} (h : w.heap[g]? = some (.cells #[a, b] t (0, 0))) : (w.setCell ⟨g, k, none⟩ u).heap[g]? = some (.cells (#[a, b].set! k u) t (0, 0)) := by
  show (w.heap.modify g _)[g]? = _
  rw [Array.getElem?_modify]
  simp [h]
theorem refuse_any (g : Nat) (st : RSt) (e a : Int) (w : World) (h : RAt w g st) :
    Calls Tryz.prog 33 #[.pointer (some ⟨g, 0, none⟩), .int .i64 e, .int .i64 a] w fun r w' => r = .returned (.tuple #[]) ∧ Only g w w' ∧ RAt w' g (refu e a st) := by
  have hlt := h.lt
  obtain ⟨s1, s2⟩ := st
  unfold RAt at h
  simp only at h
  obtain ⟨⟨k0, k1⟩, f0, f1⟩ := cell2 h
  by_cases h0 : s1 = 0
  · subst h0
    rw [show refu e a (0, s2) = (e, a) from if_pos rfl]
    go_enter Tryz.func33, Tryz.ntmps33
    go_wp2_with fail
    first
      | refine bodyPost_end (results_none rfl _ _ _) rfl ?_
      | refine bodyPost_ret (results_none rfl _ _ _) rfl ?_
    refine ⟨rfl, ⟨rfl, rfl, rfl, by simp [World.setCell], fun k hk hne => ?_⟩, set2c (k := 1) (set2c (k := 0) h)⟩
    exact (Below.heap_setCell _ ⟨g, 1, none⟩ _ k hne).trans (Below.heap_setCell _ ⟨g, 0, none⟩ _ k hne)
  · rw [show refu e a (s1, s2) = (s1, s2) from if_neg h0]
    have h0' : (s1 == 0) = false := by simpa using h0
    go_enter Tryz.func33, Tryz.ntmps33
    go_wp2_with fail
    first
      | refine bodyPost_end (results_none rfl _ _ _) rfl ?_
      | refine bodyPost_ret (results_none rfl _ _ _) rfl ?_
    exact ⟨rfl, Only.refl _ _, h⟩
theorem rname_any (t : T) (A : Option Addr) (c : Nat) (g : Nat) (st : RSt) (w : World) (h : RAt w g st) :
    Calls Tryz.prog 57 #[.pointer (some ⟨g, 0, none⟩), t.val A c] w fun r w' => r = .returned (.string t.s) ∧ Only g w w' ∧ RAt w' g (nameR t st) := by
  obtain ⟨k, s, n, l, a⟩ := t
  rw [show nameR (.mk k s n l a) st = if nameB s then st else refu 20 a st from rfl]
  simp only [T.val, T.k, T.s, T.n, T.kids, T.at_]
  have hb0 := box_below w #[.int .i64 k, .string s, .int .i64 n, .slice A l.length c, .int .i64 a] 71
  have hnm := Lib.hid (name_any s (w.alloc (.cells #[.int .i64 k, .string s, .int .i64 n, .slice A l.length c, .int .i64 a] 71)))
  have hrf := Lib.hid (refuse_any g st 20 a _ (h.kept hb0))
  have h0 := h.kept hb0
  have hx := block_alloc_new5 w k s n A l.length c a
  have hlt := h.lt
  have HB0 := Lib.hid hb0
  clear hb0 h
  generalize l.length = m at *
  generalize nameB s = q at *
  cases q
  · go_enter Tryz.func57, Tryz.ntmps57
    go_wp2_with fail
    refine (hnm.out).mono ?_
    rintro e w' ⟨rfl, rfl⟩
    go_wp2_with fail
    refine (hrf.out).mono ?_
    rintro e w2 ⟨rfl, ho, hr⟩
    obtain ⟨⟨k0, k1, k2, k3, k4⟩, _, _, _, _, _⟩ := cell5 ((ho.block w.heap.size (by simp) (by omega)).trans hx)
    have HO := Lib.hid ((only_of_below HB0.out).trans ho)
    clear ho
    go_wp2_with fail
    go_ret
    exact ⟨rfl, HO.out, hr⟩
  · go_enter Tryz.func57, Tryz.ntmps57
    go_wp2_with fail
    refine (hnm.out).mono ?_
    rintro e w' ⟨rfl, rfl⟩
    go_wp2_with fail
    go_ret
    exact ⟨rfl, only_of_below HB0.out, h0⟩
end Go.Proofs.YtjhkihkiebnpaaaGreatDoor
/-
  Package plan's reader: names, expr.
-/
namespace Go.Proofs.YtjhkihkiebnpaaaGreatDoor
open Go.RowKit
set_option linter.unusedVariables false
set_option linter.unusedSimpArgs false
/-- at an address the values vs lie, in a block of S -/
def Lies (w : World) (S : Nat → Prop) (A : Option Addr) (vs : List Value) : Prop := vs = [] ∨ ∃ b off, A = some ⟨b, off, none⟩ ∧ S b ∧ ∀ j u, vs[j]? = some u → w.cell? ⟨b, off + j, none⟩ = some u
theorem Lies.nil_ (w : World) (S : Nat → Prop) (A : Option Addr) : Lies w S A [] := .inl rfl
theorem Lies.kept {w w' : World} {S : Nat → Prop} {A : Option Addr} {vs : List Value} (h : Lies w S A vs) (hw : ∀ k, S k → w'.heap[k]? = w.heap[k]?) : Lies w' S A vs := by
  rcases h with h | ⟨b, off, rfl, hb, hc⟩
  · exact .inl h
  · exact .inr ⟨b, off, rfl, hb, fun j u hj => (World.cell?_of_block (hw b hb)).trans (hc j u hj)⟩
theorem Lies.mono {w : World} {S S' : Nat → Prop} {A : Option Addr} {vs : List Value} (h : Lies w S A vs) (hS : ∀ k, S k → S' k) : Lies w S' A vs := by
  rcases h with h | ⟨b, off, rfl, hb, hc⟩
  · exact .inl h
  · exact .inr ⟨b, off, rfl, hS b hb, hc⟩
def strs (l : List ByteArray) : List Value := l.map .string
theorem strs_length (l : List ByteArray) : (strs l).length = l.length := List.length_map _
theorem strs_snoc {l : List ByteArray} {j : Nat} {x : ByteArray} (h : l[j]? = some x) : strs (l.take (j + 1)) = strs (l.take j) ++ [.string x] := by
  unfold strs
  rw [List.take_add_one, h, List.map_append]
  rfl
/-- what is owned lies -/
theorem own_lies {w : World} {base : Nat} {e : TypeId} {z : Nat} {v : Value} {n : Nat} {vs : List Value} (h : w.ownsRow base e z v n vs) {S : Nat → Prop} (hS : ∀ g, base ≤ g → g < w.heap.size → S g) :
    ∃ A c, v = .slice A n c ∧ n ≤ c ∧ Lies w S A vs := by
  obtain ⟨hl, hcase⟩ := id h
  rcases hcase with ⟨rfl, h0⟩ | ⟨g, cap, cur, rfl, hg, hh, hc, hcap, hsz, htake⟩
  · subst h0
    exact ⟨none, 0, rfl, Nat.le_refl _, .inl (List.eq_nil_of_length_eq_zero (by rw [hl]; simp))⟩
  · refine ⟨some ⟨g, 0, none⟩, cap, rfl, hc, .inr ⟨g, 0, rfl, hS g hg ?_, fun j u hj => ?_⟩⟩
    · rcases Nat.lt_or_ge g w.heap.size with hlt | hge
      · exact hlt
      · rw [Array.getElem?_eq_none hge] at hh; cases hh
    · have hj' : j < vs.length := (List.getElem?_eq_some_iff.1 hj).1
      rw [Nat.zero_add, h.cellAt j (by omega)]
      exact hj
theorem own_only {w w' : World} {g B n : Nat} {e : TypeId} {z : Nat} {v : Value} {xs : List Value} (h : w.ownsRow B e z v n xs) (hb : Only g w w') (hg : g < B) : w'.ownsRow B e z v n xs := by
  refine ⟨h.1, ?_⟩
  rcases h.2 with hn | ⟨g', cap, cur, rfl, hg', hgg, rest⟩
  · exact .inl hn
  · exact .inr ⟨g', cap, cur, rfl, hg', by rw [hb.block g' (Array.getElem?_eq_some_iff.1 hgg).1 (by omega)]; exact hgg, rest⟩
theorem namesR_snoc {l : List T} {j : Nat} {x : T} (h : l[j]? = some x) (st : RSt) : namesR (l.take (j + 1)) st = nameR x (namesR (l.take j) st) := by
  unfold namesR
  rw [List.take_add_one, h, List.foldl_append]
  rfl
theorem pstr_info : (Tryz.prog.info? 9).map (fun i => (i.zero, i.size, i.bytes)) = some (some (.string ByteArray.empty), 1, 16) := by kernel_rfl
set_option maxHeartbeats 1000000 in
theorem rnames_any (l : List T) (hl : l.length ≤ 600) (A : Option Addr) (c : Nat) (g : Nat) (st : RSt) (w : World) (h : RAt w g st) (hA : TKids w g A l) :
    Calls Tryz.prog 59 #[.pointer (some ⟨g, 0, none⟩), .slice A l.length c] w fun r w' =>
      (∃ A' c', r = .returned (.slice A' l.length c') ∧ l.length ≤ c' ∧ Lies w' (fun k => w.heap.size ≤ k ∧ k < w'.heap.size) A' (strs (l.map T.s))) ∧ Only g w w' ∧ RAt w' g (namesR l st) := by
  obtain ⟨ln, eln⟩ : ∃ ln, ln = l.length := ⟨_, rfl⟩
  have HK := Lib.hid hA
  have hlt := h.lt
  have HR := Lib.hid h
  have HLN := Lib.hid eln
  obtain ⟨i0, hi, hz0, hz1, hz2⟩ := info_parts pstr_info
  rw [← eln] at hl ⊢
  clear hA h eln
  go_enter Tryz.func59, Tryz.ntmps59
  go_wp2_with fail
  go_loopw [5, 10] (fun v i wr => ∃ (j : Nat) (A' : Option Addr) (c' : Nat), j ≤ ln ∧ i = .int .i64 j ∧ v = .slice A' j c' ∧ wr.ownsRow w.heap.size 9 1 (.slice A' j c') j (strs ((l.map T.s).take j)) ∧ Only g w wr ∧ Hid (RAt wr g (namesR (l.take j) st))) (fun _ i _ => ln - (intOf i).toNat)
  case atStart => exact ⟨0, none, 0, Nat.zero_le _, rfl, rfl, ⟨rfl, .inl ⟨rfl, rfl⟩⟩, Only.refl _ _, HR⟩
  case round =>
    obtain ⟨j, A', c', hj, rfl, rfl, hown, ho, hra⟩ := hrel
    have HO := Lib.hid hown
    have HB := Lib.hid ho
    have hs := ho.size
    clear hown ho
    by_cases hlt2 : j < ln
    · obtain ⟨x, hx⟩ : ∃ x, l[j]? = some x := ⟨_, List.getElem?_eq_getElem (by rw [← HLN.out]; exact hlt2)⟩
      have htk := Lib.hid (strs_snoc (l := l.map T.s) (j := j) (x := x.s) (by rw [List.getElem?_map, hx]; rfl))
      have hrs := Lib.hid (namesR_snoc hx st)
      obtain ⟨b, o, A2, c2, hA2, hbl, m1, m2, m3, m4, m5, hcx, hKx⟩ : ∃ b o A2 c2, A = some ⟨b, o, none⟩ ∧ b < wr.heap.size ∧ wr.cell? ⟨b, o + j * 5, none⟩ = some (.int .i64 x.k) ∧ wr.cell? ⟨b, o + j * 5 + 1, none⟩ = some (.string x.s) ∧
          wr.cell? ⟨b, o + j * 5 + 2, none⟩ = some (.int .i64 x.n) ∧ wr.cell? ⟨b, o + j * 5 + 3, none⟩ = some (.slice A2 x.kids.length c2) ∧ wr.cell? ⟨b, o + j * 5 + 4, none⟩ = some (.int .i64 x.at_) ∧ x.kids.length ≤ c2 ∧ True := by
        have hKK := HK.out.low (HB.out.below (B := g) (Nat.le_of_lt hlt) (Nat.le_refl _))
        obtain ⟨b, o, A2, c2, e0, e1, e2, e3, e4, e5, e6, e7, _⟩ := (hKK.more (B' := wr.heap.size) (by omega)).get_ wr (Below.refl _ _) j x hx
        exact ⟨b, o, A2, c2, e0, e1, e2, e3, e4, e5, e6, e7, trivial⟩
      subst hA2
      obtain ⟨wx, ewx⟩ : ∃ wx, wx = wr.alloc (.cells #[.int .i64 x.k, .string x.s, .int .i64 x.n, .slice A2 x.kids.length c2, .int .i64 x.at_] 71) := ⟨_, rfl⟩
      have hbx : Below wr.heap.size wr wx := by rw [ewx]; exact (Below.refl _ _).alloc (Nat.le_refl _) _
      have hnx : wx.heap[wr.heap.size]? = some (.cells #[.int .i64 x.k, .string x.s, .int .i64 x.n, .slice A2 x.kids.length c2, .int .i64 x.at_] 71 (0, 0)) := by rw [ewx]; exact heap_alloc_new wr _
      have hcl := Lib.hid (rname_any x A2 c2 g _ wx (hra.out.kept hbx))
      have HWX := Lib.hid ewx
      have HBX := Lib.hid hbx
      obtain ⟨⟨n0, n1', n2', n3, n4⟩, _, _, _, _, _⟩ := cell5 hnx
      have hsx : wr.heap.size ≤ wx.heap.size := hbx.size
      rw [← hrs.out] at hcl
      clear hx hKx hcx ewx hbx hnx hra
      obtain ⟨xk, xs, xn, xl, xa⟩ := x
      simp only [T.val, T.k, T.s, T.n, T.kids, T.at_] at m1 m2 m3 m4 m5 hcl HWX n0 n1' n2' n3 n4 htk
      generalize xl.length = xm at *
      go_upto_region 5 with (fail)
      rw [← HWX.out]
      go_wp2_with fail
      refine (hcl.out).mono ?_
      rintro e w2 ⟨rfl, ho2, hr2⟩
      have HR2 := Lib.hid hr2
      have HO2 := Lib.hid (own_only (own_below HO.out HBX.out) ho2 hlt)
      have HB2 := Lib.hid ((HB.out.bel HBX.out).trans ho2)
      have hs2 := HB2.out.size
      clear ho2 hr2
      go_wp2_with (at_builtin; refine wpList_append_own _ rfl _ _ 23 rfl w.heap.size 9 i0 _ 1 16 Tryz.underlying23 hi hz0 hz1 hz2 rfl (by decide) (.slice A' j c') j (strs ((l.map T.s).take j)) rfl (own_below HO2.out ((Below.refl w2.heap.size w2).alloc (Nat.le_refl _) _)) ⟨w2.heap.size, 0, none⟩ 1 1 [.string xs] rfl rfl ?c1 ?c2 ?c3 ?c4 ?c5 ?_)
      case c1 => exact World.news_of_block (heap_alloc_new w2 _)
      case c2 => first | rfl | (intro u hu; simp at hu; subst hu; rfl)
      case c3 => unfold maxLen; omega
      case c4 => omega
      case c5 => first | omega | (simp; omega)
      intro v' w5 hown5 hgrow _
      have hB5 := (HB2.out.alloc (.cells #[.string xs] 9)).grown hgrow (fun k e => (HO2.out.lt k e).1)
      have hR5 : RAt w5 g (namesR (List.take (j + 1) l) st) := by
        refine (hgrow.block g (by simp; omega) (fun e => ?_)).trans (HR2.out.kept ((Below.refl _ _).alloc (Nat.le_refl _) _))
        have := (HO2.out.lt g e.symm).1
        omega
      obtain ⟨g5, cap5, ev5, _⟩ := hown5.form (by omega)
      subst ev5
      have HO5 : Hid (w5.ownsRow w.heap.size 9 1 (.slice (some ⟨g5, 0, none⟩) (j + 1) cap5) (j + 1) (strs ((l.map T.s).take (j + 1)))) := Lib.hid (by
        rw [htk.out]
        exact hown5)
      have HB5 := Lib.hid hB5
      have HR5 := Lib.hid hR5
      clear hown5 hgrow hB5 hR5
      go_wp2_with fail
      go_roundw
      case rel => exact ⟨j + 1, _, cap5, by omega, by go_num, rfl, HO5.out, HB5.out, HR5⟩
      case measure => simp [intOf]; omega
    · obtain rfl : j = ln := by omega
      obtain ⟨A3, c3, e3, hc3, hL⟩ := own_lies HO.out (S := fun k => w.heap.size ≤ k ∧ k < wr.heap.size) (fun k h1 h2 => ⟨h1, h2⟩)
      obtain ⟨rfl, rfl⟩ : A' = A3 ∧ c' = c3 := by injection e3 with e4 _ e5; exact ⟨e4, e5⟩
      have hml : (l.map T.s).take j = l.map T.s := List.take_of_length_le (by rw [List.length_map]; exact Nat.le_of_eq HLN.out.symm)
      have hml2 : l.take j = l := List.take_of_length_le (Nat.le_of_eq HLN.out.symm)
      rw [hml] at hL
      have HL := Lib.hid hL
      have HR9 : Hid (RAt wr g (namesR l st)) := by rw [hml2] at hra; exact hra
      clear hL hra e3
      go_wp2_with fail
      go_ret
      exact ⟨⟨A', c', rfl, hc3, HL.out⟩, HB.out, HR9.out⟩
theorem results_expr {fn : Func} {p : Tmp} (h : fn.results = #[.cell p 38]) {tmps : Array Value} {w : World} {g : Nat} {x0 x1 x2 x3 : Value} {t : TypeId}
    (hp : tmps.getD p undef = .pointer (some ⟨g, 0, none⟩)) (hg : w.heap[g]? = some (.cells #[x0, x1, x2, x3] t (0, 0))) : (results fn tmps).run Tryz.prog w = .ok (.agg #[x0, x1, x2, x3]) w := by
  have hp' : tmps[p]?.getD undef = .pointer (some ⟨g, 0, none⟩) := by simpa using hp
  have hl := run_loadVar_row (P := Tryz.prog) w g t 38 #[x0, x1, x2, x3] (0, 0) _ hg Tryz.underlying38 rfl (by show _ = some 4; kernel_rfl)
  simp [results, h, hp', asAddr, hl]
end Go.Proofs.YtjhkihkiebnpaaaGreatDoor
/-
  Package plan's reader: expr.
-/
namespace Go.Proofs.YtjhkihkiebnpaaaGreatDoor
open Go.RowKit
set_option linter.unusedVariables false
set_option linter.unusedSimpArgs false
set_option maxHeartbeats 1000000 in
theorem rexpr_any (t : T) (A : Option Addr) (c : Nat) (g : Nat) (st : RSt) (w : World) (h : RAt w g st) (hc : t.kids.length ≤ c) (hA : TKids w w.heap.size A t.kids) :
    Calls Tryz.prog 58 #[.pointer (some ⟨g, 0, none⟩), t.val A c] w fun r w' =>
      (∃ A' c', r = .returned ((readT t).1.val A' c') ∧ XKids w' (fun k => w.heap.size ≤ k ∧ k < w'.heap.size) A' (readT t).1.kids) ∧ Only g w w' ∧ RAt w' g (exprR t st) := by
  obtain ⟨k, s, n, l, a⟩ := t
  simp only [T.val, T.k, T.s, T.n, T.kids, T.at_] at hc hA ⊢
  have hlt := h.lt
  obtain ⟨wa, ewa⟩ : ∃ wa, wa = w.alloc (.cells #[.int .i64 k, .string s, .int .i64 n, .slice A l.length c, .int .i64 a] 71) := ⟨_, rfl⟩
  have hba : Below w.heap.size w wa := by rw [ewa]; exact (Below.refl _ _).alloc (Nat.le_refl _) _
  have hsa : wa.heap.size = w.heap.size + 1 := by rw [ewa]; simp
  have hxa : wa.heap[w.heap.size]? = some (.cells #[.int .i64 k, .string s, .int .i64 n, .slice A l.length c, .int .i64 a] 71 (0, 0)) := by rw [ewa]; exact heap_alloc_new w _
  obtain ⟨w1, ew1⟩ : ∃ w1, w1 = wa.alloc (.cells #[.int .i64 0, .string ⟨#[]⟩, .int .i64 0, .slice none 0 0] 38) := ⟨_, rfl⟩
  have hb1 : Below wa.heap.size wa w1 := by rw [ew1]; exact (Below.refl _ _).alloc (Nat.le_refl _) _
  have hs1 : w1.heap.size = w.heap.size + 2 := by rw [ew1]; simp; omega
  have hr1 : w1.heap[w.heap.size + 1]? = some (.cells #[.int .i64 0, .string ⟨#[]⟩, .int .i64 0, .slice none 0 0] 38 (0, 0)) := by rw [ew1, ← hsa]; exact heap_alloc_new wa _
  have hx1 : w1.heap[w.heap.size]? = some (.cells #[.int .i64 k, .string s, .int .i64 n, .slice A l.length c, .int .i64 a] 71 (0, 0)) := (hb1.block _ (by omega)).trans hxa
  have hbw : Below w.heap.size w w1 := hba.trans (hb1.mono (by omega))
  have hrd := Lib.hid (read_any (.mk k s n l a) A c w1 hc ((hA.low hbw).more hbw.size))
  have HW1 := Lib.hid (show w1 = (w.alloc (.cells #[.int .i64 k, .string s, .int .i64 n, .slice A l.length c, .int .i64 a] 71)).alloc (.cells #[.int .i64 0, .string ⟨#[]⟩, .int .i64 0, .slice none 0 0] 38) by rw [ew1, ewa])
  have HR := Lib.hid (h.kept hbw)
  have HX1 := Lib.hid hx1
  have HR1 := Lib.hid hr1
  have HB1 := Lib.hid hbw
  obtain ⟨⟨k0, k1, k2, k3, k4⟩, _, _, _, _, _⟩ := cell5 hx1
  rw [show exprR (.mk k s n l a) st = if (readT (.mk k s n l a)).2.1 = 0 then st else refu (readT (.mk k s n l a)).2.1 (readT (.mk k s n l a)).2.2 st from rfl]
  generalize readT (.mk k s n l a) = q at *
  obtain ⟨e, y, z⟩ := q
  obtain ⟨ek, es, en, el⟩ := e
  simp only [T.val, E.val, E.k, E.s, E.n, E.kids, T.k, T.s, T.n, T.kids, T.at_] at hrd ⊢
  clear ewa hba hsa hxa ew1 hb1 hr1 hx1 hbw h hA wa hc
  have hs1' : w.heap.size + 1 < w1.heap.size := by omega
  clear hs1
  generalize l.length = m at *
  obtain ⟨em, eem⟩ : ∃ em, em = el.length := ⟨_, rfl⟩
  rw [← eem] at hrd ⊢
  clear eem
  go_enter Tryz.func58, Tryz.ntmps58
  go_upto_region 1 with (fail)
  rw [← HW1.out]
  go_wp2_with fail
  refine (hrd.out).mono ?_
  rintro r w2 ⟨⟨A', c', rfl, hX⟩, hb⟩
  have hs2 := hb.size
  have HX := Lib.hid hX
  have HRA := Lib.hid (HR.out.kept hb)
  have HB2 := Lib.hid (HB1.out.trans (hb.mono HB1.out.size))
  have HT2 := Lib.hid ((hb.block (w.heap.size + 1) hs1').trans HR1.out)
  clear hb hX
  obtain ⟨w3, ew3⟩ : ∃ w3, w3 = w2.alloc (.cells #[.int .i64 ek, .string es, .int .i64 en, .slice A' em c'] 38) := ⟨_, rfl⟩
  have hb3 : Below w2.heap.size w2 w3 := by rw [ew3]; exact (Below.refl _ _).alloc (Nat.le_refl _) _
  have hs3 : w2.heap.size < w3.heap.size := by rw [ew3]; simp
  have hx3 : w3.heap[w2.heap.size]? = some (.cells #[.int .i64 ek, .string es, .int .i64 en, .slice A' em c'] 38 (0, 0)) := by rw [ew3]; exact heap_alloc_new w2 _
  have HW3 := Lib.hid ew3
  have HX3 := Lib.hid hx3
  have HB3 := Lib.hid hb3
  have HRB := Lib.hid (HRA.out.kept hb3)
  have HT3 := Lib.hid ((hb3.block (w.heap.size + 1) (by omega)).trans HT2.out)
  clear ew3 hb3 hx3
  have hrf := Lib.hid (refuse_any g st y z w3 HRB.out)
  go_upto_region 2 with (fail)
  rw [← HW3.out]
  by_cases h0 : y = 0
  · subst h0
    obtain ⟨⟨p0, p1, p2, p3⟩, _, _, _, _⟩ := cell4 HX3.out
    obtain ⟨⟨r0, r1, r2, r3⟩, s0, s1, s2, s3⟩ := cell4 HT3.out
    clear hrf
    go_wp2_with fail
    refine bodyPost_ret (results_expr rfl rfl (put4_block HT3.out)) rfl ?_
    first
      | refine ⟨⟨A', c', rfl, ?_⟩, ?_, ?_⟩
      | refine ⟨⟨A', ⟨c', rfl⟩, ?_⟩, ?_, ?_⟩
    · exact (HX.out.kept fun k hk => (put4_other (by have := hk.1; omega)).trans (HB3.out.block k hk.2)).mono fun k hk => ⟨by have := hk.1; omega, Nat.lt_of_lt_of_eq (by have := hk.2; omega) put4_size.symm⟩
    · exact only_of_below (put4_below (HB2.out.trans (HB3.out.mono (by have := HB2.out.size; omega))) (Nat.le_succ _))
    · try rw [if_pos rfl]
      exact (put4_other (by omega)).trans HRB.out
  · have h0' : (y == 0) = false := by simpa using h0
    go_wp2_with fail
    refine (hrf.out).mono ?_
    rintro r w4 ⟨rfl, ho, hr4⟩
    have HO := Lib.hid ho
    have HR4 := Lib.hid hr4
    have HX4 := Lib.hid ((ho.block w2.heap.size (by omega) (by omega)).trans HX3.out)
    have HT4 := Lib.hid ((ho.block (w.heap.size + 1) (by omega) (by omega)).trans HT3.out)
    have hs4 := ho.size
    clear ho hr4
    obtain ⟨⟨p0, p1, p2, p3⟩, _, _, _, _⟩ := cell4 HX4.out
    obtain ⟨⟨r0, r1, r2, r3⟩, s0, s1, s2, s3⟩ := cell4 HT4.out
    go_wp2_with fail
    refine bodyPost_ret (results_expr rfl rfl (put4_block HT4.out)) rfl ?_
    first
      | refine ⟨⟨A', c', rfl, ?_⟩, ?_, ?_⟩
      | refine ⟨⟨A', ⟨c', rfl⟩, ?_⟩, ?_, ?_⟩
    · exact (HX.out.kept fun k hk => (put4_other (by have := hk.1; omega)).trans ((HO.out.block k (by have := hk.2; omega) (by have := hk.1; omega)).trans (HB3.out.block k hk.2))).mono fun k hk => ⟨by have := hk.1; omega, Nat.lt_of_lt_of_eq (by have := hk.2; omega) put4_size.symm⟩
    · exact ((((((only_of_below (HB2.out.trans (HB3.out.mono (by have := HB2.out.size; omega)))).trans HO.out).setNew (p := ⟨w.heap.size + 1, 0, none⟩) (Nat.le_succ _) _).setNew (p := ⟨w.heap.size + 1, 1, none⟩) (Nat.le_succ _) _).setNew (p := ⟨w.heap.size + 1, 2, none⟩) (Nat.le_succ _) _).setNew (p := ⟨w.heap.size + 1, 3, none⟩) (Nat.le_succ _) _)
    · try rw [if_neg h0]
      exact (put4_other (by omega)).trans HR4.out
end Go.Proofs.YtjhkihkiebnpaaaGreatDoor
