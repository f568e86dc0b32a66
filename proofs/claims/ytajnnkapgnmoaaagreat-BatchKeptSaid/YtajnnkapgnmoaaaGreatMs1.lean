/-
  Package value's contract: Less.
-/
import Derived.Test.YtajnnkapgnmoaaaGreatMs0
import Derived.Test.YtajnnkapgnmoaaaGreatRows
import Derived.BigQuiet
import Derived.Laws.StructEq
import Derived.Deep.AppendLies
import Derived.WalkKit
import Derived.WalkSpells
import Derived.Lib.Hide
import Derived.Below
import Derived.Laws.OwnMore
import Derived.Laws.Rows
import Derived.Maps.AppendAt
import Derived.Deep.Draws
import Derived.RegionTactic
import Derived.OwnWalk
import Derived.Laws.FloatArith
import Derived.Laws.Cover3
import GoSem.Extern.MathFloor
set_option linter.unusedVariables false
set_option linter.unusedSimpArgs false
namespace Go.Proofs.YtajnnkapgnmoaaaGreat
open Go.RowKit

def V.ltIn (a b : V) : Bool := if (a.k != b.k) then a.k == 1 else if (a.k == 1) then decide (a.n < b.n) else Op.bytesLess a.s.toList b.s.toList
def V.lt (a b : V) : Bool := (V.okB a && V.okB b) && V.ltIn a b

set_option maxHeartbeats 400000 in
theorem value_less (k n : Int) (s : ByteArray) (k2 n2 : Int) (s2 : ByteArray) (w : World) :
    Calls Tryz.prog 121 #[.agg #[.int .i64 k, .int .i64 n, .string s], .agg #[.int .i64 k2, .int .i64 n2, .string s2]] w fun e w' =>
      e = .returned (.bool (V.lt ⟨k, n, s⟩ ⟨k2, n2, s2⟩)) ∧ Below w.heap.size w w' := by
  have hr1 := Lib.hid (value_right k n s)
  have hr2 := Lib.hid (value_right k2 n2 s2)
  unfold V.lt
  generalize V.okB ⟨k, n, s⟩ = q at *
  generalize V.okB ⟨k2, n2, s2⟩ = q2 at *
  cases q
  · rw [Bool.false_and, Bool.false_and]
    clear hr2
    go_enter Tryz.func121, Tryz.ntmps121
    go_wp2_with fail
    refine (hr1.out _).mono ?_
    rintro e w' ⟨rfl, rfl⟩
    go_wp2_with fail
    go_ret
    exact ⟨rfl, by repeat (first | exact Below.refl _ _ | refine Below.alloc ?_ (by simp <;> omega) _)⟩
  · cases q2
    · rw [Bool.and_false, Bool.false_and]
      go_enter Tryz.func121, Tryz.ntmps121
      go_wp2_with fail
      refine (hr1.out _).mono ?_
      rintro e w' ⟨rfl, rfl⟩
      go_wp2_with fail
      refine (hr2.out _).mono ?_
      rintro e w' ⟨rfl, rfl⟩
      go_wp2_with fail
      go_ret
      exact ⟨rfl, by repeat (first | exact Below.refl _ _ | refine Below.alloc ?_ (by simp <;> omega) _)⟩
    · rw [Bool.and_self, Bool.true_and]
      by_cases h1 : (k != k2) = true
      · have e0 : V.ltIn ⟨k, n, s⟩ ⟨k2, n2, s2⟩ = (k == 1) := if_pos h1
        rw [e0]
        clear e0
        go_enter Tryz.func121, Tryz.ntmps121
        go_wp2_with fail
        refine (hr1.out _).mono ?_
        rintro e w' ⟨rfl, rfl⟩
        go_wp2_with fail
        refine (hr2.out _).mono ?_
        rintro e w' ⟨rfl, rfl⟩
        go_wp2_with fail
        go_ret
        exact ⟨rfl, by repeat (first | exact Below.refl _ _ | refine Below.alloc ?_ (by simp <;> omega) _)⟩
      · have h1' : (k != k2) = false := by simpa using h1
        by_cases h2 : (k == 1) = true
        · have e0 : V.ltIn ⟨k, n, s⟩ ⟨k2, n2, s2⟩ = decide (n < n2) := (if_neg h1).trans (if_pos h2)
          rw [e0]
          clear e0 h1
          go_enter Tryz.func121, Tryz.ntmps121
          go_wp2_with fail
          refine (hr1.out _).mono ?_
          rintro e w' ⟨rfl, rfl⟩
          go_wp2_with fail
          refine (hr2.out _).mono ?_
          rintro e w' ⟨rfl, rfl⟩
          go_wp2_with fail
          go_ret
          exact ⟨rfl, by repeat (first | exact Below.refl _ _ | refine Below.alloc ?_ (by simp <;> omega) _)⟩
        · have h2' : (k == 1) = false := by simpa using h2
          have e0 : V.ltIn ⟨k, n, s⟩ ⟨k2, n2, s2⟩ = Op.bytesLess s.toList s2.toList := (if_neg h1).trans (if_neg h2)
          rw [e0]
          clear e0 h1 h2
          go_enter Tryz.func121, Tryz.ntmps121
          go_wp2_with fail
          refine (hr1.out _).mono ?_
          rintro e w' ⟨rfl, rfl⟩
          go_wp2_with fail
          refine (hr2.out _).mono ?_
          rintro e w' ⟨rfl, rfl⟩
          go_wp2_with fail
          go_ret
          exact ⟨rfl, by repeat (first | exact Below.refl _ _ | refine Below.alloc ?_ (by simp <;> omega) _)⟩

end Go.Proofs.YtajnnkapgnmoaaaGreat
/-
  Packages value's and row's contracts: Less, Compare, Same (and slices.CompareFunc at its closure).
-/
namespace Go.Proofs.YtajnnkapgnmoaaaGreat
open Go.RowKit

def V.cmp (a b : V) : Int := if V.lt a b then -1 else if V.lt b a then 1 else 0

/-- two boxes of values, as the world grows behind them -/
theorem boxes2 (k n : Int) (s : ByteArray) (k2 n2 : Int) (s2 : ByteArray) (w w1 : World) (t1 t2 : TypeId)
    (hb : Below ((w.alloc (.cells #[.int .i64 k, .int .i64 n, .string s] t1)).alloc (.cells #[.int .i64 k2, .int .i64 n2, .string s2] t2)).heap.size ((w.alloc (.cells #[.int .i64 k, .int .i64 n, .string s] t1)).alloc (.cells #[.int .i64 k2, .int .i64 n2, .string s2] t2)) w1) :
    (w1.cell? ⟨w.heap.size, 0, none⟩ = some (.int .i64 k) ∧ w1.cell? ⟨w.heap.size, 1, none⟩ = some (.int .i64 n) ∧ w1.cell? ⟨w.heap.size, 2, none⟩ = some (.string s)) ∧
    (w1.cell? ⟨w.heap.size + 1, 0, none⟩ = some (.int .i64 k2) ∧ w1.cell? ⟨w.heap.size + 1, 1, none⟩ = some (.int .i64 n2) ∧ w1.cell? ⟨w.heap.size + 1, 2, none⟩ = some (.string s2)) ∧
    w.heap.size + 1 < w1.heap.size ∧ Below w.heap.size w w1 := by
  have hz := hb.size
  refine ⟨⟨?_, ?_, ?_⟩, ⟨?_, ?_, ?_⟩, ?_, ?_⟩
  · rw [hb.cell (by simp; omega)]; simp
  · rw [hb.cell (by simp; omega)]; simp
  · rw [hb.cell (by simp; omega)]; simp
  · rw [hb.cell (by simp)]; simp
  · rw [hb.cell (by simp)]; simp
  · rw [hb.cell (by simp)]; simp
  · simp at hz; omega
  · exact (((Below.refl _ _).alloc (Nat.le_refl _) _).alloc (by simp) _).trans (hb.mono (by simp; omega))

set_option maxHeartbeats 400000 in
theorem compare_closure (k n : Int) (s : ByteArray) (k2 n2 : Int) (s2 : ByteArray) (w : World) :
    Calls Tryz.prog 120 #[.agg #[.int .i64 k, .int .i64 n, .string s], .agg #[.int .i64 k2, .int .i64 n2, .string s2]] w fun e w' =>
      e = .returned (.int .i64 (V.cmp ⟨k, n, s⟩ ⟨k2, n2, s2⟩)) ∧ Below w.heap.size w w' := by
  have hr1 := Lib.hid (value_less k n s k2 n2 s2)
  have hr2 := Lib.hid (value_less k2 n2 s2 k n s)
  unfold V.cmp
  generalize V.lt ⟨k, n, s⟩ ⟨k2, n2, s2⟩ = q at *
  generalize V.lt ⟨k2, n2, s2⟩ ⟨k, n, s⟩ = q2 at *
  cases q
  · rw [if_neg (by simp)]
    go_enter Tryz.func120, Tryz.ntmps120
    go_wp2_with fail
    refine (hr1.out _).mono ?_
    rintro e w1 ⟨rfl, hb1⟩
    obtain ⟨⟨c1, c2, c3⟩, ⟨c4, c5, c6⟩, hs1, hb⟩ := boxes2 k n s k2 n2 s2 w w1 _ _ hb1
    have HB1 := Lib.hid hb
    have hs2 := hb.size
    clear hb1 hb
    go_wp2_with fail
    refine (hr2.out _).mono ?_
    rintro e w2 ⟨rfl, hb2⟩
    have HB2 := Lib.hid (HB1.out.trans (hb2.mono hs2))
    clear hb2
    cases q2
    · go_wp2_with fail
      go_ret
      exact ⟨rfl, HB2.out⟩
    · go_wp2_with fail
      go_ret
      exact ⟨rfl, HB2.out⟩
  · rw [if_pos rfl]
    go_enter Tryz.func120, Tryz.ntmps120
    go_wp2_with fail
    refine (hr1.out _).mono ?_
    rintro e w1 ⟨rfl, hb1⟩
    obtain ⟨_, _, _, hb⟩ := boxes2 k n s k2 n2 s2 w w1 _ _ hb1
    have HB1 := Lib.hid hb
    clear hb1 hb
    go_wp2_with fail
    go_ret
    exact ⟨rfl, HB1.out⟩

def cmpR : List V → List V → Int
  | [], [] => 0
  | [], _ :: _ => -1
  | _ :: _, [] => 1
  | x :: a, y :: b => if (V.cmp x y != 0) then V.cmp x y else cmpR a b
theorem cmpR_step {a b : List V} {k : Nat} {x y : V} (hx : a[k]? = some x) (hy : b[k]? = some y) : cmpR (a.drop k) (b.drop k) = if (V.cmp x y != 0) then V.cmp x y else cmpR (a.drop (k + 1)) (b.drop (k + 1)) := by
  obtain ⟨h1, e1⟩ := List.getElem?_eq_some_iff.1 hx
  obtain ⟨h2, e2⟩ := List.getElem?_eq_some_iff.1 hy
  rw [List.drop_eq_getElem_cons h1, List.drop_eq_getElem_cons h2, e1, e2]
  rfl
theorem cmpR_long {a b : List V} {k : Nat} {x : V} (hx : a[k]? = some x) (h : b.length ≤ k) : cmpR (a.drop k) (b.drop k) = 1 := by
  obtain ⟨h1, e1⟩ := List.getElem?_eq_some_iff.1 hx
  rw [List.drop_eq_getElem_cons h1, List.drop_of_length_le h]
  rfl
theorem cmpR_end {a b : List V} (h : a.length ≤ b.length) : cmpR (a.drop a.length) (b.drop a.length) = if a.length < b.length then -1 else 0 := by
  rw [List.drop_of_length_le (Nat.le_refl a.length)]
  by_cases h1 : a.length < b.length
  · rw [if_pos h1, List.drop_eq_getElem_cons h1]; rfl
  · rw [if_neg h1, List.drop_of_length_le (by omega)]; rfl

theorem cmpR_fin {a b : List V} {k m : Nat} (ha : a.length = k) (hb : b.length = m) (h : k ≤ m) : cmpR (a.drop k) (b.drop k) = if k < m then -1 else 0 := by
  subst ha hb
  exact cmpR_end h

set_option maxHeartbeats 1000000 in
theorem compareFunc_any (A D : Option Addr) (c d : Nat) (a b : List V) (ha : a.length ≤ 9223372036854775807) (hb : b.length ≤ 9223372036854775807) (w : World) (hA : VRow w w.heap.size A a) (hD : VRow w w.heap.size D b) :
    Calls Tryz.prog 119 #[.slice A a.length c, .slice D b.length d, .func (.func 120) #[] #[]] w fun e w' =>
      e = .returned (.int .i64 (cmpR a b)) ∧ Below w.heap.size w w' := by
  rcases hA with rfl | ⟨ab, ao, rfl, hab, hL⟩
  · clear hD
    cases b with
    | nil =>
      go_enter Tryz.func119, Tryz.ntmps119
      go_wp2
      refine wp_loop_rounds 1 ?_
      rw [rounds_succ]
      go_wp2
      go_ret
      exact ⟨rfl, Below.refl _ _⟩
    | cons y b =>
      have hp : 0 < (y :: b).length := by simp
      have e0 : cmpR [] (y :: b) = -1 := rfl
      rw [e0]
      generalize (y :: b).length = m at *
      clear e0
      go_enter Tryz.func119, Tryz.ntmps119
      go_wp2
      refine wp_loop_rounds 1 ?_
      rw [rounds_succ]
      go_wp2
      go_ret
      exact ⟨rfl, Below.refl _ _⟩
  · have HL := Lib.hid hL
    have HD := Lib.hid hD
    clear hL hD
    obtain ⟨n, hn⟩ : ∃ n, a.length = n := ⟨_, rfl⟩
    obtain ⟨m, hm⟩ : ∃ m, b.length = m := ⟨_, rfl⟩
    have Hn := Lib.hid hn
    have Hm := Lib.hid hm
    rw [hn, hm]
    rw [hn] at ha
    rw [hm] at hb
    clear hn hm
    -- where the second row is not empty it stands somewhere
    by_cases h0 : m = 0
    · subst h0
      have hb0 : b = [] := List.eq_nil_of_length_eq_zero Hm.out
      subst hb0
      obtain ⟨x, hx⟩ | hx : (∃ x, a[0]? = some x) ∨ n = 0 := by
        rcases Nat.eq_zero_or_pos n with h | h
        · exact .inr h
        · exact .inl ⟨_, List.getElem?_eq_getElem (by rw [Hn.out]; exact h)⟩
      · have hlt : 0 < n := by
          obtain ⟨h1, _⟩ := List.getElem?_eq_some_iff.1 hx
          rw [← Hn.out]; exact h1
        have e0 : Hid (cmpR a [] = 1) := Lib.hid (by
          have := cmpR_long (b := []) hx (by simp)
          simpa using this)
        obtain ⟨v1, v2, v3⟩ := HL.out 0 x hx
        simp only [Nat.zero_mul, Nat.add_zero] at v1 v2 v3
        clear hx
        obtain ⟨vk, vn, vs⟩ := x
        go_enter Tryz.func119, Tryz.ntmps119
        go_wp2_with fail
        refine wp_loop_rounds 1 ?_
        rw [rounds_succ]
        go_wp2_with fail
        go_ret
        exact ⟨by rw [e0.out]; rfl, by repeat (first | exact Below.refl _ _ | refine Below.alloc ?_ (by simp <;> omega) _)⟩
      · subst hx
        have ha0 : a = [] := List.eq_nil_of_length_eq_zero Hn.out
        subst ha0
        go_enter Tryz.func119, Tryz.ntmps119
        go_wp2
        refine wp_loop_rounds 1 ?_
        rw [rounds_succ]
        go_wp2
        go_ret
        exact ⟨rfl, Below.refl _ _⟩
    · obtain ⟨bb, bo, rfl, hbb, hR⟩ : ∃ bb bo, D = some ⟨bb, bo, none⟩ ∧ bb < w.heap.size ∧ VAt w bb bo b := by
        rcases HD.out with h | h
        · subst h; exact absurd Hm.out.symm h0
        · exact h
      have HR := Lib.hid hR
      clear hR HD h0
      go_enter Tryz.func119, Tryz.ntmps119
      go_wp2_with fail
      go_loopw [13] (fun i wr => ∃ k : Nat, k ≤ n ∧ k ≤ m ∧ i = .int .i64 k ∧ Below w.heap.size w wr ∧ Hid (cmpR a b = cmpR (a.drop k) (b.drop k))) (fun i _ => n - (intOf i).toNat)
      case atStart => exact ⟨0, Nat.zero_le _, Nat.zero_le _, rfl, Below.refl _ _, rfl⟩
      case round =>
        obtain ⟨k, hk, hkm, rfl, hbl, hz⟩ := hrel
        have hs := hbl.size
        by_cases hlt : k < n
        · obtain ⟨x, hx⟩ : ∃ x, a[k]? = some x := ⟨_, List.getElem?_eq_getElem (by rw [Hn.out]; exact hlt)⟩
          obtain ⟨v1, v2, v3⟩ := HL.out.below hbl hab k x hx
          by_cases hlm : k < m
          · obtain ⟨y, hy⟩ : ∃ y, b[k]? = some y := ⟨_, List.getElem?_eq_getElem (by rw [Hm.out]; exact hlm)⟩
            obtain ⟨u1, u2, u3⟩ := HR.out.below hbl hbb k y hy
            have hst := Lib.hid (hz.out.trans (cmpR_step hx hy))
            clear hx hy hz
            obtain ⟨vk, vn, vs⟩ := x
            obtain ⟨uk, un, us⟩ := y
            have a1 : (wr.alloc (.cells #[.int .i64 vk, .int .i64 vn, .string vs] 49)).cell? ⟨bb, bo + k * 3, none⟩ = some (.int .i64 uk) := by rw [World.cell?_alloc_lt _ _ _ (by simp; omega)]; exact u1
            have a2 : (wr.alloc (.cells #[.int .i64 vk, .int .i64 vn, .string vs] 49)).cell? ⟨bb, bo + k * 3 + 1, none⟩ = some (.int .i64 un) := by rw [World.cell?_alloc_lt _ _ _ (by simp; omega)]; exact u2
            have a3 : (wr.alloc (.cells #[.int .i64 vk, .int .i64 vn, .string vs] 49)).cell? ⟨bb, bo + k * 3 + 2, none⟩ = some (.string us) := by rw [World.cell?_alloc_lt _ _ _ (by simp; omega)]; exact u3
            have hcl := Lib.hid (compare_closure vk vn vs uk un us)
            by_cases he : (V.cmp ⟨vk, vn, vs⟩ ⟨uk, un, us⟩ != 0) = true
            · have hst' : Hid (cmpR a b = V.cmp ⟨vk, vn, vs⟩ ⟨uk, un, us⟩) := by
                have := hst.out; rwa [if_pos he] at this
              clear hst
              generalize V.cmp ⟨vk, vn, vs⟩ ⟨uk, un, us⟩ = r at *
              go_wp2_with fail
              refine (hcl.out _).mono ?_
              rintro e w2 ⟨rfl, hb2⟩
              have HB := Lib.hid (((hbl.alloc hs _).alloc (by simp; omega) _).trans (hb2.mono (by simp; omega)))
              clear hb2
              go_wp2_with fail
              go_ret
              exact ⟨by rw [hst'.out]; rfl, HB.out⟩
            · have he' : (V.cmp ⟨vk, vn, vs⟩ ⟨uk, un, us⟩ != 0) = false := by simpa using he
              have hst' : Hid (cmpR a b = cmpR (a.drop (k + 1)) (b.drop (k + 1))) := by
                have := hst.out; rwa [if_neg he] at this
              clear hst he
              generalize V.cmp ⟨vk, vn, vs⟩ ⟨uk, un, us⟩ = r at *
              go_wp2_with fail
              refine (hcl.out _).mono ?_
              rintro e w2 ⟨rfl, hb2⟩
              have hb3 := (((hbl.alloc hs _).alloc (by simp; omega) _).trans (hb2.mono (by simp; omega)))
              clear hb2
              go_wp2_with fail
              go_roundw
              case rel => exact ⟨k + 1, by omega, by omega, by go_num, hb3, hst'⟩
              case measure => simp [intOf]; omega
          · have hst : Hid (cmpR a b = 1) := hz.out.trans (cmpR_long hx (by rw [Hm.out]; omega))
            clear hx hz
            obtain ⟨vk, vn, vs⟩ := x
            go_wp2_with fail
            go_ret
            exact ⟨by rw [hst.out]; rfl, hbl.alloc hs _⟩
        · obtain rfl : k = n := by omega
          by_cases hlm : k < m
          · have hst : Hid (cmpR a b = -1) := Lib.hid (by rw [hz.out, cmpR_fin Hn.out Hm.out hkm, if_pos hlm])
            clear hz
            go_wp2_with fail
            go_ret
            exact ⟨by rw [hst.out]; rfl, hbl⟩
          · have hst : Hid (cmpR a b = 0) := Lib.hid (by rw [hz.out, cmpR_fin Hn.out Hm.out hkm, if_neg hlm])
            clear hz
            go_wp2_with fail
            go_ret
            exact ⟨by rw [hst.out]; rfl, hbl⟩

theorem compare_any (A D : Option Addr) (c d : Nat) (a b : List V) (ha : a.length ≤ 9223372036854775807) (hb : b.length ≤ 9223372036854775807) (w : World) (hA : VRow w w.heap.size A a) (hD : VRow w w.heap.size D b) :
    Calls Tryz.prog 82 #[.slice A a.length c, .slice D b.length d] w fun e w' => e = .returned (.int .i64 (cmpR a b)) ∧ Below w.heap.size w w' := by
  have h := Lib.hid (compareFunc_any A D c d a b ha hb w hA hD)
  have hmf : ∀ (fn : Fn) (first cap : Array Value) (w : World), (Instr.makeFunc fn first cap).run Tryz.prog w = .ok (.func fn first cap) w := fun _ _ _ _ => rfl
  clear hA hD
  go_enter Tryz.func82, Tryz.ntmps82
  go_wp2_with fail
  refine h.out.mono ?_
  rintro e w' ⟨rfl, hb2⟩
  have HB := Lib.hid hb2
  clear hb2
  go_wp2_with fail
  go_ret
  exact ⟨rfl, HB.out⟩

def rowLess (a b : List V) : Bool := (rowOk a && rowOk b) && decide (cmpR a b < 0)
def rowSame (a b : List V) : Bool := (rowOk a && rowOk b) && (cmpR a b == 0)

set_option maxHeartbeats 400000 in
theorem rowLess_any (A D : Option Addr) (c d : Nat) (a b : List V) (ha : a.length ≤ 9223372036854775807) (hb : b.length ≤ 9223372036854775807) (w : World) (hA : VRow w w.heap.size A a) (hD : VRow w w.heap.size D b) :
    Calls Tryz.prog 86 #[.slice A a.length c, .slice D b.length d] w fun e w' => e = .returned (.bool (rowLess a b)) ∧ Below w.heap.size w w' := by
  have h1 := Lib.hid (rowRight_any A c a ha w hA)
  have h2 : Hid (∀ w1, Below w.heap.size w w1 → Calls Tryz.prog 77 #[.slice D b.length d] w1 fun e w' => e = .returned (.bool (rowOk b)) ∧ Below w1.heap.size w1 w') :=
    Lib.hid fun w1 hb1 => rowRight_any D d b hb w1 ((hD.below hb1).more hb1.size)
  have h3 : Hid (∀ w1, Below w.heap.size w w1 → Calls Tryz.prog 82 #[.slice A a.length c, .slice D b.length d] w1 fun e w' => e = .returned (.int .i64 (cmpR a b)) ∧ Below w1.heap.size w1 w') :=
    Lib.hid fun w1 hb1 => compare_any A D c d a b ha hb w1 ((hA.below hb1).more hb1.size) ((hD.below hb1).more hb1.size)
  unfold rowLess
  clear hA hD
  generalize rowOk a = p at *
  generalize rowOk b = q at *
  generalize cmpR a b = r at *
  cases p
  · rw [Bool.false_and, Bool.false_and]
    go_enter Tryz.func86, Tryz.ntmps86
    go_wp2_with fail
    refine h1.out.mono ?_
    rintro e w1 ⟨rfl, hb1⟩
    have HB := Lib.hid hb1
    clear hb1
    go_wp2_with fail
    go_ret
    exact ⟨rfl, HB.out⟩
  · cases q
    · rw [Bool.and_false, Bool.false_and]
      go_enter Tryz.func86, Tryz.ntmps86
      go_wp2_with fail
      refine h1.out.mono ?_
      rintro e w1 ⟨rfl, hb1⟩
      have HB := Lib.hid hb1
      clear hb1
      go_wp2_with fail
      refine (h2.out _ HB.out).mono ?_
      rintro e w2 ⟨rfl, hb2⟩
      have HB2 := Lib.hid (HB.out.trans (hb2.mono HB.out.size))
      clear hb2
      go_wp2_with fail
      go_ret
      exact ⟨rfl, HB2.out⟩
    · rw [Bool.and_self, Bool.true_and]
      go_enter Tryz.func86, Tryz.ntmps86
      go_wp2_with fail
      refine h1.out.mono ?_
      rintro e w1 ⟨rfl, hb1⟩
      have HB := Lib.hid hb1
      clear hb1
      go_wp2_with fail
      refine (h2.out _ HB.out).mono ?_
      rintro e w2 ⟨rfl, hb2⟩
      have HB2 := Lib.hid (HB.out.trans (hb2.mono HB.out.size))
      clear hb2
      go_wp2_with fail
      refine (h3.out _ HB2.out).mono ?_
      rintro e w3 ⟨rfl, hb3⟩
      have HB3 := Lib.hid (HB2.out.trans (hb3.mono HB2.out.size))
      clear hb3
      go_wp2_with fail
      go_ret
      exact ⟨rfl, HB3.out⟩

set_option maxHeartbeats 400000 in
theorem rowSame_any (A D : Option Addr) (c d : Nat) (a b : List V) (ha : a.length ≤ 9223372036854775807) (hb : b.length ≤ 9223372036854775807) (w : World) (hA : VRow w w.heap.size A a) (hD : VRow w w.heap.size D b) :
    Calls Tryz.prog 44 #[.slice A a.length c, .slice D b.length d] w fun e w' => e = .returned (.bool (rowSame a b)) ∧ Below w.heap.size w w' := by
  have h1 := Lib.hid (rowRight_any A c a ha w hA)
  have h2 : Hid (∀ w1, Below w.heap.size w w1 → Calls Tryz.prog 77 #[.slice D b.length d] w1 fun e w' => e = .returned (.bool (rowOk b)) ∧ Below w1.heap.size w1 w') :=
    Lib.hid fun w1 hb1 => rowRight_any D d b hb w1 ((hD.below hb1).more hb1.size)
  have h3 : Hid (∀ w1, Below w.heap.size w w1 → Calls Tryz.prog 82 #[.slice A a.length c, .slice D b.length d] w1 fun e w' => e = .returned (.int .i64 (cmpR a b)) ∧ Below w1.heap.size w1 w') :=
    Lib.hid fun w1 hb1 => compare_any A D c d a b ha hb w1 ((hA.below hb1).more hb1.size) ((hD.below hb1).more hb1.size)
  unfold rowSame
  clear hA hD
  generalize rowOk a = p at *
  generalize rowOk b = q at *
  generalize cmpR a b = r at *
  cases p
  · rw [Bool.false_and, Bool.false_and]
    go_enter Tryz.func44, Tryz.ntmps44
    go_wp2_with fail
    refine h1.out.mono ?_
    rintro e w1 ⟨rfl, hb1⟩
    have HB := Lib.hid hb1
    clear hb1
    go_wp2_with fail
    go_ret
    exact ⟨rfl, HB.out⟩
  · cases q
    · rw [Bool.and_false, Bool.false_and]
      go_enter Tryz.func44, Tryz.ntmps44
      go_wp2_with fail
      refine h1.out.mono ?_
      rintro e w1 ⟨rfl, hb1⟩
      have HB := Lib.hid hb1
      clear hb1
      go_wp2_with fail
      refine (h2.out _ HB.out).mono ?_
      rintro e w2 ⟨rfl, hb2⟩
      have HB2 := Lib.hid (HB.out.trans (hb2.mono HB.out.size))
      clear hb2
      go_wp2_with fail
      go_ret
      exact ⟨rfl, HB2.out⟩
    · rw [Bool.and_self, Bool.true_and]
      go_enter Tryz.func44, Tryz.ntmps44
      go_wp2_with fail
      refine h1.out.mono ?_
      rintro e w1 ⟨rfl, hb1⟩
      have HB := Lib.hid hb1
      clear hb1
      go_wp2_with fail
      refine (h2.out _ HB.out).mono ?_
      rintro e w2 ⟨rfl, hb2⟩
      have HB2 := Lib.hid (HB.out.trans (hb2.mono HB.out.size))
      clear hb2
      go_wp2_with fail
      refine (h3.out _ HB2.out).mono ?_
      rintro e w3 ⟨rfl, hb3⟩
      have HB3 := Lib.hid (HB2.out.trans (hb3.mono HB2.out.size))
      clear hb3
      go_wp2_with fail
      go_ret
      exact ⟨rfl, HB3.out⟩

end Go.Proofs.YtajnnkapgnmoaaaGreat
/-
  Values held against one another by == and !=.
-/
namespace Go.Proofs.YtajnnkapgnmoaaaGreat
open Go.RowKit
@[go_sem] theorem guard_value (op : BinOp) (x y : Operand) (xs ys : Array Value) (w : World) : (eqGuard op 49 x y (.agg xs) (.agg ys)).run Tryz.prog w = .ok () w := run_eqGuard_agg w op _ x y xs ys (by kernel_rfl)
@[go_sem] theorem neq_value (xk xn yk yn : Int) (xs ys : ByteArray) (w : World) :
    (binOp .neq 49 (.agg #[.int .i64 xk, .int .i64 xn, .string xs]) (.agg #[.int .i64 yk, .int .i64 yn, .string ys])).run Tryz.prog w = .ok (.bool (!(xk == yk && (xn == yn && xs.toList == ys.toList)))) w := by
  have hS : Tryz.prog.underlying 49 = some (.struct (Tryz.prog.fieldsOf 49)) := by kernel_rfl
  have hp : Tryz.prog.stoodInHeld 49 = false := by kernel_rfl
  have u1 := Tryz.underlying3
  have u2 := Tryz.underlying2
  have u3 := Tryz.underlying9
  rw [run_neq_struct, show (10000 : Nat) = 9999 + 1 from rfl, run_equalIn_agg w 9999 _ _ _ hS hp]
  simp only [Program.fieldsOf, Tryz.underlying49]
  go_simp
  by_cases h1 : xk = yk <;> by_cases h2 : xn = yn <;> by_cases h3 : xs.toList = ys.toList <;> simp [h1, h2, h3]
def V.eqB (a b : V) : Bool := a.k == b.k && (a.n == b.n && a.s.toList == b.s.toList)
@[go_sem] theorem eql_value (xk xn yk yn : Int) (xs ys : ByteArray) (w : World) :
    (binOp .eql 49 (.agg #[.int .i64 xk, .int .i64 xn, .string xs]) (.agg #[.int .i64 yk, .int .i64 yn, .string ys])).run Tryz.prog w = .ok (.bool (xk == yk && (xn == yn && xs.toList == ys.toList))) w := by
  have hS : Tryz.prog.underlying 49 = some (.struct (Tryz.prog.fieldsOf 49)) := by kernel_rfl
  have hp : Tryz.prog.stoodInHeld 49 = false := by kernel_rfl
  have u1 := Tryz.underlying3
  have u2 := Tryz.underlying2
  have u3 := Tryz.underlying9
  rw [run_eql_struct, show (10000 : Nat) = 9999 + 1 from rfl, run_equalIn_agg w 9999 _ _ _ hS hp]
  simp only [Program.fieldsOf, Tryz.underlying49]
  go_simp
  by_cases h1 : xk = yk <;> by_cases h2 : xn = yn <;> by_cases h3 : xs.toList = ys.toList <;> simp [h1, h2, h3]
end Go.Proofs.YtajnnkapgnmoaaaGreat
/-
  Package confluencekeep's Row: rows equal.
-/
namespace Go.Proofs.YtajnnkapgnmoaaaGreat
open Go.RowKit
def eqR : List V → List V → Bool
  | [], [] => true
  | x :: a, y :: b => V.eqB x y && eqR a b
  | _, _ => false

set_option maxHeartbeats 1000000 in
theorem keepRow_full (b o c rb ro d n : Nat) (l r : List V) (hl : l.length = n) (hr : r.length = n) (hn : n ≤ 9223372036854775807) (w : World) (hb : b < w.heap.size) (hL : VAt w b o l) (hrb : rb < w.heap.size) (hR : VAt w rb ro r) :
    Calls Tryz.prog 38 #[.slice (some ⟨b, o, none⟩) n c, .slice (some ⟨rb, ro, none⟩) n d] w fun e w' => e = .returned (.bool (eqR l r)) ∧ Below w.heap.size w w' := by
  have HL := Lib.hid hL
  have HR := Lib.hid hR
  have Hl := Lib.hid hl
  have Hr := Lib.hid hr
  clear hL hR hl hr
  go_enter Tryz.func38, Tryz.ntmps38
  go_wp2_with fail
  go_loopw [5] (fun i wr => ∃ k : Nat, k ≤ n ∧ i = .int .i64 k ∧ Below w.heap.size w wr ∧ Hid (eqR l r = eqR (l.drop k) (r.drop k))) (fun i _ => n - (intOf i).toNat)
  case atStart => exact ⟨0, Nat.zero_le _, rfl, Below.refl _ _, rfl⟩
  case round =>
    obtain ⟨k, hk, rfl, hbl, hz⟩ := hrel
    have HB := Lib.hid hbl
    by_cases hlt : k < n
    · obtain ⟨x, hx⟩ : ∃ x, l[k]? = some x := ⟨_, List.getElem?_eq_getElem (by rw [Hl.out]; exact hlt)⟩
      obtain ⟨y, hy⟩ : ∃ y, r[k]? = some y := ⟨_, List.getElem?_eq_getElem (by rw [Hr.out]; exact hlt)⟩
      obtain ⟨x1, x2, x3⟩ := HL.out.below hbl hb k x hx
      obtain ⟨y1, y2, y3⟩ := HR.out.below hbl hrb k y hy
      obtain ⟨xk, xn, xs⟩ := x
      obtain ⟨yk, yn, ys⟩ := y
      have x1 : wr.cell? ⟨b, o + k * 3, none⟩ = some (.int .i64 xk) := x1
      have x2 : wr.cell? ⟨b, o + k * 3 + 1, none⟩ = some (.int .i64 xn) := x2
      have x3 : wr.cell? ⟨b, o + k * 3 + 2, none⟩ = some (.string xs) := x3
      have y1 : wr.cell? ⟨rb, ro + k * 3, none⟩ = some (.int .i64 yk) := y1
      have y2 : wr.cell? ⟨rb, ro + k * 3 + 1, none⟩ = some (.int .i64 yn) := y2
      have y3 : wr.cell? ⟨rb, ro + k * 3 + 2, none⟩ = some (.string ys) := y3
      have hi0 : (0 : Int) ≤ (k : Int) := by omega
      have hi1 : (k : Int) < (n : Int) := by omega
      have Hx := Lib.hid hx
      have Hy := Lib.hid hy
      have hd : (l.drop k) = ⟨xk, xn, xs⟩ :: l.drop (k + 1) := by
        obtain ⟨h1, h2⟩ := List.getElem?_eq_some_iff.1 Hx.out
        rw [List.drop_eq_getElem_cons h1, h2]
      have hd2 : (r.drop k) = ⟨yk, yn, ys⟩ :: r.drop (k + 1) := by
        obtain ⟨h1, h2⟩ := List.getElem?_eq_some_iff.1 Hy.out
        rw [List.drop_eq_getElem_cons h1, h2]
      have hst : Hid (eqR l r = ((xk == yk && (xn == yn && xs.toList == ys.toList)) && eqR (l.drop (k + 1)) (r.drop (k + 1)))) := Lib.hid (by rw [hz.out, hd, hd2]; rfl)
      clear hx hy hz hbl hd hd2
      by_cases he : (xk == yk && (xn == yn && xs.toList == ys.toList)) = true
      · have hst2 : Hid (eqR l r = eqR (l.drop (k + 1)) (r.drop (k + 1))) := Lib.hid (by rw [hst.out, he, Bool.true_and])
        clear hst
        have hnv : ∀ w, (binOp .neq 49 (.agg #[.int .i64 xk, .int .i64 xn, .string xs]) (.agg #[.int .i64 yk, .int .i64 yn, .string ys])).run Tryz.prog w = .ok (.bool false) w := fun w => by rw [neq_value, he]; rfl
        have hgv := fun w => guard_value .neq (.tmp 20) (.tmp 24) #[.int .i64 xk, .int .i64 xn, .string xs] #[.int .i64 yk, .int .i64 yn, .string ys] w
        go_wp2_with fail
        go_quiet (fail)
        go_wp2_with fail
        go_roundw
        case rel => exact ⟨k + 1, by omega, by go_num, ⟨HB.out.os, HB.out.tape, HB.out.output, HB.out.size, HB.out.block⟩, hst2⟩
        case measure => simp [intOf]; omega
      · have he' : (xk == yk && (xn == yn && xs.toList == ys.toList)) = false := by simpa using he
        have hst2 : Hid (eqR l r = false) := Lib.hid (by rw [hst.out, he', Bool.false_and])
        clear hst he
        have hnv : ∀ w, (binOp .neq 49 (.agg #[.int .i64 xk, .int .i64 xn, .string xs]) (.agg #[.int .i64 yk, .int .i64 yn, .string ys])).run Tryz.prog w = .ok (.bool true) w := fun w => by rw [neq_value, he']; rfl
        have hgv := fun w => guard_value .neq (.tmp 20) (.tmp 24) #[.int .i64 xk, .int .i64 xn, .string xs] #[.int .i64 yk, .int .i64 yn, .string ys] w
        go_wp2_with fail
        go_quiet (fail)
        go_wp2_with fail
        go_ret
        exact ⟨by rw [hst2.out]; rfl, HB.out.os, HB.out.tape, HB.out.output, HB.out.size, HB.out.block⟩
    · have hst : Hid (eqR l r = true) := Lib.hid (by rw [hz.out, List.drop_of_length_le (by rw [Hl.out]; omega), List.drop_of_length_le (by rw [Hr.out]; omega)]; rfl)
      clear hz hbl
      go_wp2_with fail
      go_ret
      exact ⟨by rw [hst.out]; rfl, HB.out⟩
theorem eqR_len : ∀ l r : List V, l.length ≠ r.length → eqR l r = false
  | [], [], h => absurd rfl h
  | [], _ :: _, _ => rfl
  | _ :: _, [], _ => rfl
  | x :: l, y :: r, h => by
    rw [eqR, eqR_len l r (by simpa using h), Bool.and_false]
theorem keepRow_any (A D : Option Addr) (c d : Nat) (l r : List V) (hl : l.length ≤ 9223372036854775807) (hr : r.length ≤ 9223372036854775807) (w : World) (hA : VRow w w.heap.size A l) (hD : VRow w w.heap.size D r) :
    Calls Tryz.prog 38 #[.slice A l.length c, .slice D r.length d] w fun e w' => e = .returned (.bool (eqR l r)) ∧ Below w.heap.size w w' := by
  by_cases he : l.length = r.length
  · rcases hA with rfl | ⟨b, o, rfl, hb, hL⟩
    · obtain rfl : r = [] := List.eq_nil_of_length_eq_zero he.symm
      show Calls _ _ #[.slice A 0 c, .slice D 0 d] w fun e w' => e = .returned (.bool true) ∧ _
      clear hD he hl hr
      go_enter Tryz.func38, Tryz.ntmps38
      go_wp2_with fail
      go_loopw [5] (fun i wr => i = .int .i64 0 ∧ wr = w) (fun i _ => 0)
      case atStart => exact ⟨rfl, rfl⟩
      case round =>
        obtain ⟨rfl, rfl⟩ := hrel
        go_wp2_with fail
        go_ret
        exact ⟨rfl, Below.refl _ _⟩
    · rcases hD with rfl | ⟨rb, ro, rfl, hrb, hR⟩
      · obtain rfl : l = [] := List.eq_nil_of_length_eq_zero he
        show Calls _ _ #[.slice _ 0 c, .slice D 0 d] w fun e w' => e = .returned (.bool true) ∧ _
        clear he hl hr hL
        go_enter Tryz.func38, Tryz.ntmps38
        go_wp2_with fail
        go_loopw [5] (fun i wr => i = .int .i64 0 ∧ wr = w) (fun i _ => 0)
        case atStart => exact ⟨rfl, rfl⟩
        case round =>
          obtain ⟨rfl, rfl⟩ := hrel
          go_wp2_with fail
          go_ret
          exact ⟨rfl, Below.refl _ _⟩
      · rw [← he]
        exact keepRow_full b o c rb ro d l.length l r rfl he.symm hl w hb hL hrb hR
  · have e0 := eqR_len l r he
    have hne : ((l.length : Int) != (r.length : Int)) = true := by simp; omega
    rw [e0]
    generalize l.length = n at *
    generalize r.length = m at *
    clear hA hD e0 hl hr
    go_enter Tryz.func38, Tryz.ntmps38
    go_wp2_with fail
    go_ret
    exact ⟨rfl, Below.refl _ _⟩
end Go.Proofs.YtajnnkapgnmoaaaGreat
/-
  The order's laws on values: no Go in sight.
-/
namespace Go.Proofs.YtajnnkapgnmoaaaGreat
open Go.RowKit
theorem bl_tri : ∀ x y : List UInt8, (Op.bytesLess x y = true ∧ Op.bytesLess y x = false ∧ x ≠ y) ∨ (Op.bytesLess x y = false ∧ Op.bytesLess y x = true ∧ x ≠ y) ∨ (Op.bytesLess x y = false ∧ Op.bytesLess y x = false ∧ x = y)
  | [], [] => .inr (.inr ⟨rfl, rfl, rfl⟩)
  | [], _ :: _ => .inl ⟨rfl, rfl, by simp⟩
  | _ :: _, [] => .inr (.inl ⟨rfl, rfl, by simp⟩)
  | a :: x, b :: y => by
    have h := bl_tri x y
    simp only [Op.bytesLess]
    by_cases h1 : a < b
    · left
      have h2 : ¬ b < a := by intro h; exact absurd (UInt8.lt_trans h1 h) (UInt8.lt_irrefl a)
      have h3 : ¬ b = a := by rintro rfl; exact UInt8.lt_irrefl _ h1
      simp [h1, h2, h3, Ne.symm h3]
    · by_cases h2 : b < a
      · right; left
        have h3 : ¬ a = b := by rintro rfl; exact UInt8.lt_irrefl _ h2
        simp [h1, h2, h3]
      · obtain rfl : a = b := UInt8.le_antisymm (UInt8.not_lt.1 h2) (UInt8.not_lt.1 h1)
        simp [h1]
        exact h
theorem bl_trans : ∀ x y z : List UInt8, Op.bytesLess x y = true → Op.bytesLess y z = true → Op.bytesLess x z = true
  | _, [], _, h, _ => by simp [Op.bytesLess] at h
  | _, _ :: _, [], _, h => by simp [Op.bytesLess] at h
  | [], _ :: _, _ :: _, _, _ => rfl
  | a :: x, b :: y, c :: z, h1, h2 => by
    simp only [Op.bytesLess, Bool.or_eq_true, Bool.and_eq_true, decide_eq_true_eq, beq_iff_eq] at h1 h2 ⊢
    rcases h1 with h1 | ⟨rfl, h1⟩
    · rcases h2 with h2 | ⟨rfl, h2⟩
      · exact .inl (UInt8.lt_trans h1 h2)
      · exact .inl h1
    · rcases h2 with h2 | ⟨rfl, h2⟩
      · exact .inl h2
      · exact .inr ⟨rfl, bl_trans x y z h1 h2⟩
theorem bytes_ext {a b : ByteArray} (h : a.toList = b.toList) : a = b := by
  rw [ByteArray.toList_eq, ByteArray.toList_eq] at h
  obtain ⟨⟨x⟩⟩ := a
  obtain ⟨⟨y⟩⟩ := b
  simp at h
  rw [h]
theorem ok_cases {a : V} (h : V.okB a = true) : (a.k = 1 ∧ a.s.toList = []) ∨ (a.k = 2 ∧ a.n = 0) := by
  unfold V.okB at h
  simp only [Bool.or_eq_true, Bool.and_eq_true, beq_iff_eq, List.isEmpty_iff] at h
  rcases h with ⟨h1, h2⟩ | ⟨h1, h2, _⟩
  · exact .inl ⟨h1, h2⟩
  · exact .inr ⟨h1, h2⟩
theorem V.tri {a b : V} (ha : V.okB a = true) (hb : V.okB b = true) : (V.lt a b = true ∧ V.lt b a = false ∧ a ≠ b) ∨ (V.lt a b = false ∧ V.lt b a = true ∧ a ≠ b) ∨ (V.lt a b = false ∧ V.lt b a = false ∧ a = b) := by
  obtain ⟨ak, an, az⟩ := a
  obtain ⟨bk, bn, bz⟩ := b
  unfold V.lt
  rw [ha, hb]
  unfold V.ltIn
  simp only [Bool.and_self, Bool.true_and]
  rcases ok_cases ha with ⟨h1, h2⟩ | ⟨h1, h2⟩ <;> rcases ok_cases hb with ⟨h3, h4⟩ | ⟨h3, h4⟩ <;> simp only at h1 h2 h3 h4 <;> subst h1 <;> subst h3
  · have e : az = bz := bytes_ext (h2.trans h4.symm)
    subst e
    by_cases h5 : an < bn
    · left; simp [h5]; omega
    · by_cases h6 : bn < an
      · right; left; simp [h6]; omega
      · right; right; simp; omega
  · left; simp
  · right; left; simp
  · subst h2 h4
    rcases bl_tri az.toList bz.toList with ⟨h5, h6, h7⟩ | ⟨h5, h6, h7⟩ | ⟨h5, h6, h7⟩
    · left; simp [h5, h6]; rintro rfl; exact h7 rfl
    · right; left; simp [h5, h6]; rintro rfl; exact h7 rfl
    · right; right; simp [h5, h6]; exact bytes_ext h7
theorem V.lt_trans {a b c : V} (h1 : V.lt a b = true) (h2 : V.lt b c = true) : V.lt a c = true := by
  obtain ⟨ak, an, az⟩ := a
  obtain ⟨bk, bn, bz⟩ := b
  obtain ⟨ck, cn, cz⟩ := c
  unfold V.lt at h1 h2 ⊢
  simp only [Bool.and_eq_true] at h1 h2
  obtain ⟨⟨ha, hb⟩, h1⟩ := h1
  obtain ⟨⟨_, hc⟩, h2⟩ := h2
  rw [ha, hc]
  unfold V.ltIn at h1 h2 ⊢
  simp only [Bool.and_self, Bool.true_and]
  rcases ok_cases ha with ⟨k1, _⟩ | ⟨k1, _⟩ <;> rcases ok_cases hb with ⟨k2, _⟩ | ⟨k2, _⟩ <;> rcases ok_cases hc with ⟨k3, _⟩ | ⟨k3, _⟩ <;> simp only at k1 k2 k3 <;> subst k1 <;> subst k2 <;> subst k3 <;> simp at h1 h2 ⊢
  · omega
  · exact bl_trans _ _ _ h1 h2
end Go.Proofs.YtajnnkapgnmoaaaGreat
/-
  The order's laws on values and rows: no Go in sight.
-/
namespace Go.Proofs.YtajnnkapgnmoaaaGreat
open Go.RowKit
theorem V.cmp_tri {a b : V} (ha : V.okB a = true) (hb : V.okB b = true) : (V.cmp a b = -1 ∧ V.cmp b a = 1 ∧ a ≠ b) ∨ (V.cmp a b = 1 ∧ V.cmp b a = -1 ∧ a ≠ b) ∨ (V.cmp a b = 0 ∧ V.cmp b a = 0 ∧ a = b) := by
  unfold V.cmp
  rcases V.tri ha hb with ⟨h1, h2, h3⟩ | ⟨h1, h2, h3⟩ | ⟨h1, h2, h3⟩ <;> rw [h1, h2]
  · exact .inl ⟨rfl, rfl, h3⟩
  · exact .inr (.inl ⟨rfl, rfl, h3⟩)
  · exact .inr (.inr ⟨rfl, rfl, h3⟩)
theorem cmp_neg {a b : V} (h : V.cmp a b < 0) : V.lt a b = true := by
  unfold V.cmp at h
  by_cases h1 : V.lt a b = true
  · exact h1
  · rw [if_neg h1] at h
    split at h <;> omega
theorem cmpR_tri : ∀ a b : List V, (∀ x ∈ a, V.okB x = true) → (∀ x ∈ b, V.okB x = true) → (cmpR a b = -1 ∧ cmpR b a = 1 ∧ a ≠ b) ∨ (cmpR a b = 1 ∧ cmpR b a = -1 ∧ a ≠ b) ∨ (cmpR a b = 0 ∧ cmpR b a = 0 ∧ a = b)
  | [], [], _, _ => .inr (.inr ⟨rfl, rfl, rfl⟩)
  | [], _ :: _, _, _ => .inl ⟨rfl, rfl, by simp⟩
  | _ :: _, [], _, _ => .inr (.inl ⟨rfl, rfl, by simp⟩)
  | x :: a, y :: b, ha, hb => by
    have h := cmpR_tri a b (fun z hz => ha z (List.mem_cons_of_mem _ hz)) (fun z hz => hb z (List.mem_cons_of_mem _ hz))
    rcases V.cmp_tri (ha x List.mem_cons_self) (hb y List.mem_cons_self) with ⟨h1, h2, h3⟩ | ⟨h1, h2, h3⟩ | ⟨h1, h2, h3⟩
    · left
      simp [cmpR, h1, h2, h3]
    · right; left
      simp [cmpR, h1, h2, h3]
    · subst h3
      simp only [cmpR, h1]
      simpa using h
theorem cmpR_trans : ∀ a b c : List V, (∀ x ∈ a, V.okB x = true) → (∀ x ∈ b, V.okB x = true) → (∀ x ∈ c, V.okB x = true) → cmpR a b < 0 → cmpR b c < 0 → cmpR a c < 0
  | [], [], _, _, _, _, h, _ => by simp [cmpR] at h
  | _ :: _, [], _, _, _, _, h, _ => by simp [cmpR] at h
  | _, _ :: _, [], _, _, _, _, h => by simp [cmpR] at h
  | [], _ :: _, _ :: _, _, _, _, _, _ => by simp [cmpR]
  | x :: a, y :: b, z :: c, ha, hb, hc, h1, h2 => by
    have h := cmpR_trans a b c (fun z hz => ha z (List.mem_cons_of_mem _ hz)) (fun z hz => hb z (List.mem_cons_of_mem _ hz)) (fun z hz => hc z (List.mem_cons_of_mem _ hz))
    have hx := ha x List.mem_cons_self
    have hy := hb y List.mem_cons_self
    have hz := hc z List.mem_cons_self
    rcases V.cmp_tri hx hy with ⟨a1, a2, a3⟩ | ⟨a1, a2, a3⟩ | ⟨a1, a2, a3⟩
    · rcases V.cmp_tri hy hz with ⟨b1, b2, b3⟩ | ⟨b1, b2, b3⟩ | ⟨b1, b2, b3⟩
      · have h3 := V.lt_trans (cmp_neg (by rw [a1]; decide)) (cmp_neg (by rw [b1]; decide))
        have h4 : V.cmp x z = -1 := by unfold V.cmp; rw [if_pos h3]
        simp [cmpR, h4]
      · simp [cmpR, b1] at h2
      · subst b3
        simp [cmpR, a1]
    · simp [cmpR, a1] at h1
    · subst a3
      rcases V.cmp_tri hx hz with ⟨b1, b2, b3⟩ | ⟨b1, b2, b3⟩ | ⟨b1, b2, b3⟩
      · simp [cmpR, b1]
      · simp [cmpR, b1] at h2
      · simp only [cmpR, a1, b1] at h1 h2 ⊢
        simp at h1 h2 ⊢
        exact h h1 h2
theorem cmpR_prefix : ∀ (a : List V) (n : Nat), (∀ x ∈ a, V.okB x = true) → n < a.length → cmpR (a.take n) a = -1
  | [], _, _, h => by simp at h
  | _ :: _, 0, _, _ => rfl
  | x :: a, n + 1, ha, h => by
    have h1 : V.cmp x x = 0 := by
      have hx := ha x List.mem_cons_self
      rcases V.cmp_tri hx hx with ⟨_, _, h⟩ | ⟨_, _, h⟩ | ⟨h, _, _⟩
      · exact absurd rfl h
      · exact absurd rfl h
      · exact h
    rw [List.take_succ_cons]
    simp only [cmpR, h1]
    simpa using cmpR_prefix a n (fun z hz => ha z (List.mem_cons_of_mem _ hz)) (by simpa using h)
theorem eqB_iff (a b : V) : V.eqB a b = true ↔ a = b := by
  obtain ⟨ak, an, az⟩ := a
  obtain ⟨bk, bn, bz⟩ := b
  unfold V.eqB
  simp only [Bool.and_eq_true, beq_iff_eq]
  constructor
  · rintro ⟨rfl, rfl, h⟩
    rw [bytes_ext h]
  · intro h
    injection h with h1 h2 h3
    exact ⟨h1, h2, by rw [h3]⟩
theorem eqR_iff : ∀ a b : List V, eqR a b = true ↔ a = b
  | [], [] => by simp [eqR]
  | [], _ :: _ => by simp [eqR]
  | _ :: _, [] => by simp [eqR]
  | x :: a, y :: b => by
    rw [eqR, Bool.and_eq_true, eqB_iff, eqR_iff a b]
    simp
theorem rowOk_all {a : List V} (h : rowOk a = true) : ∀ x ∈ a, V.okB x = true := by
  unfold rowOk at h
  simp only [Bool.and_eq_true, List.all_eq_true] at h
  exact h.2
theorem rowOk_take {a : List V} {n : Nat} (h : rowOk a = true) (hn : 0 < n) : rowOk (a.take n) = true := by
  unfold rowOk at h ⊢
  simp only [Bool.and_eq_true, List.all_eq_true, decide_eq_true_eq, List.length_take] at h ⊢
  exact ⟨by omega, fun x hx => h.2 x (List.mem_of_mem_take hx)⟩
theorem order_one {a b : List V} (ha : rowOk a = true) (hb : rowOk b = true) : ((rowLess a b != rowLess b a) == !eqR a b) = true ∧ (rowSame a b == eqR a b) = true := by
  unfold rowLess rowSame
  rw [ha, hb]
  rcases cmpR_tri a b (rowOk_all ha) (rowOk_all hb) with ⟨h1, h2, h3⟩ | ⟨h1, h2, h3⟩ | ⟨h1, h2, h3⟩
  · have : eqR a b = false := by
      cases h : eqR a b
      · rfl
      · exact absurd ((eqR_iff a b).1 h) h3
    rw [h1, h2, this]; decide
  · have : eqR a b = false := by
      cases h : eqR a b
      · rfl
      · exact absurd ((eqR_iff a b).1 h) h3
    rw [h1, h2, this]; decide
  · rw [h1, h2, (eqR_iff a b).2 h3]; decide
theorem order_trans {a b c : List V} (ha : rowOk a = true) (hb : rowOk b = true) (hc : rowOk c = true) (h1 : rowLess a b = true) (h2 : rowLess b c = true) : rowLess a c = true := by
  unfold rowLess at h1 h2 ⊢
  rw [ha, hb] at h1
  rw [hb, hc] at h2
  rw [ha, hc]
  simp only [Bool.and_self, Bool.true_and, decide_eq_true_eq] at h1 h2 ⊢
  exact cmpR_trans a b c (rowOk_all ha) (rowOk_all hb) (rowOk_all hc) h1 h2
theorem order_prefix {a : List V} {n : Nat} (ha : rowOk a = true) (hn : 0 < n) (hl : n < a.length) : rowLess (a.take n) a = true := by
  unfold rowLess
  rw [ha, rowOk_take ha hn, cmpR_prefix a n (rowOk_all ha) hl]
  decide
end Go.Proofs.YtajnnkapgnmoaaaGreat
/-
  Sets of rows with how often: what is in them, and that nothing else counts. No Go in sight.
-/
namespace Go.Proofs.YtajnnkapgnmoaaaGreat

/-- a row, and how often -/
abbrev It := List V × Int
def look : List It → List V → Int
  | [], _ => 0
  | x :: l, r => (if eqR x.1 r = true then x.2 else 0) + look l r
theorem look_append (a b : List It) (r : List V) : look (a ++ b) r = look a r + look b r := by
  induction a with
  | nil => simp [look]
  | cons x a ih => simp only [List.cons_append, look, ih]; omega
theorem look_perm {a b : List It} (h : a.Perm b) (r : List V) : look a r = look b r := by
  induction h with
  | nil => rfl
  | cons x _ ih => simp only [look, ih]
  | swap x y l => simp only [look]; omega
  | trans _ _ h1 h2 => exact h1.trans h2
theorem look_none {l : List It} {r : List V} (h : ∀ x ∈ l, x.1 ≠ r) : look l r = 0 := by
  induction l with
  | nil => rfl
  | cons x l ih =>
    have h1 : eqR x.1 r = false := by
      cases he : eqR x.1 r with
      | false => rfl
      | true => exact absurd ((eqR_iff _ _).1 he) (h x (by simp))
    simp only [look, h1, ih fun y hy => h y (by simp [hy])]
    simp
def vol : List It → Int
  | [] => 0
  | x :: l => (x.2.natAbs : Int) + vol l
theorem vol_nonneg (l : List It) : 0 ≤ vol l := by
  induction l with
  | nil => exact Int.le_refl _
  | cons x l ih => simp only [vol]; omega
theorem vol_append (a b : List It) : vol (a ++ b) = vol a + vol b := by
  induction a with
  | nil => simp [vol]
  | cons x a ih => simp only [List.cons_append, vol, ih]; omega
theorem vol_perm {a b : List It} (h : a.Perm b) : vol a = vol b := by
  induction h with
  | nil => rfl
  | cons x _ ih => simp only [vol, ih]
  | swap x y l => simp only [vol]; omega
  | trans _ _ h1 h2 => exact h1.trans h2
theorem look_bd (l : List It) (r : List V) : -vol l ≤ look l r ∧ look l r ≤ vol l := by
  induction l with
  | nil => simp [look, vol]
  | cons x l ih => simp only [look, vol]; split <;> omega
theorem mem_vol {l : List It} {x : It} (h : x ∈ l) : (x.2.natAbs : Int) ≤ vol l := by
  induction l with
  | nil => simp at h
  | cons y l ih =>
    simp only [vol]
    have := vol_nonneg l
    rcases List.mem_cons.1 h with rfl | h
    · omega
    · have := ih h; omega

theorem cmp_self {a : List V} (ha : rowOk a = true) : cmpR a a = 0 := by
  rcases cmpR_tri a a (rowOk_all ha) (rowOk_all ha) with h | h | h
  · exact absurd rfl h.2.2
  · exact absurd rfl h.2.2
  · exact h.1
theorem cmp_eq {a b : List V} (ha : rowOk a = true) (hb : rowOk b = true) (h : cmpR a b = 0) : a = b := by
  rcases cmpR_tri a b (rowOk_all ha) (rowOk_all hb) with h1 | h1 | h1
  · omega
  · omega
  · exact h1.2.2
theorem cmp_flip {a b : List V} (ha : rowOk a = true) (hb : rowOk b = true) : cmpR b a = - cmpR a b := by
  rcases cmpR_tri a b (rowOk_all ha) (rowOk_all hb) with h1 | h1 | h1 <;> omega
theorem cmp_ne {a b : List V} (ha : rowOk a = true) (h : cmpR a b < 0) : a ≠ b := by
  rintro rfl
  rw [cmp_self ha] at h
  omega
theorem cmp_trans {a b c : List V} (ha : rowOk a = true) (hb : rowOk b = true) (hc : rowOk c = true) (h1 : cmpR a b < 0) (h2 : cmpR b c < 0) : cmpR a c < 0 :=
  cmpR_trans a b c (rowOk_all ha) (rowOk_all hb) (rowOk_all hc) h1 h2
theorem cmp_le_trans {a b c : List V} (ha : rowOk a = true) (hb : rowOk b = true) (hc : rowOk c = true) (h1 : cmpR a b ≤ 0) (h2 : cmpR b c < 0) : cmpR a c < 0 := by
  rcases Int.lt_or_le (cmpR a b) 0 with h | h
  · exact cmp_trans ha hb hc h h2
  · have := cmp_eq ha hb (by omega); subst this; exact h2
theorem cmp_trans_le {a b c : List V} (ha : rowOk a = true) (hb : rowOk b = true) (hc : rowOk c = true) (h1 : cmpR a b < 0) (h2 : cmpR b c ≤ 0) : cmpR a c < 0 := by
  rcases Int.lt_or_le (cmpR b c) 0 with h | h
  · exact cmp_trans ha hb hc h1 h
  · have := cmp_eq hb hc (by omega); subst this; exact h1

/-- rows rise, each is right -/
structure Ord (l : List It) : Prop where
  ord : l.Pairwise fun a b => cmpR a.1 b.1 < 0
  rows : ∀ x ∈ l, rowOk x.1 = true
structure SetOk (l : List It) : Prop extends Ord l where
  nets : ∀ x ∈ l, x.2 ≠ 0
theorem Ord.nil : Ord [] := ⟨List.Pairwise.nil, fun x h => by simp at h⟩
theorem SetOk.nil : SetOk [] := ⟨Ord.nil, fun x h => by simp at h⟩
theorem Ord.tail {x : It} {l : List It} (h : Ord (x :: l)) : Ord l := ⟨(List.pairwise_cons.1 h.ord).2, fun y hy => h.rows y (by simp [hy])⟩
theorem SetOk.tail {x : It} {l : List It} (h : SetOk (x :: l)) : SetOk l := ⟨h.toOrd.tail, fun y hy => h.nets y (by simp [hy])⟩
theorem Ord.head {x : It} {l : List It} (h : Ord (x :: l)) : ∀ y ∈ l, cmpR x.1 y.1 < 0 := (List.pairwise_cons.1 h.ord).1
theorem Ord.look_head {x : It} {l : List It} (h : Ord (x :: l)) : look (x :: l) x.1 = x.2 := by
  have h1 : eqR x.1 x.1 = true := (eqR_iff _ _).2 rfl
  simp only [look, h1, if_true]
  rw [look_none fun y hy he => cmp_ne (h.rows x (by simp)) (h.head y hy) he.symm]
  omega
theorem Ord.look_low {l : List It} {r : List V} (hr : rowOk r = true) (h : ∀ y ∈ l, cmpR r y.1 < 0) : look l r = 0 := look_none fun y hy he => cmp_ne hr (h y hy) he.symm
theorem Ord.look_mem {l : List It} (h : Ord l) {x : It} (hx : x ∈ l) : look l x.1 = x.2 := by
  induction l with
  | nil => simp at hx
  | cons y l ih =>
    rcases List.mem_cons.1 hx with rfl | hx
    · exact h.look_head
    · have h1 : eqR y.1 x.1 = false := by
        cases he : eqR y.1 x.1 with
        | false => rfl
        | true => exact absurd ((eqR_iff _ _).1 he) (cmp_ne (h.rows y (by simp)) (h.head x hx))
      simp only [look, h1, ih h.tail hx]
      simp
theorem set_eq : ∀ {a b : List It}, SetOk a → SetOk b → (∀ r, look a r = look b r) → a = b
  | [], [], _, _, _ => rfl
  | [], y :: b, _, hb, h => by
    have := h y.1
    rw [hb.toOrd.look_head] at this
    exact absurd this.symm (hb.nets y (by simp))
  | x :: a, [], ha, _, h => by
    have := h x.1
    rw [ha.toOrd.look_head] at this
    exact absurd this (ha.nets x (by simp))
  | x :: a, y :: b, ha, hb, h => by
    have rx := ha.rows x (by simp)
    have ry := hb.rows y (by simp)
    have hxy : x.1 = y.1 := by
      rcases cmpR_tri x.1 y.1 (rowOk_all rx) (rowOk_all ry) with h1 | h1 | h1
      · have e := h x.1
        rw [ha.toOrd.look_head, Ord.look_low rx (l := y :: b) (by
          intro z hz
          rcases List.mem_cons.1 hz with rfl | hz
          · omega
          · exact cmp_trans rx ry (hb.rows z (by simp [hz])) (by omega) (hb.toOrd.head z hz))] at e
        exact absurd e (ha.nets x (by simp))
      · have e := h y.1
        rw [hb.toOrd.look_head, Ord.look_low ry (l := x :: a) (by
          intro z hz
          rcases List.mem_cons.1 hz with rfl | hz
          · omega
          · exact cmp_trans ry rx (ha.rows z (by simp [hz])) (by omega) (ha.toOrd.head z hz))] at e
        exact absurd e.symm (hb.nets y (by simp))
      · exact h1.2.2
    have h2 : x.2 = y.2 := by
      have e := h x.1
      rw [ha.toOrd.look_head, hxy, hb.toOrd.look_head] at e
      exact e
    have hx : x = y := Prod.ext hxy h2
    subst hx
    rw [set_eq ha.tail hb.tail fun r => by
      have := h r
      simp only [look] at this
      omega]
theorem Ord.append {a b : List It} (ha : Ord a) (hb : Ord b) (h : ∀ x ∈ a, ∀ y ∈ b, cmpR x.1 y.1 < 0) : Ord (a ++ b) :=
  ⟨List.pairwise_append.2 ⟨ha.ord, hb.ord, h⟩, fun x hx => by
    rcases List.mem_append.1 hx with hx | hx
    · exact ha.rows x hx
    · exact hb.rows x hx⟩
theorem Ord.one {x : It} (h : rowOk x.1 = true) : Ord [x] := ⟨List.pairwise_singleton _ _, fun y hy => by rw [List.mem_singleton.1 hy]; exact h⟩
theorem SetOk.snoc {a : List It} {x : It} (ha : SetOk a) (hx : rowOk x.1 = true) (h0 : x.2 ≠ 0) (h : ∀ y ∈ a, cmpR y.1 x.1 < 0) : SetOk (a ++ [x]) :=
  ⟨ha.toOrd.append (Ord.one hx) fun y hy z hz => by rw [List.mem_singleton.1 hz]; exact h y hy, fun y hy => by
    rcases List.mem_append.1 hy with hy | hy
    · exact ha.nets y hy
    · rw [List.mem_singleton.1 hy]; exact h0⟩
theorem look_one (x : It) (r : List V) : look [x] r = if eqR x.1 r = true then x.2 else 0 := by simp [look]

/-- turned round -/
def flipS (l : List It) : List It := l.map fun x => (x.1, -x.2)
theorem look_flip (l : List It) (r : List V) : look (flipS l) r = - look l r := by
  induction l with
  | nil => rfl
  | cons x l ih =>
    have e : flipS (x :: l) = (x.1, -x.2) :: flipS l := rfl
    rw [e]
    simp only [look, ih]
    split <;> omega
theorem vol_flip (l : List It) : vol (flipS l) = vol l := by
  induction l with
  | nil => rfl
  | cons x l ih =>
    have e : flipS (x :: l) = (x.1, -x.2) :: flipS l := rfl
    rw [e]
    simp only [vol, ih, Int.natAbs_neg]
theorem SetOk.flip {l : List It} (h : SetOk l) : SetOk (flipS l) :=
  ⟨⟨by unfold flipS; rw [List.pairwise_map]; exact h.ord, fun x hx => by
    obtain ⟨y, hy, rfl⟩ := List.mem_map.1 hx
    exact h.rows y hy⟩, fun x hx => by
    obtain ⟨y, hy, rfl⟩ := List.mem_map.1 hx
    have := h.nets y hy
    simp only
    omega⟩
/-- a right set's volume is no greater than that of what made it -/
theorem SetOk.vol_le : ∀ {a : List It}, Ord a → ∀ {l : List It}, (∀ r, look a r = look l r) → vol a ≤ vol l
  | [], _, l, _ => vol_nonneg l
  | x :: a, ha, l, h => by
    have split : ∀ (l : List It) (r : List V), ∃ p q : List It, (∀ y ∈ p, y.1 = r) ∧ (∀ y ∈ q, y.1 ≠ r) ∧ vol l = vol p + vol q ∧ ∀ s, look l s = look p s + look q s := by
      intro l r
      induction l with
      | nil => exact ⟨[], [], by simp, by simp, rfl, fun s => rfl⟩
      | cons y l ih =>
        obtain ⟨p, q, hp, hq, hv, hl⟩ := ih
        cases he : eqR y.1 r with
        | true =>
          refine ⟨y :: p, q, fun z hz => ?_, hq, by simp only [vol, hv]; omega, fun s => by simp only [look, hl]; omega⟩
          rcases List.mem_cons.1 hz with rfl | hz
          · exact (eqR_iff _ _).1 he
          · exact hp z hz
        | false =>
          refine ⟨p, y :: q, hp, fun z hz => ?_, by simp only [vol, hv]; omega, fun s => by simp only [look, hl]; omega⟩
          rcases List.mem_cons.1 hz with rfl | hz
          · intro h1; rw [(eqR_iff _ _).2 h1] at he; cases he
          · exact hq z hz
    obtain ⟨p, q, hp, hq, hv, hl⟩ := split l x.1
    have hx := h x.1
    rw [ha.look_head, hl, look_none hq] at hx
    have hb := look_bd p x.1
    have ih := SetOk.vol_le ha.tail (l := q) (fun r => by
      have h1 := h r
      rw [hl] at h1
      simp only [look] at h1
      cases he : eqR x.1 r with
      | true =>
        have e := (eqR_iff _ _).1 he
        subst e
        rw [look_none hq, look_none fun y hy e => cmp_ne (ha.rows x (by simp)) (ha.head y hy) e.symm]
      | false =>
        have hne : x.1 ≠ r := fun e => by rw [(eqR_iff _ _).2 e] at he; cases he
        rw [he, look_none (l := p) fun y hy e => hne ((hp y hy).symm.trans e)] at h1
        simpa using h1)
    simp only [vol]
    omega
end Go.Proofs.YtajnnkapgnmoaaaGreat
/-
  Rows that the call itself has made: appended, stored into. No program in sight.
-/
namespace Go.Proofs.YtajnnkapgnmoaaaGreat
open Go.RowKit

theorem flat_split (l : List V) (j : Nat) (u : Value) (h : (flat l)[j]? = some u) : ∃ v : V, l[j / 3]? = some v ∧ (flat l)[j / 3 * 3 + j % 3]? = some u := by
  have hj : j < (flat l).length := (List.getElem?_eq_some_iff.1 h).1
  rw [flat_len] at hj
  exact ⟨l[j / 3]'(by omega), List.getElem?_eq_getElem (by omega), by rw [show j / 3 * 3 + j % 3 = j from by omega]; exact h⟩
theorem VAt.news {w : World} {b off : Nat} {l : List V} (h : VAt w b off l) (j : Nat) (u : Value) (hu : (flat l)[j]? = some u) : w.cell? ((⟨b, off, none⟩ : Addr).add j) = some u := by
  obtain ⟨v, hv, hf⟩ := flat_split l j u hu
  obtain ⟨f1, f2, f3⟩ := flat_get l _ v hv
  obtain ⟨c1, c2, c3⟩ := h _ v hv
  have e : (⟨b, off, none⟩ : Addr).add j = ⟨b, off + (j / 3 * 3 + j % 3), none⟩ := by
    unfold Addr.add
    split
    · subst_vars; rfl
    · rw [show j / 3 * 3 + j % 3 = j from by omega]
  rw [e]
  have : j % 3 = 0 ∨ j % 3 = 1 ∨ j % 3 = 2 := by omega
  rcases this with h3 | h3 | h3 <;> rw [h3] at hf ⊢
  · rw [Nat.add_zero] at hf ⊢; rw [f1] at hf; rw [c1]; exact hf
  · rw [f2] at hf; rw [← Nat.add_assoc, c2]; exact hf
  · rw [f3] at hf; rw [← Nat.add_assoc, c3]; exact hf

/-- a row of the call's own that is not empty -/
theorem own_full {w : World} {base : Nat} {e : TypeId} {v : Value} {l : List V} {n : Nat} (h : w.ownsRow base e 3 v n (flat l)) (hl : l.length = n) (hn : 0 < n) :
    ∃ g cap, v = .slice (some ⟨g, 0, none⟩) n cap ∧ n ≤ cap ∧ base ≤ g ∧ g < w.heap.size ∧ VAt w g 0 l ∧ ∀ j, w.frozen? ⟨g, j, none⟩ = false := by
  subst hl
  obtain ⟨_, hcase⟩ := id h
  rcases hcase with ⟨_, h0⟩ | ⟨g, cap, cur, rfl, hg, hh, hc, hcap, hsz, htake⟩
  · omega
  · refine ⟨g, cap, rfl, hc, hg, ?_, ?_, fun j => h.frozenAt j⟩
    · rcases Nat.lt_or_ge g w.heap.size with hlt | hge
      · exact hlt
      · rw [Array.getElem?_eq_none hge] at hh; cases hh
    · intro i x hx
      obtain ⟨f1, f2, f3⟩ := flat_get l i x hx
      have hi : i < l.length := (List.getElem?_eq_some_iff.1 hx).1
      rw [Nat.zero_add, h.cellAt _ (by omega), h.cellAt _ (by omega), h.cellAt _ (by omega)]
      exact ⟨f1, f2, f3⟩

/-- one value stored into a row -/
theorem VAt.set3 {w : World} {b : Nat} {l : List V} (h : VAt w b 0 l) {q : Nat} {x : V} (hx : l[q]? = some x) (v : V) :
    VAt (((w.setCell ⟨b, q * 3, none⟩ (.int .i64 v.k)).setCell ⟨b, q * 3 + 1, none⟩ (.int .i64 v.n)).setCell ⟨b, q * 3 + 2, none⟩ (.string v.s)) b 0 (l.set q v) := by
  intro i y hy
  have hq : q < l.length := (List.getElem?_eq_some_iff.1 hx).1
  obtain ⟨x1, x2, x3⟩ := h q x hx
  rw [Nat.zero_add] at x1 x2 x3 ⊢
  by_cases hi : i = q
  · subst hi
    rw [List.getElem?_set_self hq] at hy
    obtain rfl : v = y := by simpa using hy
    refine ⟨?_, ?_, ?_⟩
    · rw [World.cell?_setCell_other _ _ _ _ (by simp), World.cell?_setCell_other _ _ _ _ (by simp)]
      exact World.cell?_setCell_same _ _ _ x1
    · rw [World.cell?_setCell_other _ _ _ _ (by simp)]
      exact World.cell?_setCell_same _ _ _ ((World.cell?_setCell_other _ _ _ _ (by simp)).trans x2)
    · exact World.cell?_setCell_same _ _ _ ((World.cell?_setCell_other _ _ _ _ (by simp)).trans ((World.cell?_setCell_other _ _ _ _ (by simp)).trans x3))
  · rw [List.getElem?_set_ne (by omega)] at hy
    obtain ⟨y1, y2, y3⟩ := h i y hy
    rw [Nat.zero_add] at y1 y2 y3
    refine ⟨?_, ?_, ?_⟩
    all_goals
      rw [World.cell?_setCell_other _ _ _ _ (by simp <;> omega), World.cell?_setCell_other _ _ _ _ (by simp <;> omega), World.cell?_setCell_other _ _ _ _ (by simp <;> omega)]
      assumption
end Go.Proofs.YtajnnkapgnmoaaaGreat
/-
  Memory: a slice that reads as a list, a block known whole, an append onto a row of the call's own (turned from the kit's extra words). No program in sight.
-/
set_option linter.unusedVariables false
set_option linter.unusedSimpArgs false
namespace Go.Proofs.YtajnnkapgnmoaaaGreat
open Go.RowKit
theorem block_of_add (a : Addr) (n : Nat) : (a.add n).block = a.block := by unfold Addr.add; split <;> rfl
theorem add_of_add (a : Addr) (i j : Nat) : (a.add i).add j = a.add (i + j) := by
  unfold Addr.add
  by_cases hi : i = 0 <;> by_cases hj : j = 0 <;> simp [hi, hj, Nat.add_assoc]

def Reads (w : World) (B size : Nat) (A : Option Addr) (n : Nat) (xs : List Value) : Prop :=
  xs.length = n * size ∧ (0 < n → ∃ ad, A = some ad ∧ ad.block < B ∧ ∀ j u, xs[j]? = some u → w.cell? (ad.add j) = some u)

section
variable {w w' : World} {B B' size n : Nat} {A : Option Addr} {xs : List Value}
theorem Reads.none_ : Reads w B size A 0 [] := ⟨by simp, fun h => absurd h (by omega)⟩
theorem Reads.at_ {k : Nat} (h : Reads w B 1 A n xs) (hk : k < n) : ∃ ad u, A = some ad ∧ ad.block < B ∧ xs[k]? = some u ∧ w.cell? (ad.add k) = some u := by
  obtain ⟨ad, e, hb, hc⟩ := h.2 (by omega)
  have hl : k < xs.length := by have := h.1; omega
  exact ⟨ad, xs[k], e, hb, List.getElem?_eq_getElem hl, hc k _ (List.getElem?_eq_getElem hl)⟩
theorem Reads.keep (h : Reads w B size A n xs) (hk : ∀ p : Addr, p.block < B → w'.cell? p = w.cell? p) : Reads w' B size A n xs :=
  ⟨h.1, fun hn => by
    obtain ⟨ad, e, hb, hc⟩ := h.2 hn
    exact ⟨ad, e, hb, fun j u hu => (hk _ (by rw [block_of_add]; exact hb)).trans (hc j u hu)⟩⟩
theorem Reads.more (h : Reads w B size A n xs) (hB : B ≤ B') : Reads w B' size A n xs :=
  ⟨h.1, fun hn => by
    obtain ⟨ad, e, hb, hc⟩ := h.2 hn
    exact ⟨ad, e, by omega, hc⟩⟩
theorem Reads.below (h : Reads w B size A n xs) (hb : Below B w w') : Reads w' B size A n xs := h.keep fun _ hp => hb.cell hp
theorem Reads.drew (h : Reads w B size A n xs) : Reads w.drew B size A n xs := h
theorem Reads.drewN (h : Reads w B size A n xs) (k : Nat) : Reads (w.drewN k) B size A n xs := h
theorem Reads.alloc (h : Reads w B size A n xs) (hB : B ≤ w.heap.size) (o : Obj) : Reads (w.alloc o) B size A n xs := h.keep fun p hp => World.cell?_alloc_lt w o p (by omega)
theorem Reads.setCell (h : Reads w B size A n xs) {p : Addr} (hB : B ≤ p.block) (u : Value) : Reads (w.setCell p u) B size A n xs :=
  h.keep fun q hq => World.cell?_setCell_other w p q u (fun e => by subst e; omega)
theorem Reads.grown (h : Reads w B size A n xs) {row : Option Nat} (hg : w.grownBy w' row) (hB : B ≤ w.heap.size) (hr : ∀ g, row = some g → B ≤ g) : Reads w' B size A n xs :=
  h.keep fun p hp => World.cell?_of_block (hg.block p.block (by omega) (fun e => by have := hr _ e.symm; omega))
theorem Reads.cut (h : Reads w B size A n xs) {k cap : Nat} (hk : k ≤ n) (hc : n ≤ cap) :
    Reads w B size (if cap = k then A else A.map (·.add (k * size))) (n - k) (xs.drop (k * size)) := by
  refine ⟨by rw [List.length_drop, h.1, Nat.sub_mul], fun hn => ?_⟩
  obtain ⟨ad, rfl, hb, hcell⟩ := h.2 (by omega)
  rw [if_neg (by omega)]
  refine ⟨ad.add (k * size), rfl, by rw [block_of_add]; exact hb, fun j u hu => ?_⟩
  rw [add_of_add]
  exact hcell _ u (by rw [← hu, List.getElem?_drop])
theorem Reads.of_own {base : Nat} {e : TypeId} {c : Nat} (h : w.ownsRow base e size (.slice A n c) n xs) : Reads w w.heap.size size A n xs := by
  refine ⟨h.1, fun hn => ?_⟩
  obtain ⟨g, cap, hv, _, hlt⟩ := h.form hn
  have hA : A = some ⟨g, 0, none⟩ := by injection hv
  subst hA
  exact ⟨_, rfl, hlt, h.cells (g := g) rfl⟩
end
def Blk (w : World) (g : Nat) (t : TypeId) (cs : Array Value) : Prop := w.heap[g]? = some (.cells cs t (0, 0))

section
variable {w w' : World} {g : Nat} {t : TypeId} {cs : Array Value}
theorem Blk.lt (h : Blk w g t cs) : g < w.heap.size := by
  rcases Nat.lt_or_ge g w.heap.size with hlt | hge
  · exact hlt
  · unfold Blk at h; rw [Array.getElem?_eq_none hge] at h; cases h
theorem Blk.cell (h : Blk w g t cs) (i : Nat) : w.cell? ⟨g, i, none⟩ = cs[i]? := cell_of_row w g i cs t (0, 0) h
theorem Blk.frozen (h : Blk w g t cs) (i : Nat) : w.frozen? ⟨g, i, none⟩ = false := by
  unfold Blk at h
  simp [World.frozen?, h]
theorem Blk.new (w : World) (t : TypeId) (cs : Array Value) : Blk (w.alloc (.cells cs t)) w.heap.size t cs := heap_alloc_new w _
theorem Blk.drew (h : Blk w g t cs) : Blk w.drew g t cs := h
theorem Blk.drewN (h : Blk w g t cs) (n : Nat) : Blk (w.drewN n) g t cs := h
theorem Blk.alloc (h : Blk w g t cs) (o : Obj) : Blk (w.alloc o) g t cs := (Below.heap_alloc w o g h.lt).trans h
theorem Blk.set_ (h : Blk w g t cs) (i : Nat) (u : Value) : Blk (w.setCell ⟨g, i, none⟩ u) g t (cs.setIfInBounds i u) := by
  unfold Blk at h ⊢
  simp [World.setCell, Array.getElem?_modify, h]
theorem Blk.far (h : Blk w g t cs) {p : Addr} (hp : g ≠ p.block) (u : Value) : Blk (w.setCell p u) g t cs := (Below.heap_setCell w p u g hp).trans h
theorem Blk.below {B : Nat} (h : Blk w g t cs) (hb : Below B w w') (hg : g < B) : Blk w' g t cs := (hb.block g hg).trans h
theorem Blk.grown {row : Option Nat} (h : Blk w g t cs) (hb : w.grownBy w' row) (hg : some g ≠ row) : Blk w' g t cs := (hb.block g h.lt hg).trans h
theorem Blk.ne_ {g' : Nat} {t' : TypeId} {cs' : Array Value} (h : Blk w g t cs) (h' : Blk w g' t' cs') (hne : t ≠ t') : g ≠ g' := by
  rintro rfl
  unfold Blk at h h'
  rw [h] at h'
  injection h' with h'
  injection h' with _ ht
  exact hne ht
theorem own_blk_ne {base : Nat} {e : TypeId} {size n : Nat} {v : Value} {xs : List Value} (h : w.ownsRow base e size v n xs) (hg : Blk w g t cs) (hne : e ≠ t) : v.ownBlock ≠ some g := by
  rcases h.2 with ⟨rfl, _⟩ | ⟨g', cap, cur, rfl, _, hh, _⟩
  · simp [Value.ownBlock]
  · intro he
    have : g' = g := by simpa [Value.ownBlock] using he
    subst this
    exact Blk.ne_ (t := e) hh hg hne rfl
end
section
variable {P : Program} (w : World)

theorem run_append_of_nil (base : Nat) (t ty e : TypeId) (i : TypeInfo) (size : Nat) (ht : P.underlying t = some (.slice e)) (hi : P.info? e = some i)
    (v : Value) (n : Nat) (xs : List Value) (hown : w.ownsRow base e size v n xs) (c : Nat) : (Builtin.append_ #[t, t] ty #[v, .slice none 0 c]).run P w = .ok v w := by
  rcases hown.2 with ⟨rfl, rfl⟩ | ⟨g, cap, cur, rfl, _, _, hnc, _⟩
  · simp [Builtin.append_, run_underlying ht, sizeOf, typeInfo, hi, Builtin.lenOf, Builtin.firstCells]
  · simp [Builtin.append_, run_underlying ht, sizeOf, typeInfo, hi, Builtin.lenOf, Builtin.firstCells, hnc, storeCells]

theorem run_append_any (base : Nat) (t ty e : TypeId) (i : TypeInfo) (z : Value) (size bytes : Nat) (ht : P.underlying t = some (.slice e)) (hi : P.info? e = some i) (hz : i.zero = some z)
    (hsize : i.size = size) (hby : i.bytes = bytes) (hzs : z.cells.size = size) (hsz : 0 < size)
    (v : Value) (n : Nat) (xs : List Value) (hown : w.ownsRow base e size v n xs)
    (B : Nat) (A : Option Addr) (m c : Nat) (news : List Value) (hr : Reads w B size A m news) (h1 : ∀ u ∈ news, u.oneCell' = true)
    (h63 : n + m ≤ maxLen) (hbytes : (n + m) * bytes ≤ 140737488355328) (hbase : base ≤ w.heap.size) :
    ∃ v' w', (Builtin.append_ #[t, t] ty #[v, .slice A m c]).run P w = .ok v' w' ∧ w'.ownsRow base e size v' (n + m) (xs ++ news) ∧ w.grownBy w' v.ownBlock ∧
      (v'.ownBlock = v.ownBlock ∨ v'.ownBlock = some w.heap.size) := by
  rcases A with _ | ad
  · have hm : m = 0 := by
      rcases Nat.eq_zero_or_pos m with h0 | h0
      · exact h0
      · obtain ⟨ad, h, _⟩ := hr.2 h0
        cases h
    subst hm
    have hn : news = [] := List.eq_nil_of_length_eq_zero (by simpa using hr.1)
    subst hn
    exact ⟨v, w, run_append_of_nil w base t ty e i size ht hi v n xs hown c, by simpa using hown, World.grownBy.refl w _, .inl rfl⟩
  · have hcells : ∀ j u, news[j]? = some u → w.cell? (ad.add j) = some u := by
      intro j u hu
      rcases Nat.eq_zero_or_pos m with h0 | h0
      · subst h0
        have hn : news = [] := List.eq_nil_of_length_eq_zero (by simpa using hr.1)
        subst hn
        simp at hu
      · obtain ⟨ad', h, _, hc⟩ := hr.2 h0
        injection h with h
        subst h
        exact hc j u hu
    obtain ⟨v', w', hrun, h2, h3, _, h5⟩ := run_append_own_at (P := P) w base t ty e i z size bytes ht hi hz hsize hby hzs hsz v n xs hown ad m c news hr.1 hcells h1 h63 hbytes hbase
    exact ⟨v', w', hrun, h2, h3, h5⟩

theorem wp_append_any {o : Oper} {a : Act} {K : Act → World → Prop} {Q : Exit → Act → World → Prop} (s x : Operand) (t : TypeId)
    (ho : o.op = .call { callee := .builtin .append, args := #[s, x], argTypes := #[t, t] })
    (base : Nat) (e : TypeId) (i : TypeInfo) (z : Value) (size bytes : Nat) (ht : P.underlying t = some (.slice e)) (hi : P.info? e = some i) (hz : i.zero = some z)
    (hsize : i.size = size) (hby : i.bytes = bytes) (hzs : z.cells.size = size) (hsz : 0 < size)
    (v : Value) (n : Nat) (xs : List Value) (hs : a.eval s = v) (hown : w.ownsRow base e size v n xs)
    (B : Nat) (A : Option Addr) (m c : Nat) (news : List Value) (hx : a.eval x = .slice A m c) (hr : Reads w B size A m news) (h1 : ∀ u ∈ news, u.oneCell' = true)
    (h63 : n + m ≤ maxLen) (hbytes : (n + m) * bytes ≤ 140737488355328) (hbase : base ≤ w.heap.size)
    (h : ∀ v' w', w'.ownsRow base e size v' (n + m) (xs ++ news) → w.grownBy w' v.ownBlock → (v'.ownBlock = v.ownBlock ∨ v'.ownBlock = some w.heap.size) → K (a.put o.dst v') w') : o.wp P a w K Q := by
  obtain ⟨v', w', hrun, h2, h3, h4⟩ := run_append_any (P := P) w base t o.type e i z size bytes ht hi hz hsize hby hzs hsz v n xs hown B A m c news hr h1 h63 hbytes hbase
  unfold Oper.wp execOp
  simp only [ho, resolve, invoke, builtin, Sem.run_bind, Sem.run_pure, Result.andThen_ok, List.map_toArray, List.map_cons, List.map_nil, hs, hx, hrun]
  exact h v' w' h2 h3 h4

theorem wpList_append_any {ops : Array Oper} {rest : List Oper} {o : Oper} {a : Act} {Q : Exit → Act → World → Prop} (hgd : o.guard = none) (s x : Operand) (t : TypeId)
    (ho : o.op = .call { callee := .builtin .append, args := #[s, x], argTypes := #[t, t] })
    (base : Nat) (e : TypeId) (i : TypeInfo) (z : Value) (size bytes : Nat) (ht : P.underlying t = some (.slice e)) (hi : P.info? e = some i) (hz : i.zero = some z)
    (hsize : i.size = size) (hby : i.bytes = bytes) (hzs : z.cells.size = size) (hsz : 0 < size)
    (v : Value) (n : Nat) (xs : List Value) (hs : a.eval s = v) (hown : w.ownsRow base e size v n xs)
    (B : Nat) (A : Option Addr) (m c : Nat) (news : List Value) (hx : a.eval x = .slice A m c) (hr : Reads w B size A m news) (h1 : ∀ u ∈ news, u.oneCell' = true)
    (h63 : n + m ≤ maxLen) (hbytes : (n + m) * bytes ≤ 140737488355328) (hbase : base ≤ w.heap.size)
    (h : ∀ v' w', w'.ownsRow base e size v' (n + m) (xs ++ news) → w.grownBy w' v.ownBlock → (v'.ownBlock = v.ownBlock ∨ v'.ownBlock = some w.heap.size) → wpList P ops Q rest (a.put o.dst v') w') : wpList P ops Q (o :: rest) a w :=
  wpList_plain hgd fun _ hK => wp_append_any w s x t ho base e i z size bytes ht hi hz hsize hby hzs hsz v n xs hs hown B A m c news hx hr h1 h63 hbytes hbase fun v' w' h2 h3 h4 => hK _ _ (h v' w' h2 h3 h4)

theorem step_append_any {ops : Array Oper} {o : Oper} {a : Act} {K : Act → World → Prop} {Q : Exit → Act → World → Prop} {E : Prop} (hgd : o.guard = none) (s x : Operand) (t : TypeId)
    (ho : o.op = .call { callee := .builtin .append, args := #[s, x], argTypes := #[t, t] })
    (base : Nat) (e : TypeId) (i : TypeInfo) (z : Value) (size bytes : Nat) (ht : P.underlying t = some (.slice e)) (hi : P.info? e = some i) (hz : i.zero = some z)
    (hsize : i.size = size) (hby : i.bytes = bytes) (hzs : z.cells.size = size) (hsz : 0 < size)
    (v : Value) (n : Nat) (xs : List Value) (hs : a.eval s = v) (hown : w.ownsRow base e size v n xs)
    (B : Nat) (A : Option Addr) (m c : Nat) (news : List Value) (hx : a.eval x = .slice A m c) (hr : Reads w B size A m news) (h1 : ∀ u ∈ news, u.oneCell' = true)
    (h63 : n + m ≤ maxLen) (hbytes : (n + m) * bytes ≤ 140737488355328) (hbase : base ≤ w.heap.size)
    (h : ∀ v' w', w'.ownsRow base e size v' (n + m) (xs ++ news) → w.grownBy w' v.ownBlock → (v'.ownBlock = v.ownBlock ∨ v'.ownBlock = some w.heap.size) → K (a.put o.dst v') w') :
    if Region.wanted o (yielded ops a.tmps) = true then Oper.wp P o a w K Q else E := by
  have hw : Region.wanted o (yielded ops a.tmps) = true := by simp [Region.wanted, hgd]
  rw [if_pos hw]
  exact wp_append_any w s x t ho base e i z size bytes ht hi hz hsize hby hzs hsz v n xs hs hown B A m c news hx hr h1 h63 hbytes hbase h
end
end Go.Proofs.YtajnnkapgnmoaaaGreat
/-
  Plain facts on binary64 words, over the model's own Ieee core: what 'float64(n)' stands for, how two such words are ordered, that they are whole. No program in sight.
-/
namespace Go.Proofs.YtajnnkapgnmoaaaGreat
namespace Fl

theorem log2_bounds (n : Nat) (h : n ≠ 0) : 2 ^ n.log2 ≤ n ∧ n < 2 ^ (n.log2 + 1) :=
  ⟨Nat.log2_self_le h, Nat.lt_log2_self⟩

/-- the word of an integer -/
def F (n : Int) : Nat := floatOfInt .f64 n

/-- what a whole number's word reads as -/
def Reads (x : Nat) (n : Int) : Prop := ∃ k : Nat, k ≤ 1074 ∧ Ieee.double.read x = .number (decide (n < 0)) (n.natAbs * 2 ^ k) (-(k : Int))

theorem reads_F (n : Int) (h : n.natAbs < 2 ^ 53) : Reads (F n) n := by
  by_cases h0 : n.natAbs = 0
  · obtain rfl : n = 0 := by omega
    exact ⟨1074, by omega, by decide +kernel⟩
  · obtain ⟨hl1, hl2⟩ := log2_bounds _ h0
    have hL : n.natAbs.log2 ≤ 52 := by
      by_cases hc : n.natAbs.log2 ≤ 52
      · exact hc
      · exfalso
        have : 2 ^ 53 ≤ 2 ^ n.natAbs.log2 := Nat.pow_le_pow_right (by omega) (by omega)
        omega
    obtain ⟨k, hk⟩ : ∃ k, k + n.natAbs.log2 = 52 := ⟨52 - n.natAbs.log2, by omega⟩
    refine ⟨k, by omega, ?_⟩
    have hlo : 2 ^ 52 ≤ n.natAbs * 2 ^ k := by
      have := Nat.mul_le_mul_right (2 ^ k) hl1
      rw [← Nat.pow_add] at this
      rwa [show n.natAbs.log2 + k = 52 from by omega] at this
    have hhi : n.natAbs * 2 ^ k < 2 ^ 53 := by
      have := (Nat.mul_lt_mul_right (a := 2 ^ k) (Nat.two_pow_pos k)).2 hl2
      rw [← Nat.pow_add] at this
      rwa [show n.natAbs.log2 + 1 + k = 53 from by omega] at this
    generalize hm : n.natAbs * 2 ^ k = m at hlo hhi ⊢
    have hw : F n = Ieee.double.word (decide (n < 0)) ((1074 - k) * 2 ^ 52 + m) := by
      show Ieee.double.nearest (decide (n < 0)) n.natAbs 0 = _
      unfold Ieee.Format.nearest
      rw [if_neg h0]
      have hp : Ieee.double.leastPlace = -1074 := by decide +kernel
      have hf : Ieee.double.fractionBits = 52 := rfl
      have hb : Ieee.double.binade = 2 ^ 52 := rfl
      have hi : Ieee.double.infRung = 2047 * 2 ^ 52 := by decide +kernel
      simp only [hp, hf, hb, hi]
      have e1 : max ((0 : Int) + (n.natAbs.log2 : Int) - ((52 : Nat) : Int)) (-1074) = -(k : Int) := by omega
      rw [e1]
      have e2 : ((0 : Int) - -(k : Int)).toNat = k := by omega
      have e3 : (-(k : Int) - 0).toNat = 0 := by omega
      have e4 : (-(k : Int) - -1074).toNat = 1074 - k := by omega
      rw [e2, e3, e4]
      have e5 : Ieee.Toward.even.cut (decide (n < 0)) (n.natAbs <<< k) 0 = m := by
        rw [Nat.shiftLeft_eq, hm]
        unfold Ieee.Toward.cut
        simp [Nat.mod_one]
      rw [e5, Nat.min_eq_left (by omega)]
    rw [hw]
    have hs : Ieee.double.signWeight = 2 ^ 63 := by decide +kernel
    have hb : Ieee.double.binade = 2 ^ 52 := rfl
    have hi : Ieee.double.infRung = 2047 * 2 ^ 52 := by decide +kernel
    have hp : Ieee.double.leastPlace = -1074 := by decide +kernel
    generalize hr : (1074 - k) * 2 ^ 52 + m = r
    have hr1 : r < 2047 * 2 ^ 52 := by omega
    have hr2 : 2 ^ 52 ≤ r := by omega
    have hword : Ieee.double.word (decide (n < 0)) r % 2 ^ 63 = r ∧ (Ieee.double.word (decide (n < 0)) r / 2 ^ 63 % 2 == 1) = decide (n < 0) := by
      unfold Ieee.Format.word
      rw [hs]
      by_cases hn : n < 0
      · simp only [hn, decide_true, if_true]
        constructor
        · omega
        · have : (2 ^ 63 + r) / 2 ^ 63 % 2 = 1 := by omega
          rw [this]; rfl
      · simp only [hn, decide_false, Bool.false_eq_true, if_false]
        constructor
        · omega
        · have : r / 2 ^ 63 % 2 = 0 := by omega
          rw [this]; rfl
    unfold Ieee.Format.read
    rw [hs, hword.1, hword.2, hb, hi, hp]
    simp only
    rw [if_neg (by omega), if_pos hr1]
    have e6 : 2 ^ 52 + r % 2 ^ 52 = m := by omega
    have e7 : (-1074 : Int) + ((r / 2 ^ 52 - 1 : Nat) : Int) = -(k : Int) := by omega
    rw [e6, e7]

theorem signed_val (n : Int) (k j : Nat) : Ieee.signed (decide (n < 0)) (n.natAbs * 2 ^ k) j = n * 2 ^ (k + j) := by
  unfold Ieee.signed
  rw [Nat.shiftLeft_eq, Nat.mul_assoc, ← Nat.pow_add]
  have e : (((n.natAbs * 2 ^ (k + j) : Nat)) : Int) = (n.natAbs : Int) * 2 ^ (k + j) := by
    rw [Int.natCast_mul, Int.natCast_pow]; rfl
  by_cases hn : n < 0
  · simp only [hn, decide_true, if_true]
    rw [e, ← Int.neg_mul, show -(n.natAbs : Int) = n from by omega]
  · simp only [hn, decide_false, Bool.false_eq_true, if_false]
    rw [e, show (n.natAbs : Int) = n from by omega]

theorem compare_scale (a b c : Int) (h : 0 < c) : compare (a * c) (b * c) = compare a b := by
  rcases Int.lt_trichotomy a b with h1 | h1 | h1
  · rw [Int.compare_eq_lt.2 h1, Int.compare_eq_lt.2 (Int.mul_lt_mul_of_pos_right h1 h)]
  · subst h1; rw [Int.compare_eq_eq.2 rfl, Int.compare_eq_eq.2 rfl]
  · rw [Int.compare_eq_gt.2 h1, Int.compare_eq_gt.2 (Int.mul_lt_mul_of_pos_right h1 h)]

theorem order_reads {x y : Nat} {a b : Int} (hx : Reads x a) (hy : Reads y b) : Ieee.double.order x y = some (compare a b) := by
  obtain ⟨k, _, hk⟩ := hx
  obtain ⟨j, _, hj⟩ := hy
  unfold Ieee.Format.order
  rw [hk, hj]
  show some (compare (Ieee.signed _ _ (-(k : Int) - min (-(k : Int)) (-(j : Int))).toNat) (Ieee.signed _ _ (-(j : Int) - min (-(k : Int)) (-(j : Int))).toNat)) = _
  rw [signed_val, signed_val]
  have e1 : k + (-(k : Int) - min (-(k : Int)) (-(j : Int))).toNat = max k j := by omega
  have e2 : j + (-(j : Int) - min (-(k : Int)) (-(j : Int))).toNat = max k j := by omega
  rw [e1, e2, compare_scale _ _ _ (Int.pow_pos (by omega))]

theorem cut_zero_even (s : Bool) (A k : Nat) : Ieee.Toward.zero.cut s ((A * 2 ^ k) <<< 0) k = A := by
  unfold Ieee.Toward.cut
  simp only [Bool.toNat_false, Nat.add_zero, Nat.shiftLeft_eq, Nat.one_mul, Nat.pow_zero, Nat.mul_one]
  by_cases hA : A = 0
  · subst hA; simp
  · have hk : k ≤ (A * 2 ^ k).log2 := (Nat.le_log2 (by
      intro h; rcases Nat.mul_eq_zero.1 h with h | h
      · exact hA h
      · have := Nat.two_pow_pos k; omega)).2 (Nat.le_mul_of_pos_left _ (by omega))
    rw [Nat.min_eq_left (by omega), Nat.mul_div_cancel _ (Nat.two_pow_pos k)]

theorem integral_reads {x : Nat} {a : Int} (hx : Reads x a) : (Ieee.double.read x).integral .zero = .number (decide (a < 0)) a.natAbs 0 := by
  obtain ⟨k, _, hk⟩ := hx
  rw [hk]
  show Ieee.Datum.number _ (Ieee.Toward.zero.cut _ ((a.natAbs * 2 ^ k) <<< (-(k : Int)).toNat) (-(-(k : Int))).toNat) 0 = _
  have e1 : (-(k : Int)).toNat = 0 := by omega
  have e2 : (-(-(k : Int))).toNat = k := by omega
  rw [e1, e2, cut_zero_even]

theorem toInt_reads {x : Nat} {a : Int} (hx : Reads x a) : (Ieee.double.read x).toInt .zero = some a := by
  unfold Ieee.Datum.toInt
  rw [integral_reads hx]
  show some (Ieee.signed (decide (a < 0)) a.natAbs 0) = _
  have := signed_val a 0 0
  simp only [Nat.pow_zero, Nat.mul_one, Nat.add_zero, Int.pow_zero, Int.mul_one] at this
  rw [this]

/-- the word of 'trunc' of a whole number -/
theorem trunc_reads {x : Nat} {a : Int} (hx : Reads x a) : FloatKind.f64.encode ((FloatKind.f64.decode x).integral .zero) = F a := by
  show Ieee.double.write ((Ieee.double.read x).integral .zero) = _
  rw [integral_reads hx]
  rfl

theorem floatToInt_reads {x : Nat} {a : Int} (hx : Reads x a) (h1 : -9223372036854775808 ≤ a) (h2 : a ≤ 9223372036854775807) : floatToIntVal .f64 x .i64 = some a := by
  unfold floatToIntVal
  show (match (Ieee.double.read x).toInt .zero with | some n => if IntKind.min .i64 ≤ n ∧ n ≤ IntKind.max .i64 then some n else none | none => none) = _
  rw [toInt_reads hx]
  simp only
  rw [if_pos ⟨h1, h2⟩]

end Fl
end Go.Proofs.YtajnnkapgnmoaaaGreat
