/-
  The reference's reader of brackets: numbers.
-/
import Derived.Test.YtldleckgkgeclaaMb0
import Derived.Deep.DeepCutAuto
import Derived.ChangeAlike
set_option linter.unusedVariables false
set_option linter.unusedSimpArgs false
namespace Go.Proofs.Ytldleckgkgeclaa
open Go.RowKit
/-- what number gives: a place behind where it began, if it is one -/
def NumEnd (s : ByteArray) (p : Nat) (e : Ending) : Prop := ∃ (n : Int) (i : Nat) (ok : Bool), e = .returned (.tuple #[.int .i64 n, .int .i64 (i : Int), .bool ok]) ∧ i ≤ s.size ∧ (ok = true → p < i) ∧ -9223372036854775808 ≤ n ∧ n ≤ 9223372036854775807
theorem wrap_bd (x : Int) : -9223372036854775808 ≤ IntKind.i64.wrap x ∧ IntKind.i64.wrap x ≤ 9223372036854775807 := by
  unfold IntKind.wrap
  simp [IntKind.bits, IntKind.signed]
  omega
theorem wrap64_bd (x : Int) : -9223372036854775808 ≤ wrap64 x ∧ wrap64 x ≤ 9223372036854775807 := by
  unfold wrap64
  omega
set_option maxRecDepth 100000 in
set_option maxHeartbeats 2000000 in
theorem number_any (s : ByteArray) (p : Nat) (hp : p < s.size) (hs : s.size ≤ 600) (w : World) : Calls Try.prog 86 #[.string s, .int .i64 (p : Int)] w fun e w' => NumEnd s p e ∧ w = w' := by
  have hD := Lib.hid (fun c => digit_any c w)
  cases hq : ((s[p].toNat : Int) == 45)
  · skip
    go_enter Try.func86, Try.ntmps86
    go_upto_region 7 with (fail)
    go_wp2_with fail
    go_loop [7, 9, 10] (fun i u q => ∃ (k : Nat) (z : Int) (b : Bool), p ≤ k ∧ k ≤ s.size ∧ i = .int .i64 k ∧ u = .int .u64 z ∧ q = .bool b) (fun i _ _ => s.size - (intOf i).toNat)
    case atStart => exact ⟨p, 0, true, by omega, by omega, by go_num, rfl, rfl⟩
    case round =>
      obtain ⟨k, z, b, hk1, hk2, rfl, rfl, rfl⟩ := hrel
      by_cases hlt : k < s.size
      · have hdk := Lib.hid (hD.out s[k])
        cases hdg : digB s[k]
        · rw [hdg] at hdk
          cases hkp : ((k : Int) == (p : Int))
          · have hkn : Hid (k ≠ p) := Lib.hid (by have := hkp; simp at this; omega)
            cases b
            · go_wp2_with fail
              refine (hdk.out).mono ?_
              rintro e w' ⟨rfl, rfl⟩
              go_wp2_with fail
              all_goals
                go_ret3
                exact ⟨⟨_, k, _, rfl, by omega, by simp, by omega, by omega⟩, rfl⟩
            · cases hz1 : decide (9223372036854775807 < z)
              all_goals
                cases hz2 : decide (9223372036854775808 < z)
                all_goals
                  go_wp2_with fail
                  refine (hdk.out).mono ?_
                  rintro e w' ⟨rfl, rfl⟩
                  go_wp2_with fail
                  all_goals
                    go_ret3
                    exact ⟨⟨_, k, _, rfl, by omega, by first | (simp; done) | (intro _; have := hkn.out; omega), by first | omega | exact (wrap_bd _).1 | exact (wrap64_bd _).1, by first | omega | exact (wrap_bd _).2 | exact (wrap64_bd _).2⟩, rfl⟩
          · go_wp2_with fail
            refine (hdk.out).mono ?_
            rintro e w' ⟨rfl, rfl⟩
            go_wp2_with fail
            all_goals
              go_ret3
              exact ⟨⟨_, k, _, rfl, by omega, by simp, by omega, by omega⟩, rfl⟩

        · rw [hdg] at hdk
          generalize hdv : (s[k].toNat : Int) = dv at *
          cases hq9 : decide ((9223372036854775808 - (dv - 48)) / 10 < z)
          all_goals
            go_wp2_with fail
            refine (hdk.out).mono ?_
            rintro e w' ⟨rfl, rfl⟩
            go_wp2_with fail
            all_goals
              go_round
              case rel => exact ⟨k + 1, _, _, by omega, by omega, by go_num, rfl, rfl⟩
              case measure => simp [intOf]; omega
      · obtain rfl : k = s.size := by omega
        cases hkp : ((s.size : Int) == (p : Int))
        · have hkn : Hid (s.size ≠ p) := Lib.hid (by have := hkp; simp at this; omega)
          cases b
          · go_wp2_with fail
            all_goals
              go_ret3
              exact ⟨⟨_, s.size, _, rfl, by omega, by simp, by omega, by omega⟩, rfl⟩
          · cases hz1 : decide (9223372036854775807 < z)
            all_goals
              cases hz2 : decide (9223372036854775808 < z)
              all_goals
                go_wp2_with fail
                all_goals
                  go_ret3
                  exact ⟨⟨_, s.size, _, rfl, by omega, by first | (simp; done) | (intro _; have := hkn.out; omega), by first | omega | exact (wrap_bd _).1 | exact (wrap64_bd _).1, by first | omega | exact (wrap_bd _).2 | exact (wrap64_bd _).2⟩, rfl⟩
        · go_wp2_with fail
          all_goals
            go_ret3
            exact ⟨⟨_, s.size, _, rfl, by omega, by simp, by omega, by omega⟩, rfl⟩

  · skip
    go_enter Try.func86, Try.ntmps86
    go_upto_region 7 with (fail)
    go_wp2_with fail
    go_loop [7, 9, 10] (fun i u q => ∃ (k : Nat) (z : Int) (b : Bool), p + 1 ≤ k ∧ k ≤ s.size ∧ i = .int .i64 k ∧ u = .int .u64 z ∧ q = .bool b) (fun i _ _ => s.size - (intOf i).toNat)
    case atStart => exact ⟨p + 1, 0, true, by omega, by omega, by go_num, rfl, rfl⟩
    case round =>
      obtain ⟨k, z, b, hk1, hk2, rfl, rfl, rfl⟩ := hrel
      by_cases hlt : k < s.size
      · have hdk := Lib.hid (hD.out s[k])
        cases hdg : digB s[k]
        · rw [hdg] at hdk
          cases hkp : ((k : Int) == ((p : Int) + 1))
          · have hkn : Hid (k ≠ p + 1) := Lib.hid (by have := hkp; simp at this; omega)
            cases b
            · go_wp2_with fail
              refine (hdk.out).mono ?_
              rintro e w' ⟨rfl, rfl⟩
              go_wp2_with fail
              all_goals
                go_ret3
                exact ⟨⟨_, k, _, rfl, by omega, by simp, by omega, by omega⟩, rfl⟩
            · cases hz1 : decide (9223372036854775807 < z)
              all_goals
                cases hz2 : decide (9223372036854775808 < z)
                all_goals
                  go_wp2_with fail
                  refine (hdk.out).mono ?_
                  rintro e w' ⟨rfl, rfl⟩
                  go_wp2_with fail
                  all_goals
                    go_ret3
                    exact ⟨⟨_, k, _, rfl, by omega, by first | (simp; done) | (intro _; have := hkn.out; omega), by first | omega | exact (wrap_bd _).1 | exact (wrap64_bd _).1, by first | omega | exact (wrap_bd _).2 | exact (wrap64_bd _).2⟩, rfl⟩
          · go_wp2_with fail
            refine (hdk.out).mono ?_
            rintro e w' ⟨rfl, rfl⟩
            go_wp2_with fail
            all_goals
              go_ret3
              exact ⟨⟨_, k, _, rfl, by omega, by simp, by omega, by omega⟩, rfl⟩

        · rw [hdg] at hdk
          generalize hdv : (s[k].toNat : Int) = dv at *
          cases hq9 : decide ((9223372036854775808 - (dv - 48)) / 10 < z)
          all_goals
            go_wp2_with fail
            refine (hdk.out).mono ?_
            rintro e w' ⟨rfl, rfl⟩
            go_wp2_with fail
            all_goals
              go_round
              case rel => exact ⟨k + 1, _, _, by omega, by omega, by go_num, rfl, rfl⟩
              case measure => simp [intOf]; omega
      · obtain rfl : k = s.size := by omega
        cases hkp : ((s.size : Int) == ((p : Int) + 1))
        · have hkn : Hid (s.size ≠ p + 1) := Lib.hid (by have := hkp; simp at this; omega)
          cases b
          · go_wp2_with fail
            all_goals
              go_ret3
              exact ⟨⟨_, s.size, _, rfl, by omega, by simp, by omega, by omega⟩, rfl⟩
          · cases hz1 : decide (9223372036854775807 < z)
            all_goals
              cases hz2 : decide (9223372036854775808 < z)
              all_goals
                go_wp2_with fail
                all_goals
                  go_ret3
                  exact ⟨⟨_, s.size, _, rfl, by omega, by first | (simp; done) | (intro _; have := hkn.out; omega), by first | omega | exact (wrap_bd _).1 | exact (wrap64_bd _).1, by first | omega | exact (wrap_bd _).2 | exact (wrap64_bd _).2⟩, rfl⟩
        · go_wp2_with fail
          all_goals
            go_ret3
            exact ⟨⟨_, s.size, _, rfl, by omega, by simp, by omega, by omega⟩, rfl⟩

end Go.Proofs.Ytldleckgkgeclaa
/-
  Package value's contract: Less.
-/
namespace Go.Proofs.Ytldleckgkgeclaa
open Go.RowKit

def V.ltIn (a b : V) : Bool := if (a.k != b.k) then a.k == 1 else if (a.k == 1) then decide (a.n < b.n) else Op.bytesLess a.s.toList b.s.toList
def V.lt (a b : V) : Bool := (V.okB a && V.okB b) && V.ltIn a b

set_option maxHeartbeats 400000 in
theorem value_less (k n : Int) (s : ByteArray) (k2 n2 : Int) (s2 : ByteArray) (w : World) :
    Calls Try.prog 104 #[.agg #[.int .i64 k, .int .i64 n, .string s], .agg #[.int .i64 k2, .int .i64 n2, .string s2]] w fun e w' =>
      e = .returned (.bool (V.lt ⟨k, n, s⟩ ⟨k2, n2, s2⟩)) ∧ Below w.heap.size w w' := by
  have hr1 := Lib.hid (value_right k n s)
  have hr2 := Lib.hid (value_right k2 n2 s2)
  unfold V.lt
  generalize V.okB ⟨k, n, s⟩ = q at *
  generalize V.okB ⟨k2, n2, s2⟩ = q2 at *
  cases q
  · rw [Bool.false_and, Bool.false_and]
    clear hr2
    go_enter Try.func104, Try.ntmps104
    go_wp2_with fail
    refine (hr1.out _).mono ?_
    rintro e w' ⟨rfl, rfl⟩
    go_wp2_with fail
    go_ret
    exact ⟨rfl, by repeat (first | exact Below.refl _ _ | refine Below.alloc ?_ (by simp <;> omega) _)⟩
  · cases q2
    · rw [Bool.and_false, Bool.false_and]
      go_enter Try.func104, Try.ntmps104
      go_wp2_with fail
      refine (hr1.out _).mono ?_
      rintro e w' ⟨rfl, rfl⟩
      go_wp2_with fail
      refine (hr2.out _).mono ?_
      rintro e w' ⟨rfl, rfl⟩
      go_wp2_with fail
      go_ret
      exact ⟨rfl, by repeat (first | exact Below.refl _ _ | refine Below.alloc ?_ (by simp <;> omega) _)⟩
    · rw [Bool.and_self, Bool.true_and]
      by_cases h1 : (k != k2) = true
      · have e0 : V.ltIn ⟨k, n, s⟩ ⟨k2, n2, s2⟩ = (k == 1) := if_pos h1
        rw [e0]
        clear e0
        go_enter Try.func104, Try.ntmps104
        go_wp2_with fail
        refine (hr1.out _).mono ?_
        rintro e w' ⟨rfl, rfl⟩
        go_wp2_with fail
        refine (hr2.out _).mono ?_
        rintro e w' ⟨rfl, rfl⟩
        go_wp2_with fail
        go_ret
        exact ⟨rfl, by repeat (first | exact Below.refl _ _ | refine Below.alloc ?_ (by simp <;> omega) _)⟩
      · have h1' : (k != k2) = false := by simpa using h1
        by_cases h2 : (k == 1) = true
        · have e0 : V.ltIn ⟨k, n, s⟩ ⟨k2, n2, s2⟩ = decide (n < n2) := (if_neg h1).trans (if_pos h2)
          rw [e0]
          clear e0 h1
          go_enter Try.func104, Try.ntmps104
          go_wp2_with fail
          refine (hr1.out _).mono ?_
          rintro e w' ⟨rfl, rfl⟩
          go_wp2_with fail
          refine (hr2.out _).mono ?_
          rintro e w' ⟨rfl, rfl⟩
          go_wp2_with fail
          go_ret
          exact ⟨rfl, by repeat (first | exact Below.refl _ _ | refine Below.alloc ?_ (by simp <;> omega) _)⟩
        · have h2' : (k == 1) = false := by simpa using h2
          have e0 : V.ltIn ⟨k, n, s⟩ ⟨k2, n2, s2⟩ = Op.bytesLess s.toList s2.toList := (if_neg h1).trans (if_neg h2)
          rw [e0]
          clear e0 h1 h2
          go_enter Try.func104, Try.ntmps104
          go_wp2_with fail
          refine (hr1.out _).mono ?_
          rintro e w' ⟨rfl, rfl⟩
          go_wp2_with fail
          refine (hr2.out _).mono ?_
          rintro e w' ⟨rfl, rfl⟩
          go_wp2_with fail
          go_ret
          exact ⟨rfl, by repeat (first | exact Below.refl _ _ | refine Below.alloc ?_ (by simp <;> omega) _)⟩

end Go.Proofs.Ytldleckgkgeclaa
/-
  Packages value's and row's contracts: Less, Compare, Same (and slices.CompareFunc at its closure).
-/
namespace Go.Proofs.Ytldleckgkgeclaa
open Go.RowKit

def V.cmp (a b : V) : Int := if V.lt a b then -1 else if V.lt b a then 1 else 0

/-- two boxes of values, as the world grows behind them -/
theorem boxes2 (k n : Int) (s : ByteArray) (k2 n2 : Int) (s2 : ByteArray) (w w1 : World) (t1 t2 : TypeId)
    (hb : Below ((w.alloc (.cells #[.int .i64 k, .int .i64 n, .string s] t1)).alloc (.cells #[.int .i64 k2, .int .i64 n2, .string s2] t2)).heap.size ((w.alloc (.cells #[.int .i64 k, .int .i64 n, .string s] t1)).alloc (.cells #[.int .i64 k2, .int .i64 n2, .string s2] t2)) w1) :
    (w1.cell? ⟨w.heap.size, 0, none⟩ = some (.int .i64 k) ∧ w1.cell? ⟨w.heap.size, 1, none⟩ = some (.int .i64 n) ∧ w1.cell? ⟨w.heap.size, 2, none⟩ = some (.string s)) ∧
    (w1.cell? ⟨w.heap.size + 1, 0, none⟩ = some (.int .i64 k2) ∧ w1.cell? ⟨w.heap.size + 1, 1, none⟩ = some (.int .i64 n2) ∧ w1.cell? ⟨w.heap.size + 1, 2, none⟩ = some (.string s2)) ∧
    w.heap.size + 1 < w1.heap.size ∧ Below w.heap.size w w1 := by
  have hz := hb.size
  refine ⟨⟨?_, ?_, ?_⟩, ⟨?_, ?_, ?_⟩, ?_, ?_⟩
  · rw [hb.cell (by simp; omega)]; simp
  · rw [hb.cell (by simp; omega)]; simp
  · rw [hb.cell (by simp; omega)]; simp
  · rw [hb.cell (by simp)]; simp
  · rw [hb.cell (by simp)]; simp
  · rw [hb.cell (by simp)]; simp
  · simp at hz; omega
  · exact (((Below.refl _ _).alloc (Nat.le_refl _) _).alloc (by simp) _).trans (hb.mono (by simp; omega))

set_option maxHeartbeats 400000 in
theorem compare_closure (k n : Int) (s : ByteArray) (k2 n2 : Int) (s2 : ByteArray) (w : World) :
    Calls Try.prog 103 #[.agg #[.int .i64 k, .int .i64 n, .string s], .agg #[.int .i64 k2, .int .i64 n2, .string s2]] w fun e w' =>
      e = .returned (.int .i64 (V.cmp ⟨k, n, s⟩ ⟨k2, n2, s2⟩)) ∧ Below w.heap.size w w' := by
  have hr1 := Lib.hid (value_less k n s k2 n2 s2)
  have hr2 := Lib.hid (value_less k2 n2 s2 k n s)
  unfold V.cmp
  generalize V.lt ⟨k, n, s⟩ ⟨k2, n2, s2⟩ = q at *
  generalize V.lt ⟨k2, n2, s2⟩ ⟨k, n, s⟩ = q2 at *
  cases q
  · rw [if_neg (by simp)]
    go_enter Try.func103, Try.ntmps103
    go_wp2_with fail
    refine (hr1.out _).mono ?_
    rintro e w1 ⟨rfl, hb1⟩
    obtain ⟨⟨c1, c2, c3⟩, ⟨c4, c5, c6⟩, hs1, hb⟩ := boxes2 k n s k2 n2 s2 w w1 _ _ hb1
    have HB1 := Lib.hid hb
    have hs2 := hb.size
    clear hb1 hb
    go_wp2_with fail
    refine (hr2.out _).mono ?_
    rintro e w2 ⟨rfl, hb2⟩
    have HB2 := Lib.hid (HB1.out.trans (hb2.mono hs2))
    clear hb2
    cases q2
    · go_wp2_with fail
      go_ret
      exact ⟨rfl, HB2.out⟩
    · go_wp2_with fail
      go_ret
      exact ⟨rfl, HB2.out⟩
  · rw [if_pos rfl]
    go_enter Try.func103, Try.ntmps103
    go_wp2_with fail
    refine (hr1.out _).mono ?_
    rintro e w1 ⟨rfl, hb1⟩
    obtain ⟨_, _, _, hb⟩ := boxes2 k n s k2 n2 s2 w w1 _ _ hb1
    have HB1 := Lib.hid hb
    clear hb1 hb
    go_wp2_with fail
    go_ret
    exact ⟨rfl, HB1.out⟩

def cmpR : List V → List V → Int
  | [], [] => 0
  | [], _ :: _ => -1
  | _ :: _, [] => 1
  | x :: a, y :: b => if (V.cmp x y != 0) then V.cmp x y else cmpR a b
theorem cmpR_step {a b : List V} {k : Nat} {x y : V} (hx : a[k]? = some x) (hy : b[k]? = some y) : cmpR (a.drop k) (b.drop k) = if (V.cmp x y != 0) then V.cmp x y else cmpR (a.drop (k + 1)) (b.drop (k + 1)) := by
  obtain ⟨h1, e1⟩ := List.getElem?_eq_some_iff.1 hx
  obtain ⟨h2, e2⟩ := List.getElem?_eq_some_iff.1 hy
  rw [List.drop_eq_getElem_cons h1, List.drop_eq_getElem_cons h2, e1, e2]
  rfl
theorem cmpR_long {a b : List V} {k : Nat} {x : V} (hx : a[k]? = some x) (h : b.length ≤ k) : cmpR (a.drop k) (b.drop k) = 1 := by
  obtain ⟨h1, e1⟩ := List.getElem?_eq_some_iff.1 hx
  rw [List.drop_eq_getElem_cons h1, List.drop_of_length_le h]
  rfl
theorem cmpR_end {a b : List V} (h : a.length ≤ b.length) : cmpR (a.drop a.length) (b.drop a.length) = if a.length < b.length then -1 else 0 := by
  rw [List.drop_of_length_le (Nat.le_refl a.length)]
  by_cases h1 : a.length < b.length
  · rw [if_pos h1, List.drop_eq_getElem_cons h1]; rfl
  · rw [if_neg h1, List.drop_of_length_le (by omega)]; rfl

theorem cmpR_fin {a b : List V} {k m : Nat} (ha : a.length = k) (hb : b.length = m) (h : k ≤ m) : cmpR (a.drop k) (b.drop k) = if k < m then -1 else 0 := by
  subst ha hb
  exact cmpR_end h

set_option maxHeartbeats 1000000 in
theorem compareFunc_any (A D : Option Addr) (c d : Nat) (a b : List V) (ha : a.length ≤ 9223372036854775807) (hb : b.length ≤ 9223372036854775807) (w : World) (hA : VRow w w.heap.size A a) (hD : VRow w w.heap.size D b) :
    Calls Try.prog 102 #[.slice A a.length c, .slice D b.length d, .func (.func 103) #[] #[]] w fun e w' =>
      e = .returned (.int .i64 (cmpR a b)) ∧ Below w.heap.size w w' := by
  rcases hA with rfl | ⟨ab, ao, rfl, hab, hL⟩
  · clear hD
    cases b with
    | nil =>
      go_enter Try.func102, Try.ntmps102
      go_wp2
      refine wp_loop_rounds 1 ?_
      rw [rounds_succ]
      go_wp2
      go_ret
      exact ⟨rfl, Below.refl _ _⟩
    | cons y b =>
      have hp : 0 < (y :: b).length := by simp
      have e0 : cmpR [] (y :: b) = -1 := rfl
      rw [e0]
      generalize (y :: b).length = m at *
      clear e0
      go_enter Try.func102, Try.ntmps102
      go_wp2
      refine wp_loop_rounds 1 ?_
      rw [rounds_succ]
      go_wp2
      go_ret
      exact ⟨rfl, Below.refl _ _⟩
  · have HL := Lib.hid hL
    have HD := Lib.hid hD
    clear hL hD
    obtain ⟨n, hn⟩ : ∃ n, a.length = n := ⟨_, rfl⟩
    obtain ⟨m, hm⟩ : ∃ m, b.length = m := ⟨_, rfl⟩
    have Hn := Lib.hid hn
    have Hm := Lib.hid hm
    rw [hn, hm]
    rw [hn] at ha
    rw [hm] at hb
    clear hn hm
    -- where the second row is not empty it stands somewhere
    by_cases h0 : m = 0
    · subst h0
      have hb0 : b = [] := List.eq_nil_of_length_eq_zero Hm.out
      subst hb0
      obtain ⟨x, hx⟩ | hx : (∃ x, a[0]? = some x) ∨ n = 0 := by
        rcases Nat.eq_zero_or_pos n with h | h
        · exact .inr h
        · exact .inl ⟨_, List.getElem?_eq_getElem (by rw [Hn.out]; exact h)⟩
      · have hlt : 0 < n := by
          obtain ⟨h1, _⟩ := List.getElem?_eq_some_iff.1 hx
          rw [← Hn.out]; exact h1
        have e0 : Hid (cmpR a [] = 1) := Lib.hid (by
          have := cmpR_long (b := []) hx (by simp)
          simpa using this)
        obtain ⟨v1, v2, v3⟩ := HL.out 0 x hx
        simp only [Nat.zero_mul, Nat.add_zero] at v1 v2 v3
        clear hx
        obtain ⟨vk, vn, vs⟩ := x
        go_enter Try.func102, Try.ntmps102
        go_wp2_with fail
        refine wp_loop_rounds 1 ?_
        rw [rounds_succ]
        go_wp2_with fail
        go_ret
        exact ⟨by rw [e0.out]; rfl, by repeat (first | exact Below.refl _ _ | refine Below.alloc ?_ (by simp <;> omega) _)⟩
      · subst hx
        have ha0 : a = [] := List.eq_nil_of_length_eq_zero Hn.out
        subst ha0
        go_enter Try.func102, Try.ntmps102
        go_wp2
        refine wp_loop_rounds 1 ?_
        rw [rounds_succ]
        go_wp2
        go_ret
        exact ⟨rfl, Below.refl _ _⟩
    · obtain ⟨bb, bo, rfl, hbb, hR⟩ : ∃ bb bo, D = some ⟨bb, bo, none⟩ ∧ bb < w.heap.size ∧ VAt w bb bo b := by
        rcases HD.out with h | h
        · subst h; exact absurd Hm.out.symm h0
        · exact h
      have HR := Lib.hid hR
      clear hR HD h0
      go_enter Try.func102, Try.ntmps102
      go_wp2_with fail
      go_loopw [13] (fun i wr => ∃ k : Nat, k ≤ n ∧ k ≤ m ∧ i = .int .i64 k ∧ Below w.heap.size w wr ∧ Hid (cmpR a b = cmpR (a.drop k) (b.drop k))) (fun i _ => n - (intOf i).toNat)
      case atStart => exact ⟨0, Nat.zero_le _, Nat.zero_le _, rfl, Below.refl _ _, rfl⟩
      case round =>
        obtain ⟨k, hk, hkm, rfl, hbl, hz⟩ := hrel
        have hs := hbl.size
        by_cases hlt : k < n
        · obtain ⟨x, hx⟩ : ∃ x, a[k]? = some x := ⟨_, List.getElem?_eq_getElem (by rw [Hn.out]; exact hlt)⟩
          obtain ⟨v1, v2, v3⟩ := HL.out.below hbl hab k x hx
          by_cases hlm : k < m
          · obtain ⟨y, hy⟩ : ∃ y, b[k]? = some y := ⟨_, List.getElem?_eq_getElem (by rw [Hm.out]; exact hlm)⟩
            obtain ⟨u1, u2, u3⟩ := HR.out.below hbl hbb k y hy
            have hst := Lib.hid (hz.out.trans (cmpR_step hx hy))
            clear hx hy hz
            obtain ⟨vk, vn, vs⟩ := x
            obtain ⟨uk, un, us⟩ := y
            have a1 : (wr.alloc (.cells #[.int .i64 vk, .int .i64 vn, .string vs] 29)).cell? ⟨bb, bo + k * 3, none⟩ = some (.int .i64 uk) := by rw [World.cell?_alloc_lt _ _ _ (by simp; omega)]; exact u1
            have a2 : (wr.alloc (.cells #[.int .i64 vk, .int .i64 vn, .string vs] 29)).cell? ⟨bb, bo + k * 3 + 1, none⟩ = some (.int .i64 un) := by rw [World.cell?_alloc_lt _ _ _ (by simp; omega)]; exact u2
            have a3 : (wr.alloc (.cells #[.int .i64 vk, .int .i64 vn, .string vs] 29)).cell? ⟨bb, bo + k * 3 + 2, none⟩ = some (.string us) := by rw [World.cell?_alloc_lt _ _ _ (by simp; omega)]; exact u3
            have hcl := Lib.hid (compare_closure vk vn vs uk un us)
            by_cases he : (V.cmp ⟨vk, vn, vs⟩ ⟨uk, un, us⟩ != 0) = true
            · have hst' : Hid (cmpR a b = V.cmp ⟨vk, vn, vs⟩ ⟨uk, un, us⟩) := by
                have := hst.out; rwa [if_pos he] at this
              clear hst
              generalize V.cmp ⟨vk, vn, vs⟩ ⟨uk, un, us⟩ = r at *
              go_wp2_with fail
              refine (hcl.out _).mono ?_
              rintro e w2 ⟨rfl, hb2⟩
              have HB := Lib.hid (((hbl.alloc hs _).alloc (by simp; omega) _).trans (hb2.mono (by simp; omega)))
              clear hb2
              go_wp2_with fail
              go_ret
              exact ⟨by rw [hst'.out]; rfl, HB.out⟩
            · have he' : (V.cmp ⟨vk, vn, vs⟩ ⟨uk, un, us⟩ != 0) = false := by simpa using he
              have hst' : Hid (cmpR a b = cmpR (a.drop (k + 1)) (b.drop (k + 1))) := by
                have := hst.out; rwa [if_neg he] at this
              clear hst he
              generalize V.cmp ⟨vk, vn, vs⟩ ⟨uk, un, us⟩ = r at *
              go_wp2_with fail
              refine (hcl.out _).mono ?_
              rintro e w2 ⟨rfl, hb2⟩
              have hb3 := (((hbl.alloc hs _).alloc (by simp; omega) _).trans (hb2.mono (by simp; omega)))
              clear hb2
              go_wp2_with fail
              go_roundw
              case rel => exact ⟨k + 1, by omega, by omega, by go_num, hb3, hst'⟩
              case measure => simp [intOf]; omega
          · have hst : Hid (cmpR a b = 1) := hz.out.trans (cmpR_long hx (by rw [Hm.out]; omega))
            clear hx hz
            obtain ⟨vk, vn, vs⟩ := x
            go_wp2_with fail
            go_ret
            exact ⟨by rw [hst.out]; rfl, hbl.alloc hs _⟩
        · obtain rfl : k = n := by omega
          by_cases hlm : k < m
          · have hst : Hid (cmpR a b = -1) := Lib.hid (by rw [hz.out, cmpR_fin Hn.out Hm.out hkm, if_pos hlm])
            clear hz
            go_wp2_with fail
            go_ret
            exact ⟨by rw [hst.out]; rfl, hbl⟩
          · have hst : Hid (cmpR a b = 0) := Lib.hid (by rw [hz.out, cmpR_fin Hn.out Hm.out hkm, if_neg hlm])
            clear hz
            go_wp2_with fail
            go_ret
            exact ⟨by rw [hst.out]; rfl, hbl⟩

theorem compare_any (A D : Option Addr) (c d : Nat) (a b : List V) (ha : a.length ≤ 9223372036854775807) (hb : b.length ≤ 9223372036854775807) (w : World) (hA : VRow w w.heap.size A a) (hD : VRow w w.heap.size D b) :
    Calls Try.prog 59 #[.slice A a.length c, .slice D b.length d] w fun e w' => e = .returned (.int .i64 (cmpR a b)) ∧ Below w.heap.size w w' := by
  have h := Lib.hid (compareFunc_any A D c d a b ha hb w hA hD)
  have hmf : ∀ (fn : Fn) (first cap : Array Value) (w : World), (Instr.makeFunc fn first cap).run Try.prog w = .ok (.func fn first cap) w := fun _ _ _ _ => rfl
  clear hA hD
  go_enter Try.func59, Try.ntmps59
  go_wp2_with fail
  refine h.out.mono ?_
  rintro e w' ⟨rfl, hb2⟩
  have HB := Lib.hid hb2
  clear hb2
  go_wp2_with fail
  go_ret
  exact ⟨rfl, HB.out⟩

def rowLess (a b : List V) : Bool := (rowOk a && rowOk b) && decide (cmpR a b < 0)
def rowSame (a b : List V) : Bool := (rowOk a && rowOk b) && (cmpR a b == 0)

set_option maxHeartbeats 400000 in
theorem rowLess_any (A D : Option Addr) (c d : Nat) (a b : List V) (ha : a.length ≤ 9223372036854775807) (hb : b.length ≤ 9223372036854775807) (w : World) (hA : VRow w w.heap.size A a) (hD : VRow w w.heap.size D b) :
    Calls Try.prog 77 #[.slice A a.length c, .slice D b.length d] w fun e w' => e = .returned (.bool (rowLess a b)) ∧ Below w.heap.size w w' := by
  have h1 := Lib.hid (rowRight_any A c a ha w hA)
  have h2 : Hid (∀ w1, Below w.heap.size w w1 → Calls Try.prog 54 #[.slice D b.length d] w1 fun e w' => e = .returned (.bool (rowOk b)) ∧ Below w1.heap.size w1 w') :=
    Lib.hid fun w1 hb1 => rowRight_any D d b hb w1 ((hD.below hb1).more hb1.size)
  have h3 : Hid (∀ w1, Below w.heap.size w w1 → Calls Try.prog 59 #[.slice A a.length c, .slice D b.length d] w1 fun e w' => e = .returned (.int .i64 (cmpR a b)) ∧ Below w1.heap.size w1 w') :=
    Lib.hid fun w1 hb1 => compare_any A D c d a b ha hb w1 ((hA.below hb1).more hb1.size) ((hD.below hb1).more hb1.size)
  unfold rowLess
  clear hA hD
  generalize rowOk a = p at *
  generalize rowOk b = q at *
  generalize cmpR a b = r at *
  cases p
  · rw [Bool.false_and, Bool.false_and]
    go_enter Try.func77, Try.ntmps77
    go_wp2_with fail
    refine h1.out.mono ?_
    rintro e w1 ⟨rfl, hb1⟩
    have HB := Lib.hid hb1
    clear hb1
    go_wp2_with fail
    go_ret
    exact ⟨rfl, HB.out⟩
  · cases q
    · rw [Bool.and_false, Bool.false_and]
      go_enter Try.func77, Try.ntmps77
      go_wp2_with fail
      refine h1.out.mono ?_
      rintro e w1 ⟨rfl, hb1⟩
      have HB := Lib.hid hb1
      clear hb1
      go_wp2_with fail
      refine (h2.out _ HB.out).mono ?_
      rintro e w2 ⟨rfl, hb2⟩
      have HB2 := Lib.hid (HB.out.trans (hb2.mono HB.out.size))
      clear hb2
      go_wp2_with fail
      go_ret
      exact ⟨rfl, HB2.out⟩
    · rw [Bool.and_self, Bool.true_and]
      go_enter Try.func77, Try.ntmps77
      go_wp2_with fail
      refine h1.out.mono ?_
      rintro e w1 ⟨rfl, hb1⟩
      have HB := Lib.hid hb1
      clear hb1
      go_wp2_with fail
      refine (h2.out _ HB.out).mono ?_
      rintro e w2 ⟨rfl, hb2⟩
      have HB2 := Lib.hid (HB.out.trans (hb2.mono HB.out.size))
      clear hb2
      go_wp2_with fail
      refine (h3.out _ HB2.out).mono ?_
      rintro e w3 ⟨rfl, hb3⟩
      have HB3 := Lib.hid (HB2.out.trans (hb3.mono HB2.out.size))
      clear hb3
      go_wp2_with fail
      go_ret
      exact ⟨rfl, HB3.out⟩

set_option maxHeartbeats 400000 in
theorem rowSame_any (A D : Option Addr) (c d : Nat) (a b : List V) (ha : a.length ≤ 9223372036854775807) (hb : b.length ≤ 9223372036854775807) (w : World) (hA : VRow w w.heap.size A a) (hD : VRow w w.heap.size D b) :
    Calls Try.prog 60 #[.slice A a.length c, .slice D b.length d] w fun e w' => e = .returned (.bool (rowSame a b)) ∧ Below w.heap.size w w' := by
  have h1 := Lib.hid (rowRight_any A c a ha w hA)
  have h2 : Hid (∀ w1, Below w.heap.size w w1 → Calls Try.prog 54 #[.slice D b.length d] w1 fun e w' => e = .returned (.bool (rowOk b)) ∧ Below w1.heap.size w1 w') :=
    Lib.hid fun w1 hb1 => rowRight_any D d b hb w1 ((hD.below hb1).more hb1.size)
  have h3 : Hid (∀ w1, Below w.heap.size w w1 → Calls Try.prog 59 #[.slice A a.length c, .slice D b.length d] w1 fun e w' => e = .returned (.int .i64 (cmpR a b)) ∧ Below w1.heap.size w1 w') :=
    Lib.hid fun w1 hb1 => compare_any A D c d a b ha hb w1 ((hA.below hb1).more hb1.size) ((hD.below hb1).more hb1.size)
  unfold rowSame
  clear hA hD
  generalize rowOk a = p at *
  generalize rowOk b = q at *
  generalize cmpR a b = r at *
  cases p
  · rw [Bool.false_and, Bool.false_and]
    go_enter Try.func60, Try.ntmps60
    go_wp2_with fail
    refine h1.out.mono ?_
    rintro e w1 ⟨rfl, hb1⟩
    have HB := Lib.hid hb1
    clear hb1
    go_wp2_with fail
    go_ret
    exact ⟨rfl, HB.out⟩
  · cases q
    · rw [Bool.and_false, Bool.false_and]
      go_enter Try.func60, Try.ntmps60
      go_wp2_with fail
      refine h1.out.mono ?_
      rintro e w1 ⟨rfl, hb1⟩
      have HB := Lib.hid hb1
      clear hb1
      go_wp2_with fail
      refine (h2.out _ HB.out).mono ?_
      rintro e w2 ⟨rfl, hb2⟩
      have HB2 := Lib.hid (HB.out.trans (hb2.mono HB.out.size))
      clear hb2
      go_wp2_with fail
      go_ret
      exact ⟨rfl, HB2.out⟩
    · rw [Bool.and_self, Bool.true_and]
      go_enter Try.func60, Try.ntmps60
      go_wp2_with fail
      refine h1.out.mono ?_
      rintro e w1 ⟨rfl, hb1⟩
      have HB := Lib.hid hb1
      clear hb1
      go_wp2_with fail
      refine (h2.out _ HB.out).mono ?_
      rintro e w2 ⟨rfl, hb2⟩
      have HB2 := Lib.hid (HB.out.trans (hb2.mono HB.out.size))
      clear hb2
      go_wp2_with fail
      refine (h3.out _ HB2.out).mono ?_
      rintro e w3 ⟨rfl, hb3⟩
      have HB3 := Lib.hid (HB2.out.trans (hb3.mono HB2.out.size))
      clear hb3
      go_wp2_with fail
      go_ret
      exact ⟨rfl, HB3.out⟩

end Go.Proofs.Ytldleckgkgeclaa
/-
  Package confluencekeep's contracts: Num, Str, Nums.
-/
namespace Go.Proofs.Ytldleckgkgeclaa
open Go.RowKit

theorem value_info : (Try.prog.info? 29).map (fun i => (i.zero, i.size, i.bytes)) = some (some (.agg #[.int .i64 0, .int .i64 0, .string ByteArray.empty]), 3, 32) := by kernel_rfl

theorem keep_num (n : Int) (w : World) :
    Calls Try.prog 18 #[.int .i64 n] w fun e w' => e = .returned (.agg #[.int .i64 1, .int .i64 n, .string ⟨#[]⟩]) ∧ w.alloc (.cells #[.int .i64 1, .int .i64 n, .string ⟨#[]⟩] 29) = w' := by
  go_enter Try.func18, Try.ntmps18
  go_wp2
  exact bodyPost_ret (v := .agg #[.int .i64 1, .int .i64 n, .string ⟨#[]⟩]) (by simp [results, Try.results18, go_sem]) rfl ⟨rfl, rfl⟩

theorem keep_str (s : ByteArray) (w : World) :
    Calls Try.prog 17 #[.string s] w fun e w' => e = .returned (.agg #[.int .i64 2, .int .i64 0, .string s]) ∧ w.alloc (.cells #[.int .i64 2, .int .i64 0, .string s] 29) = w' := by
  go_enter Try.func17, Try.ntmps17
  go_wp2
  exact bodyPost_ret (v := .agg #[.int .i64 2, .int .i64 0, .string s]) (by simp [results, Try.results17, go_sem]) rfl ⟨rfl, rfl⟩

def numV (n : Int) : V := ⟨1, n, ⟨#[]⟩⟩
/-- a new row -/
def NewRow (w : World) (l : List V) (e : Ending) (w' : World) : Prop := ∃ v, e = .returned v ∧ w'.ownsRow w.heap.size 29 3 v l.length (flat l) ∧ Below w.heap.size w w'

set_option maxHeartbeats 1000000 in
theorem nums_any (b o c : Nat) (zs : List Int) (n : Nat) (hz : zs.length = n) (hn : n ≤ 1000) (w : World) (hb : b < w.heap.size) (hc : ∀ k, k < n → w.cell? ⟨b, o + k, none⟩ = some (.int .i64 (zs.getD k 0))) :
    Calls Try.prog 10 #[.slice (some ⟨b, o, none⟩) n c] w (NewRow w (zs.map numV)) := by
  obtain ⟨i0, hi, hz0, hz1, hz2⟩ := info_parts value_info
  have HC := Lib.hid hc
  have HZ := Lib.hid hz
  clear hc hz
  go_enter Try.func10, Try.ntmps10
  go_wp2_with fail
  go_loopw [3, 4] (fun v i wr => ∃ k : Nat, k ≤ n ∧ i = .int .i64 k ∧ wr.ownsRow w.heap.size 29 3 v k (flat ((zs.map numV).take k)) ∧ Below w.heap.size w wr) (fun _ i _ => n - (intOf i).toNat)
  case atStart => exact ⟨0, Nat.zero_le _, rfl, World.ownsRow_nil _ _ _ _, Below.refl _ _⟩
  case round =>
    obtain ⟨k, hk, rfl, hown, hbl⟩ := hrel
    have HO := Lib.hid hown
    have HB := Lib.hid hbl
    have hs := hbl.size
    clear hown
    by_cases hlt : k < n
    · have hcell := (hbl.cell hb).trans (HC.out k hlt)
      have hsn := Lib.hid (flat_snoc (l := zs.map numV) (k := k) (v := numV (zs.getD k 0)) (by rw [List.getElem?_map, List.getElem?_eq_getElem (by rw [HZ.out]; exact hlt), List.getD_eq_getElem?_getD, List.getElem?_eq_getElem (by rw [HZ.out]; exact hlt)]; rfl))
      generalize zs.getD k 0 = x at *
      clear hbl
      go_wp2_with fail
      refine (keep_num x _).mono ?_
      rintro e w' ⟨rfl, rfl⟩
      go_wp2_with (at_builtin; refine wpList_append_own _ rfl _ _ 23 rfl w.heap.size 29 i0 _ 3 32 Try.underlying23 hi hz0 hz1 hz2 rfl (by decide) _ _ _ rfl ((HO.out.alloc _).alloc _) ⟨wr.heap.size + 1, 0, none⟩ 1 1 (V.cs (numV x)) rfl rfl ?c1 ?c2 ?c3 ?c4 ?c5 ?_)
      case c1 =>
        intro j u hj
        match j, hj with
        | 0, hj => simp [V.cs] at hj; subst hj; simp [Addr.add, numV]
        | 1, hj => simp [V.cs] at hj; subst hj; simp [Addr.add, numV]
        | 2, hj => simp [V.cs] at hj; subst hj; simp [Addr.add, numV]
      case c2 => rw [← flat_one]; exact flat_ones _
      case c3 => unfold maxLen; omega
      case c4 => omega
      case c5 => simp; omega
      intro v' w1 hown' hgrow _
      have ho2 : w1.ownsRow w.heap.size 29 3 v' (k + 1) (flat ((zs.map numV).take (k + 1))) := by rw [hsn.out]; exact hown'
      have hb2 := ((HB.out.alloc hs _).alloc (by simp; omega) _).grown hgrow (by simp; omega) (fun g hg => (HO.out.lt g hg).1)
      clear hown' hgrow hcell
      go_wp2_with fail
      go_roundw
      case rel => exact ⟨k + 1, by omega, by go_num, ho2, hb2⟩
      case measure => simp [intOf]; omega
    · clear hbl
      go_wp2_with fail
      go_ret
      obtain rfl : k = n := by omega
      have ho := HO.out
      rw [List.take_of_length_le (by simp [HZ.out])] at ho
      exact ⟨_, rfl, by simpa [HZ.out] using ho, HB.out⟩

end Go.Proofs.Ytldleckgkgeclaa
