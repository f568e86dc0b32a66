/-
  Package expr's contracts: Made, at every expression.
-/
import Derived.Test.YtldleckgkgeclaaExpr1
namespace Go.Proofs.Ytldleckgkgeclaa
open Go.RowKit

theorem nat_beq0 (m : Nat) : ((m : Int) == 0) = (m == 0) := by
  cases m with
  | zero => rfl
  | succ m => have : ((m + 1 : Nat) : Int) ≠ 0 := by omega
              simp
              omega
set_option maxRecDepth 100000 in
set_option maxHeartbeats 1000000 in
theorem made_step (k : Int) (s : ByteArray) (n : Int) (l : List E) (hM : ∀ e ∈ l, MadeExp e) : MadeExp (.mk k s n l) := by
  intro A c w hA
  simp only [E.val, E.k, E.s, E.n, E.kids] at hA ⊢
  have hb0 : Below w.heap.size w (w.alloc (.cells #[.int .i64 k, .string s, .int .i64 n, .slice A l.length c] 35)) := (Below.refl _ _).alloc (Nat.le_refl _) _
  have HB0 := Lib.hid hb0
  have hc := Lib.hid (containsFunc_made A c l hM _ ((hA.low hb0).more hb0.size))
  have hN := Lib.hid (name_any s)
  have hC := Lib.hid (count_any s)
  have hlen := hA.len
  have hz : Hid (madeE (.mk k s n l) = if k = 1 then nameB s && (n == 0 && l.length == 0) else if k = 2 then s.toList.isEmpty && l.length == 0
    else if k = 3 then n == 0 && l.length == 0 else if k = 4 then decide (0 < cntL s.toList) && (cntL s.toList == l.length && (n == 0 && madeL l)) else false) := Lib.hid (by rw [madeE])
  generalize madeE (.mk k s n l) = q at *
  generalize nameB s = qn at *
  generalize cntL s.toList = cn at *
  generalize madeL l = ql at *
  generalize l.length = m at *
  clear hM hA hb0
  by_cases h1 : k = 1
  · subst h1
    have hz1 : Hid (q = (qn && (n == 0 && m == 0))) := Lib.hid (by rw [hz.out, if_pos rfl])
    clear hz hc hC
    cases qn
    · obtain rfl : q = false := by rw [hz1.out]; rfl
      go_enter Try.func48, Try.ntmps48
      go_wp2_with fail
      refine (hN.out _).mono ?_
      rintro e w' ⟨rfl, rfl⟩
      go_wp2_with fail
      go_ret
      exact ⟨rfl, HB0.out⟩
    · by_cases hn : n = 0
      · subst hn
        have hz2 : Hid (q = ((m : Int) == 0)) := Lib.hid (by rw [hz1.out, nat_beq0]; simp)
        clear hz1
        go_enter Try.func48, Try.ntmps48
        go_wp2_with fail
        refine (hN.out _).mono ?_
        rintro e w' ⟨rfl, rfl⟩
        go_wp2_with fail
        go_ret
        exact ⟨by rw [hz2.out]; rfl, HB0.out⟩
      · have hn' : (n == 0) = false := by simpa using hn
        obtain rfl : q = false := by rw [hz1.out, hn']; rfl
        clear hz1 hn
        go_enter Try.func48, Try.ntmps48
        go_wp2_with fail
        refine (hN.out _).mono ?_
        rintro e w' ⟨rfl, rfl⟩
        go_wp2_with fail
        go_ret
        exact ⟨rfl, HB0.out⟩
  have h1' : (k == 1) = false := by simpa using h1
  by_cases h2 : k = 2
  · subst h2
    have hz1 : Hid (q = (s.toList.isEmpty && m == 0)) := Lib.hid (by rw [hz.out, if_neg (by decide), if_pos rfl])
    clear hz hc hC hN h1 h1'
    by_cases he : s.toList = []
    · have hz2 : Hid (q = ((m : Int) == 0)) := Lib.hid (by rw [hz1.out, he, nat_beq0]; simp)
      clear hz1
      go_enter Try.func48, Try.ntmps48
      go_wp2_with fail
      go_ret
      exact ⟨by rw [hz2.out]; rfl, HB0.out⟩
    · have he' : (s.toList == []) = false := by simpa using he
      obtain rfl : q = false := by rw [hz1.out]; cases h : s.toList with
        | nil => exact absurd h he
        | cons a l => rfl
      clear hz1 he
      go_enter Try.func48, Try.ntmps48
      go_wp2_with fail
      go_ret
      exact ⟨rfl, HB0.out⟩
  have h2' : (k == 2) = false := by simpa using h2
  by_cases h3 : k = 3
  · subst h3
    have hz1 : Hid (q = (n == 0 && m == 0)) := Lib.hid (by rw [hz.out, if_neg (by decide), if_neg (by decide), if_pos rfl])
    clear hz hc hC hN h1 h1' h2 h2'
    by_cases hn : n = 0
    · subst hn
      have hz2 : Hid (q = ((m : Int) == 0)) := Lib.hid (by rw [hz1.out, nat_beq0]; simp)
      clear hz1
      go_enter Try.func48, Try.ntmps48
      go_wp2_with fail
      go_ret
      exact ⟨by rw [hz2.out]; rfl, HB0.out⟩
    · have hn' : (n == 0) = false := by simpa using hn
      obtain rfl : q = false := by rw [hz1.out, hn']; rfl
      clear hz1 hn
      go_enter Try.func48, Try.ntmps48
      go_wp2_with fail
      go_ret
      exact ⟨rfl, HB0.out⟩
  have h3' : (k == 3) = false := by simpa using h3
  by_cases h4 : k = 4
  · subst h4
    have hz1 : Hid (q = (decide (0 < cn) && (cn == m && (n == 0 && ql)))) := Lib.hid (by rw [hz.out, if_neg (by decide), if_neg (by decide), if_neg (by decide), if_pos rfl])
    clear hz hN h1 h1' h2 h2' h3 h3'
    by_cases hc0 : cn = 0
    · subst hc0
      obtain rfl : q = false := by rw [hz1.out]; rfl
      go_enter Try.func48, Try.ntmps48
      go_wp2_with fail
      refine (hC.out _).mono ?_
      rintro e w' ⟨rfl, rfl⟩
      go_wp2_with fail
      go_ret
      exact ⟨rfl, HB0.out⟩
    have hcp : 0 < cn := by omega
    have hcp' : decide ((0 : Int) < (cn : Int)) = true := by rw [decide_eq_true_eq]; omega
    by_cases hm : cn = m
    · subst hm
      by_cases hn : n = 0
      · subst hn
        have hz2 : Hid (q = ql) := Lib.hid (by rw [hz1.out]; simp [hcp])
        clear hz1
        go_enter Try.func48, Try.ntmps48
        go_wp2_with fail
        refine (hC.out _).mono ?_
        rintro e w' ⟨rfl, rfl⟩
        go_wp2_with fail
        refine (hc.out).mono ?_
        rintro e w' ⟨rfl, hb⟩
        have HB := Lib.hid (HB0.out.trans (hb.mono (by simp)))
        clear hb
        go_wp2_with fail
        go_ret
        exact ⟨by rw [hz2.out]; rfl, HB.out⟩
      · have hn' : (n == 0) = false := by simpa using hn
        obtain rfl : q = false := by rw [hz1.out, hn']; simp
        clear hz1 hn
        go_enter Try.func48, Try.ntmps48
        go_wp2_with fail
        refine (hC.out _).mono ?_
        rintro e w' ⟨rfl, rfl⟩
        go_wp2_with fail
        go_ret
        exact ⟨rfl, HB0.out⟩
    · have hm' : ((cn : Int) == (m : Int)) = false := by simp; omega
      have hm2 : (cn == m) = false := by simpa using hm
      obtain rfl : q = false := by rw [hz1.out, hm2]; simp
      clear hz1
      go_enter Try.func48, Try.ntmps48
      go_wp2_with fail
      refine (hC.out _).mono ?_
      rintro e w' ⟨rfl, rfl⟩
      go_wp2_with fail
      go_ret
      exact ⟨rfl, HB0.out⟩
  · have h4' : (k == 4) = false := by simpa using h4
    obtain rfl : q = false := by rw [hz.out, if_neg h1, if_neg h2, if_neg h3, if_neg h4]
    clear hz hN hc hC
    go_enter Try.func48, Try.ntmps48
    go_wp2_with fail
    go_ret
    exact ⟨rfl, HB0.out⟩
theorem made_any : ∀ e, MadeExp e := E.ind made_step
end Go.Proofs.Ytldleckgkgeclaa
