/-
  Package expr's Read: leaves.
-/
import Derived.Test.YtldleckgkgeclaaDoorMb3
import Derived.RegionTactic
import Derived.ChangeAlike
import Derived.Deep.DeepCutAuto
import Derived.BigQuiet
set_option linter.unusedVariables false
set_option linter.unusedSimpArgs false
namespace Go.Proofs.YtldleckgkgeclaaDoor
open Go.RowKit
theorem set4c {w : World} {g k : Nat} {a b c d u : Value} {t : TypeId} (h : w.heap[g]? = some (.cells #[a, b, c, d] t (0, 0))) : (w.setCell ⟨g, k, none⟩ u).heap[g]? = some (.cells (#[a, b, c, d].set! k u) t (0, 0)) := by
  show (w.heap.modify g _)[g]? = _
  rw [Array.getElem?_modify]
  simp [h]
/-- an expression stored into a box of the call's own -/
def put4 (w : World) (p : Nat) (x0 x1 x2 x3 : Value) : World := (((w.setCell ⟨p, 0, none⟩ x0).setCell ⟨p, 1, none⟩ x1).setCell ⟨p, 2, none⟩ x2).setCell ⟨p, 3, none⟩ x3
theorem put4_block {w : World} {p : Nat} {a b c d x0 x1 x2 x3 : Value} {t : TypeId} (h : w.heap[p]? = some (.cells #[a, b, c, d] t (0, 0))) : (put4 w p x0 x1 x2 x3).heap[p]? = some (.cells #[x0, x1, x2, x3] t (0, 0)) :=
  set4c (k := 3) (set4c (k := 2) (set4c (k := 1) (set4c (k := 0) h)))
theorem put4_below {w a : World} {p B : Nat} {x0 x1 x2 x3 : Value} (h : Below B a w) (hp : B ≤ p) : Below B a (put4 w p x0 x1 x2 x3) :=
  (((h.setCell (p := ⟨p, 0, none⟩) hp x0).setCell (p := ⟨p, 1, none⟩) hp x1).setCell (p := ⟨p, 2, none⟩) hp x2).setCell (p := ⟨p, 3, none⟩) hp x3
theorem cell4 {w : World} {g : Nat} {a b c d : Value} {t : TypeId} (h : w.heap[g]? = some (.cells #[a, b, c, d] t (0, 0))) :
    (w.cell? ⟨g, 0, none⟩ = some a ∧ w.cell? ⟨g, 1, none⟩ = some b ∧ w.cell? ⟨g, 2, none⟩ = some c ∧ w.cell? ⟨g, 3, none⟩ = some d) ∧ w.frozen? ⟨g, 0, none⟩ = false ∧ w.frozen? ⟨g, 1, none⟩ = false ∧ w.frozen? ⟨g, 2, none⟩ = false ∧ w.frozen? ⟨g, 3, none⟩ = false := by
  simp [World.cell?, World.frozen?, h]
/-- an expression in a cell, and two numbers: what is returned -/
theorem results_three {fn : Func} {p q r : Tmp} (h : fn.results = #[.cell p 39, .tmp q, .tmp r]) {tmps : Array Value} {w : World} {g : Nat} {x0 x1 x2 x3 u v : Value} {t : TypeId}
    (hp : tmps.getD p undef = .pointer (some ⟨g, 0, none⟩)) (hq : tmps.getD q undef = u) (hr : tmps.getD r undef = v) (hg : w.heap[g]? = some (.cells #[x0, x1, x2, x3] t (0, 0))) : (results fn tmps).run Tryd.prog w = .ok (.tuple #[.agg #[x0, x1, x2, x3], u, v]) w := by
  have hp' : tmps[p]?.getD undef = .pointer (some ⟨g, 0, none⟩) := by simpa using hp
  have hq' : tmps[q]?.getD undef = u := by simpa using hq
  have hr' : tmps[r]?.getD undef = v := by simpa using hr
  have hl := run_loadVar_row (P := Tryd.prog) w g t 39 #[x0, x1, x2, x3] (0, 0) _ hg Tryd.underlying39 rfl (by show _ = some 4; kernel_rfl)
  simp [results, h, hp', hq', hr', asAddr, hl]
inductive T.Fine : T → Prop
  | mk (k : Int) (s : ByteArray) (n : Int) (l : List T) (a : Int) (h1 : -9223372036854775808 ≤ n) (h2 : n ≤ 9223372036854775807) (h3 : s.size ≤ 1048576) (h : ∀ e ∈ l, T.Fine e) : T.Fine (.mk k s n l a)
def ReadExp (t : T) : Prop := ∀ (A : Option Addr) (c : Nat) (w : World), t.kids.length ≤ c → TKids w w.heap.size A t.kids →
  Calls Tryd.prog 12 #[t.val A c] w fun r w' => (∃ A' c', r = .returned (.tuple #[(readT t).1.val A' c', .int .i64 (readT t).2.1, .int .i64 (readT t).2.2]) ∧ XKids w' (fun k => w.heap.size ≤ k ∧ k < w'.heap.size) A' (readT t).1.kids) ∧ Below w.heap.size w w'
set_option maxRecDepth 100000 in
set_option maxHeartbeats 1000000 in
theorem read_leaf (k : Int) (s : ByteArray) (n : Int) (l : List T) (a : Int) (hk1 : k ≠ 1) : ReadExp (.mk k s n l a) := by
  intro A c w _ hA
  simp only [T.val, T.k, T.s, T.n, T.kids, T.at_] at hA ⊢
  have hz : Hid (readT (.mk k s n l a) = if k = 2 then (if nameB s then (.mk 1 s 0 [], 0, 0) else (zeroE, 20, a)) else if k = 3 then (.mk 2 ⟨#[]⟩ n [], 0, 0) else if k = 4 then (.mk 3 s 0 [], 0, 0) else (zeroE, 12, a)) := Lib.hid (by
    rw [readT.eq_def]
    simp only [if_neg hk1])
  obtain ⟨w1, ew1⟩ : ∃ w1, w1 = (w.alloc (.cells #[.int .i64 k, .string s, .int .i64 n, .slice A l.length c, .int .i64 a] 24)).alloc (.cells #[.int .i64 0, .string ⟨#[]⟩, .int .i64 0, .slice none 0 0] 39) := ⟨_, rfl⟩
  have hb1 : Below w.heap.size w w1 := by rw [ew1]; exact ((Below.refl _ _).alloc (Nat.le_refl _) _).alloc (by simp) _
  have HB1 := Lib.hid hb1
  have hB : Hid (w1.heap[w.heap.size + 1]? = some (.cells #[.int .i64 0, .string ⟨#[]⟩, .int .i64 0, .slice none 0 0] 39 (0, 0))) := Lib.hid (by
    rw [ew1]
    have := heap_alloc_new (w.alloc (.cells #[.int .i64 k, .string s, .int .i64 n, .slice A l.length c, .int .i64 a] 24)) (.cells #[.int .i64 0, .string ⟨#[]⟩, .int .i64 0, .slice none 0 0] 39)
    simpa using this)
  have HDD : Hid (w1.cell? ⟨w.heap.size, 0, none⟩ = some (.int .i64 k) ∧ w1.cell? ⟨w.heap.size, 1, none⟩ = some (.string s) ∧ w1.cell? ⟨w.heap.size, 2, none⟩ = some (.int .i64 n) ∧ w1.cell? ⟨w.heap.size, 3, none⟩ = some (.slice A l.length c)) := Lib.hid (by rw [ew1]; simp)
  have HD : Hid (w1.cell? ⟨w.heap.size, 4, none⟩ = some (.int .i64 a)) := Lib.hid (by rw [ew1]; simp)
  have HW1 := Lib.hid ew1
  have hN := Lib.hid (name_any s w1)
  generalize readT (.mk k s n l a) = q at *
  generalize l.length = ln at *
  clear hA ew1 hb1
  have hk1' : (k == 1) = false := by simpa using hk1
  by_cases h2 : k = 2
  · subst h2
    cases hnb : nameB s
    · have hq : Hid (q = (zeroE, 20, a)) := Lib.hid (by rw [hz.out, if_pos rfl, hnb]; rfl)
      rw [hnb] at hN
      clear hz
      go_enter Tryd.func12, Tryd.ntmps12
      go_wp2_with fail
      rw [← HW1.out]
      refine (hN.out).mono ?_
      rintro e w2 ⟨rfl, rfl⟩
      obtain ⟨⟨k0, k1, k2, k3⟩, f0, f1, f2, f3⟩ := cell4 hB.out
      have d4 := HD.out
      go_wp2_with fail
      go_region
      go_wp2_with fail
      refine bodyPost_ret (results_three rfl rfl rfl rfl (show ((put4 w1 (w.heap.size + 1) _ _ _ _).drew).heap[w.heap.size + 1]? = _ from put4_block hB.out)) rfl ?_
      exact ⟨⟨none, 0, by rw [hq.out]; rfl, by rw [hq.out]; exact .nil _⟩, (put4_below HB1.out (Nat.le_succ _)).drew⟩
    · have hq : Hid (q = (.mk 1 s 0 [], 0, 0)) := Lib.hid (by rw [hz.out, if_pos rfl, hnb]; rfl)
      rw [hnb] at hN
      clear hz
      go_enter Tryd.func12, Tryd.ntmps12
      go_wp2_with fail
      rw [← HW1.out]
      refine (hN.out).mono ?_
      rintro e w2 ⟨rfl, rfl⟩
      obtain ⟨⟨k0, k1, k2, k3⟩, f0, f1, f2, f3⟩ := cell4 hB.out
      obtain ⟨d0, d1, d2, d3⟩ := HDD.out
      go_wp2_with fail
      refine bodyPost_ret (results_three rfl rfl rfl rfl (put4_block hB.out)) rfl ?_
      exact ⟨⟨none, 0, by rw [hq.out]; rfl, by rw [hq.out]; exact .nil _⟩, put4_below HB1.out (Nat.le_succ _)⟩
  have h2' : (k == 2) = false := by simpa using h2
  by_cases h3 : k = 3
  · subst h3
    have hq : Hid (q = (.mk 2 ⟨#[]⟩ n [], 0, 0)) := Lib.hid (by rw [hz.out, if_neg (by decide), if_pos rfl])
    clear hz hN
    go_enter Tryd.func12, Tryd.ntmps12
    go_upto_if 7 with (fail)
    rw [← HW1.out]
    obtain ⟨⟨k0, k1, k2, k3⟩, f0, f1, f2, f3⟩ := cell4 hB.out
    obtain ⟨d0, d1, d2, d3⟩ := HDD.out
    go_wp2_with fail
    refine bodyPost_ret (results_three rfl rfl rfl rfl (put4_block hB.out)) rfl ?_
    exact ⟨⟨none, 0, by rw [hq.out]; rfl, by rw [hq.out]; exact .nil _⟩, put4_below HB1.out (Nat.le_succ _)⟩
  have h3' : (k == 3) = false := by simpa using h3
  by_cases h4 : k = 4
  · subst h4
    have hq : Hid (q = (.mk 3 s 0 [], 0, 0)) := Lib.hid (by rw [hz.out, if_neg (by decide), if_neg (by decide), if_pos rfl])
    clear hz hN
    go_enter Tryd.func12, Tryd.ntmps12
    go_upto_if 7 with (fail)
    rw [← HW1.out]
    obtain ⟨⟨k0, k1, k2, k3⟩, f0, f1, f2, f3⟩ := cell4 hB.out
    obtain ⟨d0, d1, d2, d3⟩ := HDD.out
    go_wp2_with fail
    refine bodyPost_ret (results_three rfl rfl rfl rfl (put4_block hB.out)) rfl ?_
    exact ⟨⟨none, 0, by rw [hq.out]; rfl, by rw [hq.out]; exact .nil _⟩, put4_below HB1.out (Nat.le_succ _)⟩
  have h4' : (k == 4) = false := by simpa using h4
  have hq : Hid (q = (zeroE, 12, a)) := Lib.hid (by rw [hz.out, if_neg h2, if_neg h3, if_neg h4])
  clear hz hN
  go_enter Tryd.func12, Tryd.ntmps12
  go_upto_if 7 with (fail)
  rw [← HW1.out]
  obtain ⟨⟨k0, k1, k2, k3⟩, f0, f1, f2, f3⟩ := cell4 hB.out
  obtain ⟨d0, d1, d2, d3⟩ := HDD.out
  have d4 := HD.out
  go_wp2_with fail
  go_region
  go_wp2_with fail
  refine bodyPost_ret (results_three rfl rfl rfl rfl (show ((put4 w1 (w.heap.size + 1) _ _ _ _).drew).heap[w.heap.size + 1]? = _ from put4_block hB.out)) rfl ?_
  exact ⟨⟨none, 0, by rw [hq.out]; rfl, by rw [hq.out]; exact .nil _⟩, (put4_below HB1.out (Nat.le_succ _)).drew⟩
end Go.Proofs.YtldleckgkgeclaaDoor
/-
  Package expr's apply: the refusals.
-/
namespace Go.Proofs.YtldleckgkgeclaaDoor
open Go.RowKit
/-- what apply gives -/
def ApplyEnd (q : E × Int × Int) (w : World) (r : Ending) (w' : World) : Prop := (∃ A' c', r = .returned (.tuple #[q.1.val A' c', .int .i64 q.2.1, .int .i64 q.2.2]) ∧ XKids w' (fun k => w.heap.size ≤ k ∧ k < w'.heap.size) A' q.1.kids) ∧ Below w.heap.size w w'
set_option maxRecDepth 100000 in
set_option maxHeartbeats 1000000 in
theorem apply_bad (s : ByteArray) (n : Int) (l : List T) (a : Int) (hbad : l = [] ∨ ∃ x ks, l = x :: ks ∧ (x.k ≠ 2 ∨ cntL x.s.toList = 0)) (A : Option Addr) (c : Nat) (w : World) (hA : TKids w w.heap.size A l) :
    Calls Tryd.prog 32 #[.agg #[.int .i64 1, .string s, .int .i64 n, .slice A l.length c, .int .i64 a]] w (ApplyEnd (zeroE, 12, a) w) := by
  obtain ⟨w1, ew1⟩ : ∃ w1, w1 = (w.alloc (.cells #[.int .i64 1, .string s, .int .i64 n, .slice A l.length c, .int .i64 a] 24)).alloc (.cells #[.int .i64 0, .string ⟨#[]⟩, .int .i64 0, .slice none 0 0] 39) := ⟨_, rfl⟩
  have hb1 : Below w.heap.size w w1 := by rw [ew1]; exact ((Below.refl _ _).alloc (Nat.le_refl _) _).alloc (by simp) _
  have HB1 := Lib.hid hb1
  have hB : Hid (w1.heap[w.heap.size + 1]? = some (.cells #[.int .i64 0, .string ⟨#[]⟩, .int .i64 0, .slice none 0 0] 39 (0, 0))) := Lib.hid (by
    rw [ew1]
    have := heap_alloc_new (w.alloc (.cells #[.int .i64 1, .string s, .int .i64 n, .slice A l.length c, .int .i64 a] 24)) (.cells #[.int .i64 0, .string ⟨#[]⟩, .int .i64 0, .slice none 0 0] 39)
    simpa using this)
  have HDD : Hid (w1.cell? ⟨w.heap.size, 3, none⟩ = some (.slice A l.length c) ∧ w1.cell? ⟨w.heap.size, 4, none⟩ = some (.int .i64 a)) := Lib.hid (by rw [ew1]; simp)
  have HW1 := Lib.hid ew1
  have HA := Lib.hid ((hA.low hb1).more hb1.size)
  clear ew1 hb1 hA
  rcases hbad with rfl | ⟨x, ks, rfl, hx⟩
  · simp only [List.length_nil] at HDD HW1 ⊢
    go_enter Tryd.func32, Tryd.ntmps32
    go_upto_region 1 with (fail)
    rw [← HW1.out]
    obtain ⟨⟨k0, k1, k2, k3⟩, f0, f1, f2, f3⟩ := cell4 hB.out
    obtain ⟨d3, d4⟩ := HDD.out
    go_wp2_with fail
    go_region
    go_wp2_with fail
    refine bodyPost_ret (results_three rfl rfl rfl rfl (show ((put4 w1 (w.heap.size + 1) _ _ _ _).drew).heap[w.heap.size + 1]? = _ from put4_block hB.out)) rfl ?_
    exact ⟨⟨none, 0, rfl, .nil _⟩, (put4_below HB1.out (Nat.le_succ _)).drew⟩
  · obtain ⟨b, o, A', c', rfl, hlt, x0, x1, _, _, _, _, _⟩ := HA.out.get_ w1 (Below.refl _ _) 0 x rfl
    rw [Nat.zero_mul, Nat.add_zero] at x0 x1
    have hlen : (x :: ks).length ≤ 9223372036854775807 := HA.out.len
    obtain ⟨m, em⟩ : ∃ m, m = ks.length := ⟨_, rfl⟩
    simp only [List.length_cons, ← em] at HDD HW1 hlen ⊢
    have hm0 : (0 : Int) < ((m + 1 : Nat) : Int) := by omega
    have hm1 : (((m + 1 : Nat) : Int) == 0) = false := by simp; omega
    obtain ⟨xk, xs, xn, xl, xa⟩ := x
    simp only [T.k, T.s] at x0 x1 hx
    have hC := Lib.hid (count_any xs w1)
    clear HA em
    by_cases hk : xk = 2
    · subst hk
      have hc0 : cntL xs.toList = 0 := by
        rcases hx with hx | hx
        · exact absurd rfl hx
        · exact hx
      rw [hc0] at hC
      clear hx hc0
      go_enter Tryd.func32, Tryd.ntmps32
      go_upto_region 1 with (fail)
      rw [← HW1.out]
      obtain ⟨⟨k0, k1, k2, k3⟩, f0, f1, f2, f3⟩ := cell4 hB.out
      obtain ⟨d3, d4⟩ := HDD.out
      go_wp2_with fail
      refine hC.out.mono ?_
      rintro e w2 ⟨rfl, rfl⟩
      go_wp2_with fail
      go_region
      go_wp2_with fail
      refine bodyPost_ret (results_three rfl rfl rfl rfl (show ((put4 w1 (w.heap.size + 1) _ _ _ _).drew).heap[w.heap.size + 1]? = _ from put4_block hB.out)) rfl ?_
      exact ⟨⟨none, 0, rfl, .nil _⟩, (put4_below HB1.out (Nat.le_succ _)).drew⟩
    · have hk' : (xk != 2) = true := by simpa using hk
      clear hx hC
      go_enter Tryd.func32, Tryd.ntmps32
      go_upto_region 1 with (fail)
      rw [← HW1.out]
      obtain ⟨⟨k0, k1, k2, k3⟩, f0, f1, f2, f3⟩ := cell4 hB.out
      obtain ⟨d3, d4⟩ := HDD.out
      go_wp2_with fail
      go_region
      go_wp2_with fail
      refine bodyPost_ret (results_three rfl rfl rfl rfl (show ((put4 w1 (w.heap.size + 1) _ _ _ _).drew).heap[w.heap.size + 1]? = _ from put4_block hB.out)) rfl ?_
      exact ⟨⟨none, 0, rfl, .nil _⟩, (put4_below HB1.out (Nat.le_succ _)).drew⟩
end Go.Proofs.YtldleckgkgeclaaDoor
/-
  Package expr's apply: another number of kids.
-/
namespace Go.Proofs.YtldleckgkgeclaaDoor
open Go.RowKit
set_option maxRecDepth 100000 in
set_option maxHeartbeats 1000000 in
theorem apply_count (s : ByteArray) (n : Int) (x : T) (ks : List T) (a : Int) (hk2 : x.k = 2) (hc0 : cntL x.s.toList ≠ 0) (hne : ks.length ≠ cntL x.s.toList) (A : Option Addr) (c : Nat) (w : World) (hA : TKids w w.heap.size A (x :: ks)) :
    Calls Tryd.prog 32 #[.agg #[.int .i64 1, .string s, .int .i64 n, .slice A (x :: ks).length c, .int .i64 a]] w (ApplyEnd (zeroE, 23, a) w) := by
  obtain ⟨m, em⟩ : ∃ m, m = ks.length := ⟨_, rfl⟩
  have hlen : (x :: ks).length ≤ 9223372036854775807 := hA.len
  rw [← em] at hne
  simp only [List.length_cons, ← em] at hlen ⊢
  obtain ⟨w1, ew1⟩ : ∃ w1, w1 = (w.alloc (.cells #[.int .i64 1, .string s, .int .i64 n, .slice A (m + 1) c, .int .i64 a] 24)).alloc (.cells #[.int .i64 0, .string ⟨#[]⟩, .int .i64 0, .slice none 0 0] 39) := ⟨_, rfl⟩
  have hb1 : Below w.heap.size w w1 := by rw [ew1]; exact ((Below.refl _ _).alloc (Nat.le_refl _) _).alloc (by simp) _
  have hws : w1.heap.size = w.heap.size + 2 := by rw [ew1]; simp
  have HB1 := Lib.hid hb1
  have hB : Hid (w1.heap[w.heap.size + 1]? = some (.cells #[.int .i64 0, .string ⟨#[]⟩, .int .i64 0, .slice none 0 0] 39 (0, 0))) := Lib.hid (by
    rw [ew1]
    have := heap_alloc_new (w.alloc (.cells #[.int .i64 1, .string s, .int .i64 n, .slice A (m + 1) c, .int .i64 a] 24)) (.cells #[.int .i64 0, .string ⟨#[]⟩, .int .i64 0, .slice none 0 0] 39)
    simpa using this)
  have HDD : Hid (w1.cell? ⟨w.heap.size, 3, none⟩ = some (.slice A (m + 1) c) ∧ w1.cell? ⟨w.heap.size, 4, none⟩ = some (.int .i64 a)) := Lib.hid (by rw [ew1]; simp)
  have HW1 := Lib.hid ew1
  obtain ⟨b, o, A', c', rfl, hlt, x0, x1, _, _, _, _, _⟩ := ((hA.low hb1).more hb1.size).get_ w1 (Below.refl _ _) 0 x rfl
  rw [Nat.zero_mul, Nat.add_zero] at x0 x1
  have hm0 : (0 : Int) < ((m + 1 : Nat) : Int) := by omega
  have hm1 : (((m + 1 : Nat) : Int) == 0) = false := by simp; omega
  obtain ⟨xk, xs, xn, xl, xa⟩ := x
  simp only [T.k, T.s] at x0 x1 hk2 hc0 hne
  subst hk2
  have hC := Lib.hid (count_any xs)
  generalize cntL xs.toList = cn at *
  have hcz : ((cn : Int) == 0) = false := by simp; omega
  have hn1 : ((m : Int) != (cn : Int)) = true := by simp; omega
  clear hA em ew1 hb1 hc0 hne
  -- the box of what is read
  have hb2 : Below w1.heap.size w1 (w1.alloc (.cells #[.int .i64 4, .string xs, .int .i64 0, .slice none 0 0] 39)) := (Below.refl _ _).alloc (Nat.le_refl _) _
  have hB2 : Hid ((w1.alloc (.cells #[.int .i64 4, .string xs, .int .i64 0, .slice none 0 0] 39)).heap[w.heap.size + 1]? = some (.cells #[.int .i64 0, .string ⟨#[]⟩, .int .i64 0, .slice none 0 0] 39 (0, 0))) := Lib.hid ((hb2.block _ (by omega)).trans hB.out)
  have HD2 : Hid ((w1.alloc (.cells #[.int .i64 4, .string xs, .int .i64 0, .slice none 0 0] 39)).cell? ⟨w.heap.size, 3, none⟩ = some (.slice (some ⟨b, o, none⟩) (m + 1) c) ∧ (w1.alloc (.cells #[.int .i64 4, .string xs, .int .i64 0, .slice none 0 0] 39)).cell? ⟨w.heap.size, 4, none⟩ = some (.int .i64 a)) :=
    Lib.hid ⟨(hb2.cell (p := ⟨w.heap.size, 3, none⟩) (show w.heap.size < _ by omega)).trans HDD.out.1, (hb2.cell (p := ⟨w.heap.size, 4, none⟩) (show w.heap.size < _ by omega)).trans HDD.out.2⟩
  have HE2 : Hid ((w1.alloc (.cells #[.int .i64 4, .string xs, .int .i64 0, .slice none 0 0] 39)).cell? ⟨w.heap.size + 2, 1, none⟩ = some (.string xs)) := Lib.hid (by rw [← hws]; simp)
  have HB2 := Lib.hid (HB1.out.trans (hb2.mono (by omega)))
  clear hb2
  go_enter Tryd.func32, Tryd.ntmps32
  go_upto_region 1 with (fail)
  rw [← HW1.out]
  obtain ⟨d3, d4⟩ := HDD.out
  go_wp2_with fail
  refine (hC.out _).mono ?_
  rintro e w2 ⟨rfl, rfl⟩
  go_upto_region 4 with (fail)
  generalize (w1.alloc (.cells #[.int .i64 4, .string xs, .int .i64 0, .slice none 0 0] 39)) = w2 at *
  obtain ⟨y3, y4⟩ := HD2.out
  have y1 := HE2.out
  obtain ⟨⟨k0, k1, k2, k3⟩, f0, f1, f2, f3⟩ := cell4 hB2.out
  clear x0 x1 hlt d3 d4
  go_quiet ((go_at_call 52; exact Calls.quiet_of_same ((hC.out _).mono fun e w' ⟨h1, h2⟩ => ⟨h1, h2.symm⟩)))
  go_wp2_with fail
  go_region
  go_wp2_with fail
  refine bodyPost_ret (results_three rfl rfl rfl rfl (show (put4 (w2.drewN _) (w.heap.size + 1) _ _ _ _).heap[w.heap.size + 1]? = _ from put4_block (show (w2.drewN _).heap[w.heap.size + 1]? = _ from hB2.out))) rfl ?_
  exact ⟨⟨none, 0, rfl, .nil _⟩, put4_below (below_drewN HB2.out _) (Nat.le_succ _)⟩
end Go.Proofs.YtldleckgkgeclaaDoor
