/-
  confluencekeep's Exprs of one and the same expressions: it says so.
-/
import Derived.Test.YtldleckgkgeclaaMa4
import Derived.BigQuiet
import Derived.Test.YtldleckgkgeclaaMa5
import Derived.Test.YtldleckgkgeclaaMa10
import Derived.Test.YtldleckgkgeclaaMa11
set_option linter.unusedVariables false
set_option linter.unusedSimpArgs false
namespace Go.Proofs.Ytldleckgkgeclaa
open Go.RowKit
def SameExp (l : List E) : Prop := ∀ (A B : Option Addr) (c d : Nat) (w : World), EKids w w.heap.size A l → EKids w w.heap.size B l →
  Calls Try.prog 23 #[.slice A l.length c, .slice B l.length d] w fun e w' => e = .returned (.bool true) ∧ ∃ n, w' = w.drewN n
set_option maxRecDepth 100000 in
set_option maxHeartbeats 1000000 in
theorem same_step (l : List E) (hM0 : ∀ e ∈ l, SameExp e.kids) : SameExp l := by
  intro A B c d w hA hB
  have hn := hA.len
  have HA := Lib.hid hA.get_
  have HB := Lib.hid hB.get_
  obtain ⟨m, em⟩ : ∃ m, m = l.length := ⟨_, rfl⟩
  have HEM := Lib.hid em
  have HM := Lib.hid hM0
  rw [← em] at hn ⊢
  clear hA hB hM0 em
  go_enter Try.func23, Try.ntmps23
  go_wp2_with fail
  go_loopw [5] (fun i wr => ∃ (j n : Nat), j ≤ m ∧ i = .int .i64 j ∧ wr = w.drewN n) (fun i _ => m - (intOf i).toNat)
  case atStart => exact ⟨0, 0, Nat.zero_le _, rfl, rfl⟩
  case round =>
    obtain ⟨j, n, hj, rfl, hwr⟩ := hrel
    have HWR := Lib.hid hwr
    have hbw : Below w.heap.size w wr := by rw [hwr]; exact below_drewN (Below.refl _ _) _
    clear hwr
    by_cases hlt : j < m
    · obtain ⟨x, hx⟩ : ∃ x, l[j]? = some x := ⟨_, List.getElem?_eq_getElem (by rw [← HEM.out]; exact hlt)⟩
      obtain ⟨b, o, A', c', rfl, _, a0, a1, a2, a3, hKa⟩ := HA.out _ hbw j x hx
      obtain ⟨b2, o2, B', d', rfl, _, b0, b1, b2, b3, hKb⟩ := HB.out _ hbw j x hx
      have hMx := Lib.hid (HM.out x (List.mem_of_getElem? hx))
      clear hx
      obtain ⟨xk, xs, xn, xl⟩ := x
      simp only [E.k, E.s, E.n, E.kids] at a0 a1 a2 a3 b0 b1 b2 b3 hKa hKb hMx
      have HC := Lib.hid (fun n => hMx.out A' B' c' d' (wr.drewN n) (hKa.low (below_drewN (Below.refl _ _) n)) (hKb.low (below_drewN (Below.refl _ _) n)))
      generalize xl.length = xm at *
      clear hKa hKb hMx hbw
      go_upto_region 6 with (fail)
      go_quiet ((go_at_call 23; exact Calls.quiet_of (HC.out _)))
      go_wp2_with fail
      go_roundw
      case rel => exact ⟨j + 1, n + nq, by omega, by go_num, by rw [HWR.out, World.drewN_drewN]⟩
      case measure => simp [intOf]; omega
    · go_wp2_with fail
      go_ret
      exact ⟨rfl, n, HWR.out⟩
theorem same_any (l : List E) : SameExp l := by
  have h : ∀ e : E, SameExp e.kids := E.ind fun k s n l ih => same_step l ih
  exact same_step l fun e _ => h e
end Go.Proofs.Ytldleckgkgeclaa
/-
  The reference's Read of expressions: leaves.
-/
namespace Go.Proofs.Ytldleckgkgeclaa
open Go.RowKit
def RefReadExp (t : T) : Prop := t.Fine → ∀ (A : Option Addr) (c : Nat) (w : World), t.kids.length ≤ c → TKids w w.heap.size A t.kids →
  Calls Try.prog 22 #[t.val A c] w fun r w' => (∃ A' c', r = .returned (.tuple #[(readT t).1.val A' c', .int .i64 (readT t).2.1, .int .i64 (readT t).2.2]) ∧ XKids w' (fun k => w.heap.size ≤ k ∧ k < w'.heap.size) A' (readT t).1.kids) ∧ Below w.heap.size w w'
set_option maxRecDepth 100000 in
set_option maxHeartbeats 1000000 in
theorem refRead_leaf (k : Int) (s : ByteArray) (n : Int) (l : List T) (a : Int) (hk1 : k ≠ 1) : RefReadExp (.mk k s n l a) := by
  intro hfine A c w _ hA
  obtain ⟨_, _, _, _, _, _, _, hsz, _⟩ := hfine
  simp only [T.val, T.k, T.s, T.n, T.kids, T.at_] at hA ⊢
  have hz : Hid (readT (.mk k s n l a) = if k = 2 then (if nameB s then (.mk 1 s 0 [], 0, 0) else (zeroE, 20, a)) else if k = 3 then (.mk 2 ⟨#[]⟩ n [], 0, 0) else if k = 4 then (.mk 3 s 0 [], 0, 0) else (zeroE, 12, a)) := Lib.hid (by
    rw [readT.eq_def]
    simp only [if_neg hk1])
  obtain ⟨w1, ew1⟩ : ∃ w1, w1 = (w.alloc (.cells #[.int .i64 k, .string s, .int .i64 n, .slice A l.length c, .int .i64 a] 49)).alloc (.cells #[.int .i64 0, .string ⟨#[]⟩, .int .i64 0, .slice none 0 0] 35) := ⟨_, rfl⟩
  have hb1 : Below w.heap.size w w1 := by rw [ew1]; exact ((Below.refl _ _).alloc (Nat.le_refl _) _).alloc (by simp) _
  have hws : w1.heap.size = w.heap.size + 2 := by rw [ew1]; simp
  have HB1 := Lib.hid hb1
  have hB : Hid (w1.heap[w.heap.size + 1]? = some (.cells #[.int .i64 0, .string ⟨#[]⟩, .int .i64 0, .slice none 0 0] 35 (0, 0))) := Lib.hid (by
    rw [ew1]
    have := heap_alloc_new (w.alloc (.cells #[.int .i64 k, .string s, .int .i64 n, .slice A l.length c, .int .i64 a] 49)) (.cells #[.int .i64 0, .string ⟨#[]⟩, .int .i64 0, .slice none 0 0] 35)
    simpa using this)
  have HDD : Hid (w1.cell? ⟨w.heap.size, 0, none⟩ = some (.int .i64 k) ∧ w1.cell? ⟨w.heap.size, 1, none⟩ = some (.string s) ∧ w1.cell? ⟨w.heap.size, 2, none⟩ = some (.int .i64 n) ∧ w1.cell? ⟨w.heap.size, 3, none⟩ = some (.slice A l.length c) ∧ w1.cell? ⟨w.heap.size, 4, none⟩ = some (.int .i64 a)) := Lib.hid (by rw [ew1]; simp)
  have HW1 := Lib.hid ew1
  have hN := Lib.hid (refName_any s (by omega) w1)
  generalize readT (.mk k s n l a) = q at *
  generalize l.length = ln at *
  clear hA ew1 hb1
  have hk1' : (k != 1) = true := by simpa using hk1
  by_cases h2 : k = 2
  · subst h2
    cases hnb : nameB s
    · have hq : Hid (q = (zeroE, 20, a)) := Lib.hid (by rw [hz.out, if_pos rfl, hnb]; rfl)
      rw [hnb] at hN
      clear hz
      go_enter Try.func22, Try.ntmps22
      go_wp2_with fail
      rw [← HW1.out]
      refine (hN.out).mono ?_
      rintro e w2 ⟨rfl, hb2⟩
      have hs2 := hb2.size
      have HB2 := Lib.hid (HB1.out.trans (hb2.mono (by omega)))
      have hR2 : Hid (w2.heap[w.heap.size + 1]? = some (.cells #[.int .i64 0, .string ⟨#[]⟩, .int .i64 0, .slice none 0 0] 35 (0, 0))) := Lib.hid ((hb2.block _ (by omega)).trans hB.out)
      have d4 : w2.cell? ⟨w.heap.size, 4, none⟩ = some (.int .i64 a) := (hb2.cell (p := ⟨w.heap.size, 4, none⟩) (show w.heap.size < _ by omega)).trans HDD.out.2.2.2.2
      obtain ⟨⟨k0, k1, k2, k3⟩, f0, f1, f2, f3⟩ := cell4 hR2.out
      clear hb2
      go_wp2_with fail
      go_region
      go_wp2_with fail
      refine bodyPost_ret (results_three rfl rfl rfl rfl (show ((put4 w2 (w.heap.size + 1) _ _ _ _).drew).heap[w.heap.size + 1]? = _ from put4_block hR2.out)) rfl ?_
      exact ⟨⟨none, 0, by rw [hq.out]; rfl, by rw [hq.out]; exact .nil _⟩, (put4_below HB2.out (Nat.le_succ _)).drew⟩
    · have hq : Hid (q = (.mk 1 s 0 [], 0, 0)) := Lib.hid (by rw [hz.out, if_pos rfl, hnb]; rfl)
      rw [hnb] at hN
      clear hz
      go_enter Try.func22, Try.ntmps22
      go_wp2_with fail
      rw [← HW1.out]
      refine (hN.out).mono ?_
      rintro e w2 ⟨rfl, hb2⟩
      have hs2 := hb2.size
      have HB2 := Lib.hid (HB1.out.trans (hb2.mono (by omega)))
      have hR2 : Hid (w2.heap[w.heap.size + 1]? = some (.cells #[.int .i64 0, .string ⟨#[]⟩, .int .i64 0, .slice none 0 0] 35 (0, 0))) := Lib.hid ((hb2.block _ (by omega)).trans hB.out)
      have d1 : w2.cell? ⟨w.heap.size, 1, none⟩ = some (.string s) := (hb2.cell (p := ⟨w.heap.size, 1, none⟩) (show w.heap.size < _ by omega)).trans HDD.out.2.1
      obtain ⟨⟨k0, k1, k2, k3⟩, f0, f1, f2, f3⟩ := cell4 hR2.out
      clear hb2
      go_wp2_with fail
      refine bodyPost_ret (results_three rfl rfl rfl rfl (put4_block hR2.out)) rfl ?_
      exact ⟨⟨none, 0, by rw [hq.out]; rfl, by rw [hq.out]; exact .nil _⟩, put4_below HB2.out (Nat.le_succ _)⟩
  have h2' : (k == 2) = false := by simpa using h2
  by_cases h3 : k = 3
  · subst h3
    have hq : Hid (q = (.mk 2 ⟨#[]⟩ n [], 0, 0)) := Lib.hid (by rw [hz.out, if_neg (by decide), if_pos rfl])
    clear hz hN
    go_enter Try.func22, Try.ntmps22
    go_upto_region 1 with (fail)
    rw [← HW1.out]
    obtain ⟨⟨k0, k1, k2, k3⟩, f0, f1, f2, f3⟩ := cell4 hB.out
    obtain ⟨d0, d1, d2, d3, d4⟩ := HDD.out
    go_wp2_with fail
    refine bodyPost_ret (results_three rfl rfl rfl rfl (put4_block hB.out)) rfl ?_
    exact ⟨⟨none, 0, by rw [hq.out]; rfl, by rw [hq.out]; exact .nil _⟩, put4_below HB1.out (Nat.le_succ _)⟩
  have h3' : (k == 3) = false := by simpa using h3
  by_cases h4 : k = 4
  · subst h4
    have hq : Hid (q = (.mk 3 s 0 [], 0, 0)) := Lib.hid (by rw [hz.out, if_neg (by decide), if_neg (by decide), if_pos rfl])
    clear hz hN
    go_enter Try.func22, Try.ntmps22
    go_upto_region 1 with (fail)
    rw [← HW1.out]
    obtain ⟨⟨k0, k1, k2, k3⟩, f0, f1, f2, f3⟩ := cell4 hB.out
    obtain ⟨d0, d1, d2, d3, d4⟩ := HDD.out
    go_wp2_with fail
    refine bodyPost_ret (results_three rfl rfl rfl rfl (put4_block hB.out)) rfl ?_
    exact ⟨⟨none, 0, by rw [hq.out]; rfl, by rw [hq.out]; exact .nil _⟩, put4_below HB1.out (Nat.le_succ _)⟩
  have h4' : (k == 4) = false := by simpa using h4
  have hq : Hid (q = (zeroE, 12, a)) := Lib.hid (by rw [hz.out, if_neg h2, if_neg h3, if_neg h4])
  clear hz hN
  go_enter Try.func22, Try.ntmps22
  go_upto_region 1 with (fail)
  rw [← HW1.out]
  obtain ⟨⟨k0, k1, k2, k3⟩, f0, f1, f2, f3⟩ := cell4 hB.out
  obtain ⟨d0, d1, d2, d3, d4⟩ := HDD.out
  go_wp2_with fail
  go_region
  go_wp2_with fail
  refine bodyPost_ret (results_three rfl rfl rfl rfl (show ((put4 w1 (w.heap.size + 1) _ _ _ _).drew).heap[w.heap.size + 1]? = _ from put4_block hB.out)) rfl ?_
  exact ⟨⟨none, 0, by rw [hq.out]; rfl, by rw [hq.out]; exact .nil _⟩, (put4_below HB1.out (Nat.le_succ _)).drew⟩
end Go.Proofs.Ytldleckgkgeclaa
