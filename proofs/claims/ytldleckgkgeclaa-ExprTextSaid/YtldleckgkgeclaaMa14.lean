/-
  The reference's Read of expressions: the refusals.
-/
import Derived.Test.YtldleckgkgeclaaMa13
import Derived.Maps.AppendAt
import Derived.Deep.AppendLies
set_option linter.unusedVariables false
set_option linter.unusedSimpArgs false
namespace Go.Proofs.Ytldleckgkgeclaa
open Go.RowKit
set_option maxRecDepth 100000 in
set_option maxHeartbeats 1000000 in
theorem refRead_bad (s : ByteArray) (n : Int) (l : List T) (a : Int) (hbad : l = [] ∨ ∃ x ks, l = x :: ks ∧ (x.k ≠ 2 ∨ cntL x.s.toList = 0)) (A : Option Addr) (c : Nat) (w : World) (hA : TKids w w.heap.size A l) :
    Calls Try.prog 22 #[.agg #[.int .i64 1, .string s, .int .i64 n, .slice A l.length c, .int .i64 a]] w (ApplyEnd (zeroE, 12, a) w) := by
  obtain ⟨w1, ew1⟩ : ∃ w1, w1 = (w.alloc (.cells #[.int .i64 1, .string s, .int .i64 n, .slice A l.length c, .int .i64 a] 49)).alloc (.cells #[.int .i64 0, .string ⟨#[]⟩, .int .i64 0, .slice none 0 0] 35) := ⟨_, rfl⟩
  have hb1 : Below w.heap.size w w1 := by rw [ew1]; exact ((Below.refl _ _).alloc (Nat.le_refl _) _).alloc (by simp) _
  have HB1 := Lib.hid hb1
  have hB : Hid (w1.heap[w.heap.size + 1]? = some (.cells #[.int .i64 0, .string ⟨#[]⟩, .int .i64 0, .slice none 0 0] 35 (0, 0))) := Lib.hid (by
    rw [ew1]
    have := heap_alloc_new (w.alloc (.cells #[.int .i64 1, .string s, .int .i64 n, .slice A l.length c, .int .i64 a] 49)) (.cells #[.int .i64 0, .string ⟨#[]⟩, .int .i64 0, .slice none 0 0] 35)
    simpa using this)
  have HDD : Hid (w1.cell? ⟨w.heap.size, 3, none⟩ = some (.slice A l.length c) ∧ w1.cell? ⟨w.heap.size, 4, none⟩ = some (.int .i64 a)) := Lib.hid (by rw [ew1]; simp)
  have d0 : w1.cell? ⟨w.heap.size, 0, none⟩ = some (.int .i64 1) := by rw [ew1]; simp
  have HW1 := Lib.hid ew1
  have HA := Lib.hid ((hA.low hb1).more hb1.size)
  clear ew1 hb1 hA
  rcases hbad with rfl | ⟨x, ks, rfl, hx⟩
  · simp only [List.length_nil] at HDD HW1 ⊢
    go_enter Try.func22, Try.ntmps22
    go_upto_region 1 with (fail)
    rw [← HW1.out]
    obtain ⟨⟨k0, k1, k2, k3⟩, f0, f1, f2, f3⟩ := cell4 hB.out
    obtain ⟨d3, d4⟩ := HDD.out
    go_wp2_with fail
    go_region
    go_wp2_with fail
    refine bodyPost_ret (results_three rfl rfl rfl rfl (show ((put4 w1 (w.heap.size + 1) _ _ _ _).drew).heap[w.heap.size + 1]? = _ from put4_block hB.out)) rfl ?_
    exact ⟨⟨none, 0, rfl, .nil _⟩, (put4_below HB1.out (Nat.le_succ _)).drew⟩
  · obtain ⟨b, o, A', c', rfl, hlt, x0, x1, _, _, _, _, _⟩ := HA.out.get_ w1 (Below.refl _ _) 0 x rfl
    rw [Nat.zero_mul, Nat.add_zero] at x0 x1
    have hlen : (x :: ks).length ≤ 9223372036854775807 := HA.out.len
    obtain ⟨m, em⟩ : ∃ m, m = ks.length := ⟨_, rfl⟩
    simp only [List.length_cons, ← em] at HDD HW1 hlen ⊢
    have hm0 : (0 : Int) < ((m + 1 : Nat) : Int) := by omega
    have hm1 : (((m + 1 : Nat) : Int) == 0) = false := by simp; omega
    obtain ⟨xk, xs, xn, xl, xa⟩ := x
    simp only [T.k, T.s] at x0 x1 hx
    have hC := Lib.hid (takes_any xs w1)
    clear HA em
    by_cases hk : xk = 2
    · subst hk
      have hc0 : cntL xs.toList = 0 := by
        rcases hx with hx | hx
        · exact absurd rfl hx
        · exact hx
      rw [hc0] at hC
      clear hx hc0
      go_enter Try.func22, Try.ntmps22
      go_upto_region 1 with (fail)
      rw [← HW1.out]
      obtain ⟨⟨k0, k1, k2, k3⟩, f0, f1, f2, f3⟩ := cell4 hB.out
      obtain ⟨d3, d4⟩ := HDD.out
      go_wp2_with fail
      refine hC.out.mono ?_
      rintro e w2 ⟨rfl, rfl⟩
      go_wp2_with fail
      go_region
      go_wp2_with fail
      refine bodyPost_ret (results_three rfl rfl rfl rfl (show ((put4 w1 (w.heap.size + 1) _ _ _ _).drew).heap[w.heap.size + 1]? = _ from put4_block hB.out)) rfl ?_
      exact ⟨⟨none, 0, rfl, .nil _⟩, (put4_below HB1.out (Nat.le_succ _)).drew⟩
    · have hk' : (xk != 2) = true := by simpa using hk
      clear hx hC
      go_enter Try.func22, Try.ntmps22
      go_upto_region 1 with (fail)
      rw [← HW1.out]
      obtain ⟨⟨k0, k1, k2, k3⟩, f0, f1, f2, f3⟩ := cell4 hB.out
      obtain ⟨d3, d4⟩ := HDD.out
      go_wp2_with fail
      go_region
      go_wp2_with fail
      refine bodyPost_ret (results_three rfl rfl rfl rfl (show ((put4 w1 (w.heap.size + 1) _ _ _ _).drew).heap[w.heap.size + 1]? = _ from put4_block hB.out)) rfl ?_
      exact ⟨⟨none, 0, rfl, .nil _⟩, (put4_below HB1.out (Nat.le_succ _)).drew⟩
set_option maxRecDepth 100000 in
set_option maxHeartbeats 1000000 in
theorem refRead_count (s : ByteArray) (n : Int) (x : T) (ks : List T) (a : Int) (hk2 : x.k = 2) (hc0 : cntL x.s.toList ≠ 0) (hne : ks.length ≠ cntL x.s.toList) (A : Option Addr) (c : Nat) (w : World) (hA : TKids w w.heap.size A (x :: ks)) :
    Calls Try.prog 22 #[.agg #[.int .i64 1, .string s, .int .i64 n, .slice A (x :: ks).length c, .int .i64 a]] w (ApplyEnd (zeroE, 23, a) w) := by
  obtain ⟨m, em⟩ : ∃ m, m = ks.length := ⟨_, rfl⟩
  have hlen : (x :: ks).length ≤ 9223372036854775807 := hA.len
  rw [← em] at hne
  simp only [List.length_cons, ← em] at hlen ⊢
  obtain ⟨w1, ew1⟩ : ∃ w1, w1 = (w.alloc (.cells #[.int .i64 1, .string s, .int .i64 n, .slice A (m + 1) c, .int .i64 a] 49)).alloc (.cells #[.int .i64 0, .string ⟨#[]⟩, .int .i64 0, .slice none 0 0] 35) := ⟨_, rfl⟩
  have hb1 : Below w.heap.size w w1 := by rw [ew1]; exact ((Below.refl _ _).alloc (Nat.le_refl _) _).alloc (by simp) _
  have hws : w1.heap.size = w.heap.size + 2 := by rw [ew1]; simp
  have HB1 := Lib.hid hb1
  have hB : Hid (w1.heap[w.heap.size + 1]? = some (.cells #[.int .i64 0, .string ⟨#[]⟩, .int .i64 0, .slice none 0 0] 35 (0, 0))) := Lib.hid (by
    rw [ew1]
    have := heap_alloc_new (w.alloc (.cells #[.int .i64 1, .string s, .int .i64 n, .slice A (m + 1) c, .int .i64 a] 49)) (.cells #[.int .i64 0, .string ⟨#[]⟩, .int .i64 0, .slice none 0 0] 35)
    simpa using this)
  have HDD : Hid (w1.cell? ⟨w.heap.size, 3, none⟩ = some (.slice A (m + 1) c) ∧ w1.cell? ⟨w.heap.size, 4, none⟩ = some (.int .i64 a)) := Lib.hid (by rw [ew1]; simp)
  have d0 : w1.cell? ⟨w.heap.size, 0, none⟩ = some (.int .i64 1) := by rw [ew1]; simp
  have HW1 := Lib.hid ew1
  obtain ⟨b, o, A', c', rfl, hlt, x0, x1, _, _, _, _, _⟩ := ((hA.low hb1).more hb1.size).get_ w1 (Below.refl _ _) 0 x rfl
  rw [Nat.zero_mul, Nat.add_zero] at x0 x1
  have hm0 : (0 : Int) < ((m + 1 : Nat) : Int) := by omega
  have hm1 : (((m + 1 : Nat) : Int) == 0) = false := by simp; omega
  obtain ⟨xk, xs, xn, xl, xa⟩ := x
  simp only [T.k, T.s] at x0 x1 hk2 hc0 hne
  subst hk2
  have hC := Lib.hid (takes_any xs)
  generalize cntL xs.toList = cn at *
  have hcz : ((cn : Int) == 0) = false := by simp; omega
  have hn1 : ((m : Int) != (cn : Int)) = true := by simp; omega
  clear hA em ew1 hb1 hc0 hne
  go_enter Try.func22, Try.ntmps22
  go_upto_region 1 with (fail)
  rw [← HW1.out]
  obtain ⟨d3, d4⟩ := HDD.out
  go_wp2_with fail
  refine (hC.out _).mono ?_
  rintro e w2 ⟨rfl, rfl⟩
  go_upto_region 12 with (fail)
  obtain ⟨⟨k0, k1, k2, k3⟩, f0, f1, f2, f3⟩ := cell4 hB.out
  go_quiet ((go_at_call 47; exact Calls.quiet_of_same ((hC.out _).mono fun e w' ⟨h1, h2⟩ => ⟨h1, h2.symm⟩)))
  go_wp2_with fail
  go_region
  go_wp2_with fail
  refine bodyPost_ret (results_three rfl rfl rfl rfl (show (put4 (w1.drewN _) (w.heap.size + 1) _ _ _ _).heap[w.heap.size + 1]? = _ from put4_block (show (w1.drewN _).heap[w.heap.size + 1]? = _ from hB.out))) rfl ?_
  exact ⟨⟨none, 0, rfl, .nil _⟩, put4_below (below_drewN HB1.out _) (Nat.le_succ _)⟩
end Go.Proofs.Ytldleckgkgeclaa
/-
  The reference's Read of expressions: the kids.
-/
namespace Go.Proofs.Ytldleckgkgeclaa
open Go.RowKit
set_option maxRecDepth 100000 in
set_option maxHeartbeats 1000000 in
theorem refRead_main (s : ByteArray) (n : Int) (x : T) (ks : List T) (a : Int) (hk2 : x.k = 2) (hc0 : cntL x.s.toList ≠ 0) (heq : ks.length = cntL x.s.toList) (hM : ∀ t ∈ ks, RefReadExp t) (hF : ∀ t ∈ ks, t.Fine) (A : Option Addr) (c : Nat) (w : World) (hcap : (x :: ks).length ≤ c) (hA : TKids w w.heap.size A (x :: ks)) :
    Calls Try.prog 22 #[.agg #[.int .i64 1, .string s, .int .i64 n, .slice A (x :: ks).length c, .int .i64 a]] w (ApplyEnd (if (readL ks).2.1 = 0 then (.mk 4 x.s 0 (readL ks).1, 0, 0) else (zeroE, (readL ks).2.1, (readL ks).2.2)) w) := by
  obtain ⟨m, em⟩ : ∃ m, m = ks.length := ⟨_, rfl⟩
  have hlen : (x :: ks).length ≤ 9223372036854775807 := hA.len
  rw [← em] at heq
  simp only [List.length_cons, ← em] at hlen hcap ⊢
  obtain ⟨w1, ew1⟩ : ∃ w1, w1 = (w.alloc (.cells #[.int .i64 1, .string s, .int .i64 n, .slice A (m + 1) c, .int .i64 a] 49)).alloc (.cells #[.int .i64 0, .string ⟨#[]⟩, .int .i64 0, .slice none 0 0] 35) := ⟨_, rfl⟩
  have hb1 : Below w.heap.size w w1 := by rw [ew1]; exact ((Below.refl _ _).alloc (Nat.le_refl _) _).alloc (by simp) _
  have hws : w1.heap.size = w.heap.size + 2 := by rw [ew1]; simp
  have HB1 := Lib.hid hb1
  have hB : Hid (w1.heap[w.heap.size + 1]? = some (.cells #[.int .i64 0, .string ⟨#[]⟩, .int .i64 0, .slice none 0 0] 35 (0, 0))) := Lib.hid (by
    rw [ew1]
    have := heap_alloc_new (w.alloc (.cells #[.int .i64 1, .string s, .int .i64 n, .slice A (m + 1) c, .int .i64 a] 49)) (.cells #[.int .i64 0, .string ⟨#[]⟩, .int .i64 0, .slice none 0 0] 35)
    simpa using this)
  have HDD : Hid (w1.cell? ⟨w.heap.size, 3, none⟩ = some (.slice A (m + 1) c) ∧ w1.cell? ⟨w.heap.size, 4, none⟩ = some (.int .i64 a)) := Lib.hid (by rw [ew1]; simp)
  have d0 : w1.cell? ⟨w.heap.size, 0, none⟩ = some (.int .i64 1) := by rw [ew1]; simp
  have HW1 := Lib.hid ew1
  have HK := Lib.hid ((hA.low hb1).more hb1.size)
  obtain ⟨b, o, A', c', rfl, hlt, x0, x1, _, _, _, _, _⟩ := ((hA.low hb1).more hb1.size).get_ w1 (Below.refl _ _) 0 x rfl
  rw [Nat.zero_mul, Nat.add_zero] at x0 x1
  have hm0 : (0 : Int) < ((m + 1 : Nat) : Int) := by omega
  have hm1 : (((m + 1 : Nat) : Int) == 0) = false := by simp; omega
  obtain ⟨xk, xs, xn, xl, xa⟩ := x
  simp only [T.k, T.s] at x0 x1 hk2 hc0 heq ⊢
  subst hk2
  have hC := Lib.hid (takes_any xs)
  have hm3 : m ≤ 3 := by
    have hcb : cntL xs.toList ≤ 3 := by
      unfold cntL
      repeat' split
      all_goals omega
    omega
  generalize cntL xs.toList = cn at *
  have hcz : ((cn : Int) == 0) = false := by simp; omega
  have hn1 : ((m : Int) != (cn : Int)) = false := by simp; omega
  have HM := Lib.hid (fun t ht => hM t ht (hF t ht))
  have HEM := Lib.hid em
  have hmpos : 0 < m := by omega
  obtain ⟨Q, hQ⟩ : ∃ Q : E × Int × Int, Q = (if (readL ks).2.1 = 0 then (.mk 4 xs 0 (readL ks).1, 0, 0) else (zeroE, (readL ks).2.1, (readL ks).2.2)) := ⟨_, rfl⟩
  have HQ := Lib.hid hQ
  rw [← hQ]
  clear hA em ew1 hb1 hc0 heq hM hF hQ
  go_enter Try.func22, Try.ntmps22
  go_upto_region 1 with (fail)
  rw [← HW1.out]
  obtain ⟨d3, d4⟩ := HDD.out
  go_wp2_with fail
  refine (hC.out _).mono ?_
  rintro e w2 ⟨rfl, rfl⟩
  go_upto_region 12 with (fail)
  obtain ⟨⟨k0, k1, k2, k3⟩, f0, f1, f2, f3⟩ := cell4 hB.out
  go_quiet ((go_at_call 47; exact Calls.quiet_of_same ((hC.out _).mono fun e w' ⟨h1, h2⟩ => ⟨h1, h2.symm⟩)))
  generalize hwx : w1.drewN nq = wx at *
  have hbx : Below w1.heap.size w1 wx := by rw [← hwx]; exact below_drewN (Below.refl _ _) _
  have hsx : wx.heap.size = w.heap.size + 2 := by rw [← hwx]; exact hws
  have hbq : Below wx.heap.size wx (wx.alloc (.cells #[.int .i64 4, .string xs, .int .i64 0, .slice none 0 0] 35)) := (Below.refl _ _).alloc (Nat.le_refl _) _
  have hsq : (wx.alloc (.cells #[.int .i64 4, .string xs, .int .i64 0, .slice none 0 0] 35)).heap.size = w.heap.size + 3 := by simp; omega
  have HXQ : Hid ((wx.alloc (.cells #[.int .i64 4, .string xs, .int .i64 0, .slice none 0 0] 35)).heap[w.heap.size + 2]? = some (.cells #[.int .i64 4, .string xs, .int .i64 0, .slice none 0 0] 35 (0, 0))) := Lib.hid (by rw [← hsx]; exact heap_alloc_new wx _)
  have HRQ : Hid ((wx.alloc (.cells #[.int .i64 4, .string xs, .int .i64 0, .slice none 0 0] 35)).heap[w.heap.size + 1]? = some (.cells #[.int .i64 0, .string ⟨#[]⟩, .int .i64 0, .slice none 0 0] 35 (0, 0))) := Lib.hid ((hbq.block _ (by omega)).trans ((hbx.block _ (by omega)).trans hB.out))
  have HW1Q : Hid (Below w1.heap.size w1 (wx.alloc (.cells #[.int .i64 4, .string xs, .int .i64 0, .slice none 0 0] 35))) := Lib.hid (hbx.trans (hbq.mono (by omega)))
  have HBQ : Hid (Below w.heap.size w (wx.alloc (.cells #[.int .i64 4, .string xs, .int .i64 0, .slice none 0 0] 35))) := Lib.hid (HB1.out.trans (HW1Q.out.mono (by omega)))
  have x1 : wx.cell? ⟨b, o + 1, none⟩ = some (.string xs) := (hbx.cell (p := ⟨b, o + 1, none⟩) hlt).trans x1
  have dx3 : wx.cell? ⟨w.heap.size, 3, none⟩ = some (.slice (some ⟨b, o, none⟩) (m + 1) c) := (hbx.cell (p := ⟨w.heap.size, 3, none⟩) (show w.heap.size < _ by omega)).trans HDD.out.1
  have ZD : Hid ((wx.alloc (.cells #[.int .i64 4, .string xs, .int .i64 0, .slice none 0 0] 35)).cell? ⟨w.heap.size, 3, none⟩ = some (.slice (some ⟨b, o, none⟩) (m + 1) c)) := Lib.hid ((hbq.cell (p := ⟨w.heap.size, 3, none⟩) (show w.heap.size < _ by omega)).trans dx3)
  clear hwx hbx hbq x0 d3 d4 k0 k1 k2 k3 f0 f1 f2 f3
  have hcc : m + 1 ≤ c := hcap
  have hc1 : (1 : Int) ≤ ((m + 1 : Nat) : Int) := by omega
  go_upto_region 15 with (fail)
  generalize (wx.alloc (.cells #[.int .i64 4, .string xs, .int .i64 0, .slice none 0 0] 35)) = wq at *
  clear x1 dx3 hlt hsx
  go_wp2_with fail
  go_loopw [6] (fun i wr => ∃ (j : Nat) (ps : List EP) (v : Value), j ≤ m ∧ ps.length = j ∧ i = .int .i64 ((j + 1 : Nat) : Int) ∧ wr.heap[w.heap.size + 2]? = some (.cells #[.int .i64 4, .string xs, .int .i64 0, v] 35 (0, 0)) ∧
      wr.ownsRow wq.heap.size 35 4 v j (flatP ps) ∧ Hid (∀ p ∈ ps, XKids wr (fun k => wq.heap.size ≤ k ∧ k < wr.heap.size ∧ v.ownBlock ≠ some k) p.2.1 p.1.kids) ∧ Below (w.heap.size + 2) wq wr ∧
      Hid (readL ks = (ps.map Prod.fst ++ (readL (ks.drop j)).1, (readL (ks.drop j)).2.1, (readL (ks.drop j)).2.2))) (fun i _ => m + 1 - (intOf i).toNat)
  case atStart => exact ⟨0, [], .slice none 0 0, Nat.zero_le _, rfl, rfl, HXQ.out, World.ownsRow_nil _ _ _ _, Lib.hid (fun p hp => by cases hp), Below.refl _ _, Lib.hid rfl⟩
  case round =>
    obtain ⟨j, ps, v, hj, hpl, rfl, hbox, hown, hxk, hb, hzl⟩ := hrel
    have HO := Lib.hid hown
    have HB := Lib.hid hb
    have hs := hb.size
    have HPL := Lib.hid hpl
    have HBX := Lib.hid hbox
    have z3 : wr.cell? ⟨w.heap.size, 3, none⟩ = some (.slice (some ⟨b, o, none⟩) (m + 1) c) := (hb.cell (p := ⟨w.heap.size, 3, none⟩) (show w.heap.size < _ by omega)).trans ZD.out
    clear hown hpl
    by_cases hlt2 : j < m
    · obtain ⟨x, hx⟩ : ∃ x, ks[j]? = some x := ⟨_, List.getElem?_eq_getElem (by rw [← HEM.out]; exact hlt2)⟩
      have hbw1 : Below w1.heap.size w1 wr := HW1Q.out.trans (hb.mono (by omega))
      obtain ⟨b', o', A', c', hb', _, c1, c2, c3, c4, c5, hcx, hKx⟩ := HK.out.get_ wr hbw1 (j + 1) x (by simpa using hx)
      injection hb' with hb'
      injection hb' with hbb hoo
      subst hbb hoo
      have hMx := HM.out x (List.mem_of_getElem? hx)
      have hst : Hid (readL (ks.drop j) = if (readT x).2.1 = 0 then ((readT x).1 :: (readL (ks.drop (j + 1))).1, (readL (ks.drop (j + 1))).2.1, (readL (ks.drop (j + 1))).2.2) else ([], (readT x).2.1, (readT x).2.2)) := Lib.hid (by
        obtain ⟨g1, g2⟩ := List.getElem?_eq_some_iff.1 hx
        rw [List.drop_eq_getElem_cons g1, g2, readL])
      clear hx
      obtain ⟨tk, ts, tn, tl, ta⟩ := x
      simp only [T.k, T.s, T.n, T.kids, T.at_] at c1 c2 c3 c4 c5 hKx hcx
      have hcl := Lib.hid (hMx A' c' wr hcx hKx)
      have hlt3 : ((j + 1 : Nat) : Int) < ((m + 1 : Nat) : Int) := by omega
      simp only [T.val, T.k, T.s, T.n, T.kids, T.at_] at hcl
      generalize hq : readT (.mk tk ts tn tl ta) = tq at *
      generalize tl.length = tm at *
      obtain ⟨⟨ek, es, en, el⟩, wy, at2⟩ := tq
      simp only [E.val, E.k, E.s, E.n, E.kids] at hcl hst
      have HZL := hzl
      clear hKx hMx hbox hcx hq hzl hbw1
      go_wp2_with fail
      refine (hcl.out).mono ?_
      rintro e w3 ⟨⟨A3, c3', rfl, hX⟩, hb3⟩
      have hw3' : Below wr.heap.size wr w3 := hb3
      have hx3 : Below w3.heap.size w3 (w3.alloc (.cells #[.int .i64 ek, .string es, .int .i64 en, .slice A3 el.length c3'] 35)) := (Below.refl _ _).alloc (Nat.le_refl _) _
      have hw3 : Hid (Below wr.heap.size wr (w3.alloc (.cells #[.int .i64 ek, .string es, .int .i64 en, .slice A3 el.length c3'] 35))) := Lib.hid (hw3'.trans (hx3.mono hw3'.size))
      have hN3 : Hid ((w3.alloc (.cells #[.int .i64 ek, .string es, .int .i64 en, .slice A3 el.length c3'] 35)).heap[w3.heap.size]? = some (.cells #[.int .i64 ek, .string es, .int .i64 en, .slice A3 el.length c3'] 35 (0, 0))) := Lib.hid (heap_alloc_new w3 _)
      have hR3 : Hid ((w3.alloc (.cells #[.int .i64 ek, .string es, .int .i64 en, .slice A3 el.length c3'] 35)).heap[w.heap.size + 1]? = some (.cells #[.int .i64 0, .string ⟨#[]⟩, .int .i64 0, .slice none 0 0] 35 (0, 0))) := Lib.hid ((hw3.out.block _ (by omega)).trans ((HB.out.block _ (by omega)).trans HRQ.out))
      have hE3 : Hid ((w3.alloc (.cells #[.int .i64 ek, .string es, .int .i64 en, .slice A3 el.length c3'] 35)).heap[w.heap.size + 2]? = some (.cells #[.int .i64 4, .string xs, .int .i64 0, v] 35 (0, 0))) := Lib.hid ((hw3.out.block _ (by omega)).trans HBX.out)
      have hS3 : Hid ((w3.alloc (.cells #[.int .i64 ek, .string es, .int .i64 en, .slice A3 el.length c3'] 35)).heap.size = w3.heap.size + 1 ∧ wr.heap.size ≤ w3.heap.size) := Lib.hid ⟨by simp, hw3'.size⟩
      clear hw3' hx3
      have hs3 := hw3.out.size
      have HX3 := Lib.hid hX
      clear hX hb3
      by_cases hw0 : wy = 0
      · subst hw0
        obtain ⟨⟨k0, k1, k2, k3⟩, g0, g1, g2, g3⟩ := cell4 hE3.out
        obtain ⟨⟨n0, n1, n2, n3⟩, m0, m1, m2, m3⟩ := cell4 hN3.out
        have hrl : Hid (readL ks = ((ps ++ [((.mk ek es en el : E), A3, c3')]).map Prod.fst ++ (readL (ks.drop (j + 1))).1, (readL (ks.drop (j + 1))).2.1, (readL (ks.drop (j + 1))).2.2)) := Lib.hid (by
          rw [HZL.out, hst.out, if_pos rfl]; simp)
        have HO3 := Lib.hid (own_below HO.out hw3.out)
        clear hst HZL hs3
        obtain ⟨i0, hi, hz0, hz1, hz2⟩ := info_parts expr_info
        go_wp2_with (at_builtin; refine wpList_append_own_at _ rfl _ _ 33 rfl wq.heap.size 35 i0 _ 4 56 Try.underlying33 hi hz0 hz1 hz2 rfl (by decide) _ _ _ rfl (HO3.out.alloc _) ⟨w3.heap.size + 1, 0, none⟩ 1 1 (EP.cs ((.mk ek es en el : E), A3, c3')) rfl rfl ?c1 ?c2 ?c3 ?c4 ?c5 ?_)
        case c1 =>
          intro i u hu
          match i, hu with
          | 0, hu => simp [EP.cs, E.k] at hu; subst hu; simp [Addr.add]
          | 1, hu => simp [EP.cs, E.s] at hu; subst hu; simp [Addr.add]
          | 2, hu => simp [EP.cs, E.n] at hu; subst hu; simp [Addr.add]
          | 3, hu => simp [EP.cs, E.kids] at hu; subst hu; simp [Addr.add]
        case c2 => rw [← flatP_one]; exact flatP_ones _
        case c3 => unfold maxLen; omega
        case c4 => omega
        case c5 => simp; have := hS3.out.2; omega
        intro v' w5 hown' hgrow _ hat
        have hgrow5 : Hid ((w3.alloc (.cells #[.int .i64 ek, .string es, .int .i64 en, .slice A3 el.length c3'] 35)).grownBy w5 v.ownBlock) := Lib.hid ((World.grownBy_alloc _ _ _).trans hgrow)
        have hat5 : Hid (v'.ownBlock = v.ownBlock ∨ ∃ n, v'.ownBlock = some n ∧ w3.heap.size ≤ n) := Lib.hid (hat.imp_right fun h => ⟨_, h, by first | omega | (simp; omega)⟩)
        obtain ⟨g', cap', rfl, hg1, hg2⟩ := hown'.form (by omega)
        have HO5 : Hid (w5.ownsRow wq.heap.size 35 4 (.slice (some ⟨g', 0, none⟩) (j + 1) cap') (j + 1) (flatP (ps ++ [((.mk ek es en el : E), A3, c3')]))) := Lib.hid (by rw [flatP_append, flatP_one, hsq]; exact hown')
        clear hown' hgrow hat k0 k1 k2 k3 g0 g1 g2 g3 n0 n1 n2 n3 m0 m1 m2 m3
        have hE5 : Hid (w5.heap[w.heap.size + 2]? = some (.cells #[.int .i64 4, .string xs, .int .i64 0, v] 35 (0, 0))) := Lib.hid ((hgrow5.out.block _ (by have := hS3.out; omega) (fun e => by have := (HO.out.lt _ e.symm).1; omega)).trans hE3.out)
        obtain ⟨⟨k0, k1, k2, k3⟩, g0, g1, g2, g3⟩ := cell4 hE5.out
        go_wp2_with fail
        go_roundw
        case rel =>
          refine ⟨_, _, _, _, _, _, _, _, _, _, _, _, _, _, _, _, _, _, _, _, _, _, _, _, _, _, _, _, _, _, _, _, _, _, ?_, rfl⟩
          have hs5 := hgrow5.out.size
          have hs3a := hS3.out.1
          have hs3b := hS3.out.2
          have hother : ∀ k, k ≠ w.heap.size + 2 → k < w3.heap.size + 1 → v.ownBlock ≠ some k → (w5.setCell ⟨w.heap.size + 2, 3, none⟩ (.slice (some ⟨g', 0, none⟩) (j + 1) cap')).heap[k]? = (w3.alloc (.cells #[.int .i64 ek, .string es, .int .i64 en, .slice A3 el.length c3'] 35)).heap[k]? := fun k h1 h2 h3 =>
            (Below.heap_setCell w5 ⟨w.heap.size + 2, 3, none⟩ _ k h1).trans (hgrow5.out.block k (by omega) fun e => h3 e.symm)
          refine ⟨j + 1, ps ++ [((.mk ek es en el : E), A3, c3')], .slice (some ⟨g', 0, none⟩) (j + 1) cap', by omega, by rw [List.length_append, HPL.out]; rfl, by go_num, set4c (k := 3) hE5.out, own_set HO5.out _ (by show w.heap.size + 2 < wq.heap.size; omega), Lib.hid ?_, ?_, hrl⟩
          · refine xk_round hxk.out HX3.out hs (fun k h1 h2 h3 => (hother k (by omega) (by omega) h3).trans (hw3.out.block k h2)) (fun k h1 h2 => (hother k (by omega) (by omega) fun e => by have := (HO.out.lt _ e).2; omega).trans (heap_alloc_old _ _ h2)) hs3b ?_ (fun k e => (HO.out.lt _ e).2) hat5.out
            simp only [World.setCell, Array.size_modify]
            omega
          · exact ((HB.out.trans (hw3.out.mono (by omega))).grown hgrow5.out (by omega) (fun g hg => by have := (HO.out.lt g hg).1; omega)).setCell (p := ⟨w.heap.size + 2, 3, none⟩) (Nat.le_refl _) _
        case measure => simp [intOf]; omega
      · have hy : (wy != 0) = true := by simpa using hw0
        have hy' : (wy == 0) = false := by simpa using hw0
        have h1 : (readL ks).2 = (wy, at2) := by rw [HZL.out, hst.out, if_neg hw0]
        have hq : Hid (Q = (zeroE, wy, at2)) := Lib.hid (by rw [HQ.out, h1, if_neg hw0])
        obtain ⟨⟨q0, q1, q2, q3⟩, f0, f1, f2, f3⟩ := cell4 hR3.out
        clear h1 hst hs3 HZL
        go_wp2_with fail
        refine bodyPost_ret (results_three rfl rfl rfl rfl (put4_block hR3.out)) rfl ?_
        refine ⟨⟨none, 0, by rw [hq.out]; rfl, by rw [hq.out]; exact .nil _⟩, put4_below (HBQ.out.trans ((HB.out.mono (by omega)).trans (hw3.out.mono (by omega)))) (Nat.le_succ _)⟩
    · obtain rfl : j = m := by omega
      obtain ⟨k0, k1, k2, k3⟩ := (cell4 HBX.out).1
      have hd : ks.drop j = [] := List.drop_eq_nil_of_le (by rw [← HEM.out]; exact Nat.le_refl _)
      have h1 : readL ks = (ps.map Prod.fst, 0, 0) := by rw [hzl.out, hd]; simp [readL]
      have hq : Hid (Q = (.mk 4 xs 0 (ps.map Prod.fst), 0, 0)) := Lib.hid (by rw [HQ.out, h1, if_pos rfl])
      have hO2 : wr.ownsRow wq.heap.size 35 4 v ps.length (flatP ps) := by rw [HPL.out]; exact HO.out
      have hlj : ps.length ≤ 9223372036854775807 := by rw [HPL.out]; omega
      obtain ⟨A9, c9, rfl, hX9⟩ := own_exprs hO2 hlj (S := fun k => wq.heap.size ≤ k ∧ k < wr.heap.size) (fun g u1 u2 => ⟨u1, u2⟩) (fun p hp => (hxk.out p hp).mono (fun k hk => ⟨hk.1, hk.2.1⟩))
      have HX9 := Lib.hid hX9
      have hB9 : Hid (wr.heap[w.heap.size + 1]? = some (.cells #[.int .i64 0, .string ⟨#[]⟩, .int .i64 0, .slice none 0 0] 35 (0, 0))) := Lib.hid ((HB.out.block _ (by omega)).trans HRQ.out)
      obtain ⟨⟨q0, q1, q2, q3⟩, f0, f1, f2, f3⟩ := cell4 hB9.out
      clear hd h1 hO2 hlj hX9 hxk hzl
      go_wp2_with fail
      refine bodyPost_ret (results_three rfl rfl rfl rfl (put4_block hB9.out)) rfl ?_
      have hsz := HB.out.size
      refine ⟨⟨A9, c9, by rw [hq.out]; simp [E.val, E.k, E.s, E.n, E.kids], ?_⟩, put4_below (HBQ.out.trans (HB.out.mono (by omega))) (Nat.le_succ _)⟩
      rw [hq.out]
      exact (HX9.out.kept (fun k hk => put4_other (by have := hk.1; omega))).mono (fun k hk => ⟨by have := hk.1; omega, Nat.lt_of_lt_of_eq hk.2 put4_size.symm⟩)
theorem refRead_open (s : ByteArray) (n : Int) (l : List T) (a : Int) (hM : ∀ t ∈ l, RefReadExp t) : RefReadExp (.mk 1 s n l a) := by
  intro hfine A c w hcap hA
  obtain ⟨_, _, _, _, _, _, _, _, hF⟩ := hfine
  have hr := readT_one s n l a
  simp only [T.val, T.k, T.s, T.n, T.kids, T.at_] at hcap hA ⊢
  show Calls _ _ _ _ (ApplyEnd (readT (.mk 1 s n l a)) w)
  match l with
  | [] => rw [hr]; exact refRead_bad s n [] a (.inl rfl) A c w hA
  | x :: ks =>
    simp only at hr
    by_cases h1 : x.k = 2 ∧ cntL x.s.toList ≠ 0
    · rw [if_pos h1] at hr
      by_cases h2 : ks.length = cntL x.s.toList
      · rw [if_pos h2] at hr
        rw [hr]
        exact refRead_main s n x ks a h1.1 h1.2 h2 (fun t ht => hM t (List.mem_cons_of_mem _ ht)) (fun t ht => hF t (List.mem_cons_of_mem _ ht)) A c w hcap hA
      · rw [if_neg h2] at hr
        rw [hr]
        exact refRead_count s n x ks a h1.1 h1.2 h2 A c w hA
    · rw [if_neg h1] at hr
      rw [hr]
      exact refRead_bad s n (x :: ks) a (.inr ⟨x, ks, rfl, by
        by_cases h3 : x.k = 2
        · exact .inr (Decidable.byContradiction fun h4 => h1 ⟨h3, h4⟩)
        · exact .inl h3⟩) A c w hA
/-- the reference's Read of any tree -/
theorem refRead_any : ∀ t, RefReadExp t := T.ind fun k s n l a ih => by
  by_cases hk : k = 1
  · subst hk
    exact refRead_open s n l a ih
  · exact refRead_leaf k s n l a hk
end Go.Proofs.Ytldleckgkgeclaa
