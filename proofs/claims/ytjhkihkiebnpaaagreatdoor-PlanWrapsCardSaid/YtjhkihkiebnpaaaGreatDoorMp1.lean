/-
  Package expr's apply: the refusals.
-/
import Derived.Test.YtjhkihkiebnpaaaGreatDoorMp0
import Derived.BigQuiet
import Derived.Maps.AppendAt
import Derived.Deep.AppendLies
import Derived.Deep.RegionLaw
import Derived.Deep.RegionHeld
import Derived.WalkKit
import Derived.WalkSpells
import Derived.Lib.Hide
import Derived.Below
import Derived.Laws.OwnMore
import Derived.Laws.Rows
import Derived.Deep.Draws
import Derived.RegionTactic
import Derived.OwnWalk
import Derived.Lib.ParseIntB
import Derived.Lib.Bytealg
import Derived.Laws.IdiomStrings
import Derived.Laws.BytesArg
import Derived.Lib.AppendIntMem
import Derived.Lib.ItoaLen
import Derived.StillTailTactics
import Derived.Deep.DeepCutAuto
import Derived.Lib.Join
import Derived.Lib.ParseIntBCases
import Derived.Lib.ItoaNum
import Derived.Lib.ParseIntBTie
set_option linter.unusedVariables false
set_option linter.unusedSimpArgs false
namespace Go.Proofs.YtjhkihkiebnpaaaGreatDoor
open Go.RowKit
/-- what apply gives -/
def ApplyEnd (q : E × Int × Int) (w : World) (r : Ending) (w' : World) : Prop := (∃ A' c', r = .returned (.tuple #[q.1.val A' c', .int .i64 q.2.1, .int .i64 q.2.2]) ∧ XKids w' (fun k => w.heap.size ≤ k ∧ k < w'.heap.size) A' q.1.kids) ∧ Below w.heap.size w w'
set_option maxRecDepth 100000 in
set_option maxHeartbeats 1000000 in
theorem apply_bad (s : ByteArray) (n : Int) (l : List T) (a : Int) (hbad : l = [] ∨ ∃ x ks, l = x :: ks ∧ (x.k ≠ 2 ∨ cntL x.s.toList = 0)) (A : Option Addr) (c : Nat) (w : World) (hA : TKids w w.heap.size A l) :
    Calls Tryz.prog 141 #[.agg #[.int .i64 1, .string s, .int .i64 n, .slice A l.length c, .int .i64 a]] w (ApplyEnd (zeroE, 12, a) w) := by
  obtain ⟨w1, ew1⟩ : ∃ w1, w1 = (w.alloc (.cells #[.int .i64 1, .string s, .int .i64 n, .slice A l.length c, .int .i64 a] 71)).alloc (.cells #[.int .i64 0, .string ⟨#[]⟩, .int .i64 0, .slice none 0 0] 38) := ⟨_, rfl⟩
  have hb1 : Below w.heap.size w w1 := by rw [ew1]; exact ((Below.refl _ _).alloc (Nat.le_refl _) _).alloc (by simp) _
  have HB1 := Lib.hid hb1
  have hB : Hid (w1.heap[w.heap.size + 1]? = some (.cells #[.int .i64 0, .string ⟨#[]⟩, .int .i64 0, .slice none 0 0] 38 (0, 0))) := Lib.hid (by
    rw [ew1]
    have := heap_alloc_new (w.alloc (.cells #[.int .i64 1, .string s, .int .i64 n, .slice A l.length c, .int .i64 a] 71)) (.cells #[.int .i64 0, .string ⟨#[]⟩, .int .i64 0, .slice none 0 0] 38)
    simpa using this)
  have HDD : Hid (w1.cell? ⟨w.heap.size, 3, none⟩ = some (.slice A l.length c) ∧ w1.cell? ⟨w.heap.size, 4, none⟩ = some (.int .i64 a)) := Lib.hid (by rw [ew1]; simp)
  have HW1 := Lib.hid ew1
  have HA := Lib.hid ((hA.low hb1).more hb1.size)
  clear ew1 hb1 hA
  rcases hbad with rfl | ⟨x, ks, rfl, hx⟩
  · simp only [List.length_nil] at HDD HW1 ⊢
    go_enter Tryz.func141, Tryz.ntmps141
    go_upto_region 1 with (fail)
    rw [← HW1.out]
    obtain ⟨⟨k0, k1, k2, k3⟩, f0, f1, f2, f3⟩ := cell4 hB.out
    obtain ⟨d3, d4⟩ := HDD.out
    go_wp2_with fail
    go_region
    go_wp2_with fail
    refine bodyPost_ret (results_three rfl rfl rfl rfl (show ((put4 w1 (w.heap.size + 1) _ _ _ _).drew).heap[w.heap.size + 1]? = _ from put4_block hB.out)) rfl ?_
    exact ⟨⟨none, 0, rfl, .nil _⟩, (put4_below HB1.out (Nat.le_succ _)).drew⟩
  · obtain ⟨b, o, A', c', rfl, hlt, x0, x1, _, _, _, _, _⟩ := HA.out.get_ w1 (Below.refl _ _) 0 x rfl
    rw [Nat.zero_mul, Nat.add_zero] at x0 x1
    have hlen : (x :: ks).length ≤ 9223372036854775807 := HA.out.len
    obtain ⟨m, em⟩ : ∃ m, m = ks.length := ⟨_, rfl⟩
    simp only [List.length_cons, ← em] at HDD HW1 hlen ⊢
    have hm0 : (0 : Int) < ((m + 1 : Nat) : Int) := by omega
    have hm1 : (((m + 1 : Nat) : Int) == 0) = false := by simp; omega
    obtain ⟨xk, xs, xn, xl, xa⟩ := x
    simp only [T.k, T.s] at x0 x1 hx
    have hC := Lib.hid (count_any xs w1)
    clear HA em
    by_cases hk : xk = 2
    · subst hk
      have hc0 : cntL xs.toList = 0 := by
        rcases hx with hx | hx
        · exact absurd rfl hx
        · exact hx
      rw [hc0] at hC
      clear hx hc0
      go_enter Tryz.func141, Tryz.ntmps141
      go_upto_region 1 with (fail)
      rw [← HW1.out]
      obtain ⟨⟨k0, k1, k2, k3⟩, f0, f1, f2, f3⟩ := cell4 hB.out
      obtain ⟨d3, d4⟩ := HDD.out
      go_wp2_with fail
      refine hC.out.mono ?_
      rintro e w2 ⟨rfl, rfl⟩
      go_wp2_with fail
      go_region
      go_wp2_with fail
      refine bodyPost_ret (results_three rfl rfl rfl rfl (show ((put4 w1 (w.heap.size + 1) _ _ _ _).drew).heap[w.heap.size + 1]? = _ from put4_block hB.out)) rfl ?_
      exact ⟨⟨none, 0, rfl, .nil _⟩, (put4_below HB1.out (Nat.le_succ _)).drew⟩
    · have hk' : (xk != 2) = true := by simpa using hk
      clear hx hC
      go_enter Tryz.func141, Tryz.ntmps141
      go_upto_region 1 with (fail)
      rw [← HW1.out]
      obtain ⟨⟨k0, k1, k2, k3⟩, f0, f1, f2, f3⟩ := cell4 hB.out
      obtain ⟨d3, d4⟩ := HDD.out
      go_wp2_with fail
      go_region
      go_wp2_with fail
      refine bodyPost_ret (results_three rfl rfl rfl rfl (show ((put4 w1 (w.heap.size + 1) _ _ _ _).drew).heap[w.heap.size + 1]? = _ from put4_block hB.out)) rfl ?_
      exact ⟨⟨none, 0, rfl, .nil _⟩, (put4_below HB1.out (Nat.le_succ _)).drew⟩
end Go.Proofs.YtjhkihkiebnpaaaGreatDoor
/-
  Package expr's apply: another number of kids.
-/
namespace Go.Proofs.YtjhkihkiebnpaaaGreatDoor
open Go.RowKit
set_option maxRecDepth 100000 in
set_option maxHeartbeats 1000000 in
theorem apply_count (s : ByteArray) (n : Int) (x : T) (ks : List T) (a : Int) (hk2 : x.k = 2) (hc0 : cntL x.s.toList ≠ 0) (hne : ks.length ≠ cntL x.s.toList) (A : Option Addr) (c : Nat) (w : World) (hA : TKids w w.heap.size A (x :: ks)) :
    Calls Tryz.prog 141 #[.agg #[.int .i64 1, .string s, .int .i64 n, .slice A (x :: ks).length c, .int .i64 a]] w (ApplyEnd (zeroE, 23, a) w) := by
  obtain ⟨m, em⟩ : ∃ m, m = ks.length := ⟨_, rfl⟩
  have hlen : (x :: ks).length ≤ 9223372036854775807 := hA.len
  rw [← em] at hne
  simp only [List.length_cons, ← em] at hlen ⊢
  obtain ⟨w1, ew1⟩ : ∃ w1, w1 = (w.alloc (.cells #[.int .i64 1, .string s, .int .i64 n, .slice A (m + 1) c, .int .i64 a] 71)).alloc (.cells #[.int .i64 0, .string ⟨#[]⟩, .int .i64 0, .slice none 0 0] 38) := ⟨_, rfl⟩
  have hb1 : Below w.heap.size w w1 := by rw [ew1]; exact ((Below.refl _ _).alloc (Nat.le_refl _) _).alloc (by simp) _
  have hws : w1.heap.size = w.heap.size + 2 := by rw [ew1]; simp
  have HB1 := Lib.hid hb1
  have hB : Hid (w1.heap[w.heap.size + 1]? = some (.cells #[.int .i64 0, .string ⟨#[]⟩, .int .i64 0, .slice none 0 0] 38 (0, 0))) := Lib.hid (by
    rw [ew1]
    have := heap_alloc_new (w.alloc (.cells #[.int .i64 1, .string s, .int .i64 n, .slice A (m + 1) c, .int .i64 a] 71)) (.cells #[.int .i64 0, .string ⟨#[]⟩, .int .i64 0, .slice none 0 0] 38)
    simpa using this)
  have HDD : Hid (w1.cell? ⟨w.heap.size, 3, none⟩ = some (.slice A (m + 1) c) ∧ w1.cell? ⟨w.heap.size, 4, none⟩ = some (.int .i64 a)) := Lib.hid (by rw [ew1]; simp)
  have HW1 := Lib.hid ew1
  obtain ⟨b, o, A', c', rfl, hlt, x0, x1, _, _, _, _, _⟩ := ((hA.low hb1).more hb1.size).get_ w1 (Below.refl _ _) 0 x rfl
  rw [Nat.zero_mul, Nat.add_zero] at x0 x1
  have hm0 : (0 : Int) < ((m + 1 : Nat) : Int) := by omega
  have hm1 : (((m + 1 : Nat) : Int) == 0) = false := by simp; omega
  obtain ⟨xk, xs, xn, xl, xa⟩ := x
  simp only [T.k, T.s] at x0 x1 hk2 hc0 hne
  subst hk2
  have hC := Lib.hid (count_any xs)
  generalize cntL xs.toList = cn at *
  have hcz : ((cn : Int) == 0) = false := by simp; omega
  have hn1 : ((m : Int) != (cn : Int)) = true := by simp; omega
  clear hA em ew1 hb1 hc0 hne
  -- the box of what is read
  have hb2 : Below w1.heap.size w1 (w1.alloc (.cells #[.int .i64 4, .string xs, .int .i64 0, .slice none 0 0] 38)) := (Below.refl _ _).alloc (Nat.le_refl _) _
  have hB2 : Hid ((w1.alloc (.cells #[.int .i64 4, .string xs, .int .i64 0, .slice none 0 0] 38)).heap[w.heap.size + 1]? = some (.cells #[.int .i64 0, .string ⟨#[]⟩, .int .i64 0, .slice none 0 0] 38 (0, 0))) := Lib.hid ((hb2.block _ (by omega)).trans hB.out)
  have HD2 : Hid ((w1.alloc (.cells #[.int .i64 4, .string xs, .int .i64 0, .slice none 0 0] 38)).cell? ⟨w.heap.size, 3, none⟩ = some (.slice (some ⟨b, o, none⟩) (m + 1) c) ∧ (w1.alloc (.cells #[.int .i64 4, .string xs, .int .i64 0, .slice none 0 0] 38)).cell? ⟨w.heap.size, 4, none⟩ = some (.int .i64 a)) :=
    Lib.hid ⟨(hb2.cell (p := ⟨w.heap.size, 3, none⟩) (show w.heap.size < _ by omega)).trans HDD.out.1, (hb2.cell (p := ⟨w.heap.size, 4, none⟩) (show w.heap.size < _ by omega)).trans HDD.out.2⟩
  have HE2 : Hid ((w1.alloc (.cells #[.int .i64 4, .string xs, .int .i64 0, .slice none 0 0] 38)).cell? ⟨w.heap.size + 2, 1, none⟩ = some (.string xs)) := Lib.hid (by rw [← hws]; simp)
  have HB2 := Lib.hid (HB1.out.trans (hb2.mono (by omega)))
  clear hb2
  go_enter Tryz.func141, Tryz.ntmps141
  go_upto_region 1 with (fail)
  rw [← HW1.out]
  obtain ⟨d3, d4⟩ := HDD.out
  go_wp2_with fail
  refine (hC.out _).mono ?_
  rintro e w2 ⟨rfl, rfl⟩
  go_upto_region 4 with (fail)
  generalize (w1.alloc (.cells #[.int .i64 4, .string xs, .int .i64 0, .slice none 0 0] 38)) = w2 at *
  obtain ⟨y3, y4⟩ := HD2.out
  have y1 := HE2.out
  obtain ⟨⟨k0, k1, k2, k3⟩, f0, f1, f2, f3⟩ := cell4 hB2.out
  clear x0 x1 hlt d3 d4
  go_quiet ((go_at_call 131; exact Calls.quiet_of_same ((hC.out _).mono fun e w' ⟨h1, h2⟩ => ⟨h1, h2.symm⟩)))
  go_wp2_with fail
  go_region
  go_wp2_with fail
  refine bodyPost_ret (results_three rfl rfl rfl rfl (show (put4 (w2.drewN _) (w.heap.size + 1) _ _ _ _).heap[w.heap.size + 1]? = _ from put4_block (show (w2.drewN _).heap[w.heap.size + 1]? = _ from hB2.out))) rfl ?_
  exact ⟨⟨none, 0, rfl, .nil _⟩, put4_below (below_drewN HB2.out _) (Nat.le_succ _)⟩
end Go.Proofs.YtjhkihkiebnpaaaGreatDoor
/-
  Package expr's apply: the kids are read.
-/
namespace Go.Proofs.YtjhkihkiebnpaaaGreatDoor
open Go.RowKit
theorem expr_info : (Tryz.prog.info? 38).map (fun i => (i.zero, i.size, i.bytes)) = some (some (.agg #[.int .i64 0, .string ByteArray.empty, .int .i64 0, .slice none 0 0]), 4, 56) := by kernel_rfl
theorem put4_other {w : World} {p k : Nat} {x0 x1 x2 x3 : Value} (h : k ≠ p) : (put4 w p x0 x1 x2 x3).heap[k]? = w.heap[k]? := by
  simp only [put4, World.setCell, Array.getElem?_modify]
  rw [if_neg (by omega), if_neg (by omega), if_neg (by omega), if_neg (by omega)]
theorem put4_size {w : World} {p : Nat} {x0 x1 x2 x3 : Value} : (put4 w p x0 x1 x2 x3).heap.size = w.heap.size := by simp [put4, World.setCell]
theorem own_set {w : World} {B n : Nat} {e : TypeId} {z : Nat} {v : Value} {xs : List Value} (h : w.ownsRow B e z v n xs) {p : Addr} (u : Value) (hp : p.block < B) : (w.setCell p u).ownsRow B e z v n xs := by
  obtain ⟨h1, h2⟩ := h
  refine ⟨h1, ?_⟩
  rcases h2 with h2 | ⟨g, cap, cur, e1, hb, hg, r⟩
  · exact .inl h2
  · exact .inr ⟨g, cap, cur, e1, hb, (Below.heap_setCell w p u g (by omega)).trans hg, r⟩
theorem xk_round {wr w3 w6 : World} {v v' : Value} {base : Nat} {ps : List EP} {x : EP}
    (hxk : ∀ p ∈ ps, XKids wr (fun k => base ≤ k ∧ k < wr.heap.size ∧ v.ownBlock ≠ some k) p.2.1 p.1.kids)
    (hx : XKids w3 (fun k => wr.heap.size ≤ k ∧ k < w3.heap.size) x.2.1 x.1.kids) (hbase : base ≤ wr.heap.size)
    (h1 : ∀ k, base ≤ k → k < wr.heap.size → v.ownBlock ≠ some k → w6.heap[k]? = wr.heap[k]?) (h2 : ∀ k, wr.heap.size ≤ k → k < w3.heap.size → w6.heap[k]? = w3.heap[k]?)
    (hs : wr.heap.size ≤ w3.heap.size) (hs6 : w3.heap.size ≤ w6.heap.size) (hv1 : ∀ k, v.ownBlock = some k → k < wr.heap.size) (hv : v'.ownBlock = v.ownBlock ∨ ∃ n, v'.ownBlock = some n ∧ w3.heap.size ≤ n) :
    ∀ p ∈ ps ++ [x], XKids w6 (fun k => base ≤ k ∧ k < w6.heap.size ∧ v'.ownBlock ≠ some k) p.2.1 p.1.kids := by
  intro p hp
  rcases List.mem_append.1 hp with hp | hp
  · refine ((hxk p hp).kept fun k hk => h1 k hk.1 hk.2.1 hk.2.2).mono fun k hk => ⟨hk.1, by have := hk.2.1; omega, ?_⟩
    rcases hv with hv | ⟨n, hv, hn⟩
    · rw [hv]; exact hk.2.2
    · rw [hv]; intro e; have := Option.some.inj e; have := hk.2.1; omega
  · obtain rfl : p = x := by simpa using hp
    refine (hx.kept fun k hk => h2 k hk.1 hk.2).mono fun k hk => ⟨by have := hk.1; omega, by have := hk.2; omega, ?_⟩
    rcases hv with hv | ⟨n, hv, hn⟩
    · rw [hv]; intro e; have := hv1 k e; have := hk.1; omega
    · rw [hv]; intro e; have := Option.some.inj e; have := hk.2; omega
set_option maxRecDepth 100000 in
set_option maxHeartbeats 1000000 in
theorem apply_main (s : ByteArray) (n : Int) (x : T) (ks : List T) (a : Int) (hk2 : x.k = 2) (hc0 : cntL x.s.toList ≠ 0) (heq : ks.length = cntL x.s.toList) (hM : ∀ t ∈ ks, ReadExp t) (A : Option Addr) (c : Nat) (w : World) (hcap : (x :: ks).length ≤ c) (hA : TKids w w.heap.size A (x :: ks)) :
    Calls Tryz.prog 141 #[.agg #[.int .i64 1, .string s, .int .i64 n, .slice A (x :: ks).length c, .int .i64 a]] w (ApplyEnd (if (readL ks).2.1 = 0 then (.mk 4 x.s 0 (readL ks).1, 0, 0) else (zeroE, (readL ks).2.1, (readL ks).2.2)) w) := by
  obtain ⟨m, em⟩ : ∃ m, m = ks.length := ⟨_, rfl⟩
  have hlen : (x :: ks).length ≤ 9223372036854775807 := hA.len
  rw [← em] at heq
  simp only [List.length_cons, ← em] at hlen hcap ⊢
  obtain ⟨w1, ew1⟩ : ∃ w1, w1 = (w.alloc (.cells #[.int .i64 1, .string s, .int .i64 n, .slice A (m + 1) c, .int .i64 a] 71)).alloc (.cells #[.int .i64 0, .string ⟨#[]⟩, .int .i64 0, .slice none 0 0] 38) := ⟨_, rfl⟩
  have hb1 : Below w.heap.size w w1 := by rw [ew1]; exact ((Below.refl _ _).alloc (Nat.le_refl _) _).alloc (by simp) _
  have hws : w1.heap.size = w.heap.size + 2 := by rw [ew1]; simp
  have HB1 := Lib.hid hb1
  have hB : Hid (w1.heap[w.heap.size + 1]? = some (.cells #[.int .i64 0, .string ⟨#[]⟩, .int .i64 0, .slice none 0 0] 38 (0, 0))) := Lib.hid (by
    rw [ew1]
    have := heap_alloc_new (w.alloc (.cells #[.int .i64 1, .string s, .int .i64 n, .slice A (m + 1) c, .int .i64 a] 71)) (.cells #[.int .i64 0, .string ⟨#[]⟩, .int .i64 0, .slice none 0 0] 38)
    simpa using this)
  have HDD : Hid (w1.cell? ⟨w.heap.size, 3, none⟩ = some (.slice A (m + 1) c) ∧ w1.cell? ⟨w.heap.size, 4, none⟩ = some (.int .i64 a)) := Lib.hid (by rw [ew1]; simp)
  have HW1 := Lib.hid ew1
  have HK := Lib.hid ((hA.low hb1).more hb1.size)
  obtain ⟨b, o, A', c', rfl, hlt, x0, x1, _, _, _, _, _⟩ := ((hA.low hb1).more hb1.size).get_ w1 (Below.refl _ _) 0 x rfl
  rw [Nat.zero_mul, Nat.add_zero] at x0 x1
  have hm0 : (0 : Int) < ((m + 1 : Nat) : Int) := by omega
  have hm1 : (((m + 1 : Nat) : Int) == 0) = false := by simp; omega
  obtain ⟨xk, xs, xn, xl, xa⟩ := x
  simp only [T.k, T.s] at x0 x1 hk2 hc0 heq ⊢
  subst hk2
  have hC := Lib.hid (count_any xs)
  have hm3 : m ≤ 3 := by
    have hcb : cntL xs.toList ≤ 3 := by
      unfold cntL
      repeat' split
      all_goals omega
    omega
  generalize cntL xs.toList = cn at *
  have hcz : ((cn : Int) == 0) = false := by simp; omega
  have hn1 : ((m : Int) != (cn : Int)) = false := by simp; omega
  have HM := Lib.hid hM
  have HEM := Lib.hid em
  have hmpos : 0 < m := by omega
  obtain ⟨Q, hQ⟩ : ∃ Q : E × Int × Int, Q = (if (readL ks).2.1 = 0 then (.mk 4 xs 0 (readL ks).1, 0, 0) else (zeroE, (readL ks).2.1, (readL ks).2.2)) := ⟨_, rfl⟩
  have HQ := Lib.hid hQ
  rw [← hQ]
  clear hA em ew1 hb1 hc0 heq hM hQ
  -- the box of what is read
  have hb2 : Below w1.heap.size w1 (w1.alloc (.cells #[.int .i64 4, .string xs, .int .i64 0, .slice none 0 0] 38)) := (Below.refl _ _).alloc (Nat.le_refl _) _
  have hB2 : Hid ((w1.alloc (.cells #[.int .i64 4, .string xs, .int .i64 0, .slice none 0 0] 38)).heap[w.heap.size + 1]? = some (.cells #[.int .i64 0, .string ⟨#[]⟩, .int .i64 0, .slice none 0 0] 38 (0, 0))) := Lib.hid ((hb2.block _ (by omega)).trans hB.out)
  have HD2 : Hid ((w1.alloc (.cells #[.int .i64 4, .string xs, .int .i64 0, .slice none 0 0] 38)).cell? ⟨w.heap.size, 3, none⟩ = some (.slice (some ⟨b, o, none⟩) (m + 1) c) ∧ (w1.alloc (.cells #[.int .i64 4, .string xs, .int .i64 0, .slice none 0 0] 38)).cell? ⟨w.heap.size, 4, none⟩ = some (.int .i64 a)) :=
    Lib.hid ⟨(hb2.cell (p := ⟨w.heap.size, 3, none⟩) (show w.heap.size < _ by omega)).trans HDD.out.1, (hb2.cell (p := ⟨w.heap.size, 4, none⟩) (show w.heap.size < _ by omega)).trans HDD.out.2⟩
  have HE2 : Hid ((w1.alloc (.cells #[.int .i64 4, .string xs, .int .i64 0, .slice none 0 0] 38)).cell? ⟨w.heap.size + 2, 1, none⟩ = some (.string xs)) := Lib.hid (by rw [← hws]; simp)
  have HB2 := Lib.hid (HB1.out.trans (hb2.mono (by omega)))
  have HX2 : Hid ((w1.alloc (.cells #[.int .i64 4, .string xs, .int .i64 0, .slice none 0 0] 38)).heap[w.heap.size + 2]? = some (.cells #[.int .i64 4, .string xs, .int .i64 0, .slice none 0 0] 38 (0, 0))) := Lib.hid (by rw [← hws]; exact heap_alloc_new w1 _)
  have HS2 : Hid ((w1.alloc (.cells #[.int .i64 4, .string xs, .int .i64 0, .slice none 0 0] 38)).heap.size = w.heap.size + 3) := Lib.hid (by simp; omega)
  have HW12 := Lib.hid hb2
  clear hb2
  go_enter Tryz.func141, Tryz.ntmps141
  go_upto_region 1 with (fail)
  rw [← HW1.out]
  obtain ⟨d3, d4⟩ := HDD.out
  go_wp2_with fail
  refine (hC.out _).mono ?_
  rintro e w2 ⟨rfl, rfl⟩
  go_upto_region 4 with (fail)
  generalize (w1.alloc (.cells #[.int .i64 4, .string xs, .int .i64 0, .slice none 0 0] 38)) = w2 at *
  obtain ⟨y3, y4⟩ := HD2.out
  have y1 := HE2.out
  obtain ⟨⟨k0, k1, k2, k3⟩, f0, f1, f2, f3⟩ := cell4 hB2.out
  clear x0 x1 hlt d3 d4
  go_quiet ((go_at_call 131; exact Calls.quiet_of_same ((hC.out _).mono fun e w' ⟨h1, h2⟩ => ⟨h1, h2.symm⟩)))
  generalize hwq : w2.drewN nq = wq at *
  have hsq : wq.heap.size = w.heap.size + 3 := by rw [← hwq]; exact HS2.out
  have HXQ : Hid (wq.heap[w.heap.size + 2]? = some (.cells #[.int .i64 4, .string xs, .int .i64 0, .slice none 0 0] 38 (0, 0))) := Lib.hid (by rw [← hwq]; exact HX2.out)
  have HRQ : Hid (wq.heap[w.heap.size + 1]? = some (.cells #[.int .i64 0, .string ⟨#[]⟩, .int .i64 0, .slice none 0 0] 38 (0, 0))) := Lib.hid (by rw [← hwq]; exact hB2.out)
  have HBQ : Hid (Below w.heap.size w wq) := Lib.hid (by rw [← hwq]; exact below_drewN HB2.out _)
  have HW1Q : Hid (Below w1.heap.size w1 wq) := Lib.hid (by rw [← hwq]; exact below_drewN HW12.out _)
  have z3 : wq.cell? ⟨w.heap.size, 3, none⟩ = some (.slice (some ⟨b, o, none⟩) (m + 1) c) := by rw [← hwq]; exact HD2.out.1
  have ZD := Lib.hid z3
  have hcc : m + 1 ≤ c := hcap
  have hc1 : (1 : Int) ≤ ((m + 1 : Nat) : Int) := by omega
  clear hwq HX2 HS2 HW12 hB2 HB2 HD2 HE2 y3 y4 y1 k0 k1 k2 k3 f0 f1 f2 f3
  go_wp2_with fail
  go_loopw [56] (fun i wr => ∃ (j : Nat) (ps : List EP) (v : Value), j ≤ m ∧ ps.length = j ∧ i = .int .i64 j ∧ wr.heap[w.heap.size + 2]? = some (.cells #[.int .i64 4, .string xs, .int .i64 0, v] 38 (0, 0)) ∧
      wr.ownsRow wq.heap.size 38 4 v j (flatP ps) ∧ Hid (∀ p ∈ ps, XKids wr (fun k => wq.heap.size ≤ k ∧ k < wr.heap.size ∧ v.ownBlock ≠ some k) p.2.1 p.1.kids) ∧ Below (w.heap.size + 2) wq wr ∧
      Hid (readL ks = (ps.map Prod.fst ++ (readL (ks.drop j)).1, (readL (ks.drop j)).2.1, (readL (ks.drop j)).2.2))) (fun i _ => m - (intOf i).toNat)
  case atStart => exact ⟨0, [], .slice none 0 0, Nat.zero_le _, rfl, rfl, HXQ.out, World.ownsRow_nil _ _ _ _, Lib.hid (fun p hp => by cases hp), Below.refl _ _, Lib.hid rfl⟩
  case round =>
    obtain ⟨j, ps, v, hj, hpl, rfl, hbox, hown, hxk, hb, hzl⟩ := hrel
    have HO := Lib.hid hown
    have HB := Lib.hid hb
    have hs := hb.size
    have HPL := Lib.hid hpl
    have HBX := Lib.hid hbox
    clear hown hpl
    by_cases hlt2 : j < m
    · obtain ⟨x, hx⟩ : ∃ x, ks[j]? = some x := ⟨_, List.getElem?_eq_getElem (by rw [← HEM.out]; exact hlt2)⟩
      have hbw1 : Below w1.heap.size w1 wr := HW1Q.out.trans (hb.mono (by omega))
      obtain ⟨b', o', A', c', hb', _, c1, c2, c3, c4, c5, hcx, hKx⟩ := HK.out.get_ wr hbw1 (j + 1) x (by simpa using hx)
      injection hb' with hb'
      injection hb' with hbb hoo
      subst hbb hoo
      rw [show o + (j + 1) * 5 = o + 5 + j * 5 by omega] at c1 c2 c3 c4 c5
      have hMx := HM.out x (List.mem_of_getElem? hx)
      have hst : Hid (readL (ks.drop j) = if (readT x).2.1 = 0 then ((readT x).1 :: (readL (ks.drop (j + 1))).1, (readL (ks.drop (j + 1))).2.1, (readL (ks.drop (j + 1))).2.2) else ([], (readT x).2.1, (readT x).2.2)) := Lib.hid (by
        obtain ⟨g1, g2⟩ := List.getElem?_eq_some_iff.1 hx
        rw [List.drop_eq_getElem_cons g1, g2, readL])
      clear hx
      obtain ⟨tk, ts, tn, tl, ta⟩ := x
      simp only [T.k, T.s, T.n, T.kids, T.at_] at c1 c2 c3 c4 c5 hKx hcx
      have hba : Below wr.heap.size wr (wr.alloc (.cells #[.int .i64 tk, .string ts, .int .i64 tn, .slice A' tl.length c', .int .i64 ta] 71)) := (Below.refl _ _).alloc (Nat.le_refl _) _
      have HBA := Lib.hid hba
      have hcl := Lib.hid (hMx A' c' (wr.alloc (.cells #[.int .i64 tk, .string ts, .int .i64 tn, .slice A' tl.length c', .int .i64 ta] 71)) hcx ((hKx.low hba).more hba.size))
      simp only [T.val, T.k, T.s, T.n, T.kids, T.at_] at hcl
      generalize hq : readT (.mk tk ts tn tl ta) = tq at *
      generalize tl.length = tm at *
      obtain ⟨⟨ek, es, en, el⟩, wy, at2⟩ := tq
      simp only [E.val, E.k, E.s, E.n, E.kids] at hcl hst
      have HZL := hzl
      clear hKx hMx hbox hba hcx hq hzl hbw1
      go_wp2_with fail
      refine (hcl.out).mono ?_
      rintro e w3 ⟨⟨A3, c3', rfl, hX⟩, hb3⟩
      have hw3' : Below wr.heap.size wr w3 := HBA.out.trans (hb3.mono HBA.out.size)
      have hx3 : Below w3.heap.size w3 (w3.alloc (.cells #[.int .i64 ek, .string es, .int .i64 en, .slice A3 el.length c3'] 38)) := (Below.refl _ _).alloc (Nat.le_refl _) _
      have hw3 : Hid (Below wr.heap.size wr (w3.alloc (.cells #[.int .i64 ek, .string es, .int .i64 en, .slice A3 el.length c3'] 38))) := Lib.hid (hw3'.trans (hx3.mono hw3'.size))
      have hN3 : Hid ((w3.alloc (.cells #[.int .i64 ek, .string es, .int .i64 en, .slice A3 el.length c3'] 38)).heap[w3.heap.size]? = some (.cells #[.int .i64 ek, .string es, .int .i64 en, .slice A3 el.length c3'] 38 (0, 0))) := Lib.hid (heap_alloc_new w3 _)
      have hR3 : Hid ((w3.alloc (.cells #[.int .i64 ek, .string es, .int .i64 en, .slice A3 el.length c3'] 38)).heap[w.heap.size + 1]? = some (.cells #[.int .i64 0, .string ⟨#[]⟩, .int .i64 0, .slice none 0 0] 38 (0, 0))) := Lib.hid ((hw3.out.block _ (by omega)).trans ((HB.out.block _ (by omega)).trans HRQ.out))
      have hE3 : Hid ((w3.alloc (.cells #[.int .i64 ek, .string es, .int .i64 en, .slice A3 el.length c3'] 38)).heap[w.heap.size + 2]? = some (.cells #[.int .i64 4, .string xs, .int .i64 0, v] 38 (0, 0))) := Lib.hid ((hw3.out.block _ (by omega)).trans HBX.out)
      have hS3 : Hid ((w3.alloc (.cells #[.int .i64 ek, .string es, .int .i64 en, .slice A3 el.length c3'] 38)).heap.size = w3.heap.size + 1 ∧ wr.heap.size ≤ w3.heap.size) := Lib.hid ⟨by simp, hw3'.size⟩
      clear hw3' hx3
      have hs3 := hw3.out.size
      have HX3 := Lib.hid hX
      clear hX hb3 HBA
      by_cases hw0 : wy = 0
      · subst hw0
        obtain ⟨⟨k0, k1, k2, k3⟩, g0, g1, g2, g3⟩ := cell4 hE3.out
        obtain ⟨⟨n0, n1, n2, n3⟩, m0, m1, m2, m3⟩ := cell4 hN3.out
        have hrl : Hid (readL ks = ((ps ++ [((.mk ek es en el : E), A3, c3')]).map Prod.fst ++ (readL (ks.drop (j + 1))).1, (readL (ks.drop (j + 1))).2.1, (readL (ks.drop (j + 1))).2.2)) := Lib.hid (by
          rw [HZL.out, hst.out, if_pos rfl]; simp)
        have HO3 := Lib.hid (own_below HO.out hw3.out)
        clear hst HZL hs3
        obtain ⟨i0, hi, hz0, hz1, hz2⟩ := info_parts expr_info
        go_wp2_with (at_builtin; refine wpList_append_own_at _ rfl _ _ 22 rfl wq.heap.size 38 i0 _ 4 56 Tryz.underlying22 hi hz0 hz1 hz2 rfl (by decide) _ _ _ rfl (HO3.out.alloc _) ⟨w3.heap.size + 1, 0, none⟩ 1 1 (EP.cs ((.mk ek es en el : E), A3, c3')) rfl rfl ?c1 ?c2 ?c3 ?c4 ?c5 ?_)
        case c1 =>
          intro i u hu
          match i, hu with
          | 0, hu => simp [EP.cs, E.k] at hu; subst hu; simp [Addr.add]
          | 1, hu => simp [EP.cs, E.s] at hu; subst hu; simp [Addr.add]
          | 2, hu => simp [EP.cs, E.n] at hu; subst hu; simp [Addr.add]
          | 3, hu => simp [EP.cs, E.kids] at hu; subst hu; simp [Addr.add]
        case c2 => rw [← flatP_one]; exact flatP_ones _
        case c3 => unfold maxLen; omega
        case c4 => omega
        case c5 => simp; have := hS3.out.2; omega
        intro v' w5 hown' hgrow _ hat
        have hgrow5 : Hid ((w3.alloc (.cells #[.int .i64 ek, .string es, .int .i64 en, .slice A3 el.length c3'] 38)).grownBy w5 v.ownBlock) := Lib.hid ((World.grownBy_alloc _ _ _).trans hgrow)
        have hat5 : Hid (v'.ownBlock = v.ownBlock ∨ ∃ n, v'.ownBlock = some n ∧ w3.heap.size ≤ n) := Lib.hid (hat.imp_right fun h => ⟨_, h, by first | omega | (simp; omega)⟩)
        obtain ⟨g', cap', rfl, hg1, hg2⟩ := hown'.form (by omega)
        have HO5 : Hid (w5.ownsRow wq.heap.size 38 4 (.slice (some ⟨g', 0, none⟩) (j + 1) cap') (j + 1) (flatP (ps ++ [((.mk ek es en el : E), A3, c3')]))) := Lib.hid (by rw [flatP_append, flatP_one, hsq]; exact hown')
        clear hown' hgrow hat k0 k1 k2 k3 g0 g1 g2 g3 n0 n1 n2 n3 m0 m1 m2 m3
        have hE5 : Hid (w5.heap[w.heap.size + 2]? = some (.cells #[.int .i64 4, .string xs, .int .i64 0, v] 38 (0, 0))) := Lib.hid ((hgrow5.out.block _ (by have := hS3.out; omega) (fun e => by have := (HO.out.lt _ e.symm).1; omega)).trans hE3.out)
        obtain ⟨⟨k0, k1, k2, k3⟩, g0, g1, g2, g3⟩ := cell4 hE5.out
        go_wp2_with fail
        go_roundw
        case rel =>
          refine ⟨_, _, _, _, _, _, _, _, _, _, _, _, _, _, _, _, _, _, _, _, _, _, _, _, _, _, _, _, ?_, rfl⟩
          have hs5 := hgrow5.out.size
          have hs3a := hS3.out.1
          have hs3b := hS3.out.2
          have hother : ∀ k, k ≠ w.heap.size + 2 → k < w3.heap.size + 1 → v.ownBlock ≠ some k → (w5.setCell ⟨w.heap.size + 2, 3, none⟩ (.slice (some ⟨g', 0, none⟩) (j + 1) cap')).heap[k]? = (w3.alloc (.cells #[.int .i64 ek, .string es, .int .i64 en, .slice A3 el.length c3'] 38)).heap[k]? := fun k h1 h2 h3 =>
            (Below.heap_setCell w5 ⟨w.heap.size + 2, 3, none⟩ _ k h1).trans (hgrow5.out.block k (by omega) fun e => h3 e.symm)
          refine ⟨j + 1, ps ++ [((.mk ek es en el : E), A3, c3')], .slice (some ⟨g', 0, none⟩) (j + 1) cap', by omega, by rw [List.length_append, HPL.out]; rfl, by go_num, set4c (k := 3) hE5.out, own_set HO5.out _ (by show w.heap.size + 2 < wq.heap.size; omega), Lib.hid ?_, ?_, hrl⟩
          · refine xk_round hxk.out (HX3.out.mono fun k hk => ⟨by have := hk.1; simp at this; omega, hk.2⟩) hs (fun k h1 h2 h3 => (hother k (by omega) (by omega) h3).trans (hw3.out.block k h2)) (fun k h1 h2 => (hother k (by omega) (by omega) fun e => by have := (HO.out.lt _ e).2; omega).trans (heap_alloc_old _ _ h2)) hs3b ?_ (fun k e => (HO.out.lt _ e).2) hat5.out
            simp only [World.setCell, Array.size_modify]
            omega
          · exact ((HB.out.trans (hw3.out.mono (by omega))).grown hgrow5.out (by omega) (fun g hg => by have := (HO.out.lt g hg).1; omega)).setCell (p := ⟨w.heap.size + 2, 3, none⟩) (Nat.le_refl _) _
        case measure => simp [intOf]; omega
      · have hy : (wy != 0) = true := by simpa using hw0
        have hy' : (wy == 0) = false := by simpa using hw0
        have h1 : (readL ks).2 = (wy, at2) := by rw [HZL.out, hst.out, if_neg hw0]
        have hq : Hid (Q = (zeroE, wy, at2)) := Lib.hid (by rw [HQ.out, h1, if_neg hw0])
        obtain ⟨⟨q0, q1, q2, q3⟩, f0, f1, f2, f3⟩ := cell4 hR3.out
        clear h1 hst hs3 HZL
        go_wp2_with fail
        refine bodyPost_ret (results_three rfl rfl rfl rfl (put4_block hR3.out)) rfl ?_
        refine ⟨⟨none, 0, by rw [hq.out]; rfl, by rw [hq.out]; exact .nil _⟩, put4_below (HBQ.out.trans ((HB.out.mono (by omega)).trans (hw3.out.mono (by omega)))) (Nat.le_succ _)⟩
    · obtain rfl : j = m := by omega
      obtain ⟨k0, k1, k2, k3⟩ := (cell4 HBX.out).1
      have hd : ks.drop j = [] := List.drop_eq_nil_of_le (by rw [← HEM.out]; exact Nat.le_refl _)
      have h1 : readL ks = (ps.map Prod.fst, 0, 0) := by rw [hzl.out, hd]; simp [readL]
      have hq : Hid (Q = (.mk 4 xs 0 (ps.map Prod.fst), 0, 0)) := Lib.hid (by rw [HQ.out, h1, if_pos rfl])
      have hO2 : wr.ownsRow wq.heap.size 38 4 v ps.length (flatP ps) := by rw [HPL.out]; exact HO.out
      have hlj : ps.length ≤ 9223372036854775807 := by rw [HPL.out]; omega
      obtain ⟨A9, c9, rfl, hX9⟩ := own_exprs hO2 hlj (S := fun k => wq.heap.size ≤ k ∧ k < wr.heap.size) (fun g u1 u2 => ⟨u1, u2⟩) (fun p hp => (hxk.out p hp).mono (fun k hk => ⟨hk.1, hk.2.1⟩))
      have HX9 := Lib.hid hX9
      have hB9 : Hid (wr.heap[w.heap.size + 1]? = some (.cells #[.int .i64 0, .string ⟨#[]⟩, .int .i64 0, .slice none 0 0] 38 (0, 0))) := Lib.hid ((HB.out.block _ (by omega)).trans HRQ.out)
      obtain ⟨⟨q0, q1, q2, q3⟩, f0, f1, f2, f3⟩ := cell4 hB9.out
      clear hd h1 hO2 hlj hX9 hxk hzl
      go_wp2_with fail
      refine bodyPost_ret (results_three rfl rfl rfl rfl (put4_block hB9.out)) rfl ?_
      have hsz := HB.out.size
      refine ⟨⟨A9, c9, by rw [hq.out]; simp [E.val, E.k, E.s, E.n, E.kids], ?_⟩, put4_below (HBQ.out.trans (HB.out.mono (by omega))) (Nat.le_succ _)⟩
      rw [hq.out]
      exact (HX9.out.kept (fun k hk => put4_other (by have := hk.1; omega))).mono (fun k hk => ⟨by have := hk.1; omega, Nat.lt_of_lt_of_eq hk.2 put4_size.symm⟩)
end Go.Proofs.YtjhkihkiebnpaaaGreatDoor
/-
  Package expr's Read, whole.
-/
namespace Go.Proofs.YtjhkihkiebnpaaaGreatDoor
open Go.RowKit
theorem readT_one (s : ByteArray) (n : Int) (l : List T) (a : Int) : readT (.mk 1 s n l a) = (match l with
        | [] => (zeroE, 12, a)
        | x :: ks => if x.k = 2 ∧ cntL x.s.toList ≠ 0 then
            (if ks.length = cntL x.s.toList then (if (readL ks).2.1 = 0 then (.mk 4 x.s 0 (readL ks).1, 0, 0) else (zeroE, (readL ks).2.1, (readL ks).2.2)) else (zeroE, 23, a))
          else (zeroE, 12, a)) := by
  rw [readT.eq_def]
  rfl
theorem apply_any (s : ByteArray) (n : Int) (l : List T) (a : Int) (hM : ∀ t ∈ l, ReadExp t) (A : Option Addr) (c : Nat) (w : World) (hcap : l.length ≤ c) (hA : TKids w w.heap.size A l) :
    Calls Tryz.prog 141 #[.agg #[.int .i64 1, .string s, .int .i64 n, .slice A l.length c, .int .i64 a]] w (ApplyEnd (readT (.mk 1 s n l a)) w) := by
  have hr := readT_one s n l a
  match l with
  | [] => rw [hr]; exact apply_bad s n [] a (.inl rfl) A c w hA
  | x :: ks =>
    simp only at hr
    by_cases h1 : x.k = 2 ∧ cntL x.s.toList ≠ 0
    · rw [if_pos h1] at hr
      by_cases h2 : ks.length = cntL x.s.toList
      · rw [if_pos h2] at hr
        rw [hr]
        exact apply_main s n x ks a h1.1 h1.2 h2 (fun t ht => hM t (List.mem_cons_of_mem _ ht)) A c w hcap hA
      · rw [if_neg h2] at hr
        rw [hr]
        exact apply_count s n x ks a h1.1 h1.2 h2 A c w hA
    · rw [if_neg h1] at hr
      rw [hr]
      exact apply_bad s n (x :: ks) a (.inr ⟨x, ks, rfl, by
        by_cases h3 : x.k = 2
        · exact .inr (Decidable.byContradiction fun h4 => h1 ⟨h3, h4⟩)
        · exact .inl h3⟩) A c w hA
set_option maxRecDepth 100000 in
set_option maxHeartbeats 1000000 in
theorem read_open (s : ByteArray) (n : Int) (l : List T) (a : Int) (hM : ∀ t ∈ l, ReadExp t) : ReadExp (.mk 1 s n l a) := by
  intro A c w hcap hA
  simp only [T.val, T.k, T.s, T.n, T.kids, T.at_] at hcap hA ⊢
  obtain ⟨w1, ew1⟩ : ∃ w1, w1 = (w.alloc (.cells #[.int .i64 1, .string s, .int .i64 n, .slice A l.length c, .int .i64 a] 71)).alloc (.cells #[.int .i64 0, .string ⟨#[]⟩, .int .i64 0, .slice none 0 0] 38) := ⟨_, rfl⟩
  have hb1 : Below w.heap.size w w1 := by rw [ew1]; exact ((Below.refl _ _).alloc (Nat.le_refl _) _).alloc (by simp) _
  have hws : w1.heap.size = w.heap.size + 2 := by rw [ew1]; simp
  have HB1 := Lib.hid hb1
  have hB : Hid (w1.heap[w.heap.size + 1]? = some (.cells #[.int .i64 0, .string ⟨#[]⟩, .int .i64 0, .slice none 0 0] 38 (0, 0))) := Lib.hid (by
    rw [ew1]
    have := heap_alloc_new (w.alloc (.cells #[.int .i64 1, .string s, .int .i64 n, .slice A l.length c, .int .i64 a] 71)) (.cells #[.int .i64 0, .string ⟨#[]⟩, .int .i64 0, .slice none 0 0] 38)
    simpa using this)
  have HDD : Hid (w1.cell? ⟨w.heap.size, 0, none⟩ = some (.int .i64 1) ∧ w1.cell? ⟨w.heap.size, 1, none⟩ = some (.string s) ∧ w1.cell? ⟨w.heap.size, 2, none⟩ = some (.int .i64 n) ∧ w1.cell? ⟨w.heap.size, 3, none⟩ = some (.slice A l.length c) ∧ w1.cell? ⟨w.heap.size, 4, none⟩ = some (.int .i64 a)) := Lib.hid (by rw [ew1]; simp)
  have HW1 := Lib.hid ew1
  have hcl := Lib.hid (apply_any s n l a hM A c w1 hcap ((hA.low hb1).more hb1.size))
  generalize readT (.mk 1 s n l a) = q at *
  generalize l.length = ln at *
  clear hA ew1 hb1 hM
  obtain ⟨⟨qk, qs, qn, ql⟩, wy, at2⟩ := q
  unfold ApplyEnd at hcl
  simp only [E.val, E.k, E.s, E.n, E.kids] at hcl ⊢
  go_enter Tryz.func106, Tryz.ntmps106
  go_upto_if 7 with (fail)
  rw [← HW1.out]
  obtain ⟨d0, d1, d2, d3, d4⟩ := HDD.out
  go_wp2_with fail
  refine (hcl.out).mono ?_
  rintro e w2 ⟨⟨A3, c3, rfl, hX⟩, hb2⟩
  have HX := Lib.hid hX
  have HB2 := Lib.hid hb2
  have hB2 : Hid (w2.heap[w.heap.size + 1]? = some (.cells #[.int .i64 0, .string ⟨#[]⟩, .int .i64 0, .slice none 0 0] 38 (0, 0))) := Lib.hid ((hb2.block _ (by omega)).trans hB.out)
  have hs2 := hb2.size
  clear hX hb2 d0 d1 d2 d3 d4
  obtain ⟨⟨k0, k1, k2, k3⟩, f0, f1, f2, f3⟩ := cell4 hB2.out
  go_wp2_with fail
  refine bodyPost_ret (results_three rfl rfl rfl rfl (put4_block hB2.out)) rfl ?_
  refine ⟨⟨A3, c3, rfl, ?_⟩, put4_below (HB1.out.trans (HB2.out.mono (by omega))) (Nat.le_succ _)⟩
  exact (HX.out.kept fun k hk => put4_other (by have := hk.1; omega)).mono fun k hk => ⟨by have := hk.1; omega, Nat.lt_of_lt_of_eq hk.2 put4_size.symm⟩
/-- expr.Read of any tree -/
theorem read_any : ∀ t, ReadExp t := T.ind fun k s n l a ih => by
  by_cases hk : k = 1
  · subst hk
    exact read_open s n l a ih
  · exact read_leaf k s n l a hk
end Go.Proofs.YtjhkihkiebnpaaaGreatDoor
/-
  Trees in a row that the call itself has made. No program in sight.
-/
namespace Go.Proofs.YtjhkihkiebnpaaaGreatDoor
open Go.RowKit
abbrev TP := T × Option Addr × Nat
def TP.cs (x : TP) : List Value := [.int .i64 x.1.k, .string x.1.s, .int .i64 x.1.n, .slice x.2.1 x.1.kids.length x.2.2, .int .i64 x.1.at_]
def flatT (l : List TP) : List Value := l.flatMap TP.cs
theorem flatT_len (l : List TP) : (flatT l).length = l.length * 5 := by
  induction l with
  | nil => rfl
  | cons v l ih => show ((TP.cs v) ++ flatT l).length = _; simp [ih, TP.cs]; omega
theorem flatT_get (l : List TP) : ∀ (i : Nat) (v : TP), l[i]? = some v → (flatT l)[i * 5]? = some (.int .i64 v.1.k) ∧ (flatT l)[i * 5 + 1]? = some (.string v.1.s) ∧ (flatT l)[i * 5 + 2]? = some (.int .i64 v.1.n) ∧ (flatT l)[i * 5 + 3]? = some (.slice v.2.1 v.1.kids.length v.2.2) ∧ (flatT l)[i * 5 + 4]? = some (.int .i64 v.1.at_) := by
  induction l with
  | nil => intro i v h; simp at h
  | cons x l ih =>
    intro i v h
    have e : flatT (x :: l) = TP.cs x ++ flatT l := rfl
    rw [e]
    cases i with
    | zero =>
      obtain rfl : x = v := by simpa using h
      exact ⟨rfl, rfl, rfl, rfl, rfl⟩
    | succ i =>
      have := ih i v (by simpa using h)
      have hl : (TP.cs x).length = 5 := rfl
      rw [List.getElem?_append_right (by omega), List.getElem?_append_right (by omega), List.getElem?_append_right (by omega), List.getElem?_append_right (by omega), List.getElem?_append_right (by omega), hl]
      rw [show (i + 1) * 5 - 5 = i * 5 from by omega, show (i + 1) * 5 + 1 - 5 = i * 5 + 1 from by omega, show (i + 1) * 5 + 2 - 5 = i * 5 + 2 from by omega, show (i + 1) * 5 + 3 - 5 = i * 5 + 3 from by omega, show (i + 1) * 5 + 4 - 5 = i * 5 + 4 from by omega]
      exact this
theorem flatT_one (v : TP) : flatT [v] = TP.cs v := by simp [flatT]
theorem flatT_append (a b : List TP) : flatT (a ++ b) = flatT a ++ flatT b := by simp [flatT]
theorem flatT_ones (l : List TP) : ∀ u ∈ flatT l, u.oneCell' = true := by
  intro u hu
  obtain ⟨v, _, hv⟩ := List.mem_flatMap.1 hu
  simp only [TP.cs, List.mem_cons, List.not_mem_nil, or_false] at hv
  rcases hv with rfl | rfl | rfl | rfl | rfl <;> rfl
/-- the same as TKids, with all its blocks in S -/
inductive XTK (w : World) (S : Nat → Prop) : Option Addr → List T → Prop
  | nil (A : Option Addr) : XTK w S A []
  | mk (b off : Nat) (l : List T) (hn : l.length ≤ 9223372036854775807) (hb : S b) (A : Nat → Option Addr) (c : Nat → Nat)
      (h : ∀ i e, l[i]? = some e → w.cell? ⟨b, off + i * 5, none⟩ = some (.int .i64 e.k) ∧ w.cell? ⟨b, off + i * 5 + 1, none⟩ = some (.string e.s) ∧
        w.cell? ⟨b, off + i * 5 + 2, none⟩ = some (.int .i64 e.n) ∧ w.cell? ⟨b, off + i * 5 + 3, none⟩ = some (.slice (A i) e.kids.length (c i)) ∧ w.cell? ⟨b, off + i * 5 + 4, none⟩ = some (.int .i64 e.at_) ∧ e.kids.length ≤ c i)
      (hk : ∀ i e, l[i]? = some e → XTK w S (A i) e.kids) : XTK w S (some ⟨b, off, none⟩) l
theorem XTK.kept {w w' : World} {S : Nat → Prop} {A : Option Addr} {l : List T} (h : XTK w S A l) (hw : ∀ k, S k → w'.heap[k]? = w.heap[k]?) : XTK w' S A l := by
  induction h with
  | nil A => exact .nil A
  | mk b off l hn hlt A c h hk ih =>
    refine .mk b off l hn hlt A c (fun i e he => ?_) (fun i e he => ih i e he)
    have hc : ∀ o, w'.cell? ⟨b, o, none⟩ = w.cell? ⟨b, o, none⟩ := fun o => World.cell?_of_block (hw b hlt)
    obtain ⟨h1, h2, h3, h4, h5, h6⟩ := h i e he
    exact ⟨(hc _).trans h1, (hc _).trans h2, (hc _).trans h3, (hc _).trans h4, (hc _).trans h5, h6⟩
theorem XTK.mono {w : World} {S S' : Nat → Prop} {A : Option Addr} {l : List T} (h : XTK w S A l) (hS : ∀ k, S k → S' k) : XTK w S' A l := by
  induction h with
  | nil A => exact .nil A
  | mk b off l hn hlt A c h hk ih => exact .mk b off l hn (hS b hlt) A c h (fun i e he => ih i e he)
theorem XTK.to {w : World} {S : Nat → Prop} {B : Nat} {A : Option Addr} {l : List T} (h : XTK w S A l) (hS : ∀ k, S k → k < B) : TKids w B A l := by
  induction h with
  | nil A => exact .nil A
  | mk b off l hn hlt A c h hk ih => exact .mk b off l hn (hS b hlt) A c h (fun i e he => ih i e he)
/-- what is owned is a row of trees -/
theorem own_trees {w : World} {base : Nat} {e : TypeId} {v : Value} {l : List TP} (h : w.ownsRow base e 5 v l.length (flatT l)) (hn : l.length ≤ 9223372036854775807) {S : Nat → Prop} (hS : ∀ g, base ≤ g → g < w.heap.size → S g) (hk : ∀ x ∈ l, x.1.kids.length ≤ x.2.2 ∧ XTK w S x.2.1 x.1.kids) :
    ∃ A c, v = .slice A (l.map Prod.fst).length c ∧ (l.map Prod.fst).length ≤ c ∧ XTK w S A (l.map Prod.fst) := by
  obtain ⟨_, hcase⟩ := id h
  rcases hcase with ⟨rfl, h0⟩ | ⟨g, cap, cur, rfl, hg, hh, hc, hcap, hsz, htake⟩
  · have e0 : l = [] := List.eq_nil_of_length_eq_zero h0
    subst e0
    exact ⟨none, 0, rfl, Nat.le_refl _, .nil _⟩
  · refine ⟨some ⟨g, 0, none⟩, cap, by rw [List.length_map], by rw [List.length_map]; exact hc, .mk g 0 _ (by rw [List.length_map]; exact hn) ?_ (fun i => ((l[i]?).map fun x => x.2.1).getD none) (fun i => ((l[i]?).map fun x => x.2.2).getD 0) (fun i x hx => ?_) (fun i x hx => ?_)⟩
    · refine hS g hg ?_
      rcases Nat.lt_or_ge g w.heap.size with hlt | hge
      · exact hlt
      · rw [Array.getElem?_eq_none hge] at hh; cases hh
    · rw [List.getElem?_map] at hx
      cases hl : l[i]? with
      | none => rw [hl] at hx; cases hx
      | some y =>
        rw [hl] at hx
        obtain rfl : y.1 = x := by simpa using hx
        obtain ⟨f1, f2, f3, f4, f5⟩ := flatT_get l i y hl
        have hi : i < l.length := (List.getElem?_eq_some_iff.1 hl).1
        rw [Nat.zero_add, h.cellAt _ (by omega), h.cellAt _ (by omega), h.cellAt _ (by omega), h.cellAt _ (by omega), h.cellAt _ (by omega)]
        exact ⟨f1, f2, f3, f4, f5, (hk y (List.mem_of_getElem? hl)).1⟩
    · rw [List.getElem?_map] at hx
      cases hl : l[i]? with
      | none => rw [hl] at hx; cases hx
      | some y =>
        rw [hl] at hx
        obtain rfl : y.1 = x := by simpa using hx
        exact (hk y (List.mem_of_getElem? hl)).2
theorem xt_round {wr w3 w6 : World} {v v' : Value} {base : Nat} {ps : List TP} {x : TP}
    (hxk : ∀ p ∈ ps, p.1.kids.length ≤ p.2.2 ∧ XTK wr (fun k => base ≤ k ∧ k < wr.heap.size ∧ v.ownBlock ≠ some k) p.2.1 p.1.kids)
    (hxc : x.1.kids.length ≤ x.2.2) (hx : XTK w3 (fun k => wr.heap.size ≤ k ∧ k < w3.heap.size) x.2.1 x.1.kids) (hbase : base ≤ wr.heap.size)
    (h1 : ∀ k, base ≤ k → k < wr.heap.size → v.ownBlock ≠ some k → w6.heap[k]? = wr.heap[k]?) (h2 : ∀ k, wr.heap.size ≤ k → k < w3.heap.size → w6.heap[k]? = w3.heap[k]?)
    (hs : wr.heap.size ≤ w3.heap.size) (hs6 : w3.heap.size ≤ w6.heap.size) (hv1 : ∀ k, v.ownBlock = some k → k < wr.heap.size) (hv : v'.ownBlock = v.ownBlock ∨ ∃ n, v'.ownBlock = some n ∧ w3.heap.size ≤ n) :
    ∀ p ∈ ps ++ [x], p.1.kids.length ≤ p.2.2 ∧ XTK w6 (fun k => base ≤ k ∧ k < w6.heap.size ∧ v'.ownBlock ≠ some k) p.2.1 p.1.kids := by
  intro p hp
  rcases List.mem_append.1 hp with hp | hp
  · refine ⟨(hxk p hp).1, ((hxk p hp).2.kept fun k hk => h1 k hk.1 hk.2.1 hk.2.2).mono fun k hk => ⟨hk.1, by have := hk.2.1; omega, ?_⟩⟩
    rcases hv with hv | ⟨n, hv, hn⟩
    · rw [hv]; exact hk.2.2
    · rw [hv]; intro e; have := Option.some.inj e; have := hk.2.1; omega
  · obtain rfl : p = x := by simpa using hp
    refine ⟨hxc, (hx.kept fun k hk => h2 k hk.1 hk.2).mono fun k hk => ⟨by have := hk.1; omega, by have := hk.2; omega, ?_⟩⟩
    rcases hv with hv | ⟨n, hv, hn⟩
    · rw [hv]; intro e; have := hv1 k e; have := hk.1; omega
    · rw [hv]; intro e; have := Option.some.inj e; have := hk.2; omega
end Go.Proofs.YtjhkihkiebnpaaaGreatDoor
/-
  The law's own copy of a tree: out.
-/
namespace Go.Proofs.YtjhkihkiebnpaaaGreatDoor
open Go.RowKit
theorem set5c {w : World} {g k : Nat} {a b c d e u : Value} {t : TypeId} (h : w.heap[g]? = some (.cells #[a, b, c, d, e] t (0, 0))) : (w.setCell ⟨g, k, none⟩ u).heap[g]? = some (.cells (#[a, b, c, d, e].set! k u) t (0, 0)) := by
  show (w.heap.modify g _)[g]? = _
  rw [Array.getElem?_modify]
  simp [h]
def put5 (w : World) (p : Nat) (x0 x1 x2 x3 x4 : Value) : World := ((((w.setCell ⟨p, 0, none⟩ x0).setCell ⟨p, 1, none⟩ x1).setCell ⟨p, 2, none⟩ x2).setCell ⟨p, 3, none⟩ x3).setCell ⟨p, 4, none⟩ x4
theorem put5_block {w : World} {p : Nat} {a b c d e x0 x1 x2 x3 x4 : Value} {t : TypeId} (h : w.heap[p]? = some (.cells #[a, b, c, d, e] t (0, 0))) : (put5 w p x0 x1 x2 x3 x4).heap[p]? = some (.cells #[x0, x1, x2, x3, x4] t (0, 0)) :=
  set5c (k := 4) (set5c (k := 3) (set5c (k := 2) (set5c (k := 1) (set5c (k := 0) h))))
theorem put5_below {w a : World} {p B : Nat} {x0 x1 x2 x3 x4 : Value} (h : Below B a w) (hp : B ≤ p) : Below B a (put5 w p x0 x1 x2 x3 x4) :=
  ((((h.setCell (p := ⟨p, 0, none⟩) hp x0).setCell (p := ⟨p, 1, none⟩) hp x1).setCell (p := ⟨p, 2, none⟩) hp x2).setCell (p := ⟨p, 3, none⟩) hp x3).setCell (p := ⟨p, 4, none⟩) hp x4
theorem put5_other {w : World} {p k : Nat} {x0 x1 x2 x3 x4 : Value} (h : k ≠ p) : (put5 w p x0 x1 x2 x3 x4).heap[k]? = w.heap[k]? := by
  simp only [put5, World.setCell, Array.getElem?_modify]
  rw [if_neg (by omega), if_neg (by omega), if_neg (by omega), if_neg (by omega), if_neg (by omega)]
theorem put5_size {w : World} {p : Nat} {x0 x1 x2 x3 x4 : Value} : (put5 w p x0 x1 x2 x3 x4).heap.size = w.heap.size := by simp [put5, World.setCell]
theorem cell5 {w : World} {g : Nat} {a b c d e : Value} {t : TypeId} (h : w.heap[g]? = some (.cells #[a, b, c, d, e] t (0, 0))) :
    (w.cell? ⟨g, 0, none⟩ = some a ∧ w.cell? ⟨g, 1, none⟩ = some b ∧ w.cell? ⟨g, 2, none⟩ = some c ∧ w.cell? ⟨g, 3, none⟩ = some d ∧ w.cell? ⟨g, 4, none⟩ = some e) ∧ w.frozen? ⟨g, 0, none⟩ = false ∧ w.frozen? ⟨g, 1, none⟩ = false ∧ w.frozen? ⟨g, 2, none⟩ = false ∧ w.frozen? ⟨g, 3, none⟩ = false ∧ w.frozen? ⟨g, 4, none⟩ = false := by
  simp [World.cell?, World.frozen?, h]
/-- a tree in a cell: what is returned -/
theorem results_tree {fn : Func} {p : Tmp} (h : fn.results = #[.cell p 71]) {tmps : Array Value} {w : World} {g : Nat} {x0 x1 x2 x3 x4 : Value} {t : TypeId}
    (hp : tmps.getD p undef = .pointer (some ⟨g, 0, none⟩)) (hg : w.heap[g]? = some (.cells #[x0, x1, x2, x3, x4] t (0, 0))) : (results fn tmps).run Tryz.prog w = .ok (.agg #[x0, x1, x2, x3, x4]) w := by
  have hp' : tmps[p]?.getD undef = .pointer (some ⟨g, 0, none⟩) := by simpa using hp
  have hl := run_loadVar_row (P := Tryz.prog) w g t 71 #[x0, x1, x2, x3, x4] (0, 0) _ hg Tryz.underlying71 rfl (by show _ = some 5; kernel_rfl)
  simp [results, h, hp', asAddr, hl]
theorem tree_info : (Tryz.prog.info? 71).map (fun i => (i.zero, i.size, i.bytes)) = some (some (.agg #[.int .i64 0, .string ByteArray.empty, .int .i64 0, .slice none 0 0, .int .i64 0]), 5, 64) := by kernel_rfl
end Go.Proofs.YtjhkihkiebnpaaaGreatDoor
/-
  Memory: a slice that reads as a list, a block known whole, an append onto a row of the call's own (turned from the kit's extra words). No program in sight.
-/
set_option linter.unusedVariables false
set_option linter.unusedSimpArgs false
namespace Go.Proofs.YtjhkihkiebnpaaaGreatDoor
open Go.RowKit
theorem block_of_add (a : Addr) (n : Nat) : (a.add n).block = a.block := by unfold Addr.add; split <;> rfl
theorem add_of_add (a : Addr) (i j : Nat) : (a.add i).add j = a.add (i + j) := by
  unfold Addr.add
  by_cases hi : i = 0 <;> by_cases hj : j = 0 <;> simp [hi, hj, Nat.add_assoc]

def Reads (w : World) (B size : Nat) (A : Option Addr) (n : Nat) (xs : List Value) : Prop :=
  xs.length = n * size ∧ (0 < n → ∃ ad, A = some ad ∧ ad.block < B ∧ ∀ j u, xs[j]? = some u → w.cell? (ad.add j) = some u)

section
variable {w w' : World} {B B' size n : Nat} {A : Option Addr} {xs : List Value}
theorem Reads.none_ : Reads w B size A 0 [] := ⟨by simp, fun h => absurd h (by omega)⟩
theorem Reads.at_ {k : Nat} (h : Reads w B 1 A n xs) (hk : k < n) : ∃ ad u, A = some ad ∧ ad.block < B ∧ xs[k]? = some u ∧ w.cell? (ad.add k) = some u := by
  obtain ⟨ad, e, hb, hc⟩ := h.2 (by omega)
  have hl : k < xs.length := by have := h.1; omega
  exact ⟨ad, xs[k], e, hb, List.getElem?_eq_getElem hl, hc k _ (List.getElem?_eq_getElem hl)⟩
theorem Reads.keep (h : Reads w B size A n xs) (hk : ∀ p : Addr, p.block < B → w'.cell? p = w.cell? p) : Reads w' B size A n xs :=
  ⟨h.1, fun hn => by
    obtain ⟨ad, e, hb, hc⟩ := h.2 hn
    exact ⟨ad, e, hb, fun j u hu => (hk _ (by rw [block_of_add]; exact hb)).trans (hc j u hu)⟩⟩
theorem Reads.more (h : Reads w B size A n xs) (hB : B ≤ B') : Reads w B' size A n xs :=
  ⟨h.1, fun hn => by
    obtain ⟨ad, e, hb, hc⟩ := h.2 hn
    exact ⟨ad, e, by omega, hc⟩⟩
theorem Reads.below (h : Reads w B size A n xs) (hb : Below B w w') : Reads w' B size A n xs := h.keep fun _ hp => hb.cell hp
theorem Reads.drew (h : Reads w B size A n xs) : Reads w.drew B size A n xs := h
theorem Reads.drewN (h : Reads w B size A n xs) (k : Nat) : Reads (w.drewN k) B size A n xs := h
theorem Reads.alloc (h : Reads w B size A n xs) (hB : B ≤ w.heap.size) (o : Obj) : Reads (w.alloc o) B size A n xs := h.keep fun p hp => World.cell?_alloc_lt w o p (by omega)
theorem Reads.setCell (h : Reads w B size A n xs) {p : Addr} (hB : B ≤ p.block) (u : Value) : Reads (w.setCell p u) B size A n xs :=
  h.keep fun q hq => World.cell?_setCell_other w p q u (fun e => by subst e; omega)
theorem Reads.grown (h : Reads w B size A n xs) {row : Option Nat} (hg : w.grownBy w' row) (hB : B ≤ w.heap.size) (hr : ∀ g, row = some g → B ≤ g) : Reads w' B size A n xs :=
  h.keep fun p hp => World.cell?_of_block (hg.block p.block (by omega) (fun e => by have := hr _ e.symm; omega))
theorem Reads.cut (h : Reads w B size A n xs) {k cap : Nat} (hk : k ≤ n) (hc : n ≤ cap) :
    Reads w B size (if cap = k then A else A.map (·.add (k * size))) (n - k) (xs.drop (k * size)) := by
  refine ⟨by rw [List.length_drop, h.1, Nat.sub_mul], fun hn => ?_⟩
  obtain ⟨ad, rfl, hb, hcell⟩ := h.2 (by omega)
  rw [if_neg (by omega)]
  refine ⟨ad.add (k * size), rfl, by rw [block_of_add]; exact hb, fun j u hu => ?_⟩
  rw [add_of_add]
  exact hcell _ u (by rw [← hu, List.getElem?_drop])
theorem Reads.of_own {base : Nat} {e : TypeId} {c : Nat} (h : w.ownsRow base e size (.slice A n c) n xs) : Reads w w.heap.size size A n xs := by
  refine ⟨h.1, fun hn => ?_⟩
  obtain ⟨g, cap, hv, _, hlt⟩ := h.form hn
  have hA : A = some ⟨g, 0, none⟩ := by injection hv
  subst hA
  exact ⟨_, rfl, hlt, h.cells (g := g) rfl⟩
end
def Blk (w : World) (g : Nat) (t : TypeId) (cs : Array Value) : Prop := w.heap[g]? = some (.cells cs t (0, 0))

section
variable {w w' : World} {g : Nat} {t : TypeId} {cs : Array Value}
theorem Blk.lt (h : Blk w g t cs) : g < w.heap.size := by
  rcases Nat.lt_or_ge g w.heap.size with hlt | hge
  · exact hlt
  · unfold Blk at h; rw [Array.getElem?_eq_none hge] at h; cases h
theorem Blk.cell (h : Blk w g t cs) (i : Nat) : w.cell? ⟨g, i, none⟩ = cs[i]? := cell_of_row w g i cs t (0, 0) h
theorem Blk.frozen (h : Blk w g t cs) (i : Nat) : w.frozen? ⟨g, i, none⟩ = false := by
  unfold Blk at h
  simp [World.frozen?, h]
theorem Blk.new (w : World) (t : TypeId) (cs : Array Value) : Blk (w.alloc (.cells cs t)) w.heap.size t cs := heap_alloc_new w _
theorem Blk.drew (h : Blk w g t cs) : Blk w.drew g t cs := h
theorem Blk.drewN (h : Blk w g t cs) (n : Nat) : Blk (w.drewN n) g t cs := h
theorem Blk.alloc (h : Blk w g t cs) (o : Obj) : Blk (w.alloc o) g t cs := (Below.heap_alloc w o g h.lt).trans h
theorem Blk.set_ (h : Blk w g t cs) (i : Nat) (u : Value) : Blk (w.setCell ⟨g, i, none⟩ u) g t (cs.setIfInBounds i u) := by
  unfold Blk at h ⊢
  simp [World.setCell, Array.getElem?_modify, h]
theorem Blk.far (h : Blk w g t cs) {p : Addr} (hp : g ≠ p.block) (u : Value) : Blk (w.setCell p u) g t cs := (Below.heap_setCell w p u g hp).trans h
theorem Blk.below {B : Nat} (h : Blk w g t cs) (hb : Below B w w') (hg : g < B) : Blk w' g t cs := (hb.block g hg).trans h
theorem Blk.grown {row : Option Nat} (h : Blk w g t cs) (hb : w.grownBy w' row) (hg : some g ≠ row) : Blk w' g t cs := (hb.block g h.lt hg).trans h
theorem Blk.ne_ {g' : Nat} {t' : TypeId} {cs' : Array Value} (h : Blk w g t cs) (h' : Blk w g' t' cs') (hne : t ≠ t') : g ≠ g' := by
  rintro rfl
  unfold Blk at h h'
  rw [h] at h'
  injection h' with h'
  injection h' with _ ht
  exact hne ht
theorem own_blk_ne {base : Nat} {e : TypeId} {size n : Nat} {v : Value} {xs : List Value} (h : w.ownsRow base e size v n xs) (hg : Blk w g t cs) (hne : e ≠ t) : v.ownBlock ≠ some g := by
  rcases h.2 with ⟨rfl, _⟩ | ⟨g', cap, cur, rfl, _, hh, _⟩
  · simp [Value.ownBlock]
  · intro he
    have : g' = g := by simpa [Value.ownBlock] using he
    subst this
    exact Blk.ne_ (t := e) hh hg hne rfl
end
section
variable {P : Program} (w : World)

theorem run_append_of_nil (base : Nat) (t ty e : TypeId) (i : TypeInfo) (size : Nat) (ht : P.underlying t = some (.slice e)) (hi : P.info? e = some i)
    (v : Value) (n : Nat) (xs : List Value) (hown : w.ownsRow base e size v n xs) (c : Nat) : (Builtin.append_ #[t, t] ty #[v, .slice none 0 c]).run P w = .ok v w := by
  rcases hown.2 with ⟨rfl, rfl⟩ | ⟨g, cap, cur, rfl, _, _, hnc, _⟩
  · simp [Builtin.append_, run_underlying ht, sizeOf, typeInfo, hi, Builtin.lenOf, Builtin.firstCells]
  · simp [Builtin.append_, run_underlying ht, sizeOf, typeInfo, hi, Builtin.lenOf, Builtin.firstCells, hnc, storeCells]

theorem run_append_any (base : Nat) (t ty e : TypeId) (i : TypeInfo) (z : Value) (size bytes : Nat) (ht : P.underlying t = some (.slice e)) (hi : P.info? e = some i) (hz : i.zero = some z)
    (hsize : i.size = size) (hby : i.bytes = bytes) (hzs : z.cells.size = size) (hsz : 0 < size)
    (v : Value) (n : Nat) (xs : List Value) (hown : w.ownsRow base e size v n xs)
    (B : Nat) (A : Option Addr) (m c : Nat) (news : List Value) (hr : Reads w B size A m news) (h1 : ∀ u ∈ news, u.oneCell' = true)
    (h63 : n + m ≤ maxLen) (hbytes : (n + m) * bytes ≤ 140737488355328) (hbase : base ≤ w.heap.size) :
    ∃ v' w', (Builtin.append_ #[t, t] ty #[v, .slice A m c]).run P w = .ok v' w' ∧ w'.ownsRow base e size v' (n + m) (xs ++ news) ∧ w.grownBy w' v.ownBlock ∧
      (v'.ownBlock = v.ownBlock ∨ v'.ownBlock = some w.heap.size) := by
  rcases A with _ | ad
  · have hm : m = 0 := by
      rcases Nat.eq_zero_or_pos m with h0 | h0
      · exact h0
      · obtain ⟨ad, h, _⟩ := hr.2 h0
        cases h
    subst hm
    have hn : news = [] := List.eq_nil_of_length_eq_zero (by simpa using hr.1)
    subst hn
    exact ⟨v, w, run_append_of_nil w base t ty e i size ht hi v n xs hown c, by simpa using hown, World.grownBy.refl w _, .inl rfl⟩
  · have hcells : ∀ j u, news[j]? = some u → w.cell? (ad.add j) = some u := by
      intro j u hu
      rcases Nat.eq_zero_or_pos m with h0 | h0
      · subst h0
        have hn : news = [] := List.eq_nil_of_length_eq_zero (by simpa using hr.1)
        subst hn
        simp at hu
      · obtain ⟨ad', h, _, hc⟩ := hr.2 h0
        injection h with h
        subst h
        exact hc j u hu
    obtain ⟨v', w', hrun, h2, h3, _, h5⟩ := run_append_own_at (P := P) w base t ty e i z size bytes ht hi hz hsize hby hzs hsz v n xs hown ad m c news hr.1 hcells h1 h63 hbytes hbase
    exact ⟨v', w', hrun, h2, h3, h5⟩

theorem wp_append_any {o : Oper} {a : Act} {K : Act → World → Prop} {Q : Exit → Act → World → Prop} (s x : Operand) (t : TypeId)
    (ho : o.op = .call { callee := .builtin .append, args := #[s, x], argTypes := #[t, t] })
    (base : Nat) (e : TypeId) (i : TypeInfo) (z : Value) (size bytes : Nat) (ht : P.underlying t = some (.slice e)) (hi : P.info? e = some i) (hz : i.zero = some z)
    (hsize : i.size = size) (hby : i.bytes = bytes) (hzs : z.cells.size = size) (hsz : 0 < size)
    (v : Value) (n : Nat) (xs : List Value) (hs : a.eval s = v) (hown : w.ownsRow base e size v n xs)
    (B : Nat) (A : Option Addr) (m c : Nat) (news : List Value) (hx : a.eval x = .slice A m c) (hr : Reads w B size A m news) (h1 : ∀ u ∈ news, u.oneCell' = true)
    (h63 : n + m ≤ maxLen) (hbytes : (n + m) * bytes ≤ 140737488355328) (hbase : base ≤ w.heap.size)
    (h : ∀ v' w', w'.ownsRow base e size v' (n + m) (xs ++ news) → w.grownBy w' v.ownBlock → (v'.ownBlock = v.ownBlock ∨ v'.ownBlock = some w.heap.size) → K (a.put o.dst v') w') : o.wp P a w K Q := by
  obtain ⟨v', w', hrun, h2, h3, h4⟩ := run_append_any (P := P) w base t o.type e i z size bytes ht hi hz hsize hby hzs hsz v n xs hown B A m c news hr h1 h63 hbytes hbase
  unfold Oper.wp execOp
  simp only [ho, resolve, invoke, builtin, Sem.run_bind, Sem.run_pure, Result.andThen_ok, List.map_toArray, List.map_cons, List.map_nil, hs, hx, hrun]
  exact h v' w' h2 h3 h4

theorem wpList_append_any {ops : Array Oper} {rest : List Oper} {o : Oper} {a : Act} {Q : Exit → Act → World → Prop} (hgd : o.guard = none) (s x : Operand) (t : TypeId)
    (ho : o.op = .call { callee := .builtin .append, args := #[s, x], argTypes := #[t, t] })
    (base : Nat) (e : TypeId) (i : TypeInfo) (z : Value) (size bytes : Nat) (ht : P.underlying t = some (.slice e)) (hi : P.info? e = some i) (hz : i.zero = some z)
    (hsize : i.size = size) (hby : i.bytes = bytes) (hzs : z.cells.size = size) (hsz : 0 < size)
    (v : Value) (n : Nat) (xs : List Value) (hs : a.eval s = v) (hown : w.ownsRow base e size v n xs)
    (B : Nat) (A : Option Addr) (m c : Nat) (news : List Value) (hx : a.eval x = .slice A m c) (hr : Reads w B size A m news) (h1 : ∀ u ∈ news, u.oneCell' = true)
    (h63 : n + m ≤ maxLen) (hbytes : (n + m) * bytes ≤ 140737488355328) (hbase : base ≤ w.heap.size)
    (h : ∀ v' w', w'.ownsRow base e size v' (n + m) (xs ++ news) → w.grownBy w' v.ownBlock → (v'.ownBlock = v.ownBlock ∨ v'.ownBlock = some w.heap.size) → wpList P ops Q rest (a.put o.dst v') w') : wpList P ops Q (o :: rest) a w :=
  wpList_plain hgd fun _ hK => wp_append_any w s x t ho base e i z size bytes ht hi hz hsize hby hzs hsz v n xs hs hown B A m c news hx hr h1 h63 hbytes hbase fun v' w' h2 h3 h4 => hK _ _ (h v' w' h2 h3 h4)

theorem step_append_any {ops : Array Oper} {o : Oper} {a : Act} {K : Act → World → Prop} {Q : Exit → Act → World → Prop} {E : Prop} (hgd : o.guard = none) (s x : Operand) (t : TypeId)
    (ho : o.op = .call { callee := .builtin .append, args := #[s, x], argTypes := #[t, t] })
    (base : Nat) (e : TypeId) (i : TypeInfo) (z : Value) (size bytes : Nat) (ht : P.underlying t = some (.slice e)) (hi : P.info? e = some i) (hz : i.zero = some z)
    (hsize : i.size = size) (hby : i.bytes = bytes) (hzs : z.cells.size = size) (hsz : 0 < size)
    (v : Value) (n : Nat) (xs : List Value) (hs : a.eval s = v) (hown : w.ownsRow base e size v n xs)
    (B : Nat) (A : Option Addr) (m c : Nat) (news : List Value) (hx : a.eval x = .slice A m c) (hr : Reads w B size A m news) (h1 : ∀ u ∈ news, u.oneCell' = true)
    (h63 : n + m ≤ maxLen) (hbytes : (n + m) * bytes ≤ 140737488355328) (hbase : base ≤ w.heap.size)
    (h : ∀ v' w', w'.ownsRow base e size v' (n + m) (xs ++ news) → w.grownBy w' v.ownBlock → (v'.ownBlock = v.ownBlock ∨ v'.ownBlock = some w.heap.size) → K (a.put o.dst v') w') :
    if Region.wanted o (yielded ops a.tmps) = true then Oper.wp P o a w K Q else E := by
  have hw : Region.wanted o (yielded ops a.tmps) = true := by simp [Region.wanted, hgd]
  rw [if_pos hw]
  exact wp_append_any w s x t ho base e i z size bytes ht hi hz hsize hby hzs hsz v n xs hs hown B A m c news hx hr h1 h63 hbytes hbase h
end
end Go.Proofs.YtjhkihkiebnpaaaGreatDoor
/-
  Rows of trees that grow: kids read out of memory, a kid's cell turned, a row cut. No program in sight.
-/
namespace Go.Proofs.YtjhkihkiebnpaaaGreatDoor
open Go.RowKit
theorem flatT_at (l : List TP) : ∀ (j : Nat) (u : Value), (flatT l)[j]? = some u → ∃ v, l[j / 5]? = some v ∧ (TP.cs v)[j % 5]? = some u := by
  induction l with
  | nil => intro j u h; simp [flatT] at h
  | cons x l ih =>
    intro j u h
    have e : flatT (x :: l) = TP.cs x ++ flatT l := rfl
    have hl : (TP.cs x).length = 5 := rfl
    rw [e] at h
    rcases Nat.lt_or_ge j 5 with hj | hj
    · rw [List.getElem?_append_left (by omega)] at h
      exact ⟨x, by rw [Nat.div_eq_of_lt hj]; rfl, by rw [Nat.mod_eq_of_lt hj]; exact h⟩
    · rw [List.getElem?_append_right (by omega), hl] at h
      obtain ⟨v, h1, h2⟩ := ih _ _ h
      refine ⟨v, ?_, ?_⟩
      · rw [show j / 5 = (j - 5) / 5 + 1 by omega, List.getElem?_cons_succ]; exact h1
      · rw [show j % 5 = (j - 5) % 5 by omega]; exact h2
/-- what lies in memory as kids reads as a list of them -/
theorem kids_reads {w : World} {S : Nat → Prop} {B : Nat} (hSB : ∀ k, S k → k < B) {A : Option Addr} {l : List T} (h : XTK w S A l) :
    ∃ qs : List TP, qs.map Prod.fst = l ∧ Reads w B 5 A l.length (flatT qs) ∧ ∀ q ∈ qs, q.1.kids.length ≤ q.2.2 ∧ XTK w S q.2.1 q.1.kids := by
  cases h with
  | nil A => exact ⟨[], rfl, Reads.none_, fun q hq => by cases hq⟩
  | mk b off l hn hb A c h hk =>
    refine ⟨l.mapIdx fun i e => (e, A i, c i), ?_, ⟨?_, fun _ => ⟨⟨b, off, none⟩, rfl, hSB b hb, fun j u hu => ?_⟩⟩, fun q hq => ?_⟩
    · apply List.ext_getElem?
      intro i
      rw [List.getElem?_map, List.getElem?_mapIdx]
      cases l[i]? <;> rfl
    · rw [flatT_len]; simp
    · obtain ⟨v, h1, h2⟩ := flatT_at _ j u hu
      rw [List.getElem?_mapIdx] at h1
      cases hl : l[j / 5]? with
      | none => rw [hl] at h1; cases h1
      | some e =>
        rw [hl] at h1
        obtain rfl := Option.some.inj h1
        obtain ⟨g1, g2, g3, g4, g5, _⟩ := h _ e hl
        have hadd : (⟨b, off, none⟩ : Addr).add j = ⟨b, off + j, none⟩ := by unfold Addr.add; split <;> simp_all
        rw [hadd, show off + j = off + j / 5 * 5 + j % 5 by omega]
        have hr : j % 5 < 5 := Nat.mod_lt _ (by decide)
        generalize j % 5 = r at *
        match r, hr, h2 with
        | 0, _, h2 => rw [Nat.add_zero, g1, ← h2]; rfl
        | 1, _, h2 => rw [g2, ← h2]; rfl
        | 2, _, h2 => rw [g3, ← h2]; rfl
        | 3, _, h2 => rw [g4, ← h2]; rfl
        | 4, _, h2 => rw [g5, ← h2]; rfl
    · obtain ⟨i, hi⟩ := List.mem_iff_getElem?.1 hq
      rw [List.getElem?_mapIdx] at hi
      cases hl : l[i]? with
      | none => rw [hl] at hi; cases hi
      | some e =>
        rw [hl] at hi
        obtain rfl := Option.some.inj hi
        exact ⟨(h i e hl).2.2.2.2.2, hk i e hl⟩
/-- one of the row's trees gets other kids -/
theorem flatT_set (l : List TP) : ∀ (i : Nat) (v : TP) (ks : List T) (A : Option Addr) (c : Nat), l[i]? = some v →
    (flatT l).set (i * 5 + 3) (.slice A ks.length c) = flatT (l.set i ((.mk v.1.k v.1.s v.1.n ks v.1.at_ : T), A, c)) := by
  induction l with
  | nil => intro i v ks A c h; simp at h
  | cons x l ih =>
    intro i v ks A c h
    have e : flatT (x :: l) = TP.cs x ++ flatT l := rfl
    have hl : (TP.cs x).length = 5 := rfl
    cases i with
    | zero =>
      obtain rfl : x = v := by simpa using h
      rw [e, List.set_append_left _ _ (by omega), List.set_cons_zero]
      rfl
    | succ i =>
      rw [e, List.set_append_right _ _ (by omega), hl, show (i + 1) * 5 + 3 - 5 = i * 5 + 3 by omega, ih i v ks A c (by simpa using h), List.set_cons_succ]
      rfl
theorem own_set_kids {w : World} {base : Nat} {e : TypeId} {g cap m : Nat} {ps : List TP} (h : w.ownsRow base e 5 (.slice (some ⟨g, 0, none⟩) m cap) m (flatT ps)) {i : Nat} {p : TP} (hi : ps[i]? = some p) (ks : List T) (A : Option Addr) (c : Nat) :
    (w.setCell ⟨g, i * 5 + 3, none⟩ (.slice A ks.length c)).ownsRow base e 5 (.slice (some ⟨g, 0, none⟩) m cap) m (flatT (ps.set i ((.mk p.1.k p.1.s p.1.n ks p.1.at_ : T), A, c))) := by
  obtain ⟨h1, h2⟩ := h
  have hlen := flatT_len ps
  refine ⟨by rw [flatT_len, List.length_set, ← hlen]; exact h1, .inr ?_⟩
  rcases h2 with ⟨h', _⟩ | ⟨g', cap', cur, h', hb, hg, hnc, hcm, hcs, htake⟩
  · simp at h'
  · simp only [Value.slice.injEq, Option.some.injEq, Addr.mk.injEq, and_true, true_and] at h'
    obtain ⟨rfl, rfl⟩ := h'
    refine ⟨g, cap, cur.setIfInBounds (i * 5 + 3) (.slice A ks.length c), rfl, hb, Blk.set_ hg _ _, hnc, hcm, by simpa using hcs, ?_⟩
    rw [Array.toList_setIfInBounds, List.take_set, htake, flatT_set ps i p ks A c hi]
theorem own_take {w : World} {base : Nat} {e : TypeId} {g cap m : Nat} {ps : List TP} (h : w.ownsRow base e 5 (.slice (some ⟨g, 0, none⟩) m cap) m (flatT ps)) (hm : ps.length = m) {k : Nat} (hk : k ≤ m) :
    w.ownsRow base e 5 (.slice (some ⟨g, 0, none⟩) k cap) k (flatT (ps.take k)) := by
  obtain ⟨h1, h2⟩ := h
  refine ⟨by rw [flatT_len, List.length_take]; congr 1; omega, .inr ?_⟩
  rcases h2 with ⟨h', _⟩ | ⟨g', cap', cur, h', hb, hg, hnc, hcm, hcs, htake⟩
  · simp at h'
  · simp only [Value.slice.injEq, Option.some.injEq, Addr.mk.injEq, and_true, true_and] at h'
    obtain ⟨rfl, rfl⟩ := h'
    refine ⟨g, cap, cur, rfl, hb, hg, by omega, hcm, hcs, ?_⟩
    have e1 : flatT ps = flatT (ps.take k) ++ flatT (ps.drop k) := by rw [← flatT_append, List.take_append_drop]
    have e2 : (flatT (ps.take k)).length = k * 5 := by rw [flatT_len, List.length_take]; congr 1; omega
    have e3 : List.take (k * 5) cur.toList = List.take (k * 5) (List.take (m * 5) cur.toList) := by rw [List.take_take]; congr 1; omega
    rw [e3, htake, e1, List.take_left' e2]
end Go.Proofs.YtjhkihkiebnpaaaGreatDoor
/-
  Trees in memory, for texts that also know expressions. No program in sight.
-/
/-
  What package sexp's reader computes. No program in sight.
-/
set_option linter.unusedVariables false
set_option linter.unusedSimpArgs false
namespace Go.Proofs.YtjhkihkiebnpaaaGreatDoor
open Go.RowKit
def letP (c : UInt8) : Bool := decide (97 ≤ (c.toNat : Int)) && decide ((c.toNat : Int) ≤ 122)
def digP (c : UInt8) : Bool := decide (48 ≤ (c.toNat : Int)) && decide ((c.toNat : Int) ≤ 57)
/-- the sign at a place -/
def bt (s : ByteArray) (i : Nat) : UInt8 := if h : i < s.size then s[i] else 0
theorem bt_eq {s : ByteArray} {i : Nat} (h : i < s.size) : bt s i = s[i] := dif_pos h
/-- how far the signs of a kind go on -/
def runE (p : UInt8 → Bool) (s : ByteArray) (i : Nat) : Nat := if i < s.size then (if p (bt s i) then runE p s (i + 1) else i) else i
termination_by s.size - i
theorem runE_end {p : UInt8 → Bool} {s : ByteArray} {i : Nat} (h : ¬ i < s.size) : runE p s i = i := by rw [runE, if_neg h]
theorem runE_stop {p : UInt8 → Bool} {s : ByteArray} {i : Nat} (h : p (bt s i) = false) : runE p s i = i := by
  rw [runE]
  split
  · rw [h]; rfl
  · rfl
theorem runE_step {p : UInt8 → Bool} {s : ByteArray} {i : Nat} (h : i < s.size) (hp : p (bt s i) = true) : runE p s i = runE p s (i + 1) := by
  rw [runE, if_pos h, hp]
  rfl
theorem runE_ge {p : UInt8 → Bool} {s : ByteArray} : ∀ (n i : Nat), s.size - i = n → i ≤ runE p s i ∧ (i ≤ s.size → runE p s i ≤ s.size)
  | n, i, hn => by
    by_cases h : i < s.size
    · cases hp : p (bt s i)
      · rw [runE_stop hp]; exact ⟨Nat.le_refl _, fun h => h⟩
      · obtain ⟨m, rfl⟩ : ∃ m, n = m + 1 := ⟨n - 1, by omega⟩
        have := runE_ge (p := p) (s := s) m (i + 1) (by omega)
        rw [runE_step h hp]
        exact ⟨by omega, fun _ => this.2 (by omega)⟩
    · rw [runE_end h]; exact ⟨Nat.le_refl _, fun h => h⟩
theorem runE_lt {p : UInt8 → Bool} {s : ByteArray} {i : Nat} (h : i < s.size) (hp : p (bt s i) = true) : i < runE p s i := by
  rw [runE_step h hp]
  have := (runE_ge (p := p) (s := s) _ (i + 1) rfl).1
  omega
/-- where the digits of a number begin -/
def numFrom (s : ByteArray) (i : Nat) : Nat := if ((bt s i).toNat : Int) = 45 then i + 1 else i
/-- a number and where it ends -/
def numberE (s : ByteArray) (i : Nat) : Option (Int × Nat) :=
  if runE digP s (numFrom s i) = numFrom s i then none else
    match Lib.parseIntB 64 (s.extract i (runE digP s (numFrom s i))).data.toList with
    | .ok v => some (v, runE digP s (numFrom s i))
    | _ => none
def hexDigits : ByteArray := ⟨#[48, 49, 50, 51, 52, 53, 54, 55, 56, 57, 97, 98, 99, 100, 101, 102]⟩
def hexE (c : UInt8) : Int := Lib.indexByte hexDigits.data.toList c
def encB (b : UInt8) : Value := .int .u8 (b.toNat : Int)
def encL (l : List UInt8) : List Value := l.map encB
def escB (a b : Int) : UInt8 := UInt8.ofNat (IntKind.u8.wrap (bits .or .i64 (IntKind.i64.wrap (a * 16)) b)).toNat
theorem escB_enc (a b : Int) : encB (escB a b) = .int .u8 (IntKind.u8.wrap (bits .or .i64 (IntKind.i64.wrap (a * 16)) b)) := by
  unfold escB encB
  generalize bits .or .i64 (IntKind.i64.wrap (a * 16)) b = x
  have h : 0 ≤ IntKind.u8.wrap x ∧ IntKind.u8.wrap x < 256 := by
    unfold IntKind.wrap
    simp [IntKind.bits, IntKind.signed]
    omega
  congr 1
  rw [UInt8.toNat_ofNat']
  omega
/-- a text that begins at a place: its bytes, where it ends, why it is refused, and where -/
def textR (s : ByteArray) (p : Nat) (i : Nat) (l : List UInt8) : List UInt8 × Nat × Int × Int :=
  if i < s.size then
    (if ((bt s i).toNat : Int) = 34 then (if 40 < l.length then ([], 0, 3, p) else (l, i + 1, 0, 0))
     else if ((bt s i).toNat : Int) = 92 then
       (if i + 1 < s.size then
          (if hexE (bt s (i + 1)) < 0 then ([], 0, 12, i)
           else if i + 2 < s.size then
             (if hexE (bt s (i + 2)) < 0 then ([], 0, 12, i) else textR s p (i + 3) (l ++ [escB (hexE (bt s (i + 1))) (hexE (bt s (i + 2)))]))
           else ([], 0, 10, s.size))
        else ([], 0, 10, s.size))
     else if ((bt s i).toNat : Int) < 32 ∨ 126 < ((bt s i).toNat : Int) then ([], 0, 12, i)
     else textR s p (i + 1) (l ++ [bt s i]))
  else ([], 0, 10, s.size)
termination_by s.size - i
def textE (s : ByteArray) (p : Nat) : List UInt8 × Nat × Int × Int := textR s p (p + 1) []
/-- the step that a sign at i is -/
theorem textR_end {s : ByteArray} {p i : Nat} {l : List UInt8} (h : ¬ i < s.size) : textR s p i l = ([], 0, 10, (s.size : Int)) := by rw [textR, if_neg h]
theorem textR_quote {s : ByteArray} {p i : Nat} {l : List UInt8} (h : i < s.size) (h34 : ((bt s i).toNat : Int) = 34) : textR s p i l = if 40 < l.length then ([], 0, 3, (p : Int)) else (l, i + 1, 0, 0) := by
  rw [textR, if_pos h, if_pos h34]
theorem textR_bad {s : ByteArray} {p i : Nat} {l : List UInt8} (h : i < s.size) (h34 : ¬ ((bt s i).toNat : Int) = 34) (h92 : ¬ ((bt s i).toNat : Int) = 92) (hb : ((bt s i).toNat : Int) < 32 ∨ 126 < ((bt s i).toNat : Int)) : textR s p i l = ([], 0, 12, (i : Int)) := by
  rw [textR, if_pos h, if_neg h34, if_neg h92, if_pos hb]
theorem textR_sign {s : ByteArray} {p i : Nat} {l : List UInt8} (h : i < s.size) (h34 : ¬ ((bt s i).toNat : Int) = 34) (h92 : ¬ ((bt s i).toNat : Int) = 92) (hb : ¬ (((bt s i).toNat : Int) < 32 ∨ 126 < ((bt s i).toNat : Int))) : textR s p i l = textR s p (i + 1) (l ++ [bt s i]) := by
  rw [textR, if_pos h, if_neg h34, if_neg h92, if_neg hb]
theorem textR_esc {s : ByteArray} {p i : Nat} {l : List UInt8} (h : i < s.size) (h92 : ((bt s i).toNat : Int) = 92) : textR s p i l =
    (if i + 1 < s.size then
          (if hexE (bt s (i + 1)) < 0 then ([], 0, 12, (i : Int))
           else if i + 2 < s.size then
             (if hexE (bt s (i + 2)) < 0 then ([], 0, 12, (i : Int)) else textR s p (i + 3) (l ++ [escB (hexE (bt s (i + 1))) (hexE (bt s (i + 2)))]))
           else ([], 0, 10, (s.size : Int)))
        else ([], 0, 10, (s.size : Int))) := by
  rw [textR, if_pos h, if_neg (by omega), if_pos h92]
theorem textR_escStop {s : ByteArray} {p i m : Nat} {l : List UInt8} (h : i < s.size) (h92 : ((bt s i).toNat : Int) = 92) (hm : m = 1 ∨ m = 2) (hp : m = 2 → i + 1 < s.size ∧ ¬ hexE (bt s (i + 1)) < 0) :
    (¬ i + m < s.size → textR s p i l = ([], 0, 10, (s.size : Int))) ∧ (i + m < s.size → hexE (bt s (i + m)) < 0 → textR s p i l = ([], 0, 12, (i : Int))) := by
  rw [textR_esc h h92]
  rcases hm with rfl | rfl
  · exact ⟨fun h1 => by rw [if_neg h1], fun h1 h2 => by rw [if_pos h1, if_pos h2]⟩
  · obtain ⟨h1, h2⟩ := hp rfl
    exact ⟨fun h3 => by rw [if_pos h1, if_neg h2, if_neg h3], fun h3 h4 => by rw [if_pos h1, if_neg h2, if_pos h3, if_pos h4]⟩
theorem textR_escGo {s : ByteArray} {p i : Nat} {l : List UInt8} (h : i < s.size) (h92 : ((bt s i).toNat : Int) = 92) (h1 : i + 1 < s.size) (h2 : ¬ hexE (bt s (i + 1)) < 0) (h3 : i + 2 < s.size) (h4 : ¬ hexE (bt s (i + 2)) < 0) :
    textR s p i l = textR s p (i + 3) (l ++ [escB (hexE (bt s (i + 1))) (hexE (bt s (i + 2)))]) := by
  rw [textR_esc h h92, if_pos h1, if_neg h2, if_pos h3, if_neg h4]
theorem textR_ends (s : ByteArray) (p : Nat) : ∀ (n i : Nat) (l : List UInt8), s.size - i = n → i ≤ s.size → p ≤ s.size → p < i → l.length ≤ i →
    ((textR s p i l).2.2.1 = 0 → p < (textR s p i l).2.1 ∧ (textR s p i l).2.1 ≤ s.size) ∧ ((textR s p i l).2.2.1 ≠ 0 → 0 ≤ (textR s p i l).2.2.2 ∧ (textR s p i l).2.2.2 ≤ s.size) ∧ (textR s p i l).1.length ≤ 40 ∧ (textR s p i l).2.1 ≤ s.size := by
  intro n
  induction n using Nat.strongRecOn with
  | _ n ih =>
    intro i l hn hi hp hpi hl
    by_cases h : i < s.size
    · by_cases h34 : ((bt s i).toNat : Int) = 34
      · rw [textR_quote h h34]
        split
        · exact ⟨fun h => by simp at h, fun _ => ⟨by simp only; omega, by simp only; omega⟩, by simp, by simp⟩
        · exact ⟨fun _ => ⟨by simp only; omega, by simp only; omega⟩, fun h => by simp at h, by simp only; omega, by simp only; omega⟩
      · by_cases h92 : ((bt s i).toNat : Int) = 92
        · rw [textR_esc h h92]
          by_cases h1 : i + 1 < s.size
          · rw [if_pos h1]
            by_cases h2 : hexE (bt s (i + 1)) < 0
            · rw [if_pos h2]
              exact ⟨fun h => by simp at h, fun _ => ⟨by simp only; omega, by simp only; omega⟩, by simp, by simp⟩
            · rw [if_neg h2]
              by_cases h3 : i + 2 < s.size
              · rw [if_pos h3]
                by_cases h4 : hexE (bt s (i + 2)) < 0
                · rw [if_pos h4]
                  exact ⟨fun h => by simp at h, fun _ => ⟨by simp only; omega, by simp only; omega⟩, by simp, by simp⟩
                · rw [if_neg h4]
                  exact ih (s.size - (i + 3)) (by omega) (i + 3) _ rfl (by omega) hp (by omega) (by simp; omega)
              · rw [if_neg h3]
                exact ⟨fun h => by simp at h, fun _ => ⟨by simp only; omega, by simp only; omega⟩, by simp, by simp⟩
          · rw [if_neg h1]
            exact ⟨fun h => by simp at h, fun _ => ⟨by simp only; omega, by simp only; omega⟩, by simp, by simp⟩
        · by_cases hb : ((bt s i).toNat : Int) < 32 ∨ 126 < ((bt s i).toNat : Int)
          · rw [textR_bad h h34 h92 hb]
            exact ⟨fun h => by simp at h, fun _ => ⟨by simp only; omega, by simp only; omega⟩, by simp, by simp⟩
          · rw [textR_sign h h34 h92 hb]
            exact ih (s.size - (i + 1)) (by omega) (i + 1) _ rfl (by omega) hp (by omega) (by simp; omega)
    · rw [textR_end h]
      exact ⟨fun h => by simp at h, fun _ => ⟨by simp only; omega, by simp only; omega⟩, by simp, by simp⟩
/-- what begins at a place, an opening apart: it, where it ends, why it is refused, and where -/
def oneE (s : ByteArray) (i : Nat) (wh : Bool) : T × Int × Int × Int :=
  if wh && (letP (bt s i) || digP (bt s i) || decide (((bt s i).toNat : Int) = 45) || decide (((bt s i).toNat : Int) = 34)) then (.mk 0 ⟨#[]⟩ 0 [] i, i + 1, 11, i)
  else if letP (bt s i) then (.mk 2 (s.extract i (runE letP s i)) 0 [] i, runE letP s i, 0, 0)
  else if digP (bt s i) || decide (((bt s i).toNat : Int) = 45) then
    (match numberE s i with
      | some (n, e) => (.mk 3 ⟨#[]⟩ n [] i, e, 0, 0)
      | none => (.mk 3 ⟨#[]⟩ 0 [] i, -1, 12, i))
  else if ((bt s i).toNat : Int) = 34 then (.mk 4 ⟨(textE s i).1.toArray⟩ 0 [] i, (textE s i).2.1, (textE s i).2.2.1, (textE s i).2.2.2)
  else (.mk 0 ⟨#[]⟩ 0 [] i, i + 1, 12, i)
/-- a tree gets one kid more -/
def T.kid (p t : T) : T := .mk p.k p.s p.n (p.kids ++ [t]) p.at_
/-- a tree is put where it belongs -/
def addE (op dn : List T) (t : T) : List T × List T :=
  match op[op.length - 1]? with
  | some p => (op.set (op.length - 1) (p.kid t), dn)
  | none => (op, dn ++ [t])
def zeroT : T := .mk 0 ⟨#[]⟩ 0 [] 0
/-- what is read from a place on -/
def readE (s : ByteArray) (op dn : List T) (i : Nat) : T × Int × Int :=
  if h : i < s.size then
    (if ((bt s i).toNat : Int) = 32 ∨ ((bt s i).toNat : Int) = 10 then readE s op dn (i + 1)
     else if ((bt s i).toNat : Int) = 40 then
       (if 12 ≤ op.length then (zeroT, 14, i) else if 0 < dn.length then (zeroT, 11, i) else readE s (op ++ [.mk 1 ⟨#[]⟩ 0 [] i]) dn (i + 1))
     else if ((bt s i).toNat : Int) = 41 then
       (match op[op.length - 1]? with
         | some t => readE s (addE (op.take (op.length - 1)) dn t).1 (addE (op.take (op.length - 1)) dn t).2 (i + 1)
         | none => (zeroT, 12, i))
     else if (oneE s i (decide (0 < dn.length))).2.2.1 = 0 then
       (if hj : (i : Int) < (oneE s i (decide (0 < dn.length))).2.1 then
         readE s (addE op dn (oneE s i (decide (0 < dn.length))).1).1 (addE op dn (oneE s i (decide (0 < dn.length))).1).2 (oneE s i (decide (0 < dn.length))).2.1.toNat
        else (zeroT, 0, 0))
     else (zeroT, (oneE s i (decide (0 < dn.length))).2.2.1, (oneE s i (decide (0 < dn.length))).2.2.2))
  else if 0 < op.length then (zeroT, 10, s.size)
  else (match dn with
    | t :: _ => (t, 0, 0)
    | [] => (zeroT, 10, s.size))
termination_by s.size - i
decreasing_by all_goals omega
end Go.Proofs.YtjhkihkiebnpaaaGreatDoor
/-
  What package sexp's reader computes, step by step; what begins at a place ends behind it. No program in sight.
-/
set_option linter.unusedVariables false
set_option linter.unusedSimpArgs false
namespace Go.Proofs.YtjhkihkiebnpaaaGreatDoor
open Go.RowKit
theorem numberE_end {s : ByteArray} {i : Nat} {n : Int} {e : Nat} (hi : i < s.size) (h : numberE s i = some (n, e)) : i < e ∧ e ≤ s.size := by
  unfold numberE at h
  have hf : i ≤ numFrom s i ∧ numFrom s i ≤ s.size := by unfold numFrom; split <;> omega
  have hr := runE_ge (p := digP) (s := s) _ (numFrom s i) rfl
  split at h
  · cases h
  · rename_i hne
    split at h
    · injection h with h
      injection h with _ h
      subst h
      exact ⟨by omega, hr.2 hf.2⟩
    · cases h
theorem oneE_end {s : ByteArray} {i : Nat} (wh : Bool) (hi : i < s.size) : (oneE s i wh).1.kids = [] ∧ ((oneE s i wh).2.2.1 = 0 → (i : Int) < (oneE s i wh).2.1 ∧ (oneE s i wh).2.1 ≤ s.size ∧ wh = false) ∧ ((oneE s i wh).2.2.1 ≠ 0 → 0 ≤ (oneE s i wh).2.2.2 ∧ (oneE s i wh).2.2.2 ≤ s.size) := by
  unfold oneE
  split
  · exact ⟨rfl, fun h => by simp at h, fun _ => ⟨by simp only; omega, by simp only; omega⟩⟩
  · rename_i hw
    have hwh : letP (bt s i) = true ∨ digP (bt s i) = true ∨ ((bt s i).toNat : Int) = 45 ∨ ((bt s i).toNat : Int) = 34 → wh = false := fun h => by
      cases wh
      · rfl
      · exact absurd (by simp; rcases h with h | h | h | h <;> simp [h]) hw
    split
    · rename_i hl
      have hr := runE_ge (p := letP) (s := s) _ i rfl
      have hlt := runE_lt hi hl
      exact ⟨rfl, fun _ => ⟨by simp only; omega, by have := hr.2 (by omega); simp only; omega, hwh (.inl hl)⟩, fun h => by simp at h⟩
    · split
      · rename_i hd
        have hdd : wh = false := hwh (by
          simp only [Bool.or_eq_true, decide_eq_true_eq] at hd
          rcases hd with h | h
          · exact .inr (.inl h)
          · exact .inr (.inr (.inl h)))
        cases hq : numberE s i with
        | none => exact ⟨rfl, fun h => by simp at h, fun _ => ⟨by simp only; omega, by simp only; omega⟩⟩
        | some ne =>
          obtain ⟨n, e⟩ := ne
          have := numberE_end hi hq
          exact ⟨rfl, fun _ => ⟨by simp only; omega, by simp only; omega, hdd⟩, fun h => by simp at h⟩
      · split
        · rename_i h34
          have ht := textR_ends s i _ (i + 1) [] rfl (by omega) (by omega) (by omega) (by simp)
          exact ⟨rfl, fun h => ⟨by have := (ht.1 h).1; simp only [textE]; omega, by have := (ht.1 h).2; simp only [textE]; omega, hwh (.inr (.inr (.inr h34)))⟩, fun h => ht.2.1 h⟩
        · exact ⟨rfl, fun h => by simp at h, fun _ => ⟨by simp only; omega, by simp only; omega⟩⟩
section
variable {s : ByteArray} {op dn : List T} {i : Nat}
theorem readE_blank (h : i < s.size) (hb : ((bt s i).toNat : Int) = 32 ∨ ((bt s i).toNat : Int) = 10) : readE s op dn i = readE s op dn (i + 1) := by
  rw [readE.eq_def, dif_pos h, if_pos hb]
theorem readE_open (h : i < s.size) (hc : ((bt s i).toNat : Int) = 40) : readE s op dn i = if 12 ≤ op.length then (zeroT, 14, (i : Int)) else if 0 < dn.length then (zeroT, 11, (i : Int)) else readE s (op ++ [.mk 1 ⟨#[]⟩ 0 [] i]) dn (i + 1) := by
  rw [readE.eq_def, dif_pos h, if_neg (by omega), if_pos hc]
theorem readE_close0 (h : i < s.size) (hc : ((bt s i).toNat : Int) = 41) (hop : op.length = 0) : readE s op dn i = (zeroT, 12, (i : Int)) := by
  rw [readE.eq_def, dif_pos h, if_neg (by omega), if_neg (by omega), if_pos hc]
  have e0 : op = [] := List.eq_nil_of_length_eq_zero hop
  subst e0
  rfl
theorem readE_close {m : Nat} {t : T} (h : i < s.size) (hc : ((bt s i).toNat : Int) = 41) (hm : op.length = m + 1) (ht : op[m]? = some t) : readE s op dn i = readE s (addE (op.take m) dn t).1 (addE (op.take m) dn t).2 (i + 1) := by
  rw [readE.eq_def, dif_pos h, if_neg (by omega), if_neg (by omega), if_pos hc, hm, Nat.add_sub_cancel, ht]
theorem readE_bad (h : i < s.size) (h32 : ¬ ((bt s i).toNat : Int) = 32) (h10 : ¬ ((bt s i).toNat : Int) = 10) (h40 : ¬ ((bt s i).toNat : Int) = 40) (h41 : ¬ ((bt s i).toNat : Int) = 41) (hw : ¬ (oneE s i (decide (0 < dn.length))).2.2.1 = 0) :
    readE s op dn i = (zeroT, (oneE s i (decide (0 < dn.length))).2.2.1, (oneE s i (decide (0 < dn.length))).2.2.2) := by
  rw [readE.eq_def, dif_pos h, if_neg (by omega), if_neg h40, if_neg h41, if_neg hw]
theorem readE_leaf (h : i < s.size) (h32 : ¬ ((bt s i).toNat : Int) = 32) (h10 : ¬ ((bt s i).toNat : Int) = 10) (h40 : ¬ ((bt s i).toNat : Int) = 40) (h41 : ¬ ((bt s i).toNat : Int) = 41) (hw : (oneE s i (decide (0 < dn.length))).2.2.1 = 0) :
    readE s op dn i = readE s (addE op dn (oneE s i (decide (0 < dn.length))).1).1 (addE op dn (oneE s i (decide (0 < dn.length))).1).2 (oneE s i (decide (0 < dn.length))).2.1.toNat := by
  rw [readE.eq_def, dif_pos h, if_neg (by omega), if_neg h40, if_neg h41, if_pos hw, dif_pos ((oneE_end _ h).2.1 hw).1]
theorem readE_end (h : ¬ i < s.size) : readE s op dn i = if 0 < op.length then (zeroT, (10 : Int), (s.size : Int)) else match dn with
    | t :: _ => (t, (0 : Int), (0 : Int))
    | [] => (zeroT, (10 : Int), (s.size : Int)) := by
  rw [readE.eq_def, dif_neg h]
  all_goals (cases dn <;> rfl)
end
end Go.Proofs.YtjhkihkiebnpaaaGreatDoor
/-
  Bytes that are read; bytes in new memory. (XBytes without the wire.)
-/
namespace Go.Proofs.YtjhkihkiebnpaaaGreatDoor
open Go.RowKit
theorem u8_info : (Tryz.prog.info? 5).map (fun i => (i.zero, i.size, i.bytes)) = some (some (.int .u8 0), 1, 1) := by kernel_rfl
def u8s (l : List UInt8) : List Value := l.map fun c => .int .u8 c.toNat
theorem u8s_len (l : List UInt8) : (u8s l).length = l.length := by simp [u8s]
theorem u8s_append (a b : List UInt8) : u8s (a ++ b) = u8s a ++ u8s b := by simp [u8s]
theorem u8s_ones (l : List UInt8) : ∀ u ∈ u8s l, u.oneCell' = true := by
  intro u hu
  obtain ⟨c, _, rfl⟩ := List.mem_map.1 hu
  rfl
/-- bytes that are read -/
def BR (w : World) (A : Option Addr) (l : List UInt8) : Prop := Reads w w.heap.size 1 A l.length (u8s l)
/-- bytes in new memory -/
def OwnB (B : Nat) (w : World) (v : Value) (l : List UInt8) : Prop := w.ownsRow B 5 1 v l.length (u8s l)
theorem BR.nil_ (w : World) (A : Option Addr) : BR w A [] := ⟨rfl, fun h => absurd h (by simp)⟩
theorem BR.kept {w w' : World} {A : Option Addr} {l : List UInt8} (h : BR w A l) (hw : Below w.heap.size w w') : BR w' A l := (h.below hw).more hw.size
theorem OwnB.slice {B : Nat} {w : World} {v : Value} {l : List UInt8} (h : OwnB B w v l) : ∃ A c, v = .slice A l.length c ∧ l.length ≤ c ∧ BR w A l ∧ (∀ k, v.ownBlock = some k → B ≤ k ∧ k < w.heap.size) := by
  rcases id h.2 with ⟨rfl, h0⟩ | ⟨g, cap, cur, rfl, h1, hh, hle, _, _⟩
  · obtain rfl : l = [] := List.eq_nil_of_length_eq_zero h0
    exact ⟨none, 0, rfl, Nat.le_refl _, BR.nil_ _ _, h.lt⟩
  · exact ⟨_, _, rfl, hle, Reads.of_own h, h.lt⟩
theorem OwnB.form {B : Nat} {w : World} {v : Value} {l : List UInt8} (h : OwnB B w v l) : ∃ A n c, v = .slice A n c := by
  obtain ⟨A, c, e, _⟩ := h.slice
  exact ⟨A, _, c, e⟩
theorem own_base {w : World} {B B' n : Nat} {e : TypeId} {z : Nat} {v : Value} {xs : List Value} (h : w.ownsRow B e z v n xs) (hB : B' ≤ B) : w.ownsRow B' e z v n xs := by
  rcases h with ⟨h1, h2⟩
  refine ⟨h1, ?_⟩
  rcases h2 with h2 | ⟨g, cap, cur, rfl, h3, h4⟩
  · exact .inl h2
  · exact .inr ⟨g, cap, cur, rfl, by omega, h4⟩
theorem own_up {w : World} {B B' n : Nat} {e : TypeId} {z : Nat} {v : Value} {xs : List Value} (h : w.ownsRow B e z v n xs) (hB : ∀ k, v.ownBlock = some k → B' ≤ k) : w.ownsRow B' e z v n xs := by
  rcases h with ⟨h1, h2⟩
  refine ⟨h1, ?_⟩
  rcases h2 with h2 | ⟨g, cap, cur, rfl, h3, h4⟩
  · exact .inl h2
  · exact .inr ⟨g, cap, cur, rfl, hB g rfl, h4⟩
theorem ownB_of {w : World} {B m : Nat} {v : Value} {xs : List Value} {l : List UInt8} (h : w.ownsRow B 5 1 v m xs) (hx : xs = u8s l) : OwnB B w v l := by
  subst hx
  have h1 := h.1
  rw [u8s_len, Nat.mul_one] at h1
  subst h1
  exact h
set_option maxRecDepth 100000 in
theorem own_conv {w : World} {B : Nat} {v : Value} {l : List UInt8} (h : OwnB B w v l) : (convert 151 9 v).run Tryz.prog w = .ok (.string ⟨l.toArray⟩) w := by
  unfold OwnB at h
  rcases id h.2 with ⟨rfl, h0⟩ | ⟨g, cap, cur, rfl, _⟩
  · have e0 : l = [] := List.eq_nil_of_length_eq_zero h0
    subst e0
    rw [run_convert_bytes_nil (P := Tryz.prog) w 151 5 Tryz.underlying151 Tryz.underlying5 _ _ 9 Tryz.underlying9]
    rfl
  · exact run_convert_bytes_back (P := Tryz.prog) w 151 9 5 ⟨g, 0, none⟩ cap l Tryz.underlying151 Tryz.underlying5 Tryz.underlying9 (fun q hq => h.cells rfl q _ (by simp [u8s, hq]))
end Go.Proofs.YtjhkihkiebnpaaaGreatDoor
/-
  Package value's Show: its contract.
-/
namespace Go.Proofs.YtjhkihkiebnpaaaGreatDoor
open Go.RowKit
def hexL : List UInt8 := [48, 49, 50, 51, 52, 53, 54, 55, 56, 57, 97, 98, 99, 100, 101, 102]
def hexD (n : Nat) : UInt8 := hexL.getD n 0
def plainC (c : UInt8) : Bool := ((decide (32 ≤ (c.toNat : Int)) && decide ((c.toNat : Int) ≤ 126)) && (c.toNat : Int) != 34) && (c.toNat : Int) != 92
def qB (c : UInt8) : List UInt8 := if plainC c then [c] else [92, hexD (c.toNat / 16), hexD (c.toNat % 16)]
def quoteL (l : List UInt8) : List UInt8 := 34 :: l.flatMap qB ++ [34]
def showL (v : V) : List UInt8 := if V.okB v then (if v.k == 1 then Lib.itoa v.n else quoteL v.s.data.toList) else [63]
theorem and15_fin : ∀ c : Fin 256, bits BinOp.and IntKind.u8 ((c.val : Nat) : Int) 15 = ((c.val : Nat) : Int) % 16 := by decide +kernel
theorem and15 (c : UInt8) : bits BinOp.and IntKind.u8 (c.toNat : Int) 15 = (c.toNat : Int) % 16 := and15_fin ⟨c.toNat, c.toNat_lt⟩
theorem hex_fin : ∀ i : Fin 16, ∀ h, (ByteArray.mk #[48, 49, 50, 51, 52, 53, 54, 55, 56, 57, 97, 98, 99, 100, 101, 102])[i.val]'h = hexD i.val := by decide +kernel
theorem hex_hi (c : UInt8) : ∀ h, (ByteArray.mk #[48, 49, 50, 51, 52, 53, 54, 55, 56, 57, 97, 98, 99, 100, 101, 102])[((c.toNat : Int) / 16).toNat]'h = hexD (c.toNat / 16) := by
  intro h
  have e : ((c.toNat : Int) / 16).toNat = c.toNat / 16 := by omega
  have hl : c.toNat / 16 < 16 := by have := c.toNat_lt; omega
  have := hex_fin ⟨c.toNat / 16, hl⟩ (show c.toNat / 16 < 16 from hl)
  simpa only [e] using this
theorem hex_lo (c : UInt8) : ∀ h, (ByteArray.mk #[48, 49, 50, 51, 52, 53, 54, 55, 56, 57, 97, 98, 99, 100, 101, 102])[((c.toNat : Int) % 16).toNat]'h = hexD (c.toNat % 16) := by
  intro h
  have e : ((c.toNat : Int) % 16).toNat = c.toNat % 16 := by omega
  have hl : c.toNat % 16 < 16 := by omega
  have := hex_fin ⟨c.toNat % 16, hl⟩ (show c.toNat % 16 < 16 from hl)
  simpa only [e] using this
theorem take_q (s : ByteArray) (k : Nat) (h : k < s.size) : (s.data.toList.take (k + 1)).flatMap qB = (s.data.toList.take k).flatMap qB ++ qB s[k] := by
  rw [List.take_succ_eq_append_getElem (by simpa using h), List.flatMap_append]
  simp
  rfl
theorem qB_le (c : UInt8) : (qB c).length ≤ 3 := by unfold qB; split <;> simp
theorem fq_le (l : List UInt8) : (l.flatMap qB).length ≤ 3 * l.length := by
  induction l with
  | nil => simp
  | cons c l ih => have := qB_le c; simp only [List.flatMap_cons, List.length_append, List.length_cons]; omega

set_option maxRecDepth 100000 in
set_option maxHeartbeats 1000000 in
theorem show_text (s : ByteArray) (hs : s.size ≤ 40) (n : Int) (k : Int) (hk : (k == 2) = true) (hok : V.okB ⟨k, n, s⟩ = true) (w : World) :
    Calls Tryz.prog 63 #[.agg #[.int .i64 k, .int .i64 n, .string s]] w fun e w' => e = .returned (.string ⟨(quoteL s.data.toList).toArray⟩) ∧ Below w.heap.size w w' := by
  obtain ⟨i0, hi0, hz0, hz1, hz2⟩ := info_parts u8_info
  have hr := Lib.hid (value_right k n s)
  have hk1 : (k == 1) = false := by simp at hk ⊢; omega
  rw [hok] at hr
  clear hok
  go_enter Tryz.func63, Tryz.ntmps63
  go_wp2_with fail
  refine (hr.out _).mono ?_
  rintro e w' ⟨rfl, rfl⟩
  go_wp2_with fail
  obtain ⟨W0, hW0⟩ : ∃ W0, W0 = w.alloc (.cells #[.int .i64 k, .int .i64 n, .string s] 114) := ⟨_, rfl⟩
  have hbox : Hid (∀ w1, Below W0.heap.size W0 w1 → w1.cell? ⟨w.heap.size, 2, none⟩ = some (.string s)) := Lib.hid fun w1 h1 => by
    subst hW0
    rw [h1.cell (by simp)]
    simp
  have hsz : W0.heap.size = w.heap.size + 1 := by subst hW0; simp
  have hsz' := Lib.hid hsz
  have hB0 : Hid (Below w.heap.size w W0) := Lib.hid (by subst hW0; exact (Below.refl _ _).alloc (Nat.le_refl _) _)
  have hstart : Hid (OwnB W0.heap.size ((W0.alloc (.cells #[.int .i64 k, .int .i64 n, .string s] 114)).alloc (.cells #[.int .u8 34] 5)) (.slice (some ⟨w.heap.size + 1 + 1, 0, none⟩) 1 1) [34]) := Lib.hid (by
    have := World.ownsRow_lit (base := W0.heap.size) (e := 5) (size := 1) (W0.alloc (.cells #[.int .i64 k, .int .i64 n, .string s] 114)) #[.int .u8 34] 1 (by simp) (by decide) rfl
    have e : (W0.alloc (.cells #[.int .i64 k, .int .i64 n, .string s] 114)).heap.size = w.heap.size + 1 + 1 := by simp [hsz]
    rw [e] at this
    exact this)
  have hB1 : Hid (Below W0.heap.size W0 ((W0.alloc (.cells #[.int .i64 k, .int .i64 n, .string s] 114)).alloc (.cells #[.int .u8 34] 5))) := Lib.hid (((Below.refl _ _).alloc (Nat.le_refl _) _).alloc (by simp) _)
  rw [← hW0]
  clear hW0 hsz
  go_loopw [3, 22] (fun v i wr => ∃ j : Nat, j ≤ s.size ∧ i = .int .i64 j ∧ OwnB W0.heap.size wr v (34 :: (s.data.toList.take j).flatMap qB) ∧ Below W0.heap.size W0 wr) (fun _ i _ => s.size - (intOf i).toNat)
  case atStart => exact ⟨0, Nat.zero_le _, rfl, hstart.out, hB1.out⟩
  case round =>
    obtain ⟨j, hj, rfl, hown, hb⟩ := hrel
    have HO := Lib.hid hown
    have HB := Lib.hid hb
    have hc := hbox.out wr hb
    have hlen : Hid ((34 :: (s.data.toList.take j).flatMap qB).length ≤ 200) := Lib.hid (by
      have := fq_le (s.data.toList.take j)
      have h2 : (s.data.toList.take j).length ≤ j := List.length_take_le _ _
      simp only [List.length_cons]
      omega)
    clear hown hb hstart hB1
    by_cases hlt : j < s.size
    · have hst : Hid (34 :: (s.data.toList.take (j + 1)).flatMap qB = (34 :: (s.data.toList.take j).flatMap qB) ++ qB s[j]) := Lib.hid (by rw [take_q s j hlt]; rfl)
      generalize (34 :: (s.data.toList.take j).flatMap qB) = cs at *
      generalize hcs2 : (34 :: (s.data.toList.take (j + 1)).flatMap qB) = cs2 at *
      have Hcs2 := Lib.hid hcs2
      clear hcs2
      obtain ⟨pc, hpc⟩ : ∃ pc, pc = plainC s[j] := ⟨_, rfl⟩
      have Hpc := Lib.hid hpc
      clear hpc
      go_upto_region 12 with (fail)
      go_cut [42] (fun s42 wx => s42 = .bool pc ∧ wx = wr)
      case first =>
        by_cases p1 : 32 ≤ (s[j].toNat : Int)
        · by_cases p2 : (s[j].toNat : Int) ≤ 126
          · by_cases p3 : ((s[j].toNat : Int) != 34) = true
            · obtain rfl : pc = ((s[j].toNat : Int) != 92) := by rw [Hpc.out, plainC, decide_eq_true p1, decide_eq_true p2, p3]; rfl
              clear Hpc
              go_wp2_with fail
              go_meet
              exact ⟨rfl, rfl⟩
            · have p3' : ((s[j].toNat : Int) != 34) = false := by simpa using p3
              obtain rfl : pc = false := by rw [Hpc.out, plainC, p3']; simp
              clear Hpc p3
              go_wp2_with fail
              go_meet
              exact ⟨rfl, rfl⟩
          · obtain rfl : pc = false := by rw [Hpc.out, plainC, decide_eq_false p2]; simp
            clear Hpc
            go_wp2_with fail
            go_meet
            exact ⟨rfl, rfl⟩
        · obtain rfl : pc = false := by rw [Hpc.out, plainC, decide_eq_false p1]; simp
          clear Hpc
          go_wp2_with fail
          go_meet
          exact ⟨rfl, rfl⟩
      case rest =>
      obtain ⟨rfl, hwc⟩ := hcut
      obtain rfl : wr = wc := hwc.symm
      clear hwc
      cases pc
      · have hq : Hid (qB s[j] = [92, hexD (s[j].toNat / 16), hexD (s[j].toNat % 16)]) := Lib.hid (by unfold qB; rw [← Hpc.out]; rfl)
        have c0 : (0 : Int) ≤ (s[j].toNat : Int) := by omega
        have c1 : (s[j].toNat : Int) < 256 := by have := s[j].toNat_lt; omega
        have c2 : (0 : Int) ≤ (s[j].toNat : Int) / 16 := by omega
        have c3 : (s[j].toNat : Int) / 16 < 16 := by omega
        have c4 : (0 : Int) ≤ (s[j].toNat : Int) % 16 := by omega
        have c5 : (s[j].toNat : Int) % 16 < 16 := by omega
        have x1 := hex_hi s[j]
        have x2 := hex_lo s[j]
        have x3 := and15 s[j]
        go_wp2_with fail
        go_region_law (refine step_append_any _ (by rfl) _ _ _ (by rfl) W0.heap.size 5 i0 _ 1 1 Tryz.underlying151 hi0 hz0 hz1 hz2 rfl (by omega) u3 _ _ (by rfl) ((HO.out.alloc _).drew) (wr.heap.size + 1) (some ⟨wr.heap.size, 0, none⟩) 3 3 [.int .u8 92, .int .u8 (hexD (s[j].toNat / 16)).toNat, .int .u8 (hexD (s[j].toNat % 16)).toNat] (by rfl) ⟨rfl, fun _ => ⟨_, rfl, by simp, World.news_of_block (cs := #[.int .u8 92, .int .u8 (hexD (s[j].toNat / 16)).toNat, .int .u8 (hexD (s[j].toNat % 16)).toNat]) (t := 5) (fr := (0, 0)) (heap_alloc_new wr _)⟩⟩ (by simp [Value.oneCell']) (by have := hlen.out; unfold maxLen; omega) (by have := hlen.out; omega) (by have := HB.out.size; simp; omega) ?_; intro v2 w2 hown2 hg2 hat2)
        all_goals
          have hb3 := (HB.out.alloc HB.out.size (.cells #[.int .u8 92, .int .u8 (hexD (s[j].toNat / 16)).toNat, .int .u8 (hexD (s[j].toNat % 16)).toNat] 5)).drew.grown hg2 (by have := HB.out.size; simp; omega) (fun k hk => (HO.out.lt k hk).1)
          have hown3 : OwnB W0.heap.size w2 v2 cs2 := ownB_of hown2 (by rw [hst.out, hq.out, u8s_append]; rfl)
          have HO2 := Lib.hid hown3
          have HB3 := Lib.hid hb3
          clear hown2 hg2 hat2 hb3 hown3 x1 x2 x3
          go_wp2_with fail
          go_roundw
          case rel => exact ⟨j + 1, by omega, by go_num, by rw [Hcs2.out]; exact HO2.out, HB3.out⟩
          case measure => simp [intOf]; omega
      · have hq : Hid (qB s[j] = [s[j]]) := Lib.hid (by unfold qB; rw [← Hpc.out]; rfl)
        go_wp2_with (at_builtin; refine wpList_append_any _ rfl _ _ 151 rfl W0.heap.size 5 i0 _ 1 1 Tryz.underlying151 hi0 hz0 hz1 hz2 rfl (by decide) _ _ _ rfl (HO.out.alloc _) (wr.heap.size + 1) (some ⟨wr.heap.size, 0, none⟩) 1 1 [.int .u8 s[j].toNat] rfl ?d0 ?d4 ?d1 ?d2 ?d3 ?_)
        case d0 => exact ⟨rfl, fun _ => ⟨_, rfl, by simp, World.news_of_block (cs := #[.int .u8 s[j].toNat]) (t := 5) (fr := (0, 0)) (heap_alloc_new wr _)⟩⟩
        case d4 => intro u hu; simp at hu; subst hu; rfl
        case d1 => have := hlen.out; unfold maxLen; omega
        case d2 => have := hlen.out; omega
        case d3 => have := HB.out.size; simp; omega
        intro v2 w2 hown2 hg2 hat2
        have hb3 := (HB.out.alloc HB.out.size (.cells #[.int .u8 s[j].toNat] 5)).grown hg2 (by have := HB.out.size; simp; omega) (fun k hk => (HO.out.lt k hk).1)
        have hown3 : OwnB W0.heap.size w2 v2 cs2 := ownB_of hown2 (by rw [hst.out, hq.out, u8s_append]; rfl)
        have HO2 := Lib.hid hown3
        have HB3 := Lib.hid hb3
        clear hown2 hg2 hat2 hb3 hown3
        go_wp2_with fail
        go_roundw
        case rel => exact ⟨j + 1, by omega, by go_num, by rw [Hcs2.out]; exact HO2.out, HB3.out⟩
        case measure => simp [intOf]; omega
    · obtain rfl : j = s.size := by omega
      have hcs : Hid ((34 :: (s.data.toList.take s.size).flatMap qB) = 34 :: s.data.toList.flatMap qB) := Lib.hid (by rw [List.take_of_length_le (by simp)])
      have hend : Hid ((34 :: (s.data.toList.take s.size).flatMap qB) ++ [34] = quoteL s.data.toList) := Lib.hid (by rw [hcs.out]; rfl)
      generalize (34 :: (s.data.toList.take s.size).flatMap qB) = cs at *
      clear hcs hlt hj
      go_wp2_with (at_builtin; refine wpList_append_any _ rfl _ _ 151 rfl W0.heap.size 5 i0 _ 1 1 Tryz.underlying151 hi0 hz0 hz1 hz2 rfl (by decide) _ _ _ rfl (HO.out.alloc _) (wr.heap.size + 1) (some ⟨wr.heap.size, 0, none⟩) 1 1 [.int .u8 34] rfl ?d0 ?d4 ?d1 ?d2 ?d3 ?_)
      case d0 => exact ⟨rfl, fun _ => ⟨_, rfl, by simp, World.news_of_block (cs := #[.int .u8 34]) (t := 5) (fr := (0, 0)) (heap_alloc_new wr _)⟩⟩
      case d4 => intro u hu; simp at hu; subst hu; rfl
      case d1 => have := hlen.out; unfold maxLen; omega
      case d2 => have := hlen.out; omega
      case d3 => have := HB.out.size; simp; omega
      intro v2 w2 hown2 hg2 hat2
      have hb3 := (HB.out.alloc HB.out.size (.cells #[.int .u8 34] 5)).grown hg2 (by have := HB.out.size; simp; omega) (fun k hk => (HO.out.lt k hk).1)
      have hown3 : OwnB W0.heap.size w2 v2 (quoteL s.data.toList) := ownB_of hown2 (by rw [← hend.out, u8s_append]; rfl)
      have HB3 := Lib.hid (hB0.out.trans (hb3.mono hB0.out.size))
      have hcv := own_conv hown3
      clear hown2 hg2 hat2 hb3 hown3 hend
      go_wp2_with fail
      go_ret
      exact ⟨rfl, HB3.out⟩
end Go.Proofs.YtjhkihkiebnpaaaGreatDoor
/-
  What sexp.Print writes of a tree. No program in sight.
-/
namespace Go.Proofs.YtjhkihkiebnpaaaGreatDoor
open Go.RowKit
set_option linter.unusedVariables false
set_option linter.unusedSimpArgs false
def showB (s : ByteArray) : List UInt8 := if V.okB ⟨2, 0, s⟩ then quoteL s.data.toList else [63]
mutual
def prT : T → List UInt8
  | .mk k s n l _ => if k = 1 then 40 :: (Lib.join (prL l) [32] ++ [41]) else if k = 2 then s.data.toList else if k = 3 then Lib.itoa n else if k = 4 then showB s else []
def prL : List T → List (List UInt8)
  | [] => []
  | x :: l => prT x :: prL l
end
theorem prL_length (l : List T) : (prL l).length = l.length := by
  induction l with
  | nil => rfl
  | cons x l ih => rw [prL, List.length_cons, List.length_cons, ih]
end Go.Proofs.YtjhkihkiebnpaaaGreatDoor
/-
  What package sexp's reader makes of a text that was printed: the tree that was printed, but for the places. No program in sight.
-/
set_option linter.unusedVariables false
set_option linter.unusedSimpArgs false
namespace Go.Proofs.YtjhkihkiebnpaaaGreatDoor
open Go.RowKit
/-! ### signs at a place -/
theorem ba_get {s : ByteArray} {i : Nat} (h : i < s.size) : s.data.toList[i]? = some (bt s i) := by
  rw [bt_eq h, List.getElem?_eq_getElem (by simpa using h)]
  simp
  rfl
theorem bt_at {s : ByteArray} {i : Nat} {c : UInt8} {r : List UInt8} (h : s.data.toList.drop i = c :: r) : i < s.size ∧ bt s i = c ∧ s.data.toList.drop (i + 1) = r := by
  have hi : i < s.size := by
    rcases Nat.lt_or_ge i s.size with hi | hi
    · exact hi
    · rw [List.drop_eq_nil_of_le (by simpa using hi)] at h; cases h
  have hg := ba_get hi
  rw [← List.head?_drop, h] at hg
  refine ⟨hi, by simpa using hg.symm, ?_⟩
  rw [← List.drop_drop, h]
  rfl
theorem bt_end {s : ByteArray} {i : Nat} (h : s.data.toList.drop i = []) : ¬ i < s.size := by
  intro hi
  have := List.drop_eq_nil_iff.1 h
  simp at this
  omega
theorem drop_more {s : ByteArray} {i : Nat} {L r : List UInt8} (h : s.data.toList.drop i = L ++ r) : s.data.toList.drop (i + L.length) = r := by
  rw [← List.drop_drop, h, List.drop_left]
theorem take_more {s : ByteArray} {i : Nat} {L r : List UInt8} (h : s.data.toList.drop i = L ++ r) : s.extract i (i + L.length) = ⟨L.toArray⟩ := by
  apply ByteArray.ext
  apply Array.ext'
  have e : (s.extract i (i + L.length)).data.toList = (s.data.toList.drop i).take L.length := by
    rw [ByteArray.data_extract, Array.toList_extract]
    simp [List.extract]
  rw [e, h, List.take_left]
theorem runE_list {p : UInt8 → Bool} {s : ByteArray} : ∀ (L : List UInt8) (i : Nat) (r : List UInt8), s.data.toList.drop i = L ++ r → (∀ c ∈ L, p c = true) → (∀ c x, r = c :: x → p c = false) → runE p s i = i + L.length
  | [], i, r, h, _, hr => by
    cases r with
    | nil => exact runE_end (bt_end h)
    | cons c x =>
      obtain ⟨h1, h2, _⟩ := bt_at h
      exact runE_stop (by rw [h2]; exact hr c x rfl)
  | c :: L, i, r, h, hL, hr => by
    obtain ⟨h1, h2, h3⟩ := bt_at h
    rw [runE_step h1 (by rw [h2]; exact hL c List.mem_cons_self), runE_list L (i + 1) r h3 (fun c hc => hL c (List.mem_cons_of_mem _ hc)) hr, List.length_cons]
    omega
/-- what may stand behind a tree -/
def EndP (r : List UInt8) : Prop := ∀ c x, r = c :: x → c = 32 ∨ c = 41
theorem EndP.let {r : List UInt8} (h : EndP r) : ∀ c x, r = c :: x → letP c = false := fun c x e => by
  rcases h c x e with rfl | rfl <;> rfl
theorem EndP.dig {r : List UInt8} (h : EndP r) : ∀ c x, r = c :: x → digP c = false := fun c x e => by
  rcases h c x e with rfl | rfl <;> rfl
/-! ### numbers -/
theorem parseUintM_append : ∀ (l : List UInt8) (M acc v : Nat) (r : List UInt8), Lib.parseUintM M acc l = .ok v → Lib.parseUintM M acc (l ++ r) = Lib.parseUintM M v r
  | [], M, acc, v, r, h => by
    rw [Lib.parseUintM] at h
    injection h with h
    rw [List.nil_append, h]
  | c :: l, M, acc, v, r, h => by
    rw [Lib.parseUintM] at h
    rw [List.cons_append, Lib.parseUintM]
    split at h
    · rename_i h1
      rw [if_pos h1]
      split at h
      · cases h
      · rename_i h2
        rw [if_neg h2]
        split at h
        · cases h
        · rename_i h3
          rw [if_neg h3]
          exact parseUintM_append l M _ v r h
    · cases h
theorem dig_toNat {d : Nat} (h : d < 10) : (UInt8.ofNat (48 + d)).toNat = 48 + d := by
  rw [UInt8.toNat_ofNat']
  omega
theorem parse_dec (M : Nat) (hM : M < 18446744073709551616) : ∀ (u : Nat), u ≤ M → Lib.parseUintM M 0 (Lib.decDigits u) = .ok u := by
  intro u
  induction u using Nat.strongRecOn with
  | _ u ih =>
    intro hu
    by_cases h : u < 10
    · rw [Lib.decDigits, dif_pos h, Lib.parseUintM, dig_toNat h, if_pos (by omega), if_neg (by omega), if_neg (by omega), Lib.parseUintM]
      congr 1
      omega
    · rw [Lib.decDigits, dif_neg h, parseUintM_append _ _ _ _ _ (ih (u / 10) (by omega) (by omega)), Lib.parseUintM, dig_toNat (by omega), if_pos (by omega), if_neg (by omega), if_neg (by omega), Lib.parseUintM]
      congr 1
      omega
theorem dec_ne (u : Nat) : Lib.decDigits u ≠ [] := by
  rw [Lib.decDigits]
  split <;> simp
theorem dec_dig (u : Nat) : ∀ c ∈ Lib.decDigits u, digP c = true := by
  induction u using Nat.strongRecOn with
  | _ u ih =>
    intro c hc
    have hd : ∀ d, d < 10 → digP (UInt8.ofNat (48 + d)) = true := fun d hd => by
      unfold digP
      rw [dig_toNat hd]
      simp
      omega
    by_cases h : u < 10
    · rw [Lib.decDigits, dif_pos h] at hc
      rw [List.mem_singleton.1 hc]
      exact hd u h
    · rw [Lib.decDigits, dif_neg h] at hc
      rcases List.mem_append.1 hc with hc | hc
      · exact ih _ (by omega) c hc
      · rw [List.mem_singleton.1 hc]
        exact hd _ (by omega)
theorem parse_nat {u : Nat} (hu : u < 18446744073709551616) : Lib.parseUintB 64 (Lib.decDigits u) = .ok u := by
  unfold Lib.parseUintB
  rw [if_neg (dec_ne u)]
  exact parse_dec _ (by decide) u (by omega)
theorem digP_ne {c : UInt8} (h : digP c = true) : c.toNat ≠ 43 ∧ c.toNat ≠ 45 ∧ c ≠ 34 ∧ letP c = false ∧ c.toNat ≠ 32 ∧ c.toNat ≠ 10 ∧ c.toNat ≠ 40 ∧ c.toNat ≠ 41 := by
  unfold digP at h
  simp at h
  refine ⟨by omega, by omega, fun e => ?_, ?_, by omega, by omega, by omega, by omega⟩
  · subst e
    simp at h
  · unfold letP
    simp
    omega
theorem parse_itoa {n : Int} (h1 : -9223372036854775808 ≤ n) (h2 : n ≤ 9223372036854775807) : Lib.parseIntB 64 (Lib.itoa n) = .ok n := by
  unfold Lib.itoa
  split
  · rename_i hn
    rw [Lib.parseIntB_minus, parse_nat (by omega)]
    unfold Lib.signedC
    simp only
    rw [if_neg (by omega)]
    congr 1
    omega
  · rename_i hn
    cases hd : Lib.decDigits n.toNat with
    | nil => exact absurd hd (dec_ne _)
    | cons c r =>
      have hc := digP_ne (dec_dig n.toNat c (by rw [hd]; exact List.mem_cons_self))
      rw [Lib.parseIntB_plain 64 c r hc.1 hc.2.1, ← hd, parse_nat (by omega)]
      unfold Lib.signlessC
      simp only
      rw [if_neg (by omega)]
      congr 1
      omega
theorem itoa_first (n : Int) : ∃ c r, Lib.itoa n = c :: r ∧ (digP c = true ∨ c = 45) := by
  unfold Lib.itoa
  split
  · exact ⟨45, _, rfl, .inr rfl⟩
  · cases hd : Lib.decDigits n.toNat with
    | nil => exact absurd hd (dec_ne _)
    | cons c r => exact ⟨c, r, rfl, .inl (dec_dig n.toNat c (by rw [hd]; exact List.mem_cons_self))⟩
theorem number_back {s : ByteArray} {i : Nat} {n : Int} {r : List UInt8} (h : s.data.toList.drop i = Lib.itoa n ++ r) (hr : EndP r) (h1 : -9223372036854775808 ≤ n) (h2 : n ≤ 9223372036854775807) : numberE s i = some (n, i + (Lib.itoa n).length) := by
  have hrun : runE digP s (numFrom s i) = i + (Lib.itoa n).length ∧ numFrom s i < i + (Lib.itoa n).length := by
    unfold Lib.itoa at h ⊢
    by_cases hn : n < 0
    · rw [if_pos hn] at h ⊢
      obtain ⟨g1, g2, g3⟩ := bt_at (c := 45) (r := Lib.decDigits n.natAbs ++ r) h
      have e : numFrom s i = i + 1 := by unfold numFrom; rw [g2]; rfl
      rw [e, runE_list _ (i + 1) r g3 (dec_dig _) hr.dig, List.length_cons]
      have := List.length_pos_iff.2 (dec_ne n.natAbs)
      omega
    · rw [if_neg hn] at h ⊢
      have hp := List.length_pos_iff.2 (dec_ne n.toNat)
      have e : numFrom s i = i := by
        cases hd : Lib.decDigits n.toNat with
        | nil => exact absurd hd (dec_ne _)
        | cons c x =>
          rw [hd] at h
          obtain ⟨g1, g2, g3⟩ := bt_at (c := c) (r := x ++ r) h
          have hc := digP_ne (dec_dig n.toNat c (by rw [hd]; exact List.mem_cons_self))
          unfold numFrom
          rw [g2, if_neg (by have := hc.2.1; omega)]
      rw [e, runE_list _ i r h (dec_dig _) hr.dig]
      omega
  unfold numberE
  rw [hrun.1, if_neg (by have := hrun.2; omega), take_more h, parse_itoa h1 h2]
/-! ### texts -/
theorem hexE_fin : ∀ d : Fin 16, hexE (hexD d.val) = (d.val : Int) := by decide +kernel
theorem hexE_d {d : Nat} (h : d < 16) : hexE (hexD d) = (d : Int) := hexE_fin ⟨d, h⟩
theorem escB_fin : ∀ c : Fin 256, escB ((c.val / 16 : Nat) : Int) ((c.val % 16 : Nat) : Int) = UInt8.ofNat c.val := by decide +kernel
theorem escB_d (c : UInt8) : escB ((c.toNat / 16 : Nat) : Int) ((c.toNat % 16 : Nat) : Int) = c := by
  rw [escB_fin ⟨c.toNat, c.toNat_lt⟩]
  simp
theorem text_back {s : ByteArray} {p : Nat} : ∀ (l : List UInt8) (i : Nat) (acc r : List UInt8), s.data.toList.drop i = l.flatMap qB ++ 34 :: r → (acc ++ l).length ≤ 40 →
    textR s p i acc = (acc ++ l, i + (l.flatMap qB).length + 1, 0, 0)
  | [], i, acc, r, h, hl => by
    obtain ⟨g1, g2, g3⟩ := bt_at (c := 34) (r := r) h
    rw [textR_quote g1 (by rw [g2]; rfl), if_neg (by simp at hl; omega)]
    simp
  | c :: l, i, acc, r, h, hl => by
    rw [List.flatMap_cons, List.append_assoc] at h
    have hl' : ((acc ++ [c]) ++ l).length ≤ 40 := by simpa using hl
    by_cases hp : plainC c = true
    · have hq : qB c = [c] := by unfold qB; rw [if_pos hp]
      rw [hq] at h
      obtain ⟨g1, g2, g3⟩ := bt_at (c := c) (r := l.flatMap qB ++ 34 :: r) h
      unfold plainC at hp
      simp at hp
      have h34 : ¬ ((bt s i).toNat : Int) = 34 := by rw [g2]; intro e; exact hp.1.2 (by omega)
      have h92 : ¬ ((bt s i).toNat : Int) = 92 := by rw [g2]; intro e; exact hp.2 (by omega)
      rw [textR_sign g1 h34 h92 (by rw [g2]; omega), text_back l (i + 1) _ r g3 (by rw [g2]; exact hl'), List.flatMap_cons, hq, g2]
      simp
      omega
    · have hq : qB c = [92, hexD (c.toNat / 16), hexD (c.toNat % 16)] := by unfold qB; rw [if_neg hp]
      rw [hq] at h
      obtain ⟨g1, g2, g3⟩ := bt_at (c := 92) (r := hexD (c.toNat / 16) :: hexD (c.toNat % 16) :: (l.flatMap qB ++ 34 :: r)) h
      obtain ⟨k1, k2, k3⟩ := bt_at g3
      obtain ⟨m1, m2, m3⟩ := bt_at k3
      have hlt := c.toNat_lt
      have e1 : hexE (bt s (i + 1)) = ((c.toNat / 16 : Nat) : Int) := by rw [k2]; exact hexE_d (by omega)
      have e2 : hexE (bt s (i + 2)) = ((c.toNat % 16 : Nat) : Int) := by rw [m2]; exact hexE_d (by omega)
      rw [textR_escGo g1 (by rw [g2]; rfl) k1 (by rw [e1]; omega) m1 (by rw [e2]; omega), e1, e2, escB_d, text_back l (i + 3) _ r m3 hl', List.flatMap_cons, hq]
      simp
      omega
/-! ### leaves -/
theorem letP_ne {c : UInt8} (h : letP c = true) : c.toNat ≠ 32 ∧ c.toNat ≠ 10 ∧ c.toNat ≠ 40 ∧ c.toNat ≠ 41 := by
  unfold letP at h
  simp at h
  exact ⟨by omega, by omega, by omega, by omega⟩
/-- what the reader makes, but for where -/
inductive OkT : T → Prop
  | atom (s : ByteArray) (a : Int) (h0 : s.data.toList ≠ []) (h : ∀ c ∈ s.data.toList, letP c = true) : OkT (.mk 2 s 0 [] a)
  | num (n a : Int) (h1 : -9223372036854775808 ≤ n) (h2 : n ≤ 9223372036854775807) : OkT (.mk 3 ⟨#[]⟩ n [] a)
  | str (s : ByteArray) (a : Int) (h : s.size ≤ 40) : OkT (.mk 4 s 0 [] a)
  | node (l : List T) (a : Int) (h : ∀ e ∈ l, OkT e) : OkT (.mk 1 ⟨#[]⟩ 0 l a)
mutual
def deepT : T → Nat | .mk k _ _ l _ => if k = 1 then deepL l + 1 else 0
def deepL : List T → Nat | [] => 0 | x :: l => max (deepT x) (deepL l)
end
/- a tree, but for the places -/
mutual
def era : T → T | .mk k s n l _ => .mk k s n (eraL l) 0
def eraL : List T → List T | [] => [] | x :: l => era x :: eraL l
end
theorem eraL_map (l : List T) : eraL l = l.map era := by
  induction l with
  | nil => rw [eraL]; rfl
  | cons x l ih => rw [eraL, ih]; rfl
/-- how it goes on behind a tree -/
def BackAt (s : ByteArray) (t : T) : Prop := ∀ (op : List T) (i : Nat) (r : List UInt8), s.data.toList.drop i = prT t ++ r → EndP r →
  (op.length + deepT t ≤ 12 → ∃ t', era t' = era t ∧ readE s op [] i = readE s (addE op [] t').1 (addE op [] t').2 (i + (prT t).length)) ∧ (12 < op.length + deepT t → op.length ≤ 12 → (readE s op [] i).2.1 = 14)
theorem leaf_back {s : ByteArray} {op : List T} {i m : Nat} {t : T} {c : UInt8} {x : List UInt8} (h : s.data.toList.drop i = c :: x) (h32 : c.toNat ≠ 32) (h10 : c.toNat ≠ 10) (h40 : c.toNat ≠ 40) (h41 : c.toNat ≠ 41) (h1 : oneE s i false = (t, (m : Int), 0, 0)) :
    readE s op [] i = readE s (addE op [] t).1 (addE op [] t).2 m := by
  obtain ⟨g1, g2, _⟩ := bt_at h
  have e : decide (0 < ([] : List T).length) = false := rfl
  rw [readE_leaf g1 (by rw [g2]; omega) (by rw [g2]; omega) (by rw [g2]; omega) (by rw [g2]; omega) (by rw [e, h1]), e, h1]
  simp
theorem deep_leaf {k : Int} (h : k ≠ 1) (s : ByteArray) (n : Int) (l : List T) (a : Int) : deepT (.mk k s n l a) = 0 := by
  unfold deepT
  rw [if_neg h]
theorem ba_eq (s : ByteArray) : (⟨s.data.toList.toArray⟩ : ByteArray) = s := by
  apply ByteArray.ext
  simp
theorem atom_back (s : ByteArray) (w : ByteArray) (a : Int) (h0 : w.data.toList ≠ []) (h : ∀ c ∈ w.data.toList, letP c = true) : BackAt s (.mk 2 w 0 [] a) := by
  intro op i r hd hr
  rw [deep_leaf (by decide)]
  refine ⟨fun _ => ⟨.mk 2 w 0 [] i, ?_, ?_⟩, fun h1 h2 => by omega⟩
  · simp only [era]
  · have hp : prT (.mk 2 w 0 [] a) = w.data.toList := by unfold prT; rw [if_neg (by decide), if_pos rfl]
    rw [hp] at hd ⊢
    cases hw : w.data.toList with
    | nil => exact absurd hw h0
    | cons c x =>
      have hc := h c (by rw [hw]; exact List.mem_cons_self)
      have hcn := letP_ne hc
      have hd' := hd
      rw [hw] at hd'
      rw [← hw]
      obtain ⟨g1, g2, g3⟩ := bt_at (c := c) (r := x ++ r) hd'
      refine leaf_back hd' hcn.1 hcn.2.1 hcn.2.2.1 hcn.2.2.2 ?_
      unfold oneE
      rw [Bool.false_and, if_neg (by decide), g2, if_pos hc, runE_list _ i r hd h hr.let, take_more hd, ba_eq]
theorem num_back (s : ByteArray) (n a : Int) (h1 : -9223372036854775808 ≤ n) (h2 : n ≤ 9223372036854775807) : BackAt s (.mk 3 ⟨#[]⟩ n [] a) := by
  intro op i r hd hr
  rw [deep_leaf (by decide)]
  refine ⟨fun _ => ⟨.mk 3 ⟨#[]⟩ n [] i, ?_, ?_⟩, fun h1 h2 => by omega⟩
  · simp only [era]
  · have hp : prT (.mk 3 ⟨#[]⟩ n [] a) = Lib.itoa n := by unfold prT; rw [if_neg (by decide), if_neg (by decide), if_pos rfl]
    rw [hp] at hd ⊢
    have hnum := number_back hd hr h1 h2
    obtain ⟨c, x, hcx, hc⟩ := itoa_first n
    have hd' := hd
    rw [hcx] at hd'
    obtain ⟨g1, g2, g3⟩ := bt_at (c := c) (r := x ++ r) hd'
    have hq : letP c = false ∧ (digP c || decide ((c.toNat : Int) = 45)) = true ∧ c.toNat ≠ 32 ∧ c.toNat ≠ 10 ∧ c.toNat ≠ 40 ∧ c.toNat ≠ 41 := by
      rcases hc with hc | rfl
      · have := digP_ne hc
        exact ⟨this.2.2.2.1, by rw [hc]; rfl, this.2.2.2.2.1, this.2.2.2.2.2.1, this.2.2.2.2.2.2.1, this.2.2.2.2.2.2.2⟩
      · decide
    refine leaf_back hd' hq.2.2.1 hq.2.2.2.1 hq.2.2.2.2.1 hq.2.2.2.2.2 ?_
    unfold oneE
    rw [Bool.false_and, if_neg (by decide), g2, hq.1, if_neg (by decide), if_pos hq.2.1, hnum]
theorem str_back (s : ByteArray) (w : ByteArray) (a : Int) (hw : w.size ≤ 40) : BackAt s (.mk 4 w 0 [] a) := by
  intro op i r hd hr
  rw [deep_leaf (by decide)]
  refine ⟨fun _ => ⟨.mk 4 w 0 [] i, ?_, ?_⟩, fun h1 h2 => by omega⟩
  · simp only [era]
  · have hok : V.okB ⟨2, 0, w⟩ = true := by
      unfold V.okB
      simp
      omega
    have hp : prT (.mk 4 w 0 [] a) = 34 :: w.data.toList.flatMap qB ++ [34] := by
      unfold prT
      rw [if_neg (by decide), if_neg (by decide), if_neg (by decide), if_pos rfl]
      unfold showB
      rw [if_pos hok]
      rfl
    rw [hp] at hd ⊢
    obtain ⟨g1, g2, g3⟩ := bt_at (c := 34) (r := w.data.toList.flatMap qB ++ 34 :: r) (by rw [hd]; simp)
    have ht := text_back (p := i) w.data.toList (i + 1) [] r g3 (by simpa using hw)
    refine leaf_back (c := 34) (x := w.data.toList.flatMap qB ++ 34 :: r) (by rw [hd]; simp) (by decide) (by decide) (by decide) (by decide) ?_
    unfold oneE textE
    rw [Bool.false_and, if_neg (by decide), g2, ht, if_neg (by decide), if_neg (by decide), if_pos (by decide)]
    simp only [List.nil_append, ba_eq]
    congr 2
    simp
    omega
/-! ### brackets -/
theorem addE_snoc (op : List T) (p t : T) : addE (op ++ [p]) [] t = (op ++ [p.kid t], []) := by
  unfold addE
  have e : (op ++ [p])[(op ++ [p]).length - 1]? = some p := by simp
  rw [e]
  simp
theorem blank_back {s : ByteArray} {op : List T} {i : Nat} {x : List UInt8} (h : s.data.toList.drop i = 32 :: x) : readE s op [] i = readE s op [] (i + 1) := by
  obtain ⟨g1, g2, _⟩ := bt_at h
  exact readE_blank g1 (by rw [g2]; exact .inl rfl)
theorem close_back {s : ByteArray} {op : List T} {p : T} {i : Nat} {x : List UInt8} (h : s.data.toList.drop i = 41 :: x) : readE s (op ++ [p]) [] i = readE s (addE op [] p).1 (addE op [] p).2 (i + 1) := by
  obtain ⟨g1, g2, _⟩ := bt_at h
  rw [readE_close (m := op.length) (t := p) g1 (by rw [g2]; rfl) (by simp) (by simp)]
  simp
theorem tail_back {s : ByteArray} (op : List T) (a : Int) (hop : op.length + 1 ≤ 12) : ∀ (l : List T), (∀ t ∈ l, BackAt s t) → ∀ (ks : List T) (i : Nat) (r : List UInt8), s.data.toList.drop i = Lib.joinTail [32] (prL l) ++ 41 :: r →
    (op.length + 1 + deepL l ≤ 12 → ∃ l', l'.map era = l.map era ∧ readE s (op ++ [.mk 1 ⟨#[]⟩ 0 ks a]) [] i = readE s (op ++ [.mk 1 ⟨#[]⟩ 0 (ks ++ l') a]) [] (i + (Lib.joinTail [32] (prL l)).length)) ∧
      (12 < op.length + 1 + deepL l → (readE s (op ++ [.mk 1 ⟨#[]⟩ 0 ks a]) [] i).2.1 = 14)
  | [], _, ks, i, r, _ => by
    refine ⟨fun _ => ⟨[], rfl, ?_⟩, fun h => ?_⟩
    · rw [List.append_nil]
      simp [prL, Lib.joinTail]
    · unfold deepL at h
      omega
  | t :: l, hb, ks, i, r, h => by
    have e : Lib.joinTail [32] (prL (t :: l)) = 32 :: (prT t ++ Lib.joinTail [32] (prL l)) := by
      rw [prL]
      simp [Lib.joinTail]
    rw [e] at h ⊢
    have hd1 : s.data.toList.drop i = 32 :: (prT t ++ (Lib.joinTail [32] (prL l) ++ 41 :: r)) := by rw [h]; simp
    obtain ⟨g1, g2, g3⟩ := bt_at hd1
    have hend : EndP (Lib.joinTail [32] (prL l) ++ 41 :: r) := by
      intro c x hc
      cases l with
      | nil =>
        simp [prL, Lib.joinTail] at hc
        exact .inr hc.1.symm
      | cons y l =>
        rw [show Lib.joinTail [32] (prL (y :: l)) = 32 :: (prT y ++ Lib.joinTail [32] (prL l)) by rw [prL]; simp [Lib.joinTail]] at hc
        simp at hc
        exact .inl hc.1.symm
    have h1 := hb t List.mem_cons_self (op ++ [.mk 1 ⟨#[]⟩ 0 ks a]) (i + 1) _ g3 hend
    rw [List.length_append, List.length_singleton] at h1
    have hdl : deepL (t :: l) = max (deepT t) (deepL l) := by rw [deepL]
    rw [blank_back hd1, hdl]
    by_cases hx : op.length + 1 + deepT t ≤ 12
    · obtain ⟨t', ht', hr'⟩ := h1.1 hx
      rw [addE_snoc] at hr'
      simp only [T.kid, T.k, T.s, T.n, T.kids, T.at_] at hr'
      have h2 := tail_back op a hop l (fun t ht => hb t (List.mem_cons_of_mem _ ht)) (ks ++ [t']) (i + 1 + (prT t).length) r (drop_more g3)
      refine ⟨fun hm => ?_, fun hm => ?_⟩
      · obtain ⟨l', hl', hr2⟩ := h2.1 (by omega)
        refine ⟨t' :: l', by simp [ht', hl'], ?_⟩
        rw [hr', hr2]
        simp
        congr 1
        omega
      · rw [hr']
        exact h2.2 (by omega)
    · refine ⟨fun hm => by omega, fun hm => h1.2 (by omega) (by omega)⟩
theorem node_back {s : ByteArray} (l : List T) (a : Int) (hb : ∀ t ∈ l, BackAt s t) : BackAt s (.mk 1 ⟨#[]⟩ 0 l a) := by
  intro op i r hd hr
  have hp : prT (.mk 1 ⟨#[]⟩ 0 l a) = 40 :: (Lib.join (prL l) [32] ++ [41]) := by unfold prT; rw [if_pos rfl]
  have hdp : deepT (.mk 1 ⟨#[]⟩ 0 l a) = deepL l + 1 := by unfold deepT; rw [if_pos rfl]
  have hcn : ∀ l' a', l'.map era = l.map era → era (.mk 1 ⟨#[]⟩ 0 l' a') = era (.mk 1 ⟨#[]⟩ 0 l a) := fun l' a' e => by
    rw [era, era, eraL_map, eraL_map, e]
  rw [hp] at hd ⊢
  rw [hdp]
  have hd1 : s.data.toList.drop i = 40 :: (Lib.join (prL l) [32] ++ 41 :: r) := by rw [hd]; simp
  obtain ⟨g1, g2, g3⟩ := bt_at hd1
  have ho := readE_open (s := s) (op := op) (dn := []) g1 (by rw [g2]; rfl)
  by_cases h12 : 12 ≤ op.length
  · rw [if_pos h12] at ho
    refine ⟨fun h => by omega, fun _ _ => by rw [ho]⟩
  · rw [if_neg h12, if_neg (by simp)] at ho
    have hop : op.length + 1 ≤ 12 := by omega
    rw [ho]
    cases l with
    | nil =>
      refine ⟨fun h => ⟨.mk 1 ⟨#[]⟩ 0 [] i, hcn [] i rfl, ?_⟩, fun h => by unfold deepL at h; omega⟩
      have hg : s.data.toList.drop (i + 1) = 41 :: r := by rw [g3]; simp [prL, Lib.join_nil]
      rw [close_back hg]
      simp [prL, Lib.join_nil]
    | cons t l =>
      have ej : Lib.join (prL (t :: l)) [32] = prT t ++ Lib.joinTail [32] (prL l) := by rw [prL, Lib.join_cons]
      rw [ej] at g3 ⊢
      have hg : s.data.toList.drop (i + 1) = prT t ++ (Lib.joinTail [32] (prL l) ++ 41 :: r) := by rw [g3]; simp
      have hend : EndP (Lib.joinTail [32] (prL l) ++ 41 :: r) := by
        intro c x hc
        cases l with
        | nil =>
          simp [prL, Lib.joinTail] at hc
          exact .inr hc.1.symm
        | cons y l =>
          rw [show Lib.joinTail [32] (prL (y :: l)) = 32 :: (prT y ++ Lib.joinTail [32] (prL l)) by rw [prL]; simp [Lib.joinTail]] at hc
          simp at hc
          exact .inl hc.1.symm
      have h1 := hb t List.mem_cons_self (op ++ [.mk 1 ⟨#[]⟩ 0 [] i]) (i + 1) _ hg hend
      rw [List.length_append, List.length_singleton] at h1
      have hdl : deepL (t :: l) = max (deepT t) (deepL l) := by rw [deepL]
      rw [hdl]
      by_cases hx : op.length + 1 + deepT t ≤ 12
      · obtain ⟨t', ht', hr'⟩ := h1.1 hx
        rw [addE_snoc] at hr'
        simp only [T.kid, T.k, T.s, T.n, T.kids, T.at_] at hr'
        have h2 := tail_back op i hop l (fun t ht => hb t (List.mem_cons_of_mem _ ht)) ([] ++ [t']) (i + 1 + (prT t).length) r (drop_more hg)
        refine ⟨fun hm => ?_, fun hm => ?_⟩
        · obtain ⟨l', hl', hr2⟩ := h2.1 (by omega)
          refine ⟨.mk 1 ⟨#[]⟩ 0 (t' :: l') i, hcn _ _ (by simp [ht', hl']), ?_⟩
          rw [hr', hr2]
          rw [close_back (x := r) (by rw [Nat.add_assoc, ← List.length_append]; exact drop_more (L := prT t ++ Lib.joinTail [32] (prL l)) (by rw [hg]; simp))]
          simp
          congr 1
          omega
        · intro _
          rw [hr']
          exact h2.2 (by omega)
      · refine ⟨fun hm => by omega, fun hm _ => h1.2 (by omega) (by omega)⟩
theorem back_at (s : ByteArray) : ∀ t, OkT t → BackAt s t := by
  intro t h
  induction h with
  | atom w a h0 h => exact atom_back s w a h0 h
  | num n a h1 h2 => exact num_back s n a h1 h2
  | str w a h => exact str_back s w a h
  | node l a h ih => exact node_back l a ih
/-- what is read of what was printed -/
theorem read_print {t : T} (h : OkT t) : (deepT t ≤ 12 → ∃ t', era t' = era t ∧ readE ⟨(prT t).toArray⟩ [] [] 0 = (t', 0, 0)) ∧ (12 < deepT t → (readE ⟨(prT t).toArray⟩ [] [] 0).2.1 = 14) := by
  have hb := back_at ⟨(prT t).toArray⟩ t h [] 0 [] (by simp) (fun c x e => by cases e)
  refine ⟨fun hd => ?_, fun hd => hb.2 (by simpa using hd) (by simp)⟩
  obtain ⟨t', ht', hr⟩ := hb.1 (by simpa using hd)
  refine ⟨t', ht', ?_⟩
  have e : addE [] [] t' = ([], [t']) := rfl
  have hn : ¬ 0 + (prT t).length < (⟨(prT t).toArray⟩ : ByteArray).size := by
    show ¬ _ < (prT t).toArray.size
    simp
  rw [hr, e, readE_end hn]
  rfl
end Go.Proofs.YtjhkihkiebnpaaaGreatDoor
/-
  What package sexp's reader makes: trees of letters, numbers, texts and brackets, no deeper than 12, no larger than the text. No program in sight.
-/
set_option linter.unusedVariables false
set_option linter.unusedSimpArgs false
namespace Go.Proofs.YtjhkihkiebnpaaaGreatDoor
open Go.RowKit
mutual
def costT : T → Nat | .mk k s _ l _ => (if k = 2 then s.size else s.size + 1) + costL l
def costL : List T → Nat | [] => 0 | x :: l => costT x + costL l
end
theorem costL_append (a b : List T) : costL (a ++ b) = costL a + costL b := by
  induction a with
  | nil => simp [costL]
  | cons x a ih => rw [List.cons_append, costL, costL, ih, Nat.add_assoc]
theorem deepL_append (a b : List T) : deepL (a ++ b) = max (deepL a) (deepL b) := by
  induction a with
  | nil => simp [deepL]
  | cons x a ih => rw [List.cons_append, deepL, deepL, ih, Nat.max_assoc]
theorem deepL_one (t : T) : deepL [t] = deepT t := by rw [deepL, deepL]; omega
theorem costL_one (t : T) : costL [t] = costT t := by rw [costL, costL]; omega
/-- an opening that is not closed yet, at a place of the row of openings -/
def OpOk (j : Nat) (t : T) : Prop := t.k = 1 ∧ t.s = ⟨#[]⟩ ∧ t.n = 0 ∧ (∀ e ∈ t.kids, OkT e) ∧ deepL t.kids + (j + 1) ≤ 12
structure RdInv (op dn : List T) (c : Nat) : Prop where
  o_ : ∀ j t, op[j]? = some t → OpOk j t
  d_ : ∀ t ∈ dn, OkT t ∧ deepT t ≤ 12
  cost : costL op + costL dn ≤ c
theorem OpOk.ok {j : Nat} {t : T} (h : OpOk j t) : OkT t ∧ deepT t + j ≤ 12 := by
  obtain ⟨k, s, n, l, a⟩ := t
  obtain ⟨h1, h2, h3, h4, h5⟩ := h
  simp only [T.k, T.s, T.n, T.kids] at h1 h2 h3 h4 h5
  subst h1 h2 h3
  refine ⟨.node l a h4, ?_⟩
  rw [deepT, if_pos rfl]
  omega
theorem RdInv.add {op dn : List T} {c : Nat} {t : T} (h : RdInv op dn c) (ht : OkT t) (hd : deepT t + op.length ≤ 12) : RdInv (addE op dn t).1 (addE op dn t).2 (c + costT t) := by
  rcases Nat.eq_zero_or_pos op.length with h0 | hpos
  · have e0 : op = [] := List.eq_nil_of_length_eq_zero h0
    subst e0
    have e : addE [] dn t = ([], dn ++ [t]) := rfl
    rw [e]
    refine ⟨fun j t h => by simp at h, fun x hx => ?_, ?_⟩
    · rcases List.mem_append.1 hx with hx | hx
      · exact h.d_ x hx
      · rw [List.mem_singleton.1 hx]
        exact ⟨ht, by simpa using hd⟩
    · have := h.cost
      show costL [] + costL (dn ++ [t]) ≤ _
      rw [costL_append, costL_one]
      omega
  · obtain ⟨p, hp⟩ : ∃ p, op[op.length - 1]? = some p := ⟨_, List.getElem?_eq_getElem (by omega)⟩
    have e : addE op dn t = (op.set (op.length - 1) (p.kid t), dn) := by
      unfold addE
      rw [hp]
    rw [e]
    have hpo := h.o_ _ _ hp
    have hsplit : op = op.take (op.length - 1) ++ [p] := by
      have h1 := List.take_add_one (l := op) (i := op.length - 1)
      rw [hp, Nat.sub_add_cancel hpos, List.take_length] at h1
      exact h1
    have hset : op.set (op.length - 1) (p.kid t) = op.take (op.length - 1) ++ [p.kid t] := by
      conv => lhs; rw [hsplit]
      rw [List.set_append_right _ _ (by simp)]
      simp
    have hck : costT (p.kid t) = costT p + costT t := by
      obtain ⟨k, s, n, l, a⟩ := p
      show costT (.mk k s n (l ++ [t]) a) = _
      rw [costT, costT, costL_append, costL_one]
      omega
    refine ⟨fun j x hx => ?_, h.d_, ?_⟩
    · rcases Nat.lt_or_ge j (op.length - 1) with hj | hj
      · rw [List.getElem?_set_ne (by omega)] at hx
        exact h.o_ j x hx
      · have hj2 : j < op.length := by have := (List.getElem?_eq_some_iff.1 hx).1; simpa using this
        obtain rfl : j = op.length - 1 := by omega
        rw [List.getElem?_set_self (by omega)] at hx
        obtain rfl : p.kid t = x := by simpa using hx
        obtain ⟨h1, h2, h3, h4, h5⟩ := hpo
        refine ⟨h1, h2, h3, fun e he => ?_, ?_⟩
        · rcases List.mem_append.1 (show e ∈ p.kids ++ [t] from he) with he | he
          · exact h4 e he
          · rw [List.mem_singleton.1 he]; exact ht
        · show deepL (p.kids ++ [t]) + _ ≤ 12
          rw [deepL_append, deepL_one]
          omega
    · have h1 := h.cost
      rw [hsplit, costL_append, costL_one] at h1
      show costL (op.set _ _) + costL dn ≤ _
      rw [hset, costL_append, costL_one, hck]
      omega
theorem runE_all {p : UInt8 → Bool} {s : ByteArray} : ∀ (n i : Nat), s.size - i = n → ∀ j, i ≤ j → j < runE p s i → p (bt s j) = true
  | n, i, hn, j, h1, h2 => by
    by_cases h : i < s.size
    · cases hp : p (bt s i)
      · rw [runE_stop hp] at h2; omega
      · rw [runE_step h hp] at h2
        rcases Nat.eq_or_lt_of_le h1 with rfl | h3
        · exact hp
        · obtain ⟨m, rfl⟩ : ∃ m, n = m + 1 := ⟨n - 1, by omega⟩
          exact runE_all m (i + 1) (by omega) j h3 h2
    · rw [runE_end h] at h2; omega
theorem extract_mem {s : ByteArray} {i j : Nat} (hj : j ≤ s.size) {c : UInt8} (h : c ∈ (s.extract i j).data.toList) : ∃ k, i ≤ k ∧ k < j ∧ c = bt s k := by
  obtain ⟨m, hm, e⟩ := List.mem_iff_getElem.1 h
  have hsz : m < j - i := by
    have : (s.extract i j).data.toList.length = min j s.size - i := by simp [ByteArray.data_extract]; omega
    omega
  refine ⟨i + m, by omega, by omega, ?_⟩
  rw [bt_eq (by omega), ← e]
  simp [ByteArray.data_extract]
  rfl
theorem textR_len (s : ByteArray) (p : Nat) : ∀ (n i : Nat) (l : List UInt8), s.size - i = n → (textR s p i l).2.2.1 = 0 → (textR s p i l).1.length + i + 1 ≤ l.length + (textR s p i l).2.1 := by
  intro n
  induction n using Nat.strongRecOn with
  | _ n ih =>
    intro i l hn h0
    by_cases h : i < s.size
    · by_cases h34 : ((bt s i).toNat : Int) = 34
      · rw [textR_quote h h34] at h0 ⊢
        split
        · rename_i h'
          rw [if_pos h'] at h0
          simp at h0
        · simp only; omega
      · by_cases h92 : ((bt s i).toNat : Int) = 92
        · rw [textR_esc h h92] at h0 ⊢
          by_cases h1 : i + 1 < s.size
          · rw [if_pos h1] at h0 ⊢
            by_cases h2 : hexE (bt s (i + 1)) < 0
            · rw [if_pos h2] at h0; simp at h0
            · rw [if_neg h2] at h0 ⊢
              by_cases h3 : i + 2 < s.size
              · rw [if_pos h3] at h0 ⊢
                by_cases h4 : hexE (bt s (i + 2)) < 0
                · rw [if_pos h4] at h0; simp at h0
                · rw [if_neg h4] at h0 ⊢
                  have := ih (s.size - (i + 3)) (by omega) (i + 3) _ rfl h0
                  simp only [List.length_append, List.length_singleton] at this
                  omega
              · rw [if_neg h3] at h0; simp at h0
          · rw [if_neg h1] at h0; simp at h0
        · by_cases hb : ((bt s i).toNat : Int) < 32 ∨ 126 < ((bt s i).toNat : Int)
          · rw [textR_bad h h34 h92 hb] at h0; simp at h0
          · rw [textR_sign h h34 h92 hb] at h0 ⊢
            have := ih (s.size - (i + 1)) (by omega) (i + 1) _ rfl h0
            simp only [List.length_append, List.length_singleton] at this
            omega
    · rw [textR_end h] at h0; simp at h0
/-- a leaf that was read -/
theorem oneE_ok {s : ByteArray} {i : Nat} {wh : Bool} (hi : i < s.size) (h0 : (oneE s i wh).2.2.1 = 0) : OkT (oneE s i wh).1 ∧ deepT (oneE s i wh).1 = 0 ∧ (i : Int) + (costT (oneE s i wh).1 : Int) ≤ (oneE s i wh).2.1 := by
  unfold oneE at h0 ⊢
  split at h0
  · simp at h0
  · rename_i hw
    rw [if_neg hw]
    split at h0
    · rename_i hl
      rw [if_pos hl]
      have hr := runE_ge (p := letP) (s := s) _ i rfl
      have hlt := runE_lt hi hl
      have hsz : (s.extract i (runE letP s i)).size = runE letP s i - i := by
        have := hr.2 (by omega)
        rw [ByteArray.size_extract]
        omega
      refine ⟨.atom _ _ (fun e => ?_) (fun c hc => ?_), deep_leaf (by decide) _ _ _ _, ?_⟩
      · have : (s.extract i (runE letP s i)).data.toList.length = runE letP s i - i := by rw [← hsz]; simp only [Array.length_toList]; rfl
        rw [e] at this
        simp at this
        omega
      · obtain ⟨k, k1, k2, rfl⟩ := extract_mem (hr.2 (by omega)) hc
        exact runE_all _ i rfl k k1 k2
      · simp only [costT, costL]
        rw [if_pos trivial, hsz]
        omega
    · rename_i hl
      rw [if_neg hl]
      split at h0
      · rename_i hd
        rw [if_pos hd]
        cases hq : numberE s i with
        | none => rw [hq] at h0; simp at h0
        | some ne =>
          obtain ⟨n, e⟩ := ne
          have he := numberE_end hi hq
          refine ⟨.num n _ ?_ ?_, deep_leaf (by decide) _ _ _ _, ?_⟩
          · unfold numberE at hq
            split at hq
            · cases hq
            · split at hq
              · rename_i v hv
                injection hq with hq
                injection hq with hq _
                subst hq
                have := (Lib.parseIntB_bounds hv).1
                simpa using this
              · cases hq
          · unfold numberE at hq
            split at hq
            · cases hq
            · split at hq
              · rename_i v hv
                injection hq with hq
                injection hq with hq _
                subst hq
                have := (Lib.parseIntB_bounds hv).2
                simp at this
                omega
              · cases hq
          · simp only [costT, costL]
            rw [if_neg (by decide)]
            show (i : Int) + ((0 + 1 + 0 : Nat) : Int) ≤ (e : Int)
            omega
      · rename_i hd
        rw [if_neg hd]
        split at h0
        · rename_i h34
          rw [if_pos h34]
          have ht := textR_ends s i _ (i + 1) [] rfl (by omega) (by omega) (by omega) (by simp)
          have hlen := textR_len s i _ (i + 1) [] rfl h0
          refine ⟨.str _ _ ?_, deep_leaf (by decide) _ _ _ _, ?_⟩
          · exact ht.2.2.1
          · simp only [costT, costL]
            rw [if_neg (by decide)]
            show (i : Int) + (((textE s i).1.length + 1 + 0 : Nat) : Int) ≤ ((textE s i).2.1 : Int)
            unfold textE
            simp only [List.length_nil] at hlen
            omega
        · simp at h0
theorem readE_ok (s : ByteArray) : ∀ (n i : Nat) (op dn : List T), s.size - i = n → i ≤ s.size → RdInv op dn i → op.length ≤ 12 → (readE s op dn i).2.1 = 0 → OkT (readE s op dn i).1 ∧ deepT (readE s op dn i).1 ≤ 12 ∧ costT (readE s op dn i).1 ≤ s.size := by
  intro n
  induction n using Nat.strongRecOn with
  | _ n ih =>
    intro i op dn hn hi hinv hop h0
    by_cases h : i < s.size
    · by_cases hb : ((bt s i).toNat : Int) = 32 ∨ ((bt s i).toNat : Int) = 10
      · rw [readE_blank h hb] at h0 ⊢
        exact ih (s.size - (i + 1)) (by omega) (i + 1) op dn rfl (by omega) ⟨hinv.o_, hinv.d_, by have := hinv.cost; omega⟩ hop h0
      · by_cases h40 : ((bt s i).toNat : Int) = 40
        · rw [readE_open h h40] at h0 ⊢
          by_cases h12 : 12 ≤ op.length
          · rw [if_pos h12] at h0; simp at h0
          · rw [if_neg h12] at h0 ⊢
            by_cases hd : 0 < dn.length
            · rw [if_pos hd] at h0; simp at h0
            · rw [if_neg hd] at h0 ⊢
              refine ih (s.size - (i + 1)) (by omega) (i + 1) _ dn rfl (by omega) ⟨fun j t hj => ?_, hinv.d_, ?_⟩ (by simp; omega) h0
              · rcases Nat.lt_or_ge j op.length with hjl | hjl
                · rw [List.getElem?_append_left hjl] at hj
                  exact hinv.o_ j t hj
                · rw [List.getElem?_append_right hjl] at hj
                  have hj1 := (List.getElem?_eq_some_iff.1 hj).1
                  simp at hj1
                  obtain rfl : j = op.length := by omega
                  simp at hj
                  subst hj
                  exact ⟨rfl, rfl, rfl, (fun e he => by cases he), by simp only [T.kids, deepL]; omega⟩
              · have := hinv.cost
                rw [costL_append, costL_one]
                simp only [costT, costL]
                rw [if_neg (by decide)]
                show costL op + (0 + 1 + 0) + costL dn ≤ i + 1
                omega
        · by_cases h41 : ((bt s i).toNat : Int) = 41
          · rcases Nat.eq_zero_or_pos op.length with hz | hpos
            · rw [readE_close0 h h41 hz] at h0; simp at h0
            · obtain ⟨m, hm⟩ : ∃ m, op.length = m + 1 := ⟨op.length - 1, by omega⟩
              obtain ⟨t, ht⟩ : ∃ t, op[m]? = some t := ⟨_, List.getElem?_eq_getElem (by omega)⟩
              rw [readE_close h h41 hm ht] at h0 ⊢
              have hto := (hinv.o_ m t ht).ok
              have hsplit : op = op.take m ++ [t] := by
                have h1 := List.take_add_one (l := op) (i := m)
                rw [ht, ← hm, List.take_length] at h1
                exact h1
              have hc := hinv.cost
              rw [hsplit, costL_append, costL_one] at hc
              have hinv' : RdInv (op.take m) dn (i - costT t) := ⟨(fun j x hj => by
                rw [List.getElem?_take] at hj
                split at hj
                · exact hinv.o_ j x hj
                · cases hj), hinv.d_, by omega⟩
              have hadd := hinv'.add hto.1 (by rw [List.length_take]; omega)
              refine ih (s.size - (i + 1)) (by omega) (i + 1) _ _ rfl (by omega) ⟨hadd.o_, hadd.d_, by have := hadd.cost; omega⟩ ?_ h0
              have hl : (addE (op.take m) dn t).1.length = (op.take m).length := by
                unfold addE
                split <;> simp
              rw [hl, List.length_take]
              omega
          · by_cases hw : (oneE s i (decide (0 < dn.length))).2.2.1 = 0
            · rw [readE_leaf h (fun e => hb (.inl e)) (fun e => hb (.inr e)) h40 h41 hw] at h0 ⊢
              obtain ⟨k1, k2, k3⟩ := oneE_ok h hw
              have ke := (oneE_end (decide (0 < dn.length)) h).2.1 hw
              have hadd := hinv.add k1 (by rw [k2]; omega)
              refine ih (s.size - (oneE s i (decide (0 < dn.length))).2.1.toNat) (by omega) _ _ _ rfl (by omega) ⟨hadd.o_, hadd.d_, by have := hadd.cost; omega⟩ ?_ h0
              have hl : (addE op dn (oneE s i (decide (0 < dn.length))).1).1.length = op.length := by
                unfold addE
                split <;> simp
              rw [hl]
              exact hop
            · rw [readE_bad h (fun e => hb (.inl e)) (fun e => hb (.inr e)) h40 h41 hw] at h0
              exact absurd h0 hw
    · rw [readE_end h] at h0 ⊢
      by_cases hp : 0 < op.length
      · rw [if_pos hp] at h0; simp at h0
      · rw [if_neg hp] at h0 ⊢
        cases dn with
        | nil => simp at h0
        | cons t dn =>
          obtain ⟨k1, k2⟩ := hinv.d_ t List.mem_cons_self
          refine ⟨k1, k2, ?_⟩
          have := hinv.cost
          have e : costL (t :: dn) = costT t + costL dn := by rw [costL]
          rw [e] at this
          show costT t ≤ _
          omega
theorem read_ok {s : ByteArray} (h : (readE s [] [] 0).2.1 = 0) : OkT (readE s [] [] 0).1 ∧ deepT (readE s [] [] 0).1 ≤ 12 ∧ costT (readE s [] [] 0).1 ≤ s.size :=
  readE_ok s _ 0 [] [] rfl (Nat.zero_le _) ⟨(fun j t h => by simp at h), (fun t ht => by cases ht), by simp [costL]⟩ (by simp) h
end Go.Proofs.YtjhkihkiebnpaaaGreatDoor
/-
  Plans as plain trees, and what plan.Read makes of a tree. No program in sight.
-/
namespace Go.Proofs.YtjhkihkiebnpaaaGreatDoor
open Go.RowKit
structure Ag where
  nm : ByteArray
  fn : ByteArray
  col : ByteArray
inductive P where
  | mk (k : Int) (nm : ByteArray) (ex : List E) (cols left right : List ByteArray) (ag : List Ag) (kids : List P)
def P.k : P → Int | .mk k _ _ _ _ _ _ _ => k
def P.nm : P → ByteArray | .mk _ s _ _ _ _ _ _ => s
def P.ex : P → List E | .mk _ _ l _ _ _ _ _ => l
def P.cols : P → List ByteArray | .mk _ _ _ l _ _ _ _ => l
def P.left : P → List ByteArray | .mk _ _ _ _ l _ _ _ => l
def P.right : P → List ByteArray | .mk _ _ _ _ _ l _ _ => l
def P.ag : P → List Ag | .mk _ _ _ _ _ _ l _ => l
def P.kids : P → List P | .mk _ _ _ _ _ _ _ l => l
theorem P.ind {M : P → Prop} (h : ∀ k nm ex cols left right ag kids, (∀ e ∈ kids, M e) → M (.mk k nm ex cols left right ag kids)) : ∀ e, M e := by
  intro e
  exact P.rec (motive_1 := M) (motive_2 := fun l => ∀ e ∈ l, M e) (fun k nm ex cols left right ag kids ih => h k nm ex cols left right ag kids ih) (fun e he => by cases he) (fun e l h1 h2 x hx => by
    rcases List.mem_cons.1 hx with rfl | hx
    · exact h1
    · exact h2 x hx) e
/-- the same plan with other kids -/
def P.put (p : P) (ks : List P) : P := .mk p.k p.nm p.ex p.cols p.left p.right p.ag ks
def zeroP : P := .mk 0 ⟨#[]⟩ [] [] [] [] [] []

/-! ### the forms -/
def wTable : List UInt8 := [116, 97, 98, 108, 101]
def wFilter : List UInt8 := [102, 105, 108, 116, 101, 114]
def wProject : List UInt8 := [112, 114, 111, 106, 101, 99, 116]
def wJoin : List UInt8 := [106, 111, 105, 110]
def wUnion : List UInt8 := [117, 110, 105, 111, 110]
def wDistinct : List UInt8 := [100, 105, 115, 116, 105, 110, 99, 116]
def wGroup : List UInt8 := [103, 114, 111, 117, 112]
def wSum : List UInt8 := [115, 117, 109]
def wMin : List UInt8 := [109, 105, 110]
def wMax : List UInt8 := [109, 97, 120]
def wCount : List UInt8 := [99, 111, 117, 110, 116]
def wordsL : List (List UInt8) := [wTable, wFilter, wProject, wJoin, wUnion, wDistinct, wGroup]
theorem word_cases (l : List UInt8) : l ∈ wordsL ∨ ∀ x ∈ wordsL, (l == x) = false := by
  by_cases h : l ∈ wordsL
  · exact .inl h
  · refine .inr fun x hx => ?_
    cases e : l == x
    · rfl
    · rw [show l = x by simpa using e] at h
      exact absurd hx h
def headK (l : List T) : Int := match l with | [] => 0 | x :: _ => x.k
def wordL (k : Int) (l : List T) : ByteArray := match l with | [] => ⟨#[]⟩ | x :: _ => if k = 1 ∧ x.k = 2 then x.s else ⟨#[]⟩
def wordT (t : T) : ByteArray := wordL t.k t.kids
def atomsT (t : T) : Bool := t.k == 1 && t.kids.all fun x => x.k == 2
def columnT (t : T) : Bool := t.k == 1 && (t.kids.length == 2 && headK t.kids == 2)
def aggT (t : T) : Bool := atomsT t && (t.kids.length == 2 || t.kids.length == 3)
/-- l[i:n-1] -/
def midL (l : List T) (i : Nat) : List T := (l.drop i).take (l.length - 1 - i)
def kindW (w : List UInt8) (l : List T) : Int :=
  if w = wTable then (if l.length = 2 ∧ (l.getD 1 zeroT).k = 2 then 1 else 0)
  else if w = wFilter then (if l.length = 3 then 2 else 0)
  else if w = wProject then (if 3 ≤ l.length ∧ (midL l 1).all columnT = true then 3 else 0)
  else if w = wJoin then (if l.length = 5 ∧ atomsT (l.getD 1 zeroT) = true ∧ atomsT (l.getD 2 zeroT) = true then 4 else 0)
  else if w = wUnion then (if l.length = 3 then 5 else 0)
  else if w = wDistinct then (if l.length = 2 then 6 else 0)
  else if w = wGroup then (if 3 ≤ l.length ∧ atomsT (l.getD 1 zeroT) = true ∧ (midL l 2).all aggT = true then 7 else 0)
  else 0
def kindT (t : T) : Int := kindW (wordT t).toList t.kids

/-! ### the reader: its state is why and where -/
abbrev RSt := Int × Int
def refu (e a : Int) (s : RSt) : RSt := if s.1 = 0 then (e, a) else s
def nameR (t : T) (s : RSt) : RSt := if nameB t.s then s else refu 20 t.at_ s
def namesR (l : List T) (s : RSt) : RSt := l.foldl (fun s t => nameR t s) s
def exprR (t : T) (s : RSt) : RSt := if (readT t).2.1 = 0 then s else refu (readT t).2.1 (readT t).2.2 s
def aggOk (l : List T) : Bool := if l.length = 2 then (l.getD 1 zeroT).s.toList == wCount
  else ((l.getD 1 zeroT).s.toList == wSum || (l.getD 1 zeroT).s.toList == wMin) || (l.getD 1 zeroT).s.toList == wMax
def aggV (l : List T) : Ag := ⟨(l.getD 0 zeroT).s, (l.getD 1 zeroT).s, if l.length = 3 then (l.getD 2 zeroT).s else ⟨#[]⟩⟩
def aggR1 (l : List T) (s : RSt) : RSt := if aggOk l then nameR (l.getD 0 zeroT) s else refu 12 (l.getD 1 zeroT).at_ (nameR (l.getD 0 zeroT) s)
def aggR (l : List T) (s : RSt) : RSt := if l.length = 3 then nameR (l.getD 2 zeroT) (aggR1 l s) else aggR1 l s
def colR (t : T) (s : RSt) : RSt := exprR (t.kids.getD 1 zeroT) (nameR (t.kids.getD 0 zeroT) s)
def colsR (l : List T) (s : RSt) : RSt := l.foldl (fun s t => colR t s) s
def aggsR (l : List T) (s : RSt) : RSt := l.foldl (fun s t => aggR t.kids s) s
/-- all but the kids -/
def baseP (kd : Int) (l : List T) : P :=
  if kd = 1 then .mk 1 (l.getD 1 zeroT).s [] [] [] [] [] []
  else if kd = 2 then .mk 2 ⟨#[]⟩ [(readT (l.getD 1 zeroT)).1] [] [] [] [] []
  else if kd = 3 then .mk 3 ⟨#[]⟩ ((midL l 1).map fun c => (readT (c.kids.getD 1 zeroT)).1) ((midL l 1).map fun c => (c.kids.getD 0 zeroT).s) [] [] [] []
  else if kd = 4 then .mk 4 ⟨#[]⟩ [] [] ((l.getD 1 zeroT).kids.map T.s) ((l.getD 2 zeroT).kids.map T.s) [] []
  else if kd = 7 then .mk 7 ⟨#[]⟩ [] [] ((l.getD 1 zeroT).kids.map T.s) [] ((midL l 2).map fun c => aggV c.kids) []
  else .mk kd ⟨#[]⟩ [] [] [] [] [] []
def baseR (kd : Int) (l : List T) (a : Int) (s : RSt) : RSt :=
  if kd = 1 then nameR (l.getD 1 zeroT) s
  else if kd = 2 then exprR (l.getD 1 zeroT) s
  else if kd = 3 then colsR (midL l 1) s
  else if kd = 4 then namesR (l.getD 2 zeroT).kids (namesR (l.getD 1 zeroT).kids s)
  else if kd = 5 then s
  else if kd = 6 then s
  else if kd = 7 then aggsR (midL l 2) (namesR (l.getD 1 zeroT).kids s)
  else refu 12 a s
def kidsN (kd : Int) : Nat := if kd = 4 ∨ kd = 5 then 2 else if kd = 2 ∨ kd = 3 ∨ kd = 6 ∨ kd = 7 then 1 else 0
mutual
def planT : T → RSt → P × RSt
  | .mk k s n l a, st => ((baseP (kindT (.mk k s n l a)) l).put (planL l (l.length - kidsN (kindT (.mk k s n l a))) (baseR (kindT (.mk k s n l a)) l a st)).1,
      (planL l (l.length - kidsN (kindT (.mk k s n l a))) (baseR (kindT (.mk k s n l a)) l a st)).2)
def planL : List T → Nat → RSt → List P × RSt
  | [], _, st => ([], st)
  | x :: l, m, st => match m with
    | 0 => ((planT x st).1 :: (planL l 0 (planT x st).2).1, (planL l 0 (planT x st).2).2)
    | m + 1 => planL l m st
end
theorem planL_skip : ∀ (l : List T) (m : Nat) (st : RSt), planL l m st = planL (l.drop m) 0 st
  | [], m, st => by rw [List.drop_nil]; cases m <;> simp only [planL]
  | x :: l, 0, st => by rw [List.drop_zero]
  | x :: l, m + 1, st => by rw [planL, List.drop_succ_cons]; exact planL_skip l m st
theorem planL_step {l : List T} {j : Nat} {x : T} (h : l[j]? = some x) (st : RSt) :
    planL (l.drop j) 0 st = ((planT x st).1 :: (planL (l.drop (j + 1)) 0 (planT x st).2).1, (planL (l.drop (j + 1)) 0 (planT x st).2).2) := by
  obtain ⟨h1, e1⟩ := List.getElem?_eq_some_iff.1 h
  rw [List.drop_eq_getElem_cons h1, e1, planL]
end Go.Proofs.YtjhkihkiebnpaaaGreatDoor
