/-
  Package expr's apply: the kids are read.
-/
import Derived.Test.YtldleckgkgeclaaDoorMb4
import Derived.Maps.AppendAt
import Derived.Deep.AppendLies
import Derived.Deep.RegionLaw
import Derived.Deep.RegionHeld
set_option linter.unusedVariables false
set_option linter.unusedSimpArgs false
namespace Go.Proofs.YtldleckgkgeclaaDoor
open Go.RowKit
theorem expr_info : (Tryd.prog.info? 39).map (fun i => (i.zero, i.size, i.bytes)) = some (some (.agg #[.int .i64 0, .string ByteArray.empty, .int .i64 0, .slice none 0 0]), 4, 56) := by kernel_rfl
theorem put4_other {w : World} {p k : Nat} {x0 x1 x2 x3 : Value} (h : k ≠ p) : (put4 w p x0 x1 x2 x3).heap[k]? = w.heap[k]? := by
  simp only [put4, World.setCell, Array.getElem?_modify]
  rw [if_neg (by omega), if_neg (by omega), if_neg (by omega), if_neg (by omega)]
theorem put4_size {w : World} {p : Nat} {x0 x1 x2 x3 : Value} : (put4 w p x0 x1 x2 x3).heap.size = w.heap.size := by simp [put4, World.setCell]
theorem own_set {w : World} {B n : Nat} {e : TypeId} {z : Nat} {v : Value} {xs : List Value} (h : w.ownsRow B e z v n xs) {p : Addr} (u : Value) (hp : p.block < B) : (w.setCell p u).ownsRow B e z v n xs := by
  obtain ⟨h1, h2⟩ := h
  refine ⟨h1, ?_⟩
  rcases h2 with h2 | ⟨g, cap, cur, e1, hb, hg, r⟩
  · exact .inl h2
  · exact .inr ⟨g, cap, cur, e1, hb, (Below.heap_setCell w p u g (by omega)).trans hg, r⟩
theorem xk_round {wr w3 w6 : World} {v v' : Value} {base : Nat} {ps : List EP} {x : EP}
    (hxk : ∀ p ∈ ps, XKids wr (fun k => base ≤ k ∧ k < wr.heap.size ∧ v.ownBlock ≠ some k) p.2.1 p.1.kids)
    (hx : XKids w3 (fun k => wr.heap.size ≤ k ∧ k < w3.heap.size) x.2.1 x.1.kids) (hbase : base ≤ wr.heap.size)
    (h1 : ∀ k, base ≤ k → k < wr.heap.size → v.ownBlock ≠ some k → w6.heap[k]? = wr.heap[k]?) (h2 : ∀ k, wr.heap.size ≤ k → k < w3.heap.size → w6.heap[k]? = w3.heap[k]?)
    (hs : wr.heap.size ≤ w3.heap.size) (hs6 : w3.heap.size ≤ w6.heap.size) (hv1 : ∀ k, v.ownBlock = some k → k < wr.heap.size) (hv : v'.ownBlock = v.ownBlock ∨ ∃ n, v'.ownBlock = some n ∧ w3.heap.size ≤ n) :
    ∀ p ∈ ps ++ [x], XKids w6 (fun k => base ≤ k ∧ k < w6.heap.size ∧ v'.ownBlock ≠ some k) p.2.1 p.1.kids := by
  intro p hp
  rcases List.mem_append.1 hp with hp | hp
  · refine ((hxk p hp).kept fun k hk => h1 k hk.1 hk.2.1 hk.2.2).mono fun k hk => ⟨hk.1, by have := hk.2.1; omega, ?_⟩
    rcases hv with hv | ⟨n, hv, hn⟩
    · rw [hv]; exact hk.2.2
    · rw [hv]; intro e; have := Option.some.inj e; have := hk.2.1; omega
  · obtain rfl : p = x := by simpa using hp
    refine (hx.kept fun k hk => h2 k hk.1 hk.2).mono fun k hk => ⟨by have := hk.1; omega, by have := hk.2; omega, ?_⟩
    rcases hv with hv | ⟨n, hv, hn⟩
    · rw [hv]; intro e; have := hv1 k e; have := hk.1; omega
    · rw [hv]; intro e; have := Option.some.inj e; have := hk.2; omega
set_option maxRecDepth 100000 in
set_option maxHeartbeats 1000000 in
theorem apply_main (s : ByteArray) (n : Int) (x : T) (ks : List T) (a : Int) (hk2 : x.k = 2) (hc0 : cntL x.s.toList ≠ 0) (heq : ks.length = cntL x.s.toList) (hM : ∀ t ∈ ks, ReadExp t) (A : Option Addr) (c : Nat) (w : World) (hcap : (x :: ks).length ≤ c) (hA : TKids w w.heap.size A (x :: ks)) :
    Calls Tryd.prog 32 #[.agg #[.int .i64 1, .string s, .int .i64 n, .slice A (x :: ks).length c, .int .i64 a]] w (ApplyEnd (if (readL ks).2.1 = 0 then (.mk 4 x.s 0 (readL ks).1, 0, 0) else (zeroE, (readL ks).2.1, (readL ks).2.2)) w) := by
  obtain ⟨m, em⟩ : ∃ m, m = ks.length := ⟨_, rfl⟩
  have hlen : (x :: ks).length ≤ 9223372036854775807 := hA.len
  rw [← em] at heq
  simp only [List.length_cons, ← em] at hlen hcap ⊢
  obtain ⟨w1, ew1⟩ : ∃ w1, w1 = (w.alloc (.cells #[.int .i64 1, .string s, .int .i64 n, .slice A (m + 1) c, .int .i64 a] 24)).alloc (.cells #[.int .i64 0, .string ⟨#[]⟩, .int .i64 0, .slice none 0 0] 39) := ⟨_, rfl⟩
  have hb1 : Below w.heap.size w w1 := by rw [ew1]; exact ((Below.refl _ _).alloc (Nat.le_refl _) _).alloc (by simp) _
  have hws : w1.heap.size = w.heap.size + 2 := by rw [ew1]; simp
  have HB1 := Lib.hid hb1
  have hB : Hid (w1.heap[w.heap.size + 1]? = some (.cells #[.int .i64 0, .string ⟨#[]⟩, .int .i64 0, .slice none 0 0] 39 (0, 0))) := Lib.hid (by
    rw [ew1]
    have := heap_alloc_new (w.alloc (.cells #[.int .i64 1, .string s, .int .i64 n, .slice A (m + 1) c, .int .i64 a] 24)) (.cells #[.int .i64 0, .string ⟨#[]⟩, .int .i64 0, .slice none 0 0] 39)
    simpa using this)
  have HDD : Hid (w1.cell? ⟨w.heap.size, 3, none⟩ = some (.slice A (m + 1) c) ∧ w1.cell? ⟨w.heap.size, 4, none⟩ = some (.int .i64 a)) := Lib.hid (by rw [ew1]; simp)
  have HW1 := Lib.hid ew1
  have HK := Lib.hid ((hA.low hb1).more hb1.size)
  obtain ⟨b, o, A', c', rfl, hlt, x0, x1, _, _, _, _, _⟩ := ((hA.low hb1).more hb1.size).get_ w1 (Below.refl _ _) 0 x rfl
  rw [Nat.zero_mul, Nat.add_zero] at x0 x1
  have hm0 : (0 : Int) < ((m + 1 : Nat) : Int) := by omega
  have hm1 : (((m + 1 : Nat) : Int) == 0) = false := by simp; omega
  obtain ⟨xk, xs, xn, xl, xa⟩ := x
  simp only [T.k, T.s] at x0 x1 hk2 hc0 heq ⊢
  subst hk2
  have hC := Lib.hid (count_any xs)
  have hm3 : m ≤ 3 := by
    have hcb : cntL xs.toList ≤ 3 := by
      unfold cntL
      repeat' split
      all_goals omega
    omega
  generalize cntL xs.toList = cn at *
  have hcz : ((cn : Int) == 0) = false := by simp; omega
  have hn1 : ((m : Int) != (cn : Int)) = false := by simp; omega
  have HM := Lib.hid hM
  have HEM := Lib.hid em
  have hmpos : 0 < m := by omega
  obtain ⟨Q, hQ⟩ : ∃ Q : E × Int × Int, Q = (if (readL ks).2.1 = 0 then (.mk 4 xs 0 (readL ks).1, 0, 0) else (zeroE, (readL ks).2.1, (readL ks).2.2)) := ⟨_, rfl⟩
  have HQ := Lib.hid hQ
  rw [← hQ]
  clear hA em ew1 hb1 hc0 heq hM hQ
  -- the box of what is read
  have hb2 : Below w1.heap.size w1 (w1.alloc (.cells #[.int .i64 4, .string xs, .int .i64 0, .slice none 0 0] 39)) := (Below.refl _ _).alloc (Nat.le_refl _) _
  have hB2 : Hid ((w1.alloc (.cells #[.int .i64 4, .string xs, .int .i64 0, .slice none 0 0] 39)).heap[w.heap.size + 1]? = some (.cells #[.int .i64 0, .string ⟨#[]⟩, .int .i64 0, .slice none 0 0] 39 (0, 0))) := Lib.hid ((hb2.block _ (by omega)).trans hB.out)
  have HD2 : Hid ((w1.alloc (.cells #[.int .i64 4, .string xs, .int .i64 0, .slice none 0 0] 39)).cell? ⟨w.heap.size, 3, none⟩ = some (.slice (some ⟨b, o, none⟩) (m + 1) c) ∧ (w1.alloc (.cells #[.int .i64 4, .string xs, .int .i64 0, .slice none 0 0] 39)).cell? ⟨w.heap.size, 4, none⟩ = some (.int .i64 a)) :=
    Lib.hid ⟨(hb2.cell (p := ⟨w.heap.size, 3, none⟩) (show w.heap.size < _ by omega)).trans HDD.out.1, (hb2.cell (p := ⟨w.heap.size, 4, none⟩) (show w.heap.size < _ by omega)).trans HDD.out.2⟩
  have HE2 : Hid ((w1.alloc (.cells #[.int .i64 4, .string xs, .int .i64 0, .slice none 0 0] 39)).cell? ⟨w.heap.size + 2, 1, none⟩ = some (.string xs)) := Lib.hid (by rw [← hws]; simp)
  have HB2 := Lib.hid (HB1.out.trans (hb2.mono (by omega)))
  have HX2 : Hid ((w1.alloc (.cells #[.int .i64 4, .string xs, .int .i64 0, .slice none 0 0] 39)).heap[w.heap.size + 2]? = some (.cells #[.int .i64 4, .string xs, .int .i64 0, .slice none 0 0] 39 (0, 0))) := Lib.hid (by rw [← hws]; exact heap_alloc_new w1 _)
  have HS2 : Hid ((w1.alloc (.cells #[.int .i64 4, .string xs, .int .i64 0, .slice none 0 0] 39)).heap.size = w.heap.size + 3) := Lib.hid (by simp; omega)
  have HW12 := Lib.hid hb2
  clear hb2
  go_enter Tryd.func32, Tryd.ntmps32
  go_upto_region 1 with (fail)
  rw [← HW1.out]
  obtain ⟨d3, d4⟩ := HDD.out
  go_wp2_with fail
  refine (hC.out _).mono ?_
  rintro e w2 ⟨rfl, rfl⟩
  go_upto_region 4 with (fail)
  generalize (w1.alloc (.cells #[.int .i64 4, .string xs, .int .i64 0, .slice none 0 0] 39)) = w2 at *
  obtain ⟨y3, y4⟩ := HD2.out
  have y1 := HE2.out
  obtain ⟨⟨k0, k1, k2, k3⟩, f0, f1, f2, f3⟩ := cell4 hB2.out
  clear x0 x1 hlt d3 d4
  go_quiet ((go_at_call 52; exact Calls.quiet_of_same ((hC.out _).mono fun e w' ⟨h1, h2⟩ => ⟨h1, h2.symm⟩)))
  generalize hwq : w2.drewN nq = wq at *
  have hsq : wq.heap.size = w.heap.size + 3 := by rw [← hwq]; exact HS2.out
  have HXQ : Hid (wq.heap[w.heap.size + 2]? = some (.cells #[.int .i64 4, .string xs, .int .i64 0, .slice none 0 0] 39 (0, 0))) := Lib.hid (by rw [← hwq]; exact HX2.out)
  have HRQ : Hid (wq.heap[w.heap.size + 1]? = some (.cells #[.int .i64 0, .string ⟨#[]⟩, .int .i64 0, .slice none 0 0] 39 (0, 0))) := Lib.hid (by rw [← hwq]; exact hB2.out)
  have HBQ : Hid (Below w.heap.size w wq) := Lib.hid (by rw [← hwq]; exact below_drewN HB2.out _)
  have HW1Q : Hid (Below w1.heap.size w1 wq) := Lib.hid (by rw [← hwq]; exact below_drewN HW12.out _)
  have z3 : wq.cell? ⟨w.heap.size, 3, none⟩ = some (.slice (some ⟨b, o, none⟩) (m + 1) c) := by rw [← hwq]; exact HD2.out.1
  have ZD := Lib.hid z3
  have hcc : m + 1 ≤ c := hcap
  have hc1 : (1 : Int) ≤ ((m + 1 : Nat) : Int) := by omega
  clear hwq HX2 HS2 HW12 hB2 HB2 HD2 HE2 y3 y4 y1 k0 k1 k2 k3 f0 f1 f2 f3
  go_wp2_with fail
  go_loopw [56] (fun i wr => ∃ (j : Nat) (ps : List EP) (v : Value), j ≤ m ∧ ps.length = j ∧ i = .int .i64 j ∧ wr.heap[w.heap.size + 2]? = some (.cells #[.int .i64 4, .string xs, .int .i64 0, v] 39 (0, 0)) ∧
      wr.ownsRow wq.heap.size 39 4 v j (flatP ps) ∧ Hid (∀ p ∈ ps, XKids wr (fun k => wq.heap.size ≤ k ∧ k < wr.heap.size ∧ v.ownBlock ≠ some k) p.2.1 p.1.kids) ∧ Below (w.heap.size + 2) wq wr ∧
      Hid (readL ks = (ps.map Prod.fst ++ (readL (ks.drop j)).1, (readL (ks.drop j)).2.1, (readL (ks.drop j)).2.2))) (fun i _ => m - (intOf i).toNat)
  case atStart => exact ⟨0, [], .slice none 0 0, Nat.zero_le _, rfl, rfl, HXQ.out, World.ownsRow_nil _ _ _ _, Lib.hid (fun p hp => by cases hp), Below.refl _ _, Lib.hid rfl⟩
  case round =>
    obtain ⟨j, ps, v, hj, hpl, rfl, hbox, hown, hxk, hb, hzl⟩ := hrel
    have HO := Lib.hid hown
    have HB := Lib.hid hb
    have hs := hb.size
    have HPL := Lib.hid hpl
    have HBX := Lib.hid hbox
    clear hown hpl
    by_cases hlt2 : j < m
    · obtain ⟨x, hx⟩ : ∃ x, ks[j]? = some x := ⟨_, List.getElem?_eq_getElem (by rw [← HEM.out]; exact hlt2)⟩
      have hbw1 : Below w1.heap.size w1 wr := HW1Q.out.trans (hb.mono (by omega))
      obtain ⟨b', o', A', c', hb', _, c1, c2, c3, c4, c5, hcx, hKx⟩ := HK.out.get_ wr hbw1 (j + 1) x (by simpa using hx)
      injection hb' with hb'
      injection hb' with hbb hoo
      subst hbb hoo
      rw [show o + (j + 1) * 5 = o + 5 + j * 5 by omega] at c1 c2 c3 c4 c5
      have hMx := HM.out x (List.mem_of_getElem? hx)
      have hst : Hid (readL (ks.drop j) = if (readT x).2.1 = 0 then ((readT x).1 :: (readL (ks.drop (j + 1))).1, (readL (ks.drop (j + 1))).2.1, (readL (ks.drop (j + 1))).2.2) else ([], (readT x).2.1, (readT x).2.2)) := Lib.hid (by
        obtain ⟨g1, g2⟩ := List.getElem?_eq_some_iff.1 hx
        rw [List.drop_eq_getElem_cons g1, g2, readL])
      clear hx
      obtain ⟨tk, ts, tn, tl, ta⟩ := x
      simp only [T.k, T.s, T.n, T.kids, T.at_] at c1 c2 c3 c4 c5 hKx hcx
      have hba : Below wr.heap.size wr (wr.alloc (.cells #[.int .i64 tk, .string ts, .int .i64 tn, .slice A' tl.length c', .int .i64 ta] 24)) := (Below.refl _ _).alloc (Nat.le_refl _) _
      have HBA := Lib.hid hba
      have hcl := Lib.hid (hMx A' c' (wr.alloc (.cells #[.int .i64 tk, .string ts, .int .i64 tn, .slice A' tl.length c', .int .i64 ta] 24)) hcx ((hKx.low hba).more hba.size))
      simp only [T.val, T.k, T.s, T.n, T.kids, T.at_] at hcl
      generalize hq : readT (.mk tk ts tn tl ta) = tq at *
      generalize tl.length = tm at *
      obtain ⟨⟨ek, es, en, el⟩, wy, at2⟩ := tq
      simp only [E.val, E.k, E.s, E.n, E.kids] at hcl hst
      have HZL := hzl
      clear hKx hMx hbox hba hcx hq hzl hbw1
      go_wp2_with fail
      refine (hcl.out).mono ?_
      rintro e w3 ⟨⟨A3, c3', rfl, hX⟩, hb3⟩
      have hw3' : Below wr.heap.size wr w3 := HBA.out.trans (hb3.mono HBA.out.size)
      have hx3 : Below w3.heap.size w3 (w3.alloc (.cells #[.int .i64 ek, .string es, .int .i64 en, .slice A3 el.length c3'] 39)) := (Below.refl _ _).alloc (Nat.le_refl _) _
      have hw3 : Hid (Below wr.heap.size wr (w3.alloc (.cells #[.int .i64 ek, .string es, .int .i64 en, .slice A3 el.length c3'] 39))) := Lib.hid (hw3'.trans (hx3.mono hw3'.size))
      have hN3 : Hid ((w3.alloc (.cells #[.int .i64 ek, .string es, .int .i64 en, .slice A3 el.length c3'] 39)).heap[w3.heap.size]? = some (.cells #[.int .i64 ek, .string es, .int .i64 en, .slice A3 el.length c3'] 39 (0, 0))) := Lib.hid (heap_alloc_new w3 _)
      have hR3 : Hid ((w3.alloc (.cells #[.int .i64 ek, .string es, .int .i64 en, .slice A3 el.length c3'] 39)).heap[w.heap.size + 1]? = some (.cells #[.int .i64 0, .string ⟨#[]⟩, .int .i64 0, .slice none 0 0] 39 (0, 0))) := Lib.hid ((hw3.out.block _ (by omega)).trans ((HB.out.block _ (by omega)).trans HRQ.out))
      have hE3 : Hid ((w3.alloc (.cells #[.int .i64 ek, .string es, .int .i64 en, .slice A3 el.length c3'] 39)).heap[w.heap.size + 2]? = some (.cells #[.int .i64 4, .string xs, .int .i64 0, v] 39 (0, 0))) := Lib.hid ((hw3.out.block _ (by omega)).trans HBX.out)
      have hS3 : Hid ((w3.alloc (.cells #[.int .i64 ek, .string es, .int .i64 en, .slice A3 el.length c3'] 39)).heap.size = w3.heap.size + 1 ∧ wr.heap.size ≤ w3.heap.size) := Lib.hid ⟨by simp, hw3'.size⟩
      clear hw3' hx3
      have hs3 := hw3.out.size
      have HX3 := Lib.hid hX
      clear hX hb3 HBA
      by_cases hw0 : wy = 0
      · subst hw0
        obtain ⟨⟨k0, k1, k2, k3⟩, g0, g1, g2, g3⟩ := cell4 hE3.out
        obtain ⟨⟨n0, n1, n2, n3⟩, m0, m1, m2, m3⟩ := cell4 hN3.out
        have hrl : Hid (readL ks = ((ps ++ [((.mk ek es en el : E), A3, c3')]).map Prod.fst ++ (readL (ks.drop (j + 1))).1, (readL (ks.drop (j + 1))).2.1, (readL (ks.drop (j + 1))).2.2)) := Lib.hid (by
          rw [HZL.out, hst.out, if_pos rfl]; simp)
        have HO3 := Lib.hid (own_below HO.out hw3.out)
        clear hst HZL hs3
        obtain ⟨i0, hi, hz0, hz1, hz2⟩ := info_parts expr_info
        go_wp2_with (at_builtin; refine wpList_append_own_at _ rfl _ _ 37 rfl wq.heap.size 39 i0 _ 4 56 Tryd.underlying37 hi hz0 hz1 hz2 rfl (by decide) _ _ _ rfl (HO3.out.alloc _) ⟨w3.heap.size + 1, 0, none⟩ 1 1 (EP.cs ((.mk ek es en el : E), A3, c3')) rfl rfl ?c1 ?c2 ?c3 ?c4 ?c5 ?_)
        case c1 =>
          intro i u hu
          match i, hu with
          | 0, hu => simp [EP.cs, E.k] at hu; subst hu; simp [Addr.add]
          | 1, hu => simp [EP.cs, E.s] at hu; subst hu; simp [Addr.add]
          | 2, hu => simp [EP.cs, E.n] at hu; subst hu; simp [Addr.add]
          | 3, hu => simp [EP.cs, E.kids] at hu; subst hu; simp [Addr.add]
        case c2 => rw [← flatP_one]; exact flatP_ones _
        case c3 => unfold maxLen; omega
        case c4 => omega
        case c5 => simp; have := hS3.out.2; omega
        intro v' w5 hown' hgrow _ hat
        have hgrow5 : Hid ((w3.alloc (.cells #[.int .i64 ek, .string es, .int .i64 en, .slice A3 el.length c3'] 39)).grownBy w5 v.ownBlock) := Lib.hid ((World.grownBy_alloc _ _ _).trans hgrow)
        have hat5 : Hid (v'.ownBlock = v.ownBlock ∨ ∃ n, v'.ownBlock = some n ∧ w3.heap.size ≤ n) := Lib.hid (hat.imp_right fun h => ⟨_, h, by first | omega | (simp; omega)⟩)
        obtain ⟨g', cap', rfl, hg1, hg2⟩ := hown'.form (by omega)
        have HO5 : Hid (w5.ownsRow wq.heap.size 39 4 (.slice (some ⟨g', 0, none⟩) (j + 1) cap') (j + 1) (flatP (ps ++ [((.mk ek es en el : E), A3, c3')]))) := Lib.hid (by rw [flatP_append, flatP_one, hsq]; exact hown')
        clear hown' hgrow hat k0 k1 k2 k3 g0 g1 g2 g3 n0 n1 n2 n3 m0 m1 m2 m3
        have hE5 : Hid (w5.heap[w.heap.size + 2]? = some (.cells #[.int .i64 4, .string xs, .int .i64 0, v] 39 (0, 0))) := Lib.hid ((hgrow5.out.block _ (by have := hS3.out; omega) (fun e => by have := (HO.out.lt _ e.symm).1; omega)).trans hE3.out)
        obtain ⟨⟨k0, k1, k2, k3⟩, g0, g1, g2, g3⟩ := cell4 hE5.out
        go_wp2_with fail
        go_roundw
        case rel =>
          refine ⟨_, _, _, _, _, _, _, _, _, _, _, _, _, _, _, _, _, _, _, _, _, _, _, _, _, _, _, _, ?_, rfl⟩
          have hs5 := hgrow5.out.size
          have hs3a := hS3.out.1
          have hs3b := hS3.out.2
          have hother : ∀ k, k ≠ w.heap.size + 2 → k < w3.heap.size + 1 → v.ownBlock ≠ some k → (w5.setCell ⟨w.heap.size + 2, 3, none⟩ (.slice (some ⟨g', 0, none⟩) (j + 1) cap')).heap[k]? = (w3.alloc (.cells #[.int .i64 ek, .string es, .int .i64 en, .slice A3 el.length c3'] 39)).heap[k]? := fun k h1 h2 h3 =>
            (Below.heap_setCell w5 ⟨w.heap.size + 2, 3, none⟩ _ k h1).trans (hgrow5.out.block k (by omega) fun e => h3 e.symm)
          refine ⟨j + 1, ps ++ [((.mk ek es en el : E), A3, c3')], .slice (some ⟨g', 0, none⟩) (j + 1) cap', by omega, by rw [List.length_append, HPL.out]; rfl, by go_num, set4c (k := 3) hE5.out, own_set HO5.out _ (by show w.heap.size + 2 < wq.heap.size; omega), Lib.hid ?_, ?_, hrl⟩
          · refine xk_round hxk.out (HX3.out.mono fun k hk => ⟨by have := hk.1; simp at this; omega, hk.2⟩) hs (fun k h1 h2 h3 => (hother k (by omega) (by omega) h3).trans (hw3.out.block k h2)) (fun k h1 h2 => (hother k (by omega) (by omega) fun e => by have := (HO.out.lt _ e).2; omega).trans (heap_alloc_old _ _ h2)) hs3b ?_ (fun k e => (HO.out.lt _ e).2) hat5.out
            simp only [World.setCell, Array.size_modify]
            omega
          · exact ((HB.out.trans (hw3.out.mono (by omega))).grown hgrow5.out (by omega) (fun g hg => by have := (HO.out.lt g hg).1; omega)).setCell (p := ⟨w.heap.size + 2, 3, none⟩) (Nat.le_refl _) _
        case measure => simp [intOf]; omega
      · have hy : (wy != 0) = true := by simpa using hw0
        have hy' : (wy == 0) = false := by simpa using hw0
        have h1 : (readL ks).2 = (wy, at2) := by rw [HZL.out, hst.out, if_neg hw0]
        have hq : Hid (Q = (zeroE, wy, at2)) := Lib.hid (by rw [HQ.out, h1, if_neg hw0])
        obtain ⟨⟨q0, q1, q2, q3⟩, f0, f1, f2, f3⟩ := cell4 hR3.out
        clear h1 hst hs3 HZL
        go_wp2_with fail
        refine bodyPost_ret (results_three rfl rfl rfl rfl (put4_block hR3.out)) rfl ?_
        refine ⟨⟨none, 0, by rw [hq.out]; rfl, by rw [hq.out]; exact .nil _⟩, put4_below (HBQ.out.trans ((HB.out.mono (by omega)).trans (hw3.out.mono (by omega)))) (Nat.le_succ _)⟩
    · obtain rfl : j = m := by omega
      obtain ⟨k0, k1, k2, k3⟩ := (cell4 HBX.out).1
      have hd : ks.drop j = [] := List.drop_eq_nil_of_le (by rw [← HEM.out]; exact Nat.le_refl _)
      have h1 : readL ks = (ps.map Prod.fst, 0, 0) := by rw [hzl.out, hd]; simp [readL]
      have hq : Hid (Q = (.mk 4 xs 0 (ps.map Prod.fst), 0, 0)) := Lib.hid (by rw [HQ.out, h1, if_pos rfl])
      have hO2 : wr.ownsRow wq.heap.size 39 4 v ps.length (flatP ps) := by rw [HPL.out]; exact HO.out
      have hlj : ps.length ≤ 9223372036854775807 := by rw [HPL.out]; omega
      obtain ⟨A9, c9, rfl, hX9⟩ := own_exprs hO2 hlj (S := fun k => wq.heap.size ≤ k ∧ k < wr.heap.size) (fun g u1 u2 => ⟨u1, u2⟩) (fun p hp => (hxk.out p hp).mono (fun k hk => ⟨hk.1, hk.2.1⟩))
      have HX9 := Lib.hid hX9
      have hB9 : Hid (wr.heap[w.heap.size + 1]? = some (.cells #[.int .i64 0, .string ⟨#[]⟩, .int .i64 0, .slice none 0 0] 39 (0, 0))) := Lib.hid ((HB.out.block _ (by omega)).trans HRQ.out)
      obtain ⟨⟨q0, q1, q2, q3⟩, f0, f1, f2, f3⟩ := cell4 hB9.out
      clear hd h1 hO2 hlj hX9 hxk hzl
      go_wp2_with fail
      refine bodyPost_ret (results_three rfl rfl rfl rfl (put4_block hB9.out)) rfl ?_
      have hsz := HB.out.size
      refine ⟨⟨A9, c9, by rw [hq.out]; simp [E.val, E.k, E.s, E.n, E.kids], ?_⟩, put4_below (HBQ.out.trans (HB.out.mono (by omega))) (Nat.le_succ _)⟩
      rw [hq.out]
      exact (HX9.out.kept (fun k hk => put4_other (by have := hk.1; omega))).mono (fun k hk => ⟨by have := hk.1; omega, Nat.lt_of_lt_of_eq hk.2 put4_size.symm⟩)
end Go.Proofs.YtldleckgkgeclaaDoor
/-
  Package expr's Read, whole.
-/
namespace Go.Proofs.YtldleckgkgeclaaDoor
open Go.RowKit
theorem readT_one (s : ByteArray) (n : Int) (l : List T) (a : Int) : readT (.mk 1 s n l a) = (match l with
        | [] => (zeroE, 12, a)
        | x :: ks => if x.k = 2 ∧ cntL x.s.toList ≠ 0 then
            (if ks.length = cntL x.s.toList then (if (readL ks).2.1 = 0 then (.mk 4 x.s 0 (readL ks).1, 0, 0) else (zeroE, (readL ks).2.1, (readL ks).2.2)) else (zeroE, 23, a))
          else (zeroE, 12, a)) := by
  rw [readT.eq_def]
  rfl
theorem apply_any (s : ByteArray) (n : Int) (l : List T) (a : Int) (hM : ∀ t ∈ l, ReadExp t) (A : Option Addr) (c : Nat) (w : World) (hcap : l.length ≤ c) (hA : TKids w w.heap.size A l) :
    Calls Tryd.prog 32 #[.agg #[.int .i64 1, .string s, .int .i64 n, .slice A l.length c, .int .i64 a]] w (ApplyEnd (readT (.mk 1 s n l a)) w) := by
  have hr := readT_one s n l a
  match l with
  | [] => rw [hr]; exact apply_bad s n [] a (.inl rfl) A c w hA
  | x :: ks =>
    simp only at hr
    by_cases h1 : x.k = 2 ∧ cntL x.s.toList ≠ 0
    · rw [if_pos h1] at hr
      by_cases h2 : ks.length = cntL x.s.toList
      · rw [if_pos h2] at hr
        rw [hr]
        exact apply_main s n x ks a h1.1 h1.2 h2 (fun t ht => hM t (List.mem_cons_of_mem _ ht)) A c w hcap hA
      · rw [if_neg h2] at hr
        rw [hr]
        exact apply_count s n x ks a h1.1 h1.2 h2 A c w hA
    · rw [if_neg h1] at hr
      rw [hr]
      exact apply_bad s n (x :: ks) a (.inr ⟨x, ks, rfl, by
        by_cases h3 : x.k = 2
        · exact .inr (Decidable.byContradiction fun h4 => h1 ⟨h3, h4⟩)
        · exact .inl h3⟩) A c w hA
set_option maxRecDepth 100000 in
set_option maxHeartbeats 1000000 in
theorem read_open (s : ByteArray) (n : Int) (l : List T) (a : Int) (hM : ∀ t ∈ l, ReadExp t) : ReadExp (.mk 1 s n l a) := by
  intro A c w hcap hA
  simp only [T.val, T.k, T.s, T.n, T.kids, T.at_] at hcap hA ⊢
  obtain ⟨w1, ew1⟩ : ∃ w1, w1 = (w.alloc (.cells #[.int .i64 1, .string s, .int .i64 n, .slice A l.length c, .int .i64 a] 24)).alloc (.cells #[.int .i64 0, .string ⟨#[]⟩, .int .i64 0, .slice none 0 0] 39) := ⟨_, rfl⟩
  have hb1 : Below w.heap.size w w1 := by rw [ew1]; exact ((Below.refl _ _).alloc (Nat.le_refl _) _).alloc (by simp) _
  have hws : w1.heap.size = w.heap.size + 2 := by rw [ew1]; simp
  have HB1 := Lib.hid hb1
  have hB : Hid (w1.heap[w.heap.size + 1]? = some (.cells #[.int .i64 0, .string ⟨#[]⟩, .int .i64 0, .slice none 0 0] 39 (0, 0))) := Lib.hid (by
    rw [ew1]
    have := heap_alloc_new (w.alloc (.cells #[.int .i64 1, .string s, .int .i64 n, .slice A l.length c, .int .i64 a] 24)) (.cells #[.int .i64 0, .string ⟨#[]⟩, .int .i64 0, .slice none 0 0] 39)
    simpa using this)
  have HDD : Hid (w1.cell? ⟨w.heap.size, 0, none⟩ = some (.int .i64 1) ∧ w1.cell? ⟨w.heap.size, 1, none⟩ = some (.string s) ∧ w1.cell? ⟨w.heap.size, 2, none⟩ = some (.int .i64 n) ∧ w1.cell? ⟨w.heap.size, 3, none⟩ = some (.slice A l.length c) ∧ w1.cell? ⟨w.heap.size, 4, none⟩ = some (.int .i64 a)) := Lib.hid (by rw [ew1]; simp)
  have HW1 := Lib.hid ew1
  have hcl := Lib.hid (apply_any s n l a hM A c w1 hcap ((hA.low hb1).more hb1.size))
  generalize readT (.mk 1 s n l a) = q at *
  generalize l.length = ln at *
  clear hA ew1 hb1 hM
  obtain ⟨⟨qk, qs, qn, ql⟩, wy, at2⟩ := q
  unfold ApplyEnd at hcl
  simp only [E.val, E.k, E.s, E.n, E.kids] at hcl ⊢
  go_enter Tryd.func12, Tryd.ntmps12
  go_upto_if 7 with (fail)
  rw [← HW1.out]
  obtain ⟨d0, d1, d2, d3, d4⟩ := HDD.out
  go_wp2_with fail
  refine (hcl.out).mono ?_
  rintro e w2 ⟨⟨A3, c3, rfl, hX⟩, hb2⟩
  have HX := Lib.hid hX
  have HB2 := Lib.hid hb2
  have hB2 : Hid (w2.heap[w.heap.size + 1]? = some (.cells #[.int .i64 0, .string ⟨#[]⟩, .int .i64 0, .slice none 0 0] 39 (0, 0))) := Lib.hid ((hb2.block _ (by omega)).trans hB.out)
  have hs2 := hb2.size
  clear hX hb2 d0 d1 d2 d3 d4
  obtain ⟨⟨k0, k1, k2, k3⟩, f0, f1, f2, f3⟩ := cell4 hB2.out
  go_wp2_with fail
  refine bodyPost_ret (results_three rfl rfl rfl rfl (put4_block hB2.out)) rfl ?_
  refine ⟨⟨A3, c3, rfl, ?_⟩, put4_below (HB1.out.trans (HB2.out.mono (by omega))) (Nat.le_succ _)⟩
  exact (HX.out.kept fun k hk => put4_other (by have := hk.1; omega)).mono fun k hk => ⟨by have := hk.1; omega, Nat.lt_of_lt_of_eq hk.2 put4_size.symm⟩
/-- expr.Read of any tree -/
theorem read_any : ∀ t, ReadExp t := T.ind fun k s n l a ih => by
  by_cases hk : k = 1
  · subst hk
    exact read_open s n l a ih
  · exact read_leaf k s n l a hk
end Go.Proofs.YtldleckgkgeclaaDoor
/-
  Trees in a row that the call itself has made. No program in sight.
-/
namespace Go.Proofs.YtldleckgkgeclaaDoor
open Go.RowKit
abbrev TP := T × Option Addr × Nat
def TP.cs (x : TP) : List Value := [.int .i64 x.1.k, .string x.1.s, .int .i64 x.1.n, .slice x.2.1 x.1.kids.length x.2.2, .int .i64 x.1.at_]
def flatT (l : List TP) : List Value := l.flatMap TP.cs
theorem flatT_len (l : List TP) : (flatT l).length = l.length * 5 := by
  induction l with
  | nil => rfl
  | cons v l ih => show ((TP.cs v) ++ flatT l).length = _; simp [ih, TP.cs]; omega
theorem flatT_get (l : List TP) : ∀ (i : Nat) (v : TP), l[i]? = some v → (flatT l)[i * 5]? = some (.int .i64 v.1.k) ∧ (flatT l)[i * 5 + 1]? = some (.string v.1.s) ∧ (flatT l)[i * 5 + 2]? = some (.int .i64 v.1.n) ∧ (flatT l)[i * 5 + 3]? = some (.slice v.2.1 v.1.kids.length v.2.2) ∧ (flatT l)[i * 5 + 4]? = some (.int .i64 v.1.at_) := by
  induction l with
  | nil => intro i v h; simp at h
  | cons x l ih =>
    intro i v h
    have e : flatT (x :: l) = TP.cs x ++ flatT l := rfl
    rw [e]
    cases i with
    | zero =>
      obtain rfl : x = v := by simpa using h
      exact ⟨rfl, rfl, rfl, rfl, rfl⟩
    | succ i =>
      have := ih i v (by simpa using h)
      have hl : (TP.cs x).length = 5 := rfl
      rw [List.getElem?_append_right (by omega), List.getElem?_append_right (by omega), List.getElem?_append_right (by omega), List.getElem?_append_right (by omega), List.getElem?_append_right (by omega), hl]
      rw [show (i + 1) * 5 - 5 = i * 5 from by omega, show (i + 1) * 5 + 1 - 5 = i * 5 + 1 from by omega, show (i + 1) * 5 + 2 - 5 = i * 5 + 2 from by omega, show (i + 1) * 5 + 3 - 5 = i * 5 + 3 from by omega, show (i + 1) * 5 + 4 - 5 = i * 5 + 4 from by omega]
      exact this
theorem flatT_one (v : TP) : flatT [v] = TP.cs v := by simp [flatT]
theorem flatT_append (a b : List TP) : flatT (a ++ b) = flatT a ++ flatT b := by simp [flatT]
theorem flatT_ones (l : List TP) : ∀ u ∈ flatT l, u.oneCell' = true := by
  intro u hu
  obtain ⟨v, _, hv⟩ := List.mem_flatMap.1 hu
  simp only [TP.cs, List.mem_cons, List.not_mem_nil, or_false] at hv
  rcases hv with rfl | rfl | rfl | rfl | rfl <;> rfl
/-- the same as TKids, with all its blocks in S -/
inductive XTK (w : World) (S : Nat → Prop) : Option Addr → List T → Prop
  | nil (A : Option Addr) : XTK w S A []
  | mk (b off : Nat) (l : List T) (hn : l.length ≤ 9223372036854775807) (hb : S b) (A : Nat → Option Addr) (c : Nat → Nat)
      (h : ∀ i e, l[i]? = some e → w.cell? ⟨b, off + i * 5, none⟩ = some (.int .i64 e.k) ∧ w.cell? ⟨b, off + i * 5 + 1, none⟩ = some (.string e.s) ∧
        w.cell? ⟨b, off + i * 5 + 2, none⟩ = some (.int .i64 e.n) ∧ w.cell? ⟨b, off + i * 5 + 3, none⟩ = some (.slice (A i) e.kids.length (c i)) ∧ w.cell? ⟨b, off + i * 5 + 4, none⟩ = some (.int .i64 e.at_) ∧ e.kids.length ≤ c i)
      (hk : ∀ i e, l[i]? = some e → XTK w S (A i) e.kids) : XTK w S (some ⟨b, off, none⟩) l
theorem XTK.kept {w w' : World} {S : Nat → Prop} {A : Option Addr} {l : List T} (h : XTK w S A l) (hw : ∀ k, S k → w'.heap[k]? = w.heap[k]?) : XTK w' S A l := by
  induction h with
  | nil A => exact .nil A
  | mk b off l hn hlt A c h hk ih =>
    refine .mk b off l hn hlt A c (fun i e he => ?_) (fun i e he => ih i e he)
    have hc : ∀ o, w'.cell? ⟨b, o, none⟩ = w.cell? ⟨b, o, none⟩ := fun o => World.cell?_of_block (hw b hlt)
    obtain ⟨h1, h2, h3, h4, h5, h6⟩ := h i e he
    exact ⟨(hc _).trans h1, (hc _).trans h2, (hc _).trans h3, (hc _).trans h4, (hc _).trans h5, h6⟩
theorem XTK.mono {w : World} {S S' : Nat → Prop} {A : Option Addr} {l : List T} (h : XTK w S A l) (hS : ∀ k, S k → S' k) : XTK w S' A l := by
  induction h with
  | nil A => exact .nil A
  | mk b off l hn hlt A c h hk ih => exact .mk b off l hn (hS b hlt) A c h (fun i e he => ih i e he)
theorem XTK.to {w : World} {S : Nat → Prop} {B : Nat} {A : Option Addr} {l : List T} (h : XTK w S A l) (hS : ∀ k, S k → k < B) : TKids w B A l := by
  induction h with
  | nil A => exact .nil A
  | mk b off l hn hlt A c h hk ih => exact .mk b off l hn (hS b hlt) A c h (fun i e he => ih i e he)
/-- what is owned is a row of trees -/
theorem own_trees {w : World} {base : Nat} {e : TypeId} {v : Value} {l : List TP} (h : w.ownsRow base e 5 v l.length (flatT l)) (hn : l.length ≤ 9223372036854775807) {S : Nat → Prop} (hS : ∀ g, base ≤ g → g < w.heap.size → S g) (hk : ∀ x ∈ l, x.1.kids.length ≤ x.2.2 ∧ XTK w S x.2.1 x.1.kids) :
    ∃ A c, v = .slice A (l.map Prod.fst).length c ∧ (l.map Prod.fst).length ≤ c ∧ XTK w S A (l.map Prod.fst) := by
  obtain ⟨_, hcase⟩ := id h
  rcases hcase with ⟨rfl, h0⟩ | ⟨g, cap, cur, rfl, hg, hh, hc, hcap, hsz, htake⟩
  · have e0 : l = [] := List.eq_nil_of_length_eq_zero h0
    subst e0
    exact ⟨none, 0, rfl, Nat.le_refl _, .nil _⟩
  · refine ⟨some ⟨g, 0, none⟩, cap, by rw [List.length_map], by rw [List.length_map]; exact hc, .mk g 0 _ (by rw [List.length_map]; exact hn) ?_ (fun i => ((l[i]?).map fun x => x.2.1).getD none) (fun i => ((l[i]?).map fun x => x.2.2).getD 0) (fun i x hx => ?_) (fun i x hx => ?_)⟩
    · refine hS g hg ?_
      rcases Nat.lt_or_ge g w.heap.size with hlt | hge
      · exact hlt
      · rw [Array.getElem?_eq_none hge] at hh; cases hh
    · rw [List.getElem?_map] at hx
      cases hl : l[i]? with
      | none => rw [hl] at hx; cases hx
      | some y =>
        rw [hl] at hx
        obtain rfl : y.1 = x := by simpa using hx
        obtain ⟨f1, f2, f3, f4, f5⟩ := flatT_get l i y hl
        have hi : i < l.length := (List.getElem?_eq_some_iff.1 hl).1
        rw [Nat.zero_add, h.cellAt _ (by omega), h.cellAt _ (by omega), h.cellAt _ (by omega), h.cellAt _ (by omega), h.cellAt _ (by omega)]
        exact ⟨f1, f2, f3, f4, f5, (hk y (List.mem_of_getElem? hl)).1⟩
    · rw [List.getElem?_map] at hx
      cases hl : l[i]? with
      | none => rw [hl] at hx; cases hx
      | some y =>
        rw [hl] at hx
        obtain rfl : y.1 = x := by simpa using hx
        exact (hk y (List.mem_of_getElem? hl)).2
theorem xt_round {wr w3 w6 : World} {v v' : Value} {base : Nat} {ps : List TP} {x : TP}
    (hxk : ∀ p ∈ ps, p.1.kids.length ≤ p.2.2 ∧ XTK wr (fun k => base ≤ k ∧ k < wr.heap.size ∧ v.ownBlock ≠ some k) p.2.1 p.1.kids)
    (hxc : x.1.kids.length ≤ x.2.2) (hx : XTK w3 (fun k => wr.heap.size ≤ k ∧ k < w3.heap.size) x.2.1 x.1.kids) (hbase : base ≤ wr.heap.size)
    (h1 : ∀ k, base ≤ k → k < wr.heap.size → v.ownBlock ≠ some k → w6.heap[k]? = wr.heap[k]?) (h2 : ∀ k, wr.heap.size ≤ k → k < w3.heap.size → w6.heap[k]? = w3.heap[k]?)
    (hs : wr.heap.size ≤ w3.heap.size) (hs6 : w3.heap.size ≤ w6.heap.size) (hv1 : ∀ k, v.ownBlock = some k → k < wr.heap.size) (hv : v'.ownBlock = v.ownBlock ∨ ∃ n, v'.ownBlock = some n ∧ w3.heap.size ≤ n) :
    ∀ p ∈ ps ++ [x], p.1.kids.length ≤ p.2.2 ∧ XTK w6 (fun k => base ≤ k ∧ k < w6.heap.size ∧ v'.ownBlock ≠ some k) p.2.1 p.1.kids := by
  intro p hp
  rcases List.mem_append.1 hp with hp | hp
  · refine ⟨(hxk p hp).1, ((hxk p hp).2.kept fun k hk => h1 k hk.1 hk.2.1 hk.2.2).mono fun k hk => ⟨hk.1, by have := hk.2.1; omega, ?_⟩⟩
    rcases hv with hv | ⟨n, hv, hn⟩
    · rw [hv]; exact hk.2.2
    · rw [hv]; intro e; have := Option.some.inj e; have := hk.2.1; omega
  · obtain rfl : p = x := by simpa using hp
    refine ⟨hxc, (hx.kept fun k hk => h2 k hk.1 hk.2).mono fun k hk => ⟨by have := hk.1; omega, by have := hk.2; omega, ?_⟩⟩
    rcases hv with hv | ⟨n, hv, hn⟩
    · rw [hv]; intro e; have := hv1 k e; have := hk.1; omega
    · rw [hv]; intro e; have := Option.some.inj e; have := hk.2; omega
end Go.Proofs.YtldleckgkgeclaaDoor
/-
  The law's own copy of a tree: out.
-/
namespace Go.Proofs.YtldleckgkgeclaaDoor
open Go.RowKit
theorem set5c {w : World} {g k : Nat} {a b c d e u : Value} {t : TypeId} (h : w.heap[g]? = some (.cells #[a, b, c, d, e] t (0, 0))) : (w.setCell ⟨g, k, none⟩ u).heap[g]? = some (.cells (#[a, b, c, d, e].set! k u) t (0, 0)) := by
  show (w.heap.modify g _)[g]? = _
  rw [Array.getElem?_modify]
  simp [h]
def put5 (w : World) (p : Nat) (x0 x1 x2 x3 x4 : Value) : World := ((((w.setCell ⟨p, 0, none⟩ x0).setCell ⟨p, 1, none⟩ x1).setCell ⟨p, 2, none⟩ x2).setCell ⟨p, 3, none⟩ x3).setCell ⟨p, 4, none⟩ x4
theorem put5_block {w : World} {p : Nat} {a b c d e x0 x1 x2 x3 x4 : Value} {t : TypeId} (h : w.heap[p]? = some (.cells #[a, b, c, d, e] t (0, 0))) : (put5 w p x0 x1 x2 x3 x4).heap[p]? = some (.cells #[x0, x1, x2, x3, x4] t (0, 0)) :=
  set5c (k := 4) (set5c (k := 3) (set5c (k := 2) (set5c (k := 1) (set5c (k := 0) h))))
theorem put5_below {w a : World} {p B : Nat} {x0 x1 x2 x3 x4 : Value} (h : Below B a w) (hp : B ≤ p) : Below B a (put5 w p x0 x1 x2 x3 x4) :=
  ((((h.setCell (p := ⟨p, 0, none⟩) hp x0).setCell (p := ⟨p, 1, none⟩) hp x1).setCell (p := ⟨p, 2, none⟩) hp x2).setCell (p := ⟨p, 3, none⟩) hp x3).setCell (p := ⟨p, 4, none⟩) hp x4
theorem put5_other {w : World} {p k : Nat} {x0 x1 x2 x3 x4 : Value} (h : k ≠ p) : (put5 w p x0 x1 x2 x3 x4).heap[k]? = w.heap[k]? := by
  simp only [put5, World.setCell, Array.getElem?_modify]
  rw [if_neg (by omega), if_neg (by omega), if_neg (by omega), if_neg (by omega), if_neg (by omega)]
theorem put5_size {w : World} {p : Nat} {x0 x1 x2 x3 x4 : Value} : (put5 w p x0 x1 x2 x3 x4).heap.size = w.heap.size := by simp [put5, World.setCell]
theorem cell5 {w : World} {g : Nat} {a b c d e : Value} {t : TypeId} (h : w.heap[g]? = some (.cells #[a, b, c, d, e] t (0, 0))) :
    (w.cell? ⟨g, 0, none⟩ = some a ∧ w.cell? ⟨g, 1, none⟩ = some b ∧ w.cell? ⟨g, 2, none⟩ = some c ∧ w.cell? ⟨g, 3, none⟩ = some d ∧ w.cell? ⟨g, 4, none⟩ = some e) ∧ w.frozen? ⟨g, 0, none⟩ = false ∧ w.frozen? ⟨g, 1, none⟩ = false ∧ w.frozen? ⟨g, 2, none⟩ = false ∧ w.frozen? ⟨g, 3, none⟩ = false ∧ w.frozen? ⟨g, 4, none⟩ = false := by
  simp [World.cell?, World.frozen?, h]
/-- a tree in a cell: what is returned -/
theorem results_tree {fn : Func} {p : Tmp} (h : fn.results = #[.cell p 24]) {tmps : Array Value} {w : World} {g : Nat} {x0 x1 x2 x3 x4 : Value} {t : TypeId}
    (hp : tmps.getD p undef = .pointer (some ⟨g, 0, none⟩)) (hg : w.heap[g]? = some (.cells #[x0, x1, x2, x3, x4] t (0, 0))) : (results fn tmps).run Tryd.prog w = .ok (.agg #[x0, x1, x2, x3, x4]) w := by
  have hp' : tmps[p]?.getD undef = .pointer (some ⟨g, 0, none⟩) := by simpa using hp
  have hl := run_loadVar_row (P := Tryd.prog) w g t 24 #[x0, x1, x2, x3, x4] (0, 0) _ hg Tryd.underlying24 rfl (by show _ = some 5; kernel_rfl)
  simp [results, h, hp', asAddr, hl]
theorem tree_info : (Tryd.prog.info? 24).map (fun i => (i.zero, i.size, i.bytes)) = some (some (.agg #[.int .i64 0, .string ByteArray.empty, .int .i64 0, .slice none 0 0, .int .i64 0]), 5, 64) := by kernel_rfl
inductive T.Few : T → Prop
  | mk (k : Int) (s : ByteArray) (n : Int) (l : List T) (a : Int) (h : l.length ≤ 1048576) (hk : ∀ e ∈ l, T.Few e) : T.Few (.mk k s n l a)
def OutT (t : T) : Prop := t.Few → ∀ (A : Option Addr) (c : Nat) (w : World), t.kids.length ≤ c → TKids w w.heap.size A t.kids →
  Calls Tryd.prog 13 #[t.val A c] w fun r w' => (∃ A' c', r = .returned (t.val A' c') ∧ t.kids.length ≤ c' ∧ XTK w' (fun k => w.heap.size ≤ k ∧ k < w'.heap.size) A' t.kids) ∧ Below w.heap.size w w'
set_option maxRecDepth 100000 in
set_option maxHeartbeats 1000000 in
theorem out_step (k : Int) (s : ByteArray) (n : Int) (l : List T) (a : Int) (hM : ∀ t ∈ l, OutT t) : OutT (.mk k s n l a) := by
  intro hfew A c w hcap hA
  obtain ⟨_, _, _, _, _, hl6, hfk⟩ := hfew
  simp only [T.val, T.k, T.s, T.n, T.kids, T.at_] at hcap hA ⊢
  obtain ⟨ln, eln⟩ : ∃ ln, ln = l.length := ⟨_, rfl⟩
  have hlen : l.length ≤ 9223372036854775807 := hA.len
  rw [← eln] at hcap hlen hl6 ⊢
  obtain ⟨w1, ew1⟩ : ∃ w1, w1 = ((w.alloc (.cells #[.int .i64 k, .string s, .int .i64 n, .slice A ln c, .int .i64 a] 34)).alloc (.cells #[.int .i64 0, .string ⟨#[]⟩, .int .i64 0, .slice none 0 0, .int .i64 0] 24)).alloc (.cells #[.int .i64 k, .string s, .int .i64 n, .slice none 0 0, .int .i64 a] 24) := ⟨_, rfl⟩
  have hb1 : Below w.heap.size w w1 := by rw [ew1]; exact (((Below.refl _ _).alloc (Nat.le_refl _) _).alloc (by simp) _).alloc (by simp; omega) _
  have hws : w1.heap.size = w.heap.size + 3 := by rw [ew1]; simp
  have HW1 := Lib.hid ew1
  have HLN := Lib.hid eln
  have HK := Lib.hid hA
  have HF := Lib.hid hfk
  have HB1 := Lib.hid hb1
  have HM := Lib.hid hM
  obtain ⟨wa, ewa⟩ : ∃ wa, wa = w.alloc (.cells #[.int .i64 k, .string s, .int .i64 n, .slice A ln c, .int .i64 a] 34) := ⟨_, rfl⟩
  have hwa : wa.heap.size = w.heap.size + 1 := by rw [ewa]; simp
  have hda : wa.heap[w.heap.size]? = some (.cells #[.int .i64 k, .string s, .int .i64 n, .slice A ln c, .int .i64 a] 34 (0, 0)) := by rw [ewa]; exact heap_alloc_new w _
  obtain ⟨wb, ewb⟩ : ∃ wb, wb = wa.alloc (.cells #[.int .i64 0, .string ⟨#[]⟩, .int .i64 0, .slice none 0 0, .int .i64 0] 24) := ⟨_, rfl⟩
  have hwb : wb.heap.size = w.heap.size + 2 := by rw [ewb]; show (wa.heap.push _).size = _; rw [Array.size_push, hwa]
  have hrb : wb.heap[w.heap.size + 1]? = some (.cells #[.int .i64 0, .string ⟨#[]⟩, .int .i64 0, .slice none 0 0, .int .i64 0] 24 (0, 0)) := by rw [ewb, ← hwa]; exact heap_alloc_new wa _
  have ew2 : w1 = wb.alloc (.cells #[.int .i64 k, .string s, .int .i64 n, .slice none 0 0, .int .i64 a] 24) := by rw [ew1, ewb, ewa]
  have HR : Hid (w1.heap[w.heap.size + 1]? = some (.cells #[.int .i64 0, .string ⟨#[]⟩, .int .i64 0, .slice none 0 0, .int .i64 0] 24 (0, 0))) := Lib.hid (by
    rw [ew2]
    exact (((Below.refl wb.heap.size wb).alloc (Nat.le_refl _) _).block _ (by omega)).trans hrb)
  have HX : Hid (w1.heap[w.heap.size + 2]? = some (.cells #[.int .i64 k, .string s, .int .i64 n, .slice none 0 0, .int .i64 a] 24 (0, 0))) := Lib.hid (by
    rw [ew2, ← hwb]
    exact heap_alloc_new wb _)
  have HD : Hid (w1.cell? ⟨w.heap.size, 3, none⟩ = some (.slice A ln c)) := Lib.hid (by
    refine (cell5 (t := 34) (a := .int .i64 k) (b := .string s) (c := .int .i64 n) (e := .int .i64 a) ?_).1.2.2.2.1
    rw [ew2]
    refine (((Below.refl wb.heap.size wb).alloc (Nat.le_refl _) _).block _ (by omega)).trans ?_
    rw [ewb]
    exact (((Below.refl wa.heap.size wa).alloc (Nat.le_refl _) _).block _ (by omega)).trans hda)
  clear ewa hwa hda ewb hwb hrb ew2 wa wb
  obtain ⟨i0, hi, hz0, hz1, hz2⟩ := info_parts tree_info
  clear hA hM eln ew1 hb1 hfk
  go_enter Tryd.func13, Tryd.ntmps13
  go_upto_region 2 with (fail)
  rw [← HW1.out]
  go_wp2_with fail
  go_loopw [4] (fun i wr => ∃ (j : Nat) (ps : List TP) (v : Value), j ≤ ln ∧ ps.length = j ∧ i = .int .i64 j ∧ wr.heap[w.heap.size + 2]? = some (.cells #[.int .i64 k, .string s, .int .i64 n, v, .int .i64 a] 24 (0, 0)) ∧
      wr.ownsRow w1.heap.size 24 5 v j (flatT ps) ∧ Hid (∀ p ∈ ps, p.1.kids.length ≤ p.2.2 ∧ XTK wr (fun k => w1.heap.size ≤ k ∧ k < wr.heap.size ∧ v.ownBlock ≠ some k) p.2.1 p.1.kids) ∧ Below (w.heap.size + 2) w1 wr ∧ Hid (ps.map Prod.fst = l.take j)) (fun i _ => ln - (intOf i).toNat)
  case atStart => exact ⟨0, [], .slice none 0 0, Nat.zero_le _, rfl, rfl, HX.out, World.ownsRow_nil _ _ _ _, Lib.hid (fun p hp => by cases hp), Below.refl _ _, Lib.hid (by simp)⟩
  case round =>
    obtain ⟨j, ps, v, hj, hpl, rfl, hbox, hown, hxk, hb, hzl⟩ := hrel
    have HO := Lib.hid hown
    have HB := Lib.hid hb
    have hs := hb.size
    have HPL := Lib.hid hpl
    have HBX := Lib.hid hbox
    have d3 : wr.cell? ⟨w.heap.size, 3, none⟩ = some (.slice A ln c) := (hb.cell (p := ⟨w.heap.size, 3, none⟩) (show w.heap.size < _ by omega)).trans HD.out
    clear hown hpl hbox
    by_cases hlt2 : j < ln
    · obtain ⟨x, hx⟩ : ∃ x, l[j]? = some x := ⟨_, List.getElem?_eq_getElem (by rw [← HLN.out]; exact hlt2)⟩
      have hbw : Below w.heap.size w wr := HB1.out.trans (hb.mono (by omega))
      obtain ⟨b, o, A', c', rfl, hbl, c1, c2, c3, c4, c5, hcx, hKx⟩ := HK.out.get_ wr hbw j x hx
      have hMx := HM.out x (List.mem_of_getElem? hx) (HF.out x (List.mem_of_getElem? hx))
      have htk : Hid (l.take (j + 1) = l.take j ++ [x]) := Lib.hid (by
        obtain ⟨g1, g2⟩ := List.getElem?_eq_some_iff.1 hx
        rw [List.take_succ_eq_append_getElem g1, g2])
      have hbd : Below wr.heap.size wr wr.drew := (Below.refl _ _).drew
      have HCL := Lib.hid (hMx A' c' wr.drew hcx ((hKx.low hbd).more hbd.size))
      clear hx hKx hMx hbd hbw
      obtain ⟨tk, ts, tn, tl, ta⟩ := x
      simp only [T.val, T.k, T.s, T.n, T.kids, T.at_] at c1 c2 c3 c4 c5 HCL hcx
      have hwrs : w.heap.size + 3 ≤ wr.heap.size := by omega
      obtain ⟨⟨k0, k1, k2, k3, k4⟩, f0, f1, f2, f3, f4⟩ := cell5 HBX.out
      go_upto_region 5 with (fail)
      go_region_law (first
        | (refine step_append_lies _ rfl _ _ _ rfl w1.heap.size 24 i0 _ 5 64 Tryd.underlying22 hi hz0 hz1 hz2 rfl (by decide) _ _ _ rfl (HO3.out.alloc _) ⟨w3.heap.size, 0, none⟩ 1 1 (TP.cs ((.mk tk ts tn tl ta : T), A3, c3')) rfl rfl (World.news_of_block (heap_alloc_new w3 _)) (by rw [← flatT_one]; exact flatT_ones _) (by decide) (by unfold maxLen; omega) (by omega) (by simp; omega) _ rfl ?_; intro g cap w5 hown5 hgrow hat hlt
           have HO5 := Lib.hid hown5
           have HG5 : Hid (w3.grownBy w5 v.ownBlock) := Lib.hid ((World.grownBy_alloc _ _ _).trans hgrow)
           have hat5 : Hid ((Value.slice (some ⟨g, 0, none⟩) (j + 1) cap).ownBlock = v.ownBlock ∨ ∃ n, (Value.slice (some ⟨g, 0, none⟩) (j + 1) cap).ownBlock = some n ∧ w3.heap.size ≤ n) := Lib.hid (hat.imp (fun h => h.symm) fun h => ⟨g, rfl, by rw [h]; simp⟩)
           have HE5 := Lib.hid ((HG5.out.block (w.heap.size + 2) (by omega) (fun e => by have := (HO.out.lt _ e.symm).1; omega)).trans hbx3.out)
           obtain ⟨⟨p0, p1, p2, p3, p4⟩, q0, q1, q2, q3, q4⟩ := cell5 HE5.out
           clear hown5 hgrow hat)
        | (go_simp; go_at_call 13; refine (HCL.out).mono ?_; rintro e w3 ⟨⟨A3, c3', rfl, hc3, hX⟩, hb3⟩
           have HX3 := Lib.hid hX
           have HB3 : Hid (Below wr.heap.size wr w3) := Lib.hid (((Below.refl wr.heap.size wr).drew).trans hb3)
           have HO3 := Lib.hid (own_below HO.out HB3.out)
           have hw3s : wr.heap.size ≤ w3.heap.size := HB3.out.size
           have hbx3 := Lib.hid ((HB3.out.block (w.heap.size + 2) (by omega)).trans HBX.out)
           have g3 : w3.cell? ⟨w.heap.size + 2, 3, none⟩ = some v := (cell5 hbx3.out).1.2.2.2.1
           have g3b : (w3.alloc (.cells #[.int .i64 tk, .string ts, .int .i64 tn, .slice A3 tl.length c3', .int .i64 ta] 24)).cell? ⟨w.heap.size + 2, 3, none⟩ = some v := (World.cell?_alloc_some _ _ _ (by rw [g3]; rfl)).trans g3
           clear hX hb3))
      all_goals
        go_wp2_with fail
        go_roundw
        case measure => simp [intOf]; omega
        case rel =>
          have hs5 := HG5.out.size
          have hother : ∀ k, k ≠ w.heap.size + 2 → k < w3.heap.size → v.ownBlock ≠ some k → (w5.setCell ⟨w.heap.size + 2, 3, none⟩ (.slice (some ⟨g, 0, none⟩) (j + 1) cap)).heap[k]? = w3.heap[k]? := fun k h1 h2 h3 =>
            (Below.heap_setCell w5 ⟨w.heap.size + 2, 3, none⟩ _ k h1).trans (HG5.out.block k (by omega) fun e => h3 e.symm)
          refine ⟨j + 1, ps ++ [((.mk tk ts tn tl ta : T), A3, c3')], .slice (some ⟨g, 0, none⟩) (j + 1) cap, by omega, by rw [List.length_append, HPL.out]; rfl, by go_num, set5c (k := 3) HE5.out, own_set (by rw [flatT_append, flatT_one]; exact HO5.out) _ (by show w.heap.size + 2 < w1.heap.size; omega), Lib.hid ?_, ?_, Lib.hid ?_⟩
          · refine xt_round hxk.out hc3 (HX3.out.mono fun k hk => ⟨hk.1, hk.2⟩) hs (fun k h1 h2 h3 => (hother k (by omega) (by omega) h3).trans (HB3.out.block k h2)) (fun k h1 h2 => hother k (by omega) (by omega) fun e => by have := (HO.out.lt _ e).2; omega) hw3s ?_ (fun k e => (HO.out.lt _ e).2) hat5.out
            simp only [World.setCell, Array.size_modify]
            omega
          · exact ((HB.out.trans (HB3.out.mono (by omega))).grown HG5.out (by omega) (fun g hg => by have := (HO.out.lt g hg).1; omega)).setCell (p := ⟨w.heap.size + 2, 3, none⟩) (Nat.le_refl _) _
          · rw [htk.out, List.map_append, hzl.out]; rfl
    · obtain rfl : j = ln := by omega
      have hps : ps.map Prod.fst = l := by rw [hzl.out, HLN.out, List.take_length]
      have hO2 : wr.ownsRow w1.heap.size 24 5 v ps.length (flatT ps) := by rw [HPL.out]; exact HO.out
      have hlj : ps.length ≤ 9223372036854775807 := by rw [HPL.out]; omega
      obtain ⟨A9, c9, rfl, hc9, hX9⟩ := own_trees hO2 hlj (S := fun k => w1.heap.size ≤ k ∧ k < wr.heap.size) (fun g u1 u2 => ⟨u1, u2⟩) (fun p hp => ⟨(hxk.out p hp).1, (hxk.out p hp).2.mono (fun k hk => ⟨hk.1, hk.2.1⟩)⟩)
      rw [hps] at hc9 hX9 HBX
      have HX9 := Lib.hid hX9
      have hR9 : Hid (wr.heap[w.heap.size + 1]? = some (.cells #[.int .i64 0, .string ⟨#[]⟩, .int .i64 0, .slice none 0 0, .int .i64 0] 24 (0, 0))) := Lib.hid ((HB.out.block _ (by omega)).trans HR.out)
      obtain ⟨⟨k0, k1, k2, k3, k4⟩, f0, f1, f2, f3, f4⟩ := cell5 HBX.out
      obtain ⟨⟨q0, q1, q2, q3, q4⟩, e0, e1, e2, e3, e4⟩ := cell5 hR9.out
      clear hO2 hlj hX9 hxk hzl hps
      go_wp2_with fail
      refine bodyPost_ret (results_tree rfl rfl (put5_block hR9.out)) rfl ?_
      have hsz := HB.out.size
      refine ⟨⟨A9, c9, by rw [HLN.out], by rw [HLN.out]; exact hc9, ?_⟩, put5_below (HB1.out.trans (HB.out.mono (by omega))) (Nat.le_succ _)⟩
      exact (HX9.out.kept (fun k hk => put5_other (by have := hk.1; omega))).mono (fun k hk => ⟨by have := hk.1; omega, Nat.lt_of_lt_of_eq hk.2 put5_size.symm⟩)
/-- the law's out: the same tree, in new memory -/
theorem out_any : ∀ t, OutT t := T.ind out_step
end Go.Proofs.YtldleckgkgeclaaDoor
