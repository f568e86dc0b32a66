/-
  Package expr's apply: the kids are read.
-/
import Derived.Test.YtldleckgkgeclaaMb4
import Derived.Maps.AppendAt
import Derived.Deep.AppendLies
import Derived.Test.YtldleckgkgeclaaMb1
import Derived.Deep.RegionLaw
import Derived.Laws.IdiomStrings
set_option linter.unusedVariables false
set_option linter.unusedSimpArgs false
namespace Go.Proofs.Ytldleckgkgeclaa
open Go.RowKit
theorem expr_info : (Try.prog.info? 35).map (fun i => (i.zero, i.size, i.bytes)) = some (some (.agg #[.int .i64 0, .string ByteArray.empty, .int .i64 0, .slice none 0 0]), 4, 56) := by kernel_rfl
theorem put4_other {w : World} {p k : Nat} {x0 x1 x2 x3 : Value} (h : k ≠ p) : (put4 w p x0 x1 x2 x3).heap[k]? = w.heap[k]? := by
  simp only [put4, World.setCell, Array.getElem?_modify]
  rw [if_neg (by omega), if_neg (by omega), if_neg (by omega), if_neg (by omega)]
theorem put4_size {w : World} {p : Nat} {x0 x1 x2 x3 : Value} : (put4 w p x0 x1 x2 x3).heap.size = w.heap.size := by simp [put4, World.setCell]
theorem own_set {w : World} {B n : Nat} {e : TypeId} {z : Nat} {v : Value} {xs : List Value} (h : w.ownsRow B e z v n xs) {p : Addr} (u : Value) (hp : p.block < B) : (w.setCell p u).ownsRow B e z v n xs := by
  obtain ⟨h1, h2⟩ := h
  refine ⟨h1, ?_⟩
  rcases h2 with h2 | ⟨g, cap, cur, e1, hb, hg, r⟩
  · exact .inl h2
  · exact .inr ⟨g, cap, cur, e1, hb, (Below.heap_setCell w p u g (by omega)).trans hg, r⟩
theorem xk_round {wr w3 w6 : World} {v v' : Value} {base : Nat} {ps : List EP} {x : EP}
    (hxk : ∀ p ∈ ps, XKids wr (fun k => base ≤ k ∧ k < wr.heap.size ∧ v.ownBlock ≠ some k) p.2.1 p.1.kids)
    (hx : XKids w3 (fun k => wr.heap.size ≤ k ∧ k < w3.heap.size) x.2.1 x.1.kids) (hbase : base ≤ wr.heap.size)
    (h1 : ∀ k, base ≤ k → k < wr.heap.size → v.ownBlock ≠ some k → w6.heap[k]? = wr.heap[k]?) (h2 : ∀ k, wr.heap.size ≤ k → k < w3.heap.size → w6.heap[k]? = w3.heap[k]?)
    (hs : wr.heap.size ≤ w3.heap.size) (hs6 : w3.heap.size ≤ w6.heap.size) (hv1 : ∀ k, v.ownBlock = some k → k < wr.heap.size) (hv : v'.ownBlock = v.ownBlock ∨ ∃ n, v'.ownBlock = some n ∧ w3.heap.size ≤ n) :
    ∀ p ∈ ps ++ [x], XKids w6 (fun k => base ≤ k ∧ k < w6.heap.size ∧ v'.ownBlock ≠ some k) p.2.1 p.1.kids := by
  intro p hp
  rcases List.mem_append.1 hp with hp | hp
  · refine ((hxk p hp).kept fun k hk => h1 k hk.1 hk.2.1 hk.2.2).mono fun k hk => ⟨hk.1, by have := hk.2.1; omega, ?_⟩
    rcases hv with hv | ⟨n, hv, hn⟩
    · rw [hv]; exact hk.2.2
    · rw [hv]; intro e; have := Option.some.inj e; have := hk.2.1; omega
  · obtain rfl : p = x := by simpa using hp
    refine (hx.kept fun k hk => h2 k hk.1 hk.2).mono fun k hk => ⟨by have := hk.1; omega, by have := hk.2; omega, ?_⟩
    rcases hv with hv | ⟨n, hv, hn⟩
    · rw [hv]; intro e; have := hv1 k e; have := hk.1; omega
    · rw [hv]; intro e; have := Option.some.inj e; have := hk.2; omega
set_option maxRecDepth 100000 in
set_option maxHeartbeats 1000000 in
theorem apply_main (s : ByteArray) (n : Int) (x : T) (ks : List T) (a : Int) (hk2 : x.k = 2) (hc0 : cntL x.s.toList ≠ 0) (heq : ks.length = cntL x.s.toList) (hM : ∀ t ∈ ks, ReadExp t) (A : Option Addr) (c : Nat) (w : World) (hcap : (x :: ks).length ≤ c) (hA : TKids w w.heap.size A (x :: ks)) :
    Calls Try.prog 45 #[.agg #[.int .i64 1, .string s, .int .i64 n, .slice A (x :: ks).length c, .int .i64 a]] w (ApplyEnd (if (readL ks).2.1 = 0 then (.mk 4 x.s 0 (readL ks).1, 0, 0) else (zeroE, (readL ks).2.1, (readL ks).2.2)) w) := by
  obtain ⟨m, em⟩ : ∃ m, m = ks.length := ⟨_, rfl⟩
  have hlen : (x :: ks).length ≤ 9223372036854775807 := hA.len
  rw [← em] at heq
  simp only [List.length_cons, ← em] at hlen hcap ⊢
  obtain ⟨w1, ew1⟩ : ∃ w1, w1 = (w.alloc (.cells #[.int .i64 1, .string s, .int .i64 n, .slice A (m + 1) c, .int .i64 a] 56)).alloc (.cells #[.int .i64 0, .string ⟨#[]⟩, .int .i64 0, .slice none 0 0] 35) := ⟨_, rfl⟩
  have hb1 : Below w.heap.size w w1 := by rw [ew1]; exact ((Below.refl _ _).alloc (Nat.le_refl _) _).alloc (by simp) _
  have hws : w1.heap.size = w.heap.size + 2 := by rw [ew1]; simp
  have HB1 := Lib.hid hb1
  have hB : Hid (w1.heap[w.heap.size + 1]? = some (.cells #[.int .i64 0, .string ⟨#[]⟩, .int .i64 0, .slice none 0 0] 35 (0, 0))) := Lib.hid (by
    rw [ew1]
    have := heap_alloc_new (w.alloc (.cells #[.int .i64 1, .string s, .int .i64 n, .slice A (m + 1) c, .int .i64 a] 56)) (.cells #[.int .i64 0, .string ⟨#[]⟩, .int .i64 0, .slice none 0 0] 35)
    simpa using this)
  have HDD : Hid (w1.cell? ⟨w.heap.size, 3, none⟩ = some (.slice A (m + 1) c) ∧ w1.cell? ⟨w.heap.size, 4, none⟩ = some (.int .i64 a)) := Lib.hid (by rw [ew1]; simp)
  have HW1 := Lib.hid ew1
  have HK := Lib.hid ((hA.low hb1).more hb1.size)
  obtain ⟨b, o, A', c', rfl, hlt, x0, x1, _, _, _, _, _⟩ := ((hA.low hb1).more hb1.size).get_ w1 (Below.refl _ _) 0 x rfl
  rw [Nat.zero_mul, Nat.add_zero] at x0 x1
  have hm0 : (0 : Int) < ((m + 1 : Nat) : Int) := by omega
  have hm1 : (((m + 1 : Nat) : Int) == 0) = false := by simp; omega
  obtain ⟨xk, xs, xn, xl, xa⟩ := x
  simp only [T.k, T.s] at x0 x1 hk2 hc0 heq ⊢
  subst hk2
  have hC := Lib.hid (count_any xs)
  have hm3 : m ≤ 3 := by
    have hcb : cntL xs.toList ≤ 3 := by
      unfold cntL
      repeat' split
      all_goals omega
    omega
  generalize cntL xs.toList = cn at *
  have hcz : ((cn : Int) == 0) = false := by simp; omega
  have hn1 : ((m : Int) != (cn : Int)) = false := by simp; omega
  have HM := Lib.hid hM
  have HEM := Lib.hid em
  have hmpos : 0 < m := by omega
  obtain ⟨Q, hQ⟩ : ∃ Q : E × Int × Int, Q = (if (readL ks).2.1 = 0 then (.mk 4 xs 0 (readL ks).1, 0, 0) else (zeroE, (readL ks).2.1, (readL ks).2.2)) := ⟨_, rfl⟩
  have HQ := Lib.hid hQ
  rw [← hQ]
  clear hA em ew1 hb1 hc0 heq hM hQ
  -- the box of what is read
  have hb2 : Below w1.heap.size w1 (w1.alloc (.cells #[.int .i64 4, .string xs, .int .i64 0, .slice none 0 0] 35)) := (Below.refl _ _).alloc (Nat.le_refl _) _
  have hB2 : Hid ((w1.alloc (.cells #[.int .i64 4, .string xs, .int .i64 0, .slice none 0 0] 35)).heap[w.heap.size + 1]? = some (.cells #[.int .i64 0, .string ⟨#[]⟩, .int .i64 0, .slice none 0 0] 35 (0, 0))) := Lib.hid ((hb2.block _ (by omega)).trans hB.out)
  have HD2 : Hid ((w1.alloc (.cells #[.int .i64 4, .string xs, .int .i64 0, .slice none 0 0] 35)).cell? ⟨w.heap.size, 3, none⟩ = some (.slice (some ⟨b, o, none⟩) (m + 1) c) ∧ (w1.alloc (.cells #[.int .i64 4, .string xs, .int .i64 0, .slice none 0 0] 35)).cell? ⟨w.heap.size, 4, none⟩ = some (.int .i64 a)) :=
    Lib.hid ⟨(hb2.cell (p := ⟨w.heap.size, 3, none⟩) (show w.heap.size < _ by omega)).trans HDD.out.1, (hb2.cell (p := ⟨w.heap.size, 4, none⟩) (show w.heap.size < _ by omega)).trans HDD.out.2⟩
  have HE2 : Hid ((w1.alloc (.cells #[.int .i64 4, .string xs, .int .i64 0, .slice none 0 0] 35)).cell? ⟨w.heap.size + 2, 1, none⟩ = some (.string xs)) := Lib.hid (by rw [← hws]; simp)
  have HB2 := Lib.hid (HB1.out.trans (hb2.mono (by omega)))
  have HX2 : Hid ((w1.alloc (.cells #[.int .i64 4, .string xs, .int .i64 0, .slice none 0 0] 35)).heap[w.heap.size + 2]? = some (.cells #[.int .i64 4, .string xs, .int .i64 0, .slice none 0 0] 35 (0, 0))) := Lib.hid (by rw [← hws]; exact heap_alloc_new w1 _)
  have HS2 : Hid ((w1.alloc (.cells #[.int .i64 4, .string xs, .int .i64 0, .slice none 0 0] 35)).heap.size = w.heap.size + 3) := Lib.hid (by simp; omega)
  have HW12 := Lib.hid hb2
  clear hb2
  go_enter Try.func45, Try.ntmps45
  go_upto_region 1 with (fail)
  rw [← HW1.out]
  obtain ⟨d3, d4⟩ := HDD.out
  go_wp2_with fail
  refine (hC.out _).mono ?_
  rintro e w2 ⟨rfl, rfl⟩
  go_upto_region 4 with (fail)
  generalize (w1.alloc (.cells #[.int .i64 4, .string xs, .int .i64 0, .slice none 0 0] 35)) = w2 at *
  obtain ⟨y3, y4⟩ := HD2.out
  have y1 := HE2.out
  obtain ⟨⟨k0, k1, k2, k3⟩, f0, f1, f2, f3⟩ := cell4 hB2.out
  clear x0 x1 hlt d3 d4
  go_quiet ((go_at_call 88; exact Calls.quiet_of_same ((hC.out _).mono fun e w' ⟨h1, h2⟩ => ⟨h1, h2.symm⟩)))
  generalize hwq : w2.drewN nq = wq at *
  have hsq : wq.heap.size = w.heap.size + 3 := by rw [← hwq]; exact HS2.out
  have HXQ : Hid (wq.heap[w.heap.size + 2]? = some (.cells #[.int .i64 4, .string xs, .int .i64 0, .slice none 0 0] 35 (0, 0))) := Lib.hid (by rw [← hwq]; exact HX2.out)
  have HRQ : Hid (wq.heap[w.heap.size + 1]? = some (.cells #[.int .i64 0, .string ⟨#[]⟩, .int .i64 0, .slice none 0 0] 35 (0, 0))) := Lib.hid (by rw [← hwq]; exact hB2.out)
  have HBQ : Hid (Below w.heap.size w wq) := Lib.hid (by rw [← hwq]; exact below_drewN HB2.out _)
  have HW1Q : Hid (Below w1.heap.size w1 wq) := Lib.hid (by rw [← hwq]; exact below_drewN HW12.out _)
  have z3 : wq.cell? ⟨w.heap.size, 3, none⟩ = some (.slice (some ⟨b, o, none⟩) (m + 1) c) := by rw [← hwq]; exact HD2.out.1
  have ZD := Lib.hid z3
  have hcc : m + 1 ≤ c := hcap
  have hc1 : (1 : Int) ≤ ((m + 1 : Nat) : Int) := by omega
  clear hwq HX2 HS2 HW12 hB2 HB2 HD2 HE2 y3 y4 y1 k0 k1 k2 k3 f0 f1 f2 f3
  go_wp2_with fail
  go_loopw [56] (fun i wr => ∃ (j : Nat) (ps : List EP) (v : Value), j ≤ m ∧ ps.length = j ∧ i = .int .i64 j ∧ wr.heap[w.heap.size + 2]? = some (.cells #[.int .i64 4, .string xs, .int .i64 0, v] 35 (0, 0)) ∧
      wr.ownsRow wq.heap.size 35 4 v j (flatP ps) ∧ Hid (∀ p ∈ ps, XKids wr (fun k => wq.heap.size ≤ k ∧ k < wr.heap.size ∧ v.ownBlock ≠ some k) p.2.1 p.1.kids) ∧ Below (w.heap.size + 2) wq wr ∧
      Hid (readL ks = (ps.map Prod.fst ++ (readL (ks.drop j)).1, (readL (ks.drop j)).2.1, (readL (ks.drop j)).2.2))) (fun i _ => m - (intOf i).toNat)
  case atStart => exact ⟨0, [], .slice none 0 0, Nat.zero_le _, rfl, rfl, HXQ.out, World.ownsRow_nil _ _ _ _, Lib.hid (fun p hp => by cases hp), Below.refl _ _, Lib.hid rfl⟩
  case round =>
    obtain ⟨j, ps, v, hj, hpl, rfl, hbox, hown, hxk, hb, hzl⟩ := hrel
    have HO := Lib.hid hown
    have HB := Lib.hid hb
    have hs := hb.size
    have HPL := Lib.hid hpl
    have HBX := Lib.hid hbox
    clear hown hpl
    by_cases hlt2 : j < m
    · obtain ⟨x, hx⟩ : ∃ x, ks[j]? = some x := ⟨_, List.getElem?_eq_getElem (by rw [← HEM.out]; exact hlt2)⟩
      have hbw1 : Below w1.heap.size w1 wr := HW1Q.out.trans (hb.mono (by omega))
      obtain ⟨b', o', A', c', hb', _, c1, c2, c3, c4, c5, hcx, hKx⟩ := HK.out.get_ wr hbw1 (j + 1) x (by simpa using hx)
      injection hb' with hb'
      injection hb' with hbb hoo
      subst hbb hoo
      rw [show o + (j + 1) * 5 = o + 5 + j * 5 by omega] at c1 c2 c3 c4 c5
      have hMx := HM.out x (List.mem_of_getElem? hx)
      have hst : Hid (readL (ks.drop j) = if (readT x).2.1 = 0 then ((readT x).1 :: (readL (ks.drop (j + 1))).1, (readL (ks.drop (j + 1))).2.1, (readL (ks.drop (j + 1))).2.2) else ([], (readT x).2.1, (readT x).2.2)) := Lib.hid (by
        obtain ⟨g1, g2⟩ := List.getElem?_eq_some_iff.1 hx
        rw [List.drop_eq_getElem_cons g1, g2, readL])
      clear hx
      obtain ⟨tk, ts, tn, tl, ta⟩ := x
      simp only [T.k, T.s, T.n, T.kids, T.at_] at c1 c2 c3 c4 c5 hKx hcx
      have hba : Below wr.heap.size wr (wr.alloc (.cells #[.int .i64 tk, .string ts, .int .i64 tn, .slice A' tl.length c', .int .i64 ta] 56)) := (Below.refl _ _).alloc (Nat.le_refl _) _
      have HBA := Lib.hid hba
      have hcl := Lib.hid (hMx A' c' (wr.alloc (.cells #[.int .i64 tk, .string ts, .int .i64 tn, .slice A' tl.length c', .int .i64 ta] 56)) hcx ((hKx.low hba).more hba.size))
      simp only [T.val, T.k, T.s, T.n, T.kids, T.at_] at hcl
      generalize hq : readT (.mk tk ts tn tl ta) = tq at *
      generalize tl.length = tm at *
      obtain ⟨⟨ek, es, en, el⟩, wy, at2⟩ := tq
      simp only [E.val, E.k, E.s, E.n, E.kids] at hcl hst
      have HZL := hzl
      clear hKx hMx hbox hba hcx hq hzl hbw1
      go_wp2_with fail
      refine (hcl.out).mono ?_
      rintro e w3 ⟨⟨A3, c3', rfl, hX⟩, hb3⟩
      have hw3' : Below wr.heap.size wr w3 := HBA.out.trans (hb3.mono HBA.out.size)
      have hx3 : Below w3.heap.size w3 (w3.alloc (.cells #[.int .i64 ek, .string es, .int .i64 en, .slice A3 el.length c3'] 35)) := (Below.refl _ _).alloc (Nat.le_refl _) _
      have hw3 : Hid (Below wr.heap.size wr (w3.alloc (.cells #[.int .i64 ek, .string es, .int .i64 en, .slice A3 el.length c3'] 35))) := Lib.hid (hw3'.trans (hx3.mono hw3'.size))
      have hN3 : Hid ((w3.alloc (.cells #[.int .i64 ek, .string es, .int .i64 en, .slice A3 el.length c3'] 35)).heap[w3.heap.size]? = some (.cells #[.int .i64 ek, .string es, .int .i64 en, .slice A3 el.length c3'] 35 (0, 0))) := Lib.hid (heap_alloc_new w3 _)
      have hR3 : Hid ((w3.alloc (.cells #[.int .i64 ek, .string es, .int .i64 en, .slice A3 el.length c3'] 35)).heap[w.heap.size + 1]? = some (.cells #[.int .i64 0, .string ⟨#[]⟩, .int .i64 0, .slice none 0 0] 35 (0, 0))) := Lib.hid ((hw3.out.block _ (by omega)).trans ((HB.out.block _ (by omega)).trans HRQ.out))
      have hE3 : Hid ((w3.alloc (.cells #[.int .i64 ek, .string es, .int .i64 en, .slice A3 el.length c3'] 35)).heap[w.heap.size + 2]? = some (.cells #[.int .i64 4, .string xs, .int .i64 0, v] 35 (0, 0))) := Lib.hid ((hw3.out.block _ (by omega)).trans HBX.out)
      have hS3 : Hid ((w3.alloc (.cells #[.int .i64 ek, .string es, .int .i64 en, .slice A3 el.length c3'] 35)).heap.size = w3.heap.size + 1 ∧ wr.heap.size ≤ w3.heap.size) := Lib.hid ⟨by simp, hw3'.size⟩
      clear hw3' hx3
      have hs3 := hw3.out.size
      have HX3 := Lib.hid hX
      clear hX hb3 HBA
      by_cases hw0 : wy = 0
      · subst hw0
        obtain ⟨⟨k0, k1, k2, k3⟩, g0, g1, g2, g3⟩ := cell4 hE3.out
        obtain ⟨⟨n0, n1, n2, n3⟩, m0, m1, m2, m3⟩ := cell4 hN3.out
        have hrl : Hid (readL ks = ((ps ++ [((.mk ek es en el : E), A3, c3')]).map Prod.fst ++ (readL (ks.drop (j + 1))).1, (readL (ks.drop (j + 1))).2.1, (readL (ks.drop (j + 1))).2.2)) := Lib.hid (by
          rw [HZL.out, hst.out, if_pos rfl]; simp)
        have HO3 := Lib.hid (own_below HO.out hw3.out)
        clear hst HZL hs3
        obtain ⟨i0, hi, hz0, hz1, hz2⟩ := info_parts expr_info
        go_wp2_with (at_builtin; refine wpList_append_own_at _ rfl _ _ 33 rfl wq.heap.size 35 i0 _ 4 56 Try.underlying33 hi hz0 hz1 hz2 rfl (by decide) _ _ _ rfl (HO3.out.alloc _) ⟨w3.heap.size + 1, 0, none⟩ 1 1 (EP.cs ((.mk ek es en el : E), A3, c3')) rfl rfl ?c1 ?c2 ?c3 ?c4 ?c5 ?_)
        case c1 =>
          intro i u hu
          match i, hu with
          | 0, hu => simp [EP.cs, E.k] at hu; subst hu; simp [Addr.add]
          | 1, hu => simp [EP.cs, E.s] at hu; subst hu; simp [Addr.add]
          | 2, hu => simp [EP.cs, E.n] at hu; subst hu; simp [Addr.add]
          | 3, hu => simp [EP.cs, E.kids] at hu; subst hu; simp [Addr.add]
        case c2 => rw [← flatP_one]; exact flatP_ones _
        case c3 => unfold maxLen; omega
        case c4 => omega
        case c5 => simp; have := hS3.out.2; omega
        intro v' w5 hown' hgrow _ hat
        have hgrow5 : Hid ((w3.alloc (.cells #[.int .i64 ek, .string es, .int .i64 en, .slice A3 el.length c3'] 35)).grownBy w5 v.ownBlock) := Lib.hid ((World.grownBy_alloc _ _ _).trans hgrow)
        have hat5 : Hid (v'.ownBlock = v.ownBlock ∨ ∃ n, v'.ownBlock = some n ∧ w3.heap.size ≤ n) := Lib.hid (hat.imp_right fun h => ⟨_, h, by first | omega | (simp; omega)⟩)
        obtain ⟨g', cap', rfl, hg1, hg2⟩ := hown'.form (by omega)
        have HO5 : Hid (w5.ownsRow wq.heap.size 35 4 (.slice (some ⟨g', 0, none⟩) (j + 1) cap') (j + 1) (flatP (ps ++ [((.mk ek es en el : E), A3, c3')]))) := Lib.hid (by rw [flatP_append, flatP_one, hsq]; exact hown')
        clear hown' hgrow hat k0 k1 k2 k3 g0 g1 g2 g3 n0 n1 n2 n3 m0 m1 m2 m3
        have hE5 : Hid (w5.heap[w.heap.size + 2]? = some (.cells #[.int .i64 4, .string xs, .int .i64 0, v] 35 (0, 0))) := Lib.hid ((hgrow5.out.block _ (by have := hS3.out; omega) (fun e => by have := (HO.out.lt _ e.symm).1; omega)).trans hE3.out)
        obtain ⟨⟨k0, k1, k2, k3⟩, g0, g1, g2, g3⟩ := cell4 hE5.out
        go_wp2_with fail
        go_roundw
        case rel =>
          refine ⟨_, _, _, _, _, _, _, _, _, _, _, _, _, _, _, _, _, _, _, _, _, _, _, _, _, _, _, _, ?_, rfl⟩
          have hs5 := hgrow5.out.size
          have hs3a := hS3.out.1
          have hs3b := hS3.out.2
          have hother : ∀ k, k ≠ w.heap.size + 2 → k < w3.heap.size + 1 → v.ownBlock ≠ some k → (w5.setCell ⟨w.heap.size + 2, 3, none⟩ (.slice (some ⟨g', 0, none⟩) (j + 1) cap')).heap[k]? = (w3.alloc (.cells #[.int .i64 ek, .string es, .int .i64 en, .slice A3 el.length c3'] 35)).heap[k]? := fun k h1 h2 h3 =>
            (Below.heap_setCell w5 ⟨w.heap.size + 2, 3, none⟩ _ k h1).trans (hgrow5.out.block k (by omega) fun e => h3 e.symm)
          refine ⟨j + 1, ps ++ [((.mk ek es en el : E), A3, c3')], .slice (some ⟨g', 0, none⟩) (j + 1) cap', by omega, by rw [List.length_append, HPL.out]; rfl, by go_num, set4c (k := 3) hE5.out, own_set HO5.out _ (by show w.heap.size + 2 < wq.heap.size; omega), Lib.hid ?_, ?_, hrl⟩
          · refine xk_round hxk.out (HX3.out.mono fun k hk => ⟨by have := hk.1; simp at this; omega, hk.2⟩) hs (fun k h1 h2 h3 => (hother k (by omega) (by omega) h3).trans (hw3.out.block k h2)) (fun k h1 h2 => (hother k (by omega) (by omega) fun e => by have := (HO.out.lt _ e).2; omega).trans (heap_alloc_old _ _ h2)) hs3b ?_ (fun k e => (HO.out.lt _ e).2) hat5.out
            simp only [World.setCell, Array.size_modify]
            omega
          · exact ((HB.out.trans (hw3.out.mono (by omega))).grown hgrow5.out (by omega) (fun g hg => by have := (HO.out.lt g hg).1; omega)).setCell (p := ⟨w.heap.size + 2, 3, none⟩) (Nat.le_refl _) _
        case measure => simp [intOf]; omega
      · have hy : (wy != 0) = true := by simpa using hw0
        have hy' : (wy == 0) = false := by simpa using hw0
        have h1 : (readL ks).2 = (wy, at2) := by rw [HZL.out, hst.out, if_neg hw0]
        have hq : Hid (Q = (zeroE, wy, at2)) := Lib.hid (by rw [HQ.out, h1, if_neg hw0])
        obtain ⟨⟨q0, q1, q2, q3⟩, f0, f1, f2, f3⟩ := cell4 hR3.out
        clear h1 hst hs3 HZL
        go_wp2_with fail
        refine bodyPost_ret (results_three rfl rfl rfl rfl (put4_block hR3.out)) rfl ?_
        refine ⟨⟨none, 0, by rw [hq.out]; rfl, by rw [hq.out]; exact .nil _⟩, put4_below (HBQ.out.trans ((HB.out.mono (by omega)).trans (hw3.out.mono (by omega)))) (Nat.le_succ _)⟩
    · obtain rfl : j = m := by omega
      obtain ⟨k0, k1, k2, k3⟩ := (cell4 HBX.out).1
      have hd : ks.drop j = [] := List.drop_eq_nil_of_le (by rw [← HEM.out]; exact Nat.le_refl _)
      have h1 : readL ks = (ps.map Prod.fst, 0, 0) := by rw [hzl.out, hd]; simp [readL]
      have hq : Hid (Q = (.mk 4 xs 0 (ps.map Prod.fst), 0, 0)) := Lib.hid (by rw [HQ.out, h1, if_pos rfl])
      have hO2 : wr.ownsRow wq.heap.size 35 4 v ps.length (flatP ps) := by rw [HPL.out]; exact HO.out
      have hlj : ps.length ≤ 9223372036854775807 := by rw [HPL.out]; omega
      obtain ⟨A9, c9, rfl, hX9⟩ := own_exprs hO2 hlj (S := fun k => wq.heap.size ≤ k ∧ k < wr.heap.size) (fun g u1 u2 => ⟨u1, u2⟩) (fun p hp => (hxk.out p hp).mono (fun k hk => ⟨hk.1, hk.2.1⟩))
      have HX9 := Lib.hid hX9
      have hB9 : Hid (wr.heap[w.heap.size + 1]? = some (.cells #[.int .i64 0, .string ⟨#[]⟩, .int .i64 0, .slice none 0 0] 35 (0, 0))) := Lib.hid ((HB.out.block _ (by omega)).trans HRQ.out)
      obtain ⟨⟨q0, q1, q2, q3⟩, f0, f1, f2, f3⟩ := cell4 hB9.out
      clear hd h1 hO2 hlj hX9 hxk hzl
      go_wp2_with fail
      refine bodyPost_ret (results_three rfl rfl rfl rfl (put4_block hB9.out)) rfl ?_
      have hsz := HB.out.size
      refine ⟨⟨A9, c9, by rw [hq.out]; simp [E.val, E.k, E.s, E.n, E.kids], ?_⟩, put4_below (HBQ.out.trans (HB.out.mono (by omega))) (Nat.le_succ _)⟩
      rw [hq.out]
      exact (HX9.out.kept (fun k hk => put4_other (by have := hk.1; omega))).mono (fun k hk => ⟨by have := hk.1; omega, Nat.lt_of_lt_of_eq hk.2 put4_size.symm⟩)
end Go.Proofs.Ytldleckgkgeclaa
/-
  The reference's reader of brackets: texts.
-/
namespace Go.Proofs.Ytldleckgkgeclaa
open Go.RowKit
theorem results_tmp4 {fn : Func} {t u v x : Tmp} (h : fn.results = #[.tmp t, .tmp u, .tmp v, .tmp x]) (tmps : Array Value) (P : Program) (w : World) :
    (results fn tmps).run P w = .ok (.tuple #[tmps.getD t undef, tmps.getD u undef, tmps.getD v undef, tmps.getD x undef]) w := by
  simp [results, h]
theorem byte_info : (Try.prog.info? 5).map (fun i => (i.zero, i.size, i.bytes)) = some (some (.int .u8 0), 1, 1) := by kernel_rfl
def encB (b : UInt8) : Value := .int .u8 (b.toNat : Int)
def encL (l : List UInt8) : List Value := l.map encB
theorem u8_of (x : Int) : ∃ b : UInt8, encB b = .int .u8 (IntKind.u8.wrap x) := by
  have h : 0 ≤ IntKind.u8.wrap x ∧ IntKind.u8.wrap x < 256 := by
    unfold IntKind.wrap
    simp [IntKind.bits, IntKind.signed]
    omega
  refine ⟨UInt8.ofNat (IntKind.u8.wrap x).toNat, ?_⟩
  unfold encB
  congr 1
  rw [UInt8.toNat_ofNat']
  omega
/-- what text gives: its bytes are few, and it ends behind where it began, if it is one -/
def TextEnd (s : ByteArray) (p : Nat) (e : Ending) : Prop := ∃ (x : ByteArray) (i : Nat) (why at_ : Int), e = .returned (.tuple #[.string x, .int .i64 (i : Int), .int .i64 why, .int .i64 at_]) ∧ i ≤ s.size ∧ x.size ≤ 40 ∧ (why = 0 → p < i)
set_option maxRecDepth 100000 in
set_option maxHeartbeats 2000000 in
theorem text_any (s : ByteArray) (p : Nat) (hp : p < s.size) (hs : s.size ≤ 600) (w : World) : Calls Try.prog 85 #[.string s, .int .i64 (p : Int)] w fun e w' => TextEnd s p e ∧ Below w.heap.size w w' := by
  have hH := Lib.hid (fun c w => hex_any c w)
  obtain ⟨w1, ew1⟩ : ∃ w1, w1 = w.alloc (.cells #[] 5) := ⟨_, rfl⟩
  have hb1 : Below w.heap.size w w1 := by rw [ew1]; exact (Below.refl _ _).alloc (Nat.le_refl _) _
  have hws : w1.heap.size = w.heap.size + 1 := by rw [ew1]; simp
  have HB1 := Lib.hid hb1
  have HO1 : Hid (w1.ownsRow w.heap.size 5 1 (.slice (some ⟨w.heap.size, 0, none⟩) 0 0) 0 (encL [])) := Lib.hid ⟨rfl, .inr ⟨w.heap.size, 0, #[], rfl, Nat.le_refl _, by rw [ew1]; exact heap_alloc_new w _, Nat.le_refl _, by decide, rfl, rfl⟩⟩
  have HW1 := Lib.hid ew1
  obtain ⟨i0, hi, hz0, hz1, hz2⟩ := info_parts byte_info
  clear ew1 hb1
  go_enter Try.func85, Try.ntmps85
  go_upto_region 2 with (fail)
  rw [← HW1.out]
  go_wp2_with fail
  go_loopw [8, 9] (fun v i wr => ∃ (j : Nat) (l : List UInt8), p < j ∧ j ≤ s.size ∧ l.length ≤ j ∧ i = .int .i64 j ∧ wr.ownsRow w.heap.size 5 1 v l.length (encL l) ∧ Below w.heap.size w wr ∧ w.heap.size + 1 ≤ wr.heap.size ∧ ∃ g cap, v = .slice (some ⟨g, 0, none⟩) l.length cap) (fun _ i _ => s.size + 1 - (intOf i).toNat)
  case atStart => exact ⟨p + 1, [], by omega, by omega, by simp, by go_num, HO1.out, HB1.out, by omega, _, _, rfl⟩
  case round =>
    obtain ⟨j, l, hj0, hj, hlj, rfl, hown, hb, hsz, g, cap, rfl⟩ := hrel
    have HO := Lib.hid hown
    have HB := Lib.hid hb
    clear hown hb
    by_cases hlt : j < s.size
    · cases h34 : ((s[j].toNat : Int) == 34)
      · cases h32 : decide ((s[j].toNat : Int) < 32)
        · cases h126 : decide (126 < (s[j].toNat : Int))
          · cases h92 : ((s[j].toNat : Int) != 92)
            · have hdj : decide (s.size ≤ j) = false := by simp; omega
              go_upto_region 15 with (fail)
              go_wp2_with fail
              go_loop [11] (fun i => ∃ m : Nat, 1 ≤ m ∧ m ≤ 3 ∧ i = .int .i64 m ∧ j + m ≤ s.size) (fun i => 3 - (intOf i).toNat)
              case atStart => exact ⟨1, by omega, by omega, by go_num, by omega⟩
              case round =>
                obtain ⟨m, hm1, hm3, rfl, hjm⟩ := hrel
                by_cases hm : m ≤ 2
                · by_cases hjs : j + m < s.size
                  · go_wp2_with fail
                    refine (hH.out _ _).mono ?_
                    rintro e w' ⟨⟨h, rfl, b1, b2⟩, rfl⟩
                    cases hh0 : decide (h < 0)
                    · go_wp2_with fail
                      go_round
                      case rel => exact ⟨m + 1, by omega, by omega, by go_num, by omega⟩
                      case measure => simp [intOf]; omega
                    · go_wp2_with fail
                      (try simp only [Exit.inBlock, Exit.then])
                      refine bodyPost_ret (results_tmp4 rfl _ _ _) rfl ?_
                      exact ⟨⟨⟨#[]⟩, 0, _, _, rfl, by omega, by decide, by intro h; simp at h⟩, HB.out⟩
                  · go_wp2_with fail
                    (try simp only [Exit.inBlock, Exit.then])
                    refine bodyPost_ret (results_tmp4 rfl _ _ _) rfl ?_
                    exact ⟨⟨⟨#[]⟩, 0, _, _, rfl, by omega, by decide, by intro h; simp at h⟩, HB.out⟩
                · obtain rfl : m = 3 := by omega
                  have HBW : Hid (wr.drew.ownsRow w.heap.size 5 1 (.slice (some ⟨g, 0, none⟩) l.length cap) l.length (encL l)) := Lib.hid (own_below HO.out ((Below.refl wr.heap.size wr).drew))
                  obtain ⟨j1, hj1⟩ : ∃ j1, j1 = j + 1 := ⟨_, rfl⟩
                  obtain ⟨j2, hj2⟩ : ∃ j2, j2 = j + 2 := ⟨_, rfl⟩
                  have e1 : IntKind.i64.wrap ((j : Int) + 1) = (j1 : Int) := by rw [hj1]; unfold IntKind.wrap; simp [IntKind.bits, IntKind.signed]; omega
                  have e2 : IntKind.i64.wrap ((j : Int) + 2) = (j2 : Int) := by rw [hj2]; unfold IntKind.wrap; simp [IntKind.bits, IntKind.signed]; omega
                  have l1 : j1 < s.size := by omega
                  have l2 : j2 < s.size := by omega
                  have HJ := Lib.hid (And.intro hj1 hj2)
                  clear hj1 hj2
                  go_upto_region 22 with (fail)
                  go_region_law (first
                    | (refine step_append_lies _ rfl _ _ _ rfl w.heap.size 5 i0 _ 1 1 Try.underlying78 hi hz0 hz1 hz2 rfl (by decide) _ _ _ rfl (HBW.out.alloc _) ⟨wr.heap.size, 0, none⟩ 1 1 [_] rfl rfl (World.news_of_block (heap_alloc_new wr.drew _)) (by intro u hu; simp at hu; subst hu; rfl) (by decide) (by unfold maxLen; omega) (by omega) (by simp; omega) _ rfl ?_; intro g5 cap5 w5 hown5 hgrow hat hlt)
                    | (go_simp; go_at_call 126; refine (hH.out _ _).mono ?_; rintro e w' ⟨⟨h, rfl, b1, b2⟩, rfl⟩))
                  all_goals
                    obtain ⟨hj1, hj2⟩ := HJ.out
                    have hB5 := ((HB.out.trans ((Below.refl wr.heap.size wr).drew.mono (by omega))).trans (((Below.refl wr.heap.size wr.drew).alloc (Nat.le_refl _) _).mono (by omega))).grown hgrow (by simp; omega) (fun g hg => (HO.out.lt g hg).1)
                    have hS5 := hgrow.size
                    go_wp2_with fail
                    go_roundw
                    case rel =>
                      obtain ⟨x, hx⟩ : ∃ x : Int, w5.ownsRow w.heap.size 5 1 (.slice (some ⟨g5, 0, none⟩) (l.length + 1) cap5) (l.length + 1) (encL l ++ [.int .u8 (IntKind.u8.wrap x)]) := ⟨_, hown5⟩
                      obtain ⟨b, eb⟩ := u8_of x
                      rw [← eb] at hx
                      exact ⟨j + 3, l ++ [b], by omega, by omega, by simp; omega, by go_num, by simpa [encL] using hx, hB5, by simp at hS5; omega, g5, cap5, by simp⟩
                    case measure => simp [intOf]; omega
            · go_wp2_with (at_builtin; refine wpList_append_own _ rfl _ _ 78 rfl w.heap.size 5 i0 _ 1 1 Try.underlying78 hi hz0 hz1 hz2 rfl (by decide) _ _ _ rfl (HO.out.alloc _) ⟨wr.heap.size, 0, none⟩ 1 1 [encB s[j]] rfl rfl ?c1 ?c2 ?c3 ?c4 ?c5 ?_)
              case c1 => exact World.news_of_block (heap_alloc_new wr _)
              case c2 => intro u hu; simp at hu; subst hu; rfl
              case c3 => unfold maxLen; omega
              case c4 => omega
              case c5 => simp; omega
              intro v' w5 hown5 hgrow _
              have hB5 := ((HB.out.alloc (by omega) (.cells #[encB s[j]] 5)).grown hgrow (by simp; omega) (fun g hg => (HO.out.lt g hg).1))
              have hS5 := hgrow.size
              obtain ⟨g5, cap5, ev5, _⟩ := hown5.form (by omega)
              go_wp2_with fail
              go_roundw
              case rel => exact ⟨j + 1, l ++ [s[j]], by omega, by omega, by simp; omega, by go_num, by simpa [encL] using hown5, hB5, by simp at hS5; omega, g5, cap5, by rw [ev5]; simp⟩
              case measure => simp [intOf]; omega
          · go_wp2_with fail
            (try simp only [Exit.inBlock, Exit.then])
            refine bodyPost_ret (results_tmp4 rfl _ _ _) rfl ?_
            exact ⟨⟨⟨#[]⟩, 0, _, _, rfl, by omega, by decide, by intro h; simp at h⟩, HB.out⟩
        · go_wp2_with fail
          (try simp only [Exit.inBlock, Exit.then])
          refine bodyPost_ret (results_tmp4 rfl _ _ _) rfl ?_
          exact ⟨⟨⟨#[]⟩, 0, _, _, rfl, by omega, by decide, by intro h; simp at h⟩, HB.out⟩
      · have hcv : (Go.convert 78 9 (.slice (some ⟨g, 0, none⟩) l.length cap)).run Try.prog wr = .ok (.string ⟨l.toArray⟩) wr :=
          run_convert_bytes_back (P := Try.prog) wr 78 9 5 ⟨g, 0, none⟩ cap l Try.underlying78 Try.underlying5 Try.underlying9 (fun q hq => HO.out.cells rfl q _ (by simp [encL, encB, hq]))
        have hll : l.toArray.size = l.length := rfl
        have hsz2 : (⟨l.toArray⟩ : ByteArray).size = l.length := rfl
        generalize hln : l.length = ln at *
        cases h40 : decide (40 < (ln : Int))
        · have hl40 : ln ≤ 40 := by simp at h40; omega
          go_wp2_with fail
          (try simp only [Exit.inBlock, Exit.then])
          refine bodyPost_ret (results_tmp4 rfl _ _ _) rfl ?_
          exact ⟨⟨⟨l.toArray⟩, j + 1, _, _, rfl, by omega, by rw [hsz2]; exact hl40, fun _ => by omega⟩, HB.out⟩
        · go_wp2_with fail
          (try simp only [Exit.inBlock, Exit.then])
          refine bodyPost_ret (results_tmp4 rfl _ _ _) rfl ?_
          exact ⟨⟨⟨#[]⟩, 0, _, _, rfl, by omega, by decide, by intro h; simp at h⟩, HB.out⟩
    · go_wp2_with fail
      (try simp only [Exit.inBlock, Exit.then])
      refine bodyPost_ret (results_tmp4 rfl _ _ _) rfl ?_
      exact ⟨⟨⟨#[]⟩, 0, _, _, rfl, by omega, by decide, by intro h; simp at h⟩, HB.out⟩
end Go.Proofs.Ytldleckgkgeclaa
/-
  Package expr's Read, whole.
-/
namespace Go.Proofs.Ytldleckgkgeclaa
open Go.RowKit
theorem readT_one (s : ByteArray) (n : Int) (l : List T) (a : Int) : readT (.mk 1 s n l a) = (match l with
        | [] => (zeroE, 12, a)
        | x :: ks => if x.k = 2 ∧ cntL x.s.toList ≠ 0 then
            (if ks.length = cntL x.s.toList then (if (readL ks).2.1 = 0 then (.mk 4 x.s 0 (readL ks).1, 0, 0) else (zeroE, (readL ks).2.1, (readL ks).2.2)) else (zeroE, 23, a))
          else (zeroE, 12, a)) := by
  rw [readT.eq_def]
  rfl
theorem apply_any (s : ByteArray) (n : Int) (l : List T) (a : Int) (hM : ∀ t ∈ l, ReadExp t) (A : Option Addr) (c : Nat) (w : World) (hcap : l.length ≤ c) (hA : TKids w w.heap.size A l) :
    Calls Try.prog 45 #[.agg #[.int .i64 1, .string s, .int .i64 n, .slice A l.length c, .int .i64 a]] w (ApplyEnd (readT (.mk 1 s n l a)) w) := by
  have hr := readT_one s n l a
  match l with
  | [] => rw [hr]; exact apply_bad s n [] a (.inl rfl) A c w hA
  | x :: ks =>
    simp only at hr
    by_cases h1 : x.k = 2 ∧ cntL x.s.toList ≠ 0
    · rw [if_pos h1] at hr
      by_cases h2 : ks.length = cntL x.s.toList
      · rw [if_pos h2] at hr
        rw [hr]
        exact apply_main s n x ks a h1.1 h1.2 h2 (fun t ht => hM t (List.mem_cons_of_mem _ ht)) A c w hcap hA
      · rw [if_neg h2] at hr
        rw [hr]
        exact apply_count s n x ks a h1.1 h1.2 h2 A c w hA
    · rw [if_neg h1] at hr
      rw [hr]
      exact apply_bad s n (x :: ks) a (.inr ⟨x, ks, rfl, by
        by_cases h3 : x.k = 2
        · exact .inr (Decidable.byContradiction fun h4 => h1 ⟨h3, h4⟩)
        · exact .inl h3⟩) A c w hA
set_option maxRecDepth 100000 in
set_option maxHeartbeats 1000000 in
theorem read_open (s : ByteArray) (n : Int) (l : List T) (a : Int) (hM : ∀ t ∈ l, ReadExp t) : ReadExp (.mk 1 s n l a) := by
  intro A c w hcap hA
  simp only [T.val, T.k, T.s, T.n, T.kids, T.at_] at hcap hA ⊢
  obtain ⟨w1, ew1⟩ : ∃ w1, w1 = (w.alloc (.cells #[.int .i64 1, .string s, .int .i64 n, .slice A l.length c, .int .i64 a] 56)).alloc (.cells #[.int .i64 0, .string ⟨#[]⟩, .int .i64 0, .slice none 0 0] 35) := ⟨_, rfl⟩
  have hb1 : Below w.heap.size w w1 := by rw [ew1]; exact ((Below.refl _ _).alloc (Nat.le_refl _) _).alloc (by simp) _
  have hws : w1.heap.size = w.heap.size + 2 := by rw [ew1]; simp
  have HB1 := Lib.hid hb1
  have hB : Hid (w1.heap[w.heap.size + 1]? = some (.cells #[.int .i64 0, .string ⟨#[]⟩, .int .i64 0, .slice none 0 0] 35 (0, 0))) := Lib.hid (by
    rw [ew1]
    have := heap_alloc_new (w.alloc (.cells #[.int .i64 1, .string s, .int .i64 n, .slice A l.length c, .int .i64 a] 56)) (.cells #[.int .i64 0, .string ⟨#[]⟩, .int .i64 0, .slice none 0 0] 35)
    simpa using this)
  have HDD : Hid (w1.cell? ⟨w.heap.size, 0, none⟩ = some (.int .i64 1) ∧ w1.cell? ⟨w.heap.size, 1, none⟩ = some (.string s) ∧ w1.cell? ⟨w.heap.size, 2, none⟩ = some (.int .i64 n) ∧ w1.cell? ⟨w.heap.size, 3, none⟩ = some (.slice A l.length c) ∧ w1.cell? ⟨w.heap.size, 4, none⟩ = some (.int .i64 a)) := Lib.hid (by rw [ew1]; simp)
  have HW1 := Lib.hid ew1
  have hcl := Lib.hid (apply_any s n l a hM A c w1 hcap ((hA.low hb1).more hb1.size))
  generalize readT (.mk 1 s n l a) = q at *
  generalize l.length = ln at *
  clear hA ew1 hb1 hM
  obtain ⟨⟨qk, qs, qn, ql⟩, wy, at2⟩ := q
  unfold ApplyEnd at hcl
  simp only [E.val, E.k, E.s, E.n, E.kids] at hcl ⊢
  go_enter Try.func20, Try.ntmps20
  go_upto_if 7 with (fail)
  rw [← HW1.out]
  obtain ⟨d0, d1, d2, d3, d4⟩ := HDD.out
  go_wp2_with fail
  refine (hcl.out).mono ?_
  rintro e w2 ⟨⟨A3, c3, rfl, hX⟩, hb2⟩
  have HX := Lib.hid hX
  have HB2 := Lib.hid hb2
  have hB2 : Hid (w2.heap[w.heap.size + 1]? = some (.cells #[.int .i64 0, .string ⟨#[]⟩, .int .i64 0, .slice none 0 0] 35 (0, 0))) := Lib.hid ((hb2.block _ (by omega)).trans hB.out)
  have hs2 := hb2.size
  clear hX hb2 d0 d1 d2 d3 d4
  obtain ⟨⟨k0, k1, k2, k3⟩, f0, f1, f2, f3⟩ := cell4 hB2.out
  go_wp2_with fail
  refine bodyPost_ret (results_three rfl rfl rfl rfl (put4_block hB2.out)) rfl ?_
  refine ⟨⟨A3, c3, rfl, ?_⟩, put4_below (HB1.out.trans (HB2.out.mono (by omega))) (Nat.le_succ _)⟩
  exact (HX.out.kept fun k hk => put4_other (by have := hk.1; omega)).mono fun k hk => ⟨by have := hk.1; omega, Nat.lt_of_lt_of_eq hk.2 put4_size.symm⟩
/-- expr.Read of any tree -/
theorem read_any : ∀ t, ReadExp t := T.ind fun k s n l a ih => by
  by_cases hk : k = 1
  · subst hk
    exact read_open s n l a ih
  · exact read_leaf k s n l a hk
end Go.Proofs.Ytldleckgkgeclaa
/-
  Trees in a row that the call itself has made. No program in sight.
-/
namespace Go.Proofs.Ytldleckgkgeclaa
open Go.RowKit
abbrev TP := T × Option Addr × Nat
def TP.cs (x : TP) : List Value := [.int .i64 x.1.k, .string x.1.s, .int .i64 x.1.n, .slice x.2.1 x.1.kids.length x.2.2, .int .i64 x.1.at_]
def flatT (l : List TP) : List Value := l.flatMap TP.cs
theorem flatT_len (l : List TP) : (flatT l).length = l.length * 5 := by
  induction l with
  | nil => rfl
  | cons v l ih => show ((TP.cs v) ++ flatT l).length = _; simp [ih, TP.cs]; omega
theorem flatT_get (l : List TP) : ∀ (i : Nat) (v : TP), l[i]? = some v → (flatT l)[i * 5]? = some (.int .i64 v.1.k) ∧ (flatT l)[i * 5 + 1]? = some (.string v.1.s) ∧ (flatT l)[i * 5 + 2]? = some (.int .i64 v.1.n) ∧ (flatT l)[i * 5 + 3]? = some (.slice v.2.1 v.1.kids.length v.2.2) ∧ (flatT l)[i * 5 + 4]? = some (.int .i64 v.1.at_) := by
  induction l with
  | nil => intro i v h; simp at h
  | cons x l ih =>
    intro i v h
    have e : flatT (x :: l) = TP.cs x ++ flatT l := rfl
    rw [e]
    cases i with
    | zero =>
      obtain rfl : x = v := by simpa using h
      exact ⟨rfl, rfl, rfl, rfl, rfl⟩
    | succ i =>
      have := ih i v (by simpa using h)
      have hl : (TP.cs x).length = 5 := rfl
      rw [List.getElem?_append_right (by omega), List.getElem?_append_right (by omega), List.getElem?_append_right (by omega), List.getElem?_append_right (by omega), List.getElem?_append_right (by omega), hl]
      rw [show (i + 1) * 5 - 5 = i * 5 from by omega, show (i + 1) * 5 + 1 - 5 = i * 5 + 1 from by omega, show (i + 1) * 5 + 2 - 5 = i * 5 + 2 from by omega, show (i + 1) * 5 + 3 - 5 = i * 5 + 3 from by omega, show (i + 1) * 5 + 4 - 5 = i * 5 + 4 from by omega]
      exact this
theorem flatT_one (v : TP) : flatT [v] = TP.cs v := by simp [flatT]
theorem flatT_append (a b : List TP) : flatT (a ++ b) = flatT a ++ flatT b := by simp [flatT]
theorem flatT_ones (l : List TP) : ∀ u ∈ flatT l, u.oneCell' = true := by
  intro u hu
  obtain ⟨v, _, hv⟩ := List.mem_flatMap.1 hu
  simp only [TP.cs, List.mem_cons, List.not_mem_nil, or_false] at hv
  rcases hv with rfl | rfl | rfl | rfl | rfl <;> rfl
/-- the same as TKids, with all its blocks in S -/
inductive XTK (w : World) (S : Nat → Prop) : Option Addr → List T → Prop
  | nil (A : Option Addr) : XTK w S A []
  | mk (b off : Nat) (l : List T) (hn : l.length ≤ 9223372036854775807) (hb : S b) (A : Nat → Option Addr) (c : Nat → Nat)
      (h : ∀ i e, l[i]? = some e → w.cell? ⟨b, off + i * 5, none⟩ = some (.int .i64 e.k) ∧ w.cell? ⟨b, off + i * 5 + 1, none⟩ = some (.string e.s) ∧
        w.cell? ⟨b, off + i * 5 + 2, none⟩ = some (.int .i64 e.n) ∧ w.cell? ⟨b, off + i * 5 + 3, none⟩ = some (.slice (A i) e.kids.length (c i)) ∧ w.cell? ⟨b, off + i * 5 + 4, none⟩ = some (.int .i64 e.at_) ∧ e.kids.length ≤ c i)
      (hk : ∀ i e, l[i]? = some e → XTK w S (A i) e.kids) : XTK w S (some ⟨b, off, none⟩) l
theorem XTK.kept {w w' : World} {S : Nat → Prop} {A : Option Addr} {l : List T} (h : XTK w S A l) (hw : ∀ k, S k → w'.heap[k]? = w.heap[k]?) : XTK w' S A l := by
  induction h with
  | nil A => exact .nil A
  | mk b off l hn hlt A c h hk ih =>
    refine .mk b off l hn hlt A c (fun i e he => ?_) (fun i e he => ih i e he)
    have hc : ∀ o, w'.cell? ⟨b, o, none⟩ = w.cell? ⟨b, o, none⟩ := fun o => World.cell?_of_block (hw b hlt)
    obtain ⟨h1, h2, h3, h4, h5, h6⟩ := h i e he
    exact ⟨(hc _).trans h1, (hc _).trans h2, (hc _).trans h3, (hc _).trans h4, (hc _).trans h5, h6⟩
theorem XTK.mono {w : World} {S S' : Nat → Prop} {A : Option Addr} {l : List T} (h : XTK w S A l) (hS : ∀ k, S k → S' k) : XTK w S' A l := by
  induction h with
  | nil A => exact .nil A
  | mk b off l hn hlt A c h hk ih => exact .mk b off l hn (hS b hlt) A c h (fun i e he => ih i e he)
theorem XTK.to {w : World} {S : Nat → Prop} {B : Nat} {A : Option Addr} {l : List T} (h : XTK w S A l) (hS : ∀ k, S k → k < B) : TKids w B A l := by
  induction h with
  | nil A => exact .nil A
  | mk b off l hn hlt A c h hk ih => exact .mk b off l hn (hS b hlt) A c h (fun i e he => ih i e he)
/-- what is owned is a row of trees -/
theorem own_trees {w : World} {base : Nat} {e : TypeId} {v : Value} {l : List TP} (h : w.ownsRow base e 5 v l.length (flatT l)) (hn : l.length ≤ 9223372036854775807) {S : Nat → Prop} (hS : ∀ g, base ≤ g → g < w.heap.size → S g) (hk : ∀ x ∈ l, x.1.kids.length ≤ x.2.2 ∧ XTK w S x.2.1 x.1.kids) :
    ∃ A c, v = .slice A (l.map Prod.fst).length c ∧ (l.map Prod.fst).length ≤ c ∧ XTK w S A (l.map Prod.fst) := by
  obtain ⟨_, hcase⟩ := id h
  rcases hcase with ⟨rfl, h0⟩ | ⟨g, cap, cur, rfl, hg, hh, hc, hcap, hsz, htake⟩
  · have e0 : l = [] := List.eq_nil_of_length_eq_zero h0
    subst e0
    exact ⟨none, 0, rfl, Nat.le_refl _, .nil _⟩
  · refine ⟨some ⟨g, 0, none⟩, cap, by rw [List.length_map], by rw [List.length_map]; exact hc, .mk g 0 _ (by rw [List.length_map]; exact hn) ?_ (fun i => ((l[i]?).map fun x => x.2.1).getD none) (fun i => ((l[i]?).map fun x => x.2.2).getD 0) (fun i x hx => ?_) (fun i x hx => ?_)⟩
    · refine hS g hg ?_
      rcases Nat.lt_or_ge g w.heap.size with hlt | hge
      · exact hlt
      · rw [Array.getElem?_eq_none hge] at hh; cases hh
    · rw [List.getElem?_map] at hx
      cases hl : l[i]? with
      | none => rw [hl] at hx; cases hx
      | some y =>
        rw [hl] at hx
        obtain rfl : y.1 = x := by simpa using hx
        obtain ⟨f1, f2, f3, f4, f5⟩ := flatT_get l i y hl
        have hi : i < l.length := (List.getElem?_eq_some_iff.1 hl).1
        rw [Nat.zero_add, h.cellAt _ (by omega), h.cellAt _ (by omega), h.cellAt _ (by omega), h.cellAt _ (by omega), h.cellAt _ (by omega)]
        exact ⟨f1, f2, f3, f4, f5, (hk y (List.mem_of_getElem? hl)).1⟩
    · rw [List.getElem?_map] at hx
      cases hl : l[i]? with
      | none => rw [hl] at hx; cases hx
      | some y =>
        rw [hl] at hx
        obtain rfl : y.1 = x := by simpa using hx
        exact (hk y (List.mem_of_getElem? hl)).2
theorem xt_round {wr w3 w6 : World} {v v' : Value} {base : Nat} {ps : List TP} {x : TP}
    (hxk : ∀ p ∈ ps, p.1.kids.length ≤ p.2.2 ∧ XTK wr (fun k => base ≤ k ∧ k < wr.heap.size ∧ v.ownBlock ≠ some k) p.2.1 p.1.kids)
    (hxc : x.1.kids.length ≤ x.2.2) (hx : XTK w3 (fun k => wr.heap.size ≤ k ∧ k < w3.heap.size) x.2.1 x.1.kids) (hbase : base ≤ wr.heap.size)
    (h1 : ∀ k, base ≤ k → k < wr.heap.size → v.ownBlock ≠ some k → w6.heap[k]? = wr.heap[k]?) (h2 : ∀ k, wr.heap.size ≤ k → k < w3.heap.size → w6.heap[k]? = w3.heap[k]?)
    (hs : wr.heap.size ≤ w3.heap.size) (hs6 : w3.heap.size ≤ w6.heap.size) (hv1 : ∀ k, v.ownBlock = some k → k < wr.heap.size) (hv : v'.ownBlock = v.ownBlock ∨ ∃ n, v'.ownBlock = some n ∧ w3.heap.size ≤ n) :
    ∀ p ∈ ps ++ [x], p.1.kids.length ≤ p.2.2 ∧ XTK w6 (fun k => base ≤ k ∧ k < w6.heap.size ∧ v'.ownBlock ≠ some k) p.2.1 p.1.kids := by
  intro p hp
  rcases List.mem_append.1 hp with hp | hp
  · refine ⟨(hxk p hp).1, ((hxk p hp).2.kept fun k hk => h1 k hk.1 hk.2.1 hk.2.2).mono fun k hk => ⟨hk.1, by have := hk.2.1; omega, ?_⟩⟩
    rcases hv with hv | ⟨n, hv, hn⟩
    · rw [hv]; exact hk.2.2
    · rw [hv]; intro e; have := Option.some.inj e; have := hk.2.1; omega
  · obtain rfl : p = x := by simpa using hp
    refine ⟨hxc, (hx.kept fun k hk => h2 k hk.1 hk.2).mono fun k hk => ⟨by have := hk.1; omega, by have := hk.2; omega, ?_⟩⟩
    rcases hv with hv | ⟨n, hv, hn⟩
    · rw [hv]; intro e; have := hv1 k e; have := hk.1; omega
    · rw [hv]; intro e; have := Option.some.inj e; have := hk.2; omega
end Go.Proofs.Ytldleckgkgeclaa
