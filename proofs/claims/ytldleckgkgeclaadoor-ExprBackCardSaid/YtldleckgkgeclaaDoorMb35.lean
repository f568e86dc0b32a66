/-
  ExprBack: an expression that is read, turned into a tree, and read again, is itself; and it is printed as the tree it was read of.
-/
import Derived.Test.YtldleckgkgeclaaDoorMb9
import Derived.Test.YtldleckgkgeclaaDoorMb33
import Derived.Test.YtldleckgkgeclaaDoorMb34
import Derived.Deep.DeepCutAuto
import Derived.Deep.RegionLaw
import Derived.Test.YtldleckgkgeclaaDoorCards
import Derived.Test.YtldleckgkgeclaaDoorTie
import Derived.WalkKit
import Derived.ProofKit
import Derived.OpenShut
import Derived.Deep.DeepHandedRow
import Derived.Lib.LaidTab
import Derived.Lib.AppendIntMem
import Derived.Test.YtldleckgkgeclaaDoorMb0
import Derived.Deep.Slices
import Derived.Deep.Fields
import Derived.ChangeSame
import Derived.Carry
set_option linter.unusedVariables false
set_option linter.unusedSimpArgs false
set_option linter.unusedVariables false
set_option linter.unusedSimpArgs false
namespace Go.Proofs.YtldleckgkgeclaaDoor
open Go.RowKit
theorem two_new (w : World) (x y : Obj) : (((w.alloc x).alloc y).drew).heap[w.heap.size + 1]? = some y := by
  have := heap_alloc_new (w.alloc x) y
  rw [World.size_alloc] at this
  exact this
theorem canT_at (t : T) : (canT t).at_ = 0 := by
  obtain ⟨k, s, n, l, a⟩ := t
  unfold canT
  split
  · rfl
  · split
    · rfl
    · split <;> rfl
set_option maxRecDepth 100000 in
set_option maxHeartbeats 20000000 in
theorem exprBack_any (s : ByteArray) (W : World) (hP : ∀ w, Below W.heap.size W w → PowTab w) :
    Calls Tryd.prog 5 #[.string s] W fun e W' => e = .returned (.bool true) ∧ Below W.heap.size W W' := by
  have HP := Lib.hid hP
  clear hP
  go_enter Tryd.func5, Tryd.ntmps5
  go_upto_if 15 with (fail)
  go_cut [0] (fun v wx => (∃ s' : ByteArray, s'.size ≤ 600 ∧ v = .string s') ∧ wx = W)
  case first =>
    cases h6 : decide (600 < (s.size : Int))
    · have h6' : s.size ≤ 600 := by simp at h6; omega
      go_wp2_with fail
      go_meet
      exact ⟨⟨s, h6', rfl⟩, rfl⟩
    · have h6' : 600 ≤ s.size := by simp at h6; omega
      go_wp2_with fail
      go_meet
      exact ⟨⟨_, by simp only [ByteArray.size_extract]; omega, rfl⟩, rfl⟩
  case rest =>
  obtain ⟨⟨s', hs', rfl⟩, hwc⟩ := hcut
  obtain rfl : W = wc := hwc.symm
  clear hwc
  go_wp2_with fail
  refine (read7_deep s' W).mono ?_
  rintro e w1 ⟨⟨t, A, c, why, at_, rfl, ⟨hg, hdp⟩, hc, hX⟩, hb1⟩
  have HFW := Lib.hid (good_few t hg)
  have HPR := Lib.hid (pr_any t 13 (Nat.le_refl _) hg hdp)
  have HBK := Lib.hid (back_any t)
  have HRZ := Lib.hid (read_zero t)
  have HRD := Lib.hid (fun A c w hc h => read_any t A c w hc h)
  have HOU := Lib.hid (fun A c w hc h => out_any t HFW.out A c w hc h)
  have HPT := Lib.hid (fun hp A c w hc h hw => print_any t hp A c w hc h hw)
  have HB1 := Lib.hid hb1
  have HX := Lib.hid hX
  clear hX hb1 hg hdp HFW
  obtain ⟨tx, htx⟩ : ∃ tx, tx = prT t := ⟨_, rfl⟩
  rw [← htx] at HPT
  obtain ⟨q, hq⟩ : ∃ q, q = readT t := ⟨_, rfl⟩
  have HPR := Lib.hid (show q.2.1 = 0 → Prn t ∧ Prn (canT t) ∧ prT (canT t) = tx from fun h => by
    obtain ⟨a1, a2, a3, _⟩ := HPR.out (by rw [← hq]; exact h)
    exact ⟨a1, a2, a3.trans htx.symm⟩)
  have HBK := Lib.hid (show q.2.1 = 0 → treeE q.1 = canT t ∧ readT (treeE q.1) = (q.1, 0, 0) ∧ MadeE q.1 from fun h => by
    have := HBK.out (by rw [← hq]; exact h)
    rw [← hq] at this
    exact this)
  rw [← hq] at HRD HRZ
  clear hq htx
  obtain ⟨e, ey, ea⟩ := q
  simp only at HPR HBK HRZ
  obtain ⟨tt, htt⟩ : ∃ tt, tt = canT t := ⟨_, rfl⟩
  have HAT : tt.at_ = 0 := by rw [htt]; exact canT_at t
  rw [← htt] at HPR HBK
  clear htt
  have HPO : Hid (Prn t → ∀ (A : Option Addr) (c : Nat) (w : World), t.kids.length ≤ c → TKids w w.heap.size A t.kids → (∀ w', Below w.heap.size w w' → PowTab w') → Calls Tryd.prog 16 #[t.val A c] w fun e w' => e = .returned (.string ⟨tx.toArray⟩) ∧ Below w.heap.size w w') := HPT
  clear HPT
  have HPN : Hid (ey = 0 → Prn t) := Lib.hid fun h => (HPR.out h).1
  have HPU : Hid (ey = 0 → Prn tt ∧ prT tt = tx ∧ tt.at_ = 0) := Lib.hid fun h => ⟨(HPR.out h).2.1, (HPR.out h).2.2, HAT⟩
  clear HPR HAT
  obtain ⟨PN, hpn⟩ : ∃ PN, PN = Prn t := ⟨_, rfl⟩
  rw [← hpn] at HPO HPN
  clear hpn
  obtain ⟨tk, ts, tn, tl, ta⟩ := t
  simp only [T.val, T.k, T.s, T.n, T.kids, T.at_] at hc HX HRD HOU HPO ⊢
  generalize tl.length = tm at *
  by_cases hy0 : why = 0
  · subst hy0
    go_upto_region 6 with (fail)
    obtain ⟨w2, ew2⟩ : ∃ w2, w2 = w1.alloc (.cells #[.int .i64 tk, .string ts, .int .i64 tn, .slice A tm c, .int .i64 ta] 34) := ⟨_, rfl⟩
    have hb2 : Below w1.heap.size w1 w2 := by rw [ew2]; exact (Below.refl _ _).alloc (Nat.le_refl _) _
    have hs2 : w2.heap.size = w1.heap.size + 1 := by rw [ew2]; simp
    have hs1 := HB1.out.size
    have HT2 : Hid (w2.heap[w1.heap.size]? = some (.cells #[.int .i64 tk, .string ts, .int .i64 tn, .slice A tm c, .int .i64 ta] 34 (0, 0))) := Lib.hid (by rw [ew2]; exact heap_alloc_new w1 _)
    have HK2 : Hid (TKids w2 w2.heap.size A tl) := Lib.hid (((HX.out.to fun k hk => hk.2).low hb2).more hb2.size)
    have HB2 := Lib.hid (HB1.out.trans (hb2.mono hs1))
    rw [← ew2]
    clear ew2 hb2 HX HB1
    have hcl := Lib.hid (HOU.out A c w2 hc HK2.out)
    obtain ⟨⟨u0, u1, u2, u3, u4⟩, g0, g1, g2, g3, g4⟩ := cell5 HT2.out
    go_wp2_with fail
    refine (hcl.out).mono ?_
    rintro r w3 ⟨⟨A', c', rfl, hc', hX'⟩, hb3⟩
    have hs3 := hb3.size
    have HT3 : Hid (w3.heap[w1.heap.size]? = some (.cells #[.int .i64 tk, .string ts, .int .i64 tn, .slice A tm c, .int .i64 ta] 34 (0, 0))) := Lib.hid ((hb3.block _ (by omega)).trans HT2.out)
    have HK3 : Hid (TKids w3 w3.heap.size A tl) := Lib.hid ((HK2.out.low hb3).more hb3.size)
    have HB3 := Lib.hid (HB2.out.trans (hb3.mono (by omega)))
    replace hcl := Lib.hid (HRD.out A' c' w3 hc' (hX'.to fun k hk => hk.2))
    clear hX' hb3 HT2 HK2 HB2 HRD u0 u1 u2 u3 u4 g0 g1 g2 g3 g4
    obtain ⟨ek, es, en, el⟩ := e
    simp only [E.val, E.k, E.s, E.n, E.kids] at hcl
    obtain ⟨em, eem⟩ : ∃ em, em = el.length := ⟨_, rfl⟩
    have HEM := Lib.hid eem
    rw [← eem] at hcl
    clear eem
    go_wp2_with fail
    refine (hcl.out).mono ?_
    rintro r w4 ⟨⟨A3, c3, rfl, hX3⟩, hb4⟩
    have hs4 := hb4.size
    go_upto_region 7 with (fail)
    obtain ⟨w5, ew5⟩ : ∃ w5, w5 = w4.alloc (.cells #[.int .i64 ek, .string es, .int .i64 en, .slice A3 em c3] 39) := ⟨_, rfl⟩
    have hb5 : Below w4.heap.size w4 w5 := by rw [ew5]; exact (Below.refl _ _).alloc (Nat.le_refl _) _
    have hs5 : w5.heap.size = w4.heap.size + 1 := by rw [ew5]; simp
    have HE5 : Hid (w5.heap[w4.heap.size]? = some (.cells #[.int .i64 ek, .string es, .int .i64 en, .slice A3 em c3] 39 (0, 0))) := Lib.hid (by rw [ew5]; exact heap_alloc_new w4 _)
    have hb35 : Below w3.heap.size w3 w5 := hb4.trans (hb5.mono hs4)
    have HT5 : Hid (w5.heap[w1.heap.size]? = some (.cells #[.int .i64 tk, .string ts, .int .i64 tn, .slice A tm c, .int .i64 ta] 34 (0, 0))) := Lib.hid ((hb35.block _ (by omega)).trans HT3.out)
    have HK5 : Hid (TKids w5 w5.heap.size A tl) := Lib.hid ((HK3.out.low hb35).more hb35.size)
    have HX5 : Hid (EKids w5 w5.heap.size A3 el) := Lib.hid (((hX3.to fun k hk => hk.2).low hb5).more hb5.size)
    have HB5 := Lib.hid (HB3.out.trans (hb35.mono (by omega)))
    rw [← ew5]
    clear ew5 hb5 hX3 hb4 hb35 HT3 HK3 HB3
    obtain ⟨⟨u0, u1, u2, u3⟩, g0, g1, g2, g3⟩ := cell4 HE5.out
    by_cases hf : ey = 0
    · subst hf
      obtain ⟨hre, hru, hmade⟩ := HBK.out rfl
      have hcl := tree_any (.mk ek es en el) hmade A3 c3 w5 HX5.out
      rw [hre] at hcl hru
      obtain ⟨hpn, hpx, hat⟩ := HPU.out rfl
      have HPP := Lib.hid (HPO.out (HPN.out rfl))
      have HRU := Lib.hid (fun A c w hc h => read_any tt A c w hc h)
      have HPT := Lib.hid (fun A c w hc h hw => print_any tt hpn A c w hc h hw)
      rw [hru] at HRU
      rw [hpx] at HPT
      clear hre hmade hru hpn hpx HBK HPU HPN HPO HRZ PN
      obtain ⟨uk, us, un, ul, ua⟩ := tt
      obtain rfl : ua = 0 := hat
      simp only [T.val, T.k, T.s, T.n, T.kids, T.at_, E.val, E.k, E.s, E.n, E.kids] at hcl HRU HPT
      rw [← HEM.out] at hcl HRU
      generalize ul.length = um at *
      have HCL := Lib.hid hcl
      clear hcl
      go_wp2_with fail
      refine (HCL.out).mono ?_
      rintro r w6 ⟨⟨A9, c9, rfl, hc9, hX9⟩, hb6⟩
      have hs6 := hb6.size
      go_upto_region 10 with (fail)
      obtain ⟨w7, ew7⟩ : ∃ w7, w7 = w6.alloc (.cells #[.int .i64 uk, .string us, .int .i64 un, .slice A9 um c9, .int .i64 0] 24) := ⟨_, rfl⟩
      have hb7 : Below w6.heap.size w6 w7 := by rw [ew7]; exact (Below.refl _ _).alloc (Nat.le_refl _) _
      have hs7 : w7.heap.size = w6.heap.size + 1 := by rw [ew7]; simp
      have HU7 : Hid (w7.heap[w6.heap.size]? = some (.cells #[.int .i64 uk, .string us, .int .i64 un, .slice A9 um c9, .int .i64 0] 24 (0, 0))) := Lib.hid (by rw [ew7]; exact heap_alloc_new w6 _)
      have HV6 : Hid (TKids w6 w6.heap.size A9 ul) := Lib.hid (hX9.to fun k hk => hk.2)
      have hcl := Lib.hid (HRU.out A9 c9 w7 hc9 ((HV6.out.low hb7).more hb7.size))
      have HB57 := Lib.hid (hb6.trans (hb7.mono hs6))
      rw [← ew7]
      clear ew7 hb6 hX9 u0 u1 u2 u3 g0 g1 g2 g3 HRU HCL
      obtain ⟨⟨u0, u1, u2, u3, u4⟩, g0, g1, g2, g3, g4⟩ := cell5 HU7.out
      go_wp2_with fail
      refine (hcl.out).mono ?_
      rintro r w8 ⟨⟨A10, c10, rfl, hX10⟩, hb8⟩
      have hs8 := hb8.size
      go_upto_region 11 with (fail)
      obtain ⟨w9, ew9⟩ : ∃ w9, w9 = w8.alloc (.cells #[.int .i64 ek, .string es, .int .i64 en, .slice A10 em c10] 39) := ⟨_, rfl⟩
      have hb9 : Below w8.heap.size w8 w9 := by rw [ew9]; exact (Below.refl _ _).alloc (Nat.le_refl _) _
      have hs9 : w9.heap.size = w8.heap.size + 1 := by rw [ew9]; simp
      have hG9 : w9.heap[w8.heap.size]? = some (.cells #[.int .i64 ek, .string es, .int .i64 en, .slice A10 em c10] 39 (0, 0)) := by rw [ew9]; exact heap_alloc_new w8 _
      have hb79 : Below w7.heap.size w7 w9 := hb8.trans (hb9.mono hs8)
      have HU9 : Hid (w9.heap[w6.heap.size]? = some (.cells #[.int .i64 uk, .string us, .int .i64 un, .slice A9 um c9, .int .i64 0] 24 (0, 0))) := Lib.hid ((hb79.block _ (by omega)).trans HU7.out)
      rw [← ew9]
      clear ew9 u0 u1 u2 u3 u4 g0 g1 g2 g3 g4 hcl
      obtain ⟨⟨u0, u1, u2, u3, u4⟩, g0, g1, g2, g3, g4⟩ := cell5 HU9.out
      go_upto_region 12 with (fail)
      obtain ⟨wa, ewa⟩ : ∃ wa, wa = w9.setCell ⟨w6.heap.size, 4, none⟩ (.int .i64 0) := ⟨_, rfl⟩
      have hsa : wa.heap.size = w8.heap.size + 1 := by rw [ewa, ← hs9]; simp [World.setCell]
      have hoth : ∀ k, k ≠ w6.heap.size → wa.heap[k]? = w9.heap[k]? := fun k hk => by rw [ewa]; exact Below.heap_setCell w9 ⟨w6.heap.size, 4, none⟩ _ k hk
      have HUa : Hid (wa.heap[w6.heap.size]? = some (.cells #[.int .i64 uk, .string us, .int .i64 un, .slice A9 um c9, .int .i64 0] 24 (0, 0))) := Lib.hid (by rw [ewa]; exact set5c (k := 4) HU9.out)
      have hb6a : Below w6.heap.size w6 wa := by rw [ewa]; exact (hb7.trans (hb79.mono (by omega))).setCell (p := ⟨w6.heap.size, 4, none⟩) (Nat.le_refl _) _
      have hb5a : Below w5.heap.size w5 wa := by rw [ewa]; exact (HB57.out.trans (hb79.mono (by omega))).setCell (p := ⟨w6.heap.size, 4, none⟩) hs6 _
      have HTa : Hid (wa.heap[w1.heap.size]? = some (.cells #[.int .i64 tk, .string ts, .int .i64 tn, .slice A tm c, .int .i64 ta] 34 (0, 0))) := Lib.hid ((hb5a.block _ (by omega)).trans HT5.out)
      have HKa : Hid (TKids wa wa.heap.size A tl) := Lib.hid ((HK5.out.low hb5a).more hb5a.size)
      have HEa : Hid (wa.heap[w4.heap.size]? = some (.cells #[.int .i64 ek, .string es, .int .i64 en, .slice A3 em c3] 39 (0, 0))) := Lib.hid ((hb5a.block _ (by omega)).trans HE5.out)
      have HXa : Hid (EKids wa wa.heap.size A3 el) := Lib.hid ((HX5.out.low hb5a).more hb5a.size)
      have HVa : Hid (TKids wa wa.heap.size A9 ul) := Lib.hid ((HV6.out.low hb6a).more hb6a.size)
      have HGa : Hid (wa.heap[w8.heap.size]? = some (.cells #[.int .i64 ek, .string es, .int .i64 en, .slice A10 em c10] 39 (0, 0))) := Lib.hid ((hoth _ (by omega)).trans hG9)
      have HYa : Hid (EKids wa wa.heap.size A10 el) := Lib.hid ((hX10.kept (w' := wa) (fun k hk => (hoth k (by omega)).trans (hb9.block k hk.2))).to (fun k hk => by have := hk.2; omega))
      have HBa := Lib.hid (HB5.out.trans (hb5a.mono (by have := HB5.out.size; omega)))
      rw [← ewa]
      clear ewa hoth hb6a hb5a hG9 hb79 hb9 hb8 hX10 HU9 HU7 HV6 HB57 hb7 HT5 HK5 HE5 HX5 HB5 u0 u1 u2 u3 u4 g0 g1 g2 g3 g4
      -- REGION 12
      have HPa := Lib.hid (fun wx (hb : Below wa.heap.size wa wx) => HPT.out A9 c9 wx hc9 ((HVa.out.low hb).more hb.size) (fun w' h' => HP.out w' (HBa.out.trans ((hb.trans (h'.mono hb.size)).mono HBa.out.size))))
      have HOa := Lib.hid (fun wx (hb : Below wa.heap.size wa wx) => HOU.out A c wx hc ((HKa.out.low hb).more hb.size))
      have HQa := Lib.hid (fun A' c' wx (hb : Below wa.heap.size wa wx) hc' hk => HPP.out A' c' wx hc' hk (fun w' h' => HP.out w' (HBa.out.trans ((hb.trans (h'.mono hb.size)).mono HBa.out.size))))
      clear HPT HOU HPP
      have q1 : w1.heap.size < wa.heap.size := by omega
      have q4 : w4.heap.size < wa.heap.size := by omega
      have q6 : w6.heap.size < wa.heap.size := by omega
      have q8 : w8.heap.size < wa.heap.size := by omega
      refine wp_region_held_drew (S := fun w' => Below wa.heap.size wa w') (by kernel_rfl) ((Below.refl _ _).drew) (fun hHeld => ?_)
      refine wpAnyH_take (i := 0) (v := .int .i64 0) rfl (by kernel_rfl) (by kernel_rfl) (by kernel_rfl) (fun _ _ _ h => h) (Or.inl ⟨by rfl, fun w1 hSw => by (go_simp)⟩) (by assumption) ?_
      simp only [List.getElem_toArray, List.getElem_cons_zero, Act.put, List.setIfInBounds_toArray, List.set_cons_zero, List.set_cons_succ]
      refine wpAnyH_take (i := 1) (v := .bool true) rfl (by kernel_rfl) (by kernel_rfl) (by kernel_rfl) (fun _ _ _ h => h) (Or.inl ⟨by rfl, fun w1 hSw => by (go_simp)⟩) (by assumption) ?_
      simp only [List.getElem_toArray, List.getElem_cons_succ, List.getElem_cons_zero, Act.put, List.setIfInBounds_toArray, List.set_cons_zero, List.set_cons_succ]
      refine wpAnyH_take (i := 2) (v := .bool true) rfl (by kernel_rfl) (by kernel_rfl) (by kernel_rfl) (fun _ _ _ h => h) (Or.inl ⟨by rfl, fun w1 hSw => by (go_simp)⟩) (by assumption) ?_
      simp only [List.getElem_toArray, List.getElem_cons_succ, List.getElem_cons_zero, Act.put, List.setIfInBounds_toArray, List.set_cons_zero, List.set_cons_succ]
      refine wpAnyH_take (i := 3) (v := .agg #[.int .i64 ek, .string es, .int .i64 en, .slice A10 em c10]) rfl (by kernel_rfl) (by kernel_rfl) (by kernel_rfl) (fun _ _ _ h => h) (Or.inl ⟨by rfl, fun w1 hSw => by (obtain ⟨⟨k0, k1, k2, k3⟩, f0, f1, f2, f3⟩ := cell4 ((hSw.block _ q8).trans HGa.out); go_simp)⟩) (by assumption) ?_
      simp only [List.getElem_toArray, List.getElem_cons_succ, List.getElem_cons_zero, Act.put, List.setIfInBounds_toArray, List.set_cons_zero, List.set_cons_succ]
      refine wpAnyH_take (i := 5) (v := .agg #[.int .i64 ek, .string es, .int .i64 en, .slice A3 em c3]) rfl (by kernel_rfl) (by kernel_rfl) (by kernel_rfl) (fun _ _ _ h => h) (Or.inl ⟨by rfl, fun w1 hSw => by (obtain ⟨⟨k0, k1, k2, k3⟩, f0, f1, f2, f3⟩ := cell4 ((hSw.block _ q4).trans HEa.out); go_simp)⟩) (by assumption) ?_
      simp only [List.getElem_toArray, List.getElem_cons_succ, List.getElem_cons_zero, Act.put, List.setIfInBounds_toArray, List.set_cons_zero, List.set_cons_succ]
      refine wpAnyH_ready (rs := [4, 6]) (by kernel_rfl) (by simp) ?_
      refine AllReadyH.cons rfl (fun K hK => ?_) (AllReadyH.cons rfl (fun K hK => ?_) AllReadyH.nil)
      · simp only [List.getElem_toArray, List.getElem_cons_succ, List.getElem_cons_zero]
        go_simp
        refine hK.out _ _ ((Below.refl wa.heap.size wa).drew.alloc (Nat.le_refl _) _) (fun hHeld => ?_)
        clear hK K
        refine wpAnyH_ready (rs := [6]) (by kernel_rfl) (by simp) ?_
        refine AllReadyH.cons rfl (fun K hK => ?_) AllReadyH.nil
        simp only [List.getElem_toArray, List.getElem_cons_succ, List.getElem_cons_zero]
        go_simp
        obtain ⟨ww, eww⟩ : ∃ ww, ww = ((wa.alloc (.cells #[.int .i64 ek, .string es, .int .i64 en, .slice A10 em c10] 39)).alloc (.cells #[.int .i64 ek, .string es, .int .i64 en, .slice A3 em c3] 39)).drew := ⟨_, rfl⟩
        have hHa : Below wa.heap.size wa ww := by rw [eww]; exact (((Below.refl wa.heap.size wa).alloc (Nat.le_refl _) _).alloc (by simp) _).drew
        have hsw : ww.heap.size = wa.heap.size + 2 := by rw [eww]; simp
        have ha8 : ww.heap[wa.heap.size]? = some (.cells #[.int .i64 ek, .string es, .int .i64 en, .slice A10 em c10] 39 (0, 0)) := by rw [eww]; exact block_alloc_keep (w := wa.alloc _) (heap_alloc_new wa _)
        have hc8 : ww.heap[wa.heap.size + 1]? = some (.cells #[.int .i64 ek, .string es, .int .i64 en, .slice A3 em c3] 39 (0, 0)) := by rw [eww]; exact two_new wa _ _
        refine hK.out _ _ ?_ ?_
        · rw [← eww]; exact hHa
        rw [← eww]
        intro hHeld
        clear hK K eww
        rw [HEM.out, hsa] at ha8 hc8
        have HY1 := Lib.hid ((HYa.out.low hHa).more hHa.size)
        have HX1 := Lib.hid ((HXa.out.low hHa).more hHa.size)
        have HSA := Lib.hid (same_any [.mk ek es en el] _ _ 1 1 ww (ekids_one (e := .mk ek es en el) ha8 (by omega) HY1.out) (ekids_one (e := .mk ek es en el) hc8 (by omega) HX1.out))
        clear ha8 hc8 HY1 HX1
        refine wpAnyH_ready (rs := [7]) (by kernel_rfl) (by simp) ?_
        refine AllReadyH.cons rfl (fun K hK => ?_) AllReadyH.nil
        simp only [List.getElem_toArray, List.getElem_cons_succ, List.getElem_cons_zero]
        go_simp
        refine (HSA.out).mono ?_
        rintro r wb ⟨rfl, n, rfl⟩
        go_wp2_with fail
        refine hK.out _ _ (below_drewN hHa n) (fun hHeld => ?_)
        clear hK K
        clear HSA
        have hHb := below_drewN hHa n
        clear hHa
        have hHa := hHb
        clear hHb
        refine wpAnyH_take (i := 8) (v := .bool true) rfl (by kernel_rfl) (by kernel_rfl) (by kernel_rfl) (fun _ _ _ h => h) (Or.inl ⟨by rfl, fun w1 hSw => by (go_simp)⟩) (by assumption) ?_
        simp only [List.getElem_toArray, List.getElem_cons_succ, List.getElem_cons_zero, Act.put, List.setIfInBounds_toArray, List.set_cons_zero, List.set_cons_succ]
        refine wpAnyH_take (i := 9) (v := .bool true) rfl (by kernel_rfl) (by kernel_rfl) (by kernel_rfl) (fun _ _ _ h => h) (Or.inl ⟨by rfl, fun w1 hSw => by (go_simp)⟩) (by assumption) ?_
        simp only [List.getElem_toArray, List.getElem_cons_succ, List.getElem_cons_zero, Act.put, List.setIfInBounds_toArray, List.set_cons_zero, List.set_cons_succ]
        refine wpAnyH_take (i := 10) (v := .agg #[.int .i64 uk, .string us, .int .i64 un, .slice A9 um c9, .int .i64 0]) rfl (by kernel_rfl) (by kernel_rfl) (by kernel_rfl) (fun _ _ _ h => h) (Or.inl ⟨by rfl, fun w1 hSw => by (obtain ⟨⟨k0, k1, k2, k3, k4⟩, f0, f1, f2, f3, f4⟩ := cell5 ((hSw.block _ q6).trans HUa.out); go_simp)⟩) (by assumption) ?_
        simp only [List.getElem_toArray, List.getElem_cons_succ, List.getElem_cons_zero, Act.put, List.setIfInBounds_toArray, List.set_cons_zero, List.set_cons_succ]
        refine wpAnyH_take (i := 12) (v := .agg #[.int .i64 tk, .string ts, .int .i64 tn, .slice A tm c, .int .i64 ta]) rfl (by kernel_rfl) (by kernel_rfl) (by kernel_rfl) (fun _ _ _ h => h) (Or.inl ⟨by rfl, fun w1 hSw => by (obtain ⟨⟨k0, k1, k2, k3, k4⟩, f0, f1, f2, f3, f4⟩ := cell5 ((hSw.block _ q1).trans HTa.out); go_simp)⟩) (by assumption) ?_
        simp only [List.getElem_toArray, List.getElem_cons_succ, List.getElem_cons_zero, Act.put, List.setIfInBounds_toArray, List.set_cons_zero, List.set_cons_succ]
        refine wpAnyH_ready (rs := [11]) (by kernel_rfl) (by simp) ?_
        refine AllReadyH.cons rfl (fun K hK => ?_) AllReadyH.nil
        simp only [List.getElem_toArray, List.getElem_cons_succ, List.getElem_cons_zero]
        go_simp
        refine (HPa.out _ hHa).mono ?_
        rintro r wb ⟨rfl, hb⟩
        have hHb : Below wa.heap.size wa wb := hHa.trans (hb.mono hHa.size)
        go_wp2_with fail
        refine hK.out _ _ (hHb) (fun hHeld => ?_)
        clear hK K
        clear hb hHa hHeld
        have hHa := hHb
        have hHeld : (fun w' => Below wa.heap.size wa w') wb := hHb
        clear hHb
        refine wpAnyH_ready (rs := [13]) (by kernel_rfl) (by simp) ?_
        refine AllReadyH.cons rfl (fun K hK => ?_) AllReadyH.nil
        simp only [List.getElem_toArray, List.getElem_cons_succ, List.getElem_cons_zero]
        go_simp
        refine (HOa.out _ hHa).mono ?_
        rintro r wb ⟨⟨Ao, co, rfl, hco, hXo⟩, hb⟩
        have hHb : Below wa.heap.size wa wb := hHa.trans (hb.mono hHa.size)
        have HQ := Lib.hid (HQa.out Ao co wb hHb hco (hXo.to fun k hk => hk.2))
        clear hXo
        go_wp2_with fail
        refine hK.out _ _ (hHb) (fun hHeld => ?_)
        clear hK K
        clear hb hHa hHeld
        have hHa := hHb
        have hHeld : (fun w' => Below wa.heap.size wa w') wb := hHb
        clear hHb
        refine wpAnyH_ready (rs := [14]) (by kernel_rfl) (by simp) ?_
        refine AllReadyH.cons rfl (fun K hK => ?_) AllReadyH.nil
        simp only [List.getElem_toArray, List.getElem_cons_succ, List.getElem_cons_zero]
        go_simp
        refine (HQ.out).mono ?_
        rintro r wb ⟨rfl, hb⟩
        have hHb : Below wa.heap.size wa wb := hHa.trans (hb.mono hHa.size)
        go_wp2_with fail
        refine hK.out _ _ (hHb) (fun hHeld => ?_)
        clear hK K
        clear hb hHa hHeld
        have hHa := hHb
        have hHeld : (fun w' => Below wa.heap.size wa w') wb := hHb
        clear hHb
        refine wpAnyH_take (i := 15) (v := .bool true) rfl (by kernel_rfl) (by kernel_rfl) (by kernel_rfl) (fun _ _ _ h => h) (Or.inl ⟨by rfl, fun w1 hSw => by (go_simp)⟩) (by assumption) ?_
        simp only [List.getElem_toArray, List.getElem_cons_succ, List.getElem_cons_zero, Act.put, List.setIfInBounds_toArray, List.set_cons_zero, List.set_cons_succ]
        refine wpAnyH_take (i := 16) (v := .bool true) rfl (by kernel_rfl) (by kernel_rfl) (by kernel_rfl) (fun _ _ _ h => h) (Or.inl ⟨by rfl, fun w1 hSw => by (go_simp)⟩) (by assumption) ?_
        simp only [List.getElem_toArray, List.getElem_cons_succ, List.getElem_cons_zero, Act.put, List.setIfInBounds_toArray, List.set_cons_zero, List.set_cons_succ]
        refine wpAnyH_take (i := 17) (v := .bool true) rfl (by kernel_rfl) (by kernel_rfl) (by kernel_rfl) (fun _ _ _ h => h) (Or.inl ⟨by rfl, fun w1 hSw => by (go_simp)⟩) (by assumption) ?_
        simp only [List.getElem_toArray, List.getElem_cons_succ, List.getElem_cons_zero, Act.put, List.setIfInBounds_toArray, List.set_cons_zero, List.set_cons_succ]
        refine wpAnyH_ready (rs := [18]) (by kernel_rfl) (by simp) ?_
        refine AllReadyH.cons rfl (fun K hK => ?_) AllReadyH.nil
        simp only [List.getElem_toArray, List.getElem_cons_succ, List.getElem_cons_zero]
        go_simp
        refine (known8_any _).mono ?_
        rintro r wb ⟨rfl, hb⟩
        have hHb : Below wa.heap.size wa wb := hHa.trans (hb.mono hHa.size)
        go_wp2_with fail
        refine hK.out _ _ (hHb) (fun hHeld => ?_)
        clear hK K
        clear hb hHa hHeld
        have hHa := hHb
        have hHeld : (fun w' => Below wa.heap.size wa w') wb := hHb
        clear hHb
        refine wpAnyH_take (i := 19) (v := .bool true) rfl (by kernel_rfl) (by kernel_rfl) (by kernel_rfl) (fun _ _ _ h => h) (Or.inl ⟨by rfl, fun w1 hSw => by (go_simp)⟩) (by assumption) ?_
        simp only [List.getElem_toArray, List.getElem_cons_succ, List.getElem_cons_zero, Act.put, List.setIfInBounds_toArray, List.set_cons_zero, List.set_cons_succ]
        refine wpAnyH_take (i := 20) (v := .bool true) rfl (by kernel_rfl) (by kernel_rfl) (by kernel_rfl) (fun _ _ _ h => h) (Or.inl ⟨by rfl, fun w1 hSw => by (go_simp)⟩) (by assumption) ?_
        simp only [List.getElem_toArray, List.getElem_cons_succ, List.getElem_cons_zero, Act.put, List.setIfInBounds_toArray, List.set_cons_zero, List.set_cons_succ]
        refine wpAnyH_done (by kernel_rfl) ?_ _
        have HBz := Lib.hid (HBa.out.trans (hHa.mono HBa.out.size))
        clear hHa hHeld
        go_wp2_with fail
        go_ret
        exact ⟨rfl, HBz.out⟩
      · simp only [List.getElem_toArray, List.getElem_cons_succ, List.getElem_cons_zero]
        go_simp
        refine hK.out _ _ ((Below.refl wa.heap.size wa).drew.alloc (Nat.le_refl _) _) (fun hHeld => ?_)
        clear hK K
        refine wpAnyH_ready (rs := [4]) (by kernel_rfl) (by simp) ?_
        refine AllReadyH.cons rfl (fun K hK => ?_) AllReadyH.nil
        simp only [List.getElem_toArray, List.getElem_cons_succ, List.getElem_cons_zero]
        go_simp
        obtain ⟨ww, eww⟩ : ∃ ww, ww = ((wa.alloc (.cells #[.int .i64 ek, .string es, .int .i64 en, .slice A3 em c3] 39)).alloc (.cells #[.int .i64 ek, .string es, .int .i64 en, .slice A10 em c10] 39)).drew := ⟨_, rfl⟩
        have hHa : Below wa.heap.size wa ww := by rw [eww]; exact (((Below.refl wa.heap.size wa).alloc (Nat.le_refl _) _).alloc (by simp) _).drew
        have hsw : ww.heap.size = wa.heap.size + 2 := by rw [eww]; simp
        have ha8 : ww.heap[wa.heap.size]? = some (.cells #[.int .i64 ek, .string es, .int .i64 en, .slice A3 em c3] 39 (0, 0)) := by rw [eww]; exact block_alloc_keep (w := wa.alloc _) (heap_alloc_new wa _)
        have hc8 : ww.heap[wa.heap.size + 1]? = some (.cells #[.int .i64 ek, .string es, .int .i64 en, .slice A10 em c10] 39 (0, 0)) := by rw [eww]; exact two_new wa _ _
        refine hK.out _ _ ?_ ?_
        · rw [← eww]; exact hHa
        rw [← eww]
        intro hHeld
        clear hK K eww
        rw [HEM.out, hsa] at ha8 hc8
        have HY1 := Lib.hid ((HYa.out.low hHa).more hHa.size)
        have HX1 := Lib.hid ((HXa.out.low hHa).more hHa.size)
        have HSA := Lib.hid (same_any [.mk ek es en el] _ _ 1 1 ww (ekids_one (e := .mk ek es en el) hc8 (by omega) HY1.out) (ekids_one (e := .mk ek es en el) ha8 (by omega) HX1.out))
        clear ha8 hc8 HY1 HX1
        refine wpAnyH_ready (rs := [7]) (by kernel_rfl) (by simp) ?_
        refine AllReadyH.cons rfl (fun K hK => ?_) AllReadyH.nil
        simp only [List.getElem_toArray, List.getElem_cons_succ, List.getElem_cons_zero]
        go_simp
        refine (HSA.out).mono ?_
        rintro r wb ⟨rfl, n, rfl⟩
        go_wp2_with fail
        refine hK.out _ _ (below_drewN hHa n) (fun hHeld => ?_)
        clear hK K
        clear HSA
        have hHb := below_drewN hHa n
        clear hHa
        have hHa := hHb
        clear hHb
        refine wpAnyH_take (i := 8) (v := .bool true) rfl (by kernel_rfl) (by kernel_rfl) (by kernel_rfl) (fun _ _ _ h => h) (Or.inl ⟨by rfl, fun w1 hSw => by (go_simp)⟩) (by assumption) ?_
        simp only [List.getElem_toArray, List.getElem_cons_succ, List.getElem_cons_zero, Act.put, List.setIfInBounds_toArray, List.set_cons_zero, List.set_cons_succ]
        refine wpAnyH_take (i := 9) (v := .bool true) rfl (by kernel_rfl) (by kernel_rfl) (by kernel_rfl) (fun _ _ _ h => h) (Or.inl ⟨by rfl, fun w1 hSw => by (go_simp)⟩) (by assumption) ?_
        simp only [List.getElem_toArray, List.getElem_cons_succ, List.getElem_cons_zero, Act.put, List.setIfInBounds_toArray, List.set_cons_zero, List.set_cons_succ]
        refine wpAnyH_take (i := 10) (v := .agg #[.int .i64 uk, .string us, .int .i64 un, .slice A9 um c9, .int .i64 0]) rfl (by kernel_rfl) (by kernel_rfl) (by kernel_rfl) (fun _ _ _ h => h) (Or.inl ⟨by rfl, fun w1 hSw => by (obtain ⟨⟨k0, k1, k2, k3, k4⟩, f0, f1, f2, f3, f4⟩ := cell5 ((hSw.block _ q6).trans HUa.out); go_simp)⟩) (by assumption) ?_
        simp only [List.getElem_toArray, List.getElem_cons_succ, List.getElem_cons_zero, Act.put, List.setIfInBounds_toArray, List.set_cons_zero, List.set_cons_succ]
        refine wpAnyH_take (i := 12) (v := .agg #[.int .i64 tk, .string ts, .int .i64 tn, .slice A tm c, .int .i64 ta]) rfl (by kernel_rfl) (by kernel_rfl) (by kernel_rfl) (fun _ _ _ h => h) (Or.inl ⟨by rfl, fun w1 hSw => by (obtain ⟨⟨k0, k1, k2, k3, k4⟩, f0, f1, f2, f3, f4⟩ := cell5 ((hSw.block _ q1).trans HTa.out); go_simp)⟩) (by assumption) ?_
        simp only [List.getElem_toArray, List.getElem_cons_succ, List.getElem_cons_zero, Act.put, List.setIfInBounds_toArray, List.set_cons_zero, List.set_cons_succ]
        refine wpAnyH_ready (rs := [11]) (by kernel_rfl) (by simp) ?_
        refine AllReadyH.cons rfl (fun K hK => ?_) AllReadyH.nil
        simp only [List.getElem_toArray, List.getElem_cons_succ, List.getElem_cons_zero]
        go_simp
        refine (HPa.out _ hHa).mono ?_
        rintro r wb ⟨rfl, hb⟩
        have hHb : Below wa.heap.size wa wb := hHa.trans (hb.mono hHa.size)
        go_wp2_with fail
        refine hK.out _ _ (hHb) (fun hHeld => ?_)
        clear hK K
        clear hb hHa hHeld
        have hHa := hHb
        have hHeld : (fun w' => Below wa.heap.size wa w') wb := hHb
        clear hHb
        refine wpAnyH_ready (rs := [13]) (by kernel_rfl) (by simp) ?_
        refine AllReadyH.cons rfl (fun K hK => ?_) AllReadyH.nil
        simp only [List.getElem_toArray, List.getElem_cons_succ, List.getElem_cons_zero]
        go_simp
        refine (HOa.out _ hHa).mono ?_
        rintro r wb ⟨⟨Ao, co, rfl, hco, hXo⟩, hb⟩
        have hHb : Below wa.heap.size wa wb := hHa.trans (hb.mono hHa.size)
        have HQ := Lib.hid (HQa.out Ao co wb hHb hco (hXo.to fun k hk => hk.2))
        clear hXo
        go_wp2_with fail
        refine hK.out _ _ (hHb) (fun hHeld => ?_)
        clear hK K
        clear hb hHa hHeld
        have hHa := hHb
        have hHeld : (fun w' => Below wa.heap.size wa w') wb := hHb
        clear hHb
        refine wpAnyH_ready (rs := [14]) (by kernel_rfl) (by simp) ?_
        refine AllReadyH.cons rfl (fun K hK => ?_) AllReadyH.nil
        simp only [List.getElem_toArray, List.getElem_cons_succ, List.getElem_cons_zero]
        go_simp
        refine (HQ.out).mono ?_
        rintro r wb ⟨rfl, hb⟩
        have hHb : Below wa.heap.size wa wb := hHa.trans (hb.mono hHa.size)
        go_wp2_with fail
        refine hK.out _ _ (hHb) (fun hHeld => ?_)
        clear hK K
        clear hb hHa hHeld
        have hHa := hHb
        have hHeld : (fun w' => Below wa.heap.size wa w') wb := hHb
        clear hHb
        refine wpAnyH_take (i := 15) (v := .bool true) rfl (by kernel_rfl) (by kernel_rfl) (by kernel_rfl) (fun _ _ _ h => h) (Or.inl ⟨by rfl, fun w1 hSw => by (go_simp)⟩) (by assumption) ?_
        simp only [List.getElem_toArray, List.getElem_cons_succ, List.getElem_cons_zero, Act.put, List.setIfInBounds_toArray, List.set_cons_zero, List.set_cons_succ]
        refine wpAnyH_take (i := 16) (v := .bool true) rfl (by kernel_rfl) (by kernel_rfl) (by kernel_rfl) (fun _ _ _ h => h) (Or.inl ⟨by rfl, fun w1 hSw => by (go_simp)⟩) (by assumption) ?_
        simp only [List.getElem_toArray, List.getElem_cons_succ, List.getElem_cons_zero, Act.put, List.setIfInBounds_toArray, List.set_cons_zero, List.set_cons_succ]
        refine wpAnyH_take (i := 17) (v := .bool true) rfl (by kernel_rfl) (by kernel_rfl) (by kernel_rfl) (fun _ _ _ h => h) (Or.inl ⟨by rfl, fun w1 hSw => by (go_simp)⟩) (by assumption) ?_
        simp only [List.getElem_toArray, List.getElem_cons_succ, List.getElem_cons_zero, Act.put, List.setIfInBounds_toArray, List.set_cons_zero, List.set_cons_succ]
        refine wpAnyH_ready (rs := [18]) (by kernel_rfl) (by simp) ?_
        refine AllReadyH.cons rfl (fun K hK => ?_) AllReadyH.nil
        simp only [List.getElem_toArray, List.getElem_cons_succ, List.getElem_cons_zero]
        go_simp
        refine (known8_any _).mono ?_
        rintro r wb ⟨rfl, hb⟩
        have hHb : Below wa.heap.size wa wb := hHa.trans (hb.mono hHa.size)
        go_wp2_with fail
        refine hK.out _ _ (hHb) (fun hHeld => ?_)
        clear hK K
        clear hb hHa hHeld
        have hHa := hHb
        have hHeld : (fun w' => Below wa.heap.size wa w') wb := hHb
        clear hHb
        refine wpAnyH_take (i := 19) (v := .bool true) rfl (by kernel_rfl) (by kernel_rfl) (by kernel_rfl) (fun _ _ _ h => h) (Or.inl ⟨by rfl, fun w1 hSw => by (go_simp)⟩) (by assumption) ?_
        simp only [List.getElem_toArray, List.getElem_cons_succ, List.getElem_cons_zero, Act.put, List.setIfInBounds_toArray, List.set_cons_zero, List.set_cons_succ]
        refine wpAnyH_take (i := 20) (v := .bool true) rfl (by kernel_rfl) (by kernel_rfl) (by kernel_rfl) (fun _ _ _ h => h) (Or.inl ⟨by rfl, fun w1 hSw => by (go_simp)⟩) (by assumption) ?_
        simp only [List.getElem_toArray, List.getElem_cons_succ, List.getElem_cons_zero, Act.put, List.setIfInBounds_toArray, List.set_cons_zero, List.set_cons_succ]
        refine wpAnyH_done (by kernel_rfl) ?_ _
        have HBz := Lib.hid (HBa.out.trans (hHa.mono HBa.out.size))
        clear hHa hHeld
        go_wp2_with fail
        go_ret
        exact ⟨rfl, HBz.out⟩
      -- END 12
    · have hz := HRZ.out hf
      have hfb : (ey != 0) = true := by simpa using hf
      clear hf HBK HPU HPN HPO HRZ
      simp only [zeroE, E.mk.injEq] at hz
      obtain ⟨rfl, rfl, rfl, rfl⟩ := hz
      obtain rfl : em = 0 := HEM.out
      go_wp2_with fail
      obtain ⟨w8, ew8⟩ : ∃ w8, w8 = (w5.alloc (.cells #[.int .i64 0, .string ⟨#[]⟩, .int .i64 0, .slice A3 0 c3] 39)).alloc (.cells #[.int .i64 0, .string ⟨#[]⟩, .int .i64 0, .slice none 0 0] 39) := ⟨_, rfl⟩
      have hb8 : Below w5.heap.size w5 w8 := by rw [ew8]; exact ((Below.refl _ _).alloc (Nat.le_refl _) _).alloc (by simp) _
      have hs8 : w8.heap.size = w5.heap.size + 2 := by rw [ew8]; simp
      have ha8 : w8.heap[w5.heap.size]? = some (.cells #[.int .i64 0, .string ⟨#[]⟩, .int .i64 0, .slice A3 0 c3] 39 (0, 0)) := by rw [ew8]; exact block_alloc_keep (heap_alloc_new w5 _)
      have hc8 : w8.heap[w5.heap.size + 1]? = some (.cells #[.int .i64 0, .string ⟨#[]⟩, .int .i64 0, .slice none 0 0] 39 (0, 0)) := by
        have := heap_alloc_new (w5.alloc (.cells #[.int .i64 0, .string ⟨#[]⟩, .int .i64 0, .slice A3 0 c3] 39)) (.cells #[.int .i64 0, .string ⟨#[]⟩, .int .i64 0, .slice none 0 0] 39)
        rw [ew8]
        simpa using this
      rw [hs5] at ha8 hc8
      have HSA := Lib.hid (same_any [zeroE] _ _ 1 1 w8 (ekids_one (e := zeroE) ha8 (by omega) ((HX5.out.low hb8).more hb8.size)) (ekids_one (e := zeroE) hc8 (by omega) (.nil _)))
      have HB8 := Lib.hid (HB5.out.trans (hb8.mono (by have := HB5.out.size; omega)))
      rw [← ew8]
      clear ew8 hb8 ha8 hc8 HE5 HX5 u0 u1 u2 u3 g0 g1 g2 g3
      refine (HSA.out).mono ?_
      rintro r wz ⟨rfl, n, rfl⟩
      clear HSA
      go_wp2_with fail
      refine (known8_any _).mono ?_
      rintro r wk ⟨rfl, hbk⟩
      have HBk := Lib.hid (HB8.out.trans (((below_drewN (Below.refl w8.heap.size w8) n).trans hbk).mono HB8.out.size))
      clear hbk
      go_wp2_with fail
      go_ret
      exact ⟨rfl, HBk.out⟩
  · have hyb : (why != 0) = true := by simpa using hy0
    clear hy0
    go_wp2_with fail
    refine (known8_any _).mono ?_
    rintro e w3 ⟨rfl, hb3⟩
    have hb2 : Below w1.heap.size w1 (w1.alloc (.cells #[.int .i64 tk, .string ts, .int .i64 tn, .slice A tm c, .int .i64 ta] 34)) := (Below.refl _ _).alloc (Nat.le_refl _) _
    have HB3 := Lib.hid (HB1.out.trans ((hb2.trans (hb3.mono hb2.size)).mono HB1.out.size))
    clear hb3 hb2
    go_wp2_with fail
    go_ret
    exact ⟨rfl, HB3.out⟩
end Go.Proofs.YtldleckgkgeclaaDoor
/-
  What the listed tables give: the powers of ten, whatever new blocks come; a world for the witness.
-/
set_option linter.unusedVariables false
set_option linter.unusedSimpArgs false
namespace Go.Proofs.YtldleckgkgeclaaDoor
open Go.ChangeShapes Go.WideShapes Go.ChangeAt Go.RowKit
theorem gPow : Tryd.prog.globalNamed "internal/strconv.uint64pow10" = some 0 := by kernel_rfl
theorem gPowType : (Tryd.prog.globals[0]?).map (·.type) = some 138 := by kernel_rfl
theorem cellsPow : Tryd.prog.cellsOf 138 = 20 := by kernel_rfl
theorem cellsU64 : Tryd.prog.cellsOf 107 = 1 := by kernel_rfl
theorem powData : (Rows.laid_internal_strconv_uint64pow10 : DataW Unit) = Lib.tabData .u64 Lib.pow10Tab := by kernel_rfl
theorem table {W : World} (h : laidMetH Tryd.prog Rows.exprBackRow.laid W) : Lib.TabIs Tryd.prog W "internal/strconv.uint64pow10" .u64 Lib.pow10Tab := by
  have h : laidMet Tryd.prog [("math/bits.deBruijn32tab", Rows.laid_math_bits_deBruijn32tab), ("math/bits.deBruijn64tab", Rows.laid_math_bits_deBruijn64tab), ("internal/strconv.uint64pow10", Rows.laid_internal_strconv_uint64pow10)] W := h
  obtain ⟨ps, ⟨_, _, _, _, _, q1, _, _, _, _, h1, _⟩, _⟩ := h
  obtain ⟨_, _, _, _, _, q2, _, _, _, _, h2, _⟩ := h1
  obtain ⟨g', t', cs, fuel, p, q, hg', ht', hvar, hd, _, _⟩ := h2
  obtain rfl := Option.some.inj (gPow.symm.trans hg')
  obtain rfl := Option.some.inj (gPowType.symm.trans ht')
  rw [powData] at hd
  unfold Lib.TabIs
  rw [hvar, ← Lib.cells_of_tab Tryd.underlying138 Tryd.underlying107 cellsU64 cellsPow hd]
theorem tableB {W : World} (h : laidMetH Tryd.prog Rows.exprBackRow.laid W) : Lib.TabBelow Tryd.prog W.heap.size W "internal/strconv.uint64pow10" .u64 Lib.pow10Tab := Lib.tabBelow_of_tabIs (table h)

def cellsOfData {H : Type} : DataW H → List Value
  | .agg parts => parts.map fun d => match d with | .lit (.int k n) => Value.int k n | _ => undef
  | _ => []
def setBlock (w : World) (g : Nat) (cs : Array Value) : World := { w with heap := w.heap.modify g fun
  | .cells _ t frozen => .cells cs t frozen
  | o => o }
noncomputable def laidWorld (os : Os) : World :=
  setBlock (setBlock (setBlock (World.holding Tryd.prog os ⟨#[], #[], []⟩) 4 (cellsOfData (H := Unit) Rows.laid_math_bits_deBruijn32tab).toArray) 5 (cellsOfData (H := Unit) Rows.laid_math_bits_deBruijn64tab).toArray) 0 (cellsOfData (H := Unit) Rows.laid_internal_strconv_uint64pow10).toArray
end Go.Proofs.YtldleckgkgeclaaDoor
/-
  Arguments opened: a slice of columns, a row; a law's end: all arguments read as they did. No program in sight.
-/
namespace Go.Proofs.YtldleckgkgeclaaDoor
open Go.ChangeShapes Go.WideShapes Go.Deep Go.RowKit

theorem list_of {α : Type} {n : Nat} {p : Nat → α → Prop} (h : ∀ i, i < n → ∃ x, p i x) : ∃ l : List α, l.length = n ∧ ∀ i x, l[i]? = some x → p i x := by
  induction n with
  | zero => exact ⟨[], rfl, fun i x hx => by simp at hx⟩
  | succ n ih =>
    obtain ⟨l, hl, hp⟩ := ih fun i hi => h i (by omega)
    obtain ⟨y, hy⟩ := h n (by omega)
    refine ⟨l ++ [y], by simp [hl], fun i x hx => ?_⟩
    by_cases hi : i < n
    · exact hp i x (by rwa [List.getElem?_append_left (by omega)] at hx)
    · have hlen : i < (l ++ [y]).length := (List.getElem?_eq_some_iff.1 hx).1
      have : i = n := by simp [hl] at hlen; omega
      subst this
      rw [List.getElem?_append_right (by omega), hl] at hx
      simp at hx
      subst hx
      exact hy

section
variable {H : Type} {enc : TypeId × Value → H} {P : Program} {w : World} {base : Nat} {spare : Nat → Bool} {held : Bool}
/-- a slice of structs of one-cell fields -/
theorem open_fields {t e : TypeId} {fs : Array Field} {fuel : Nat} {cs : List Value} {x : DataW H × List MemPlace} (ht : P.underlying t = some (.slice e)) (he : P.underlying e = some (.struct fs))
    (hone : oneCellFields P fs = true) (hC : P.cellsOf e = fs.size) (h : DataW.trod enc P w base spare held fuel t cs = some x) :
    (cs = [.slice none 0 0]) ∨
    ∃ (a : Addr) (len cap m : Nat), cs = [.slice (some a) len cap] ∧ len ≤ cap ∧ cap ≤ maxLen ∧ m = (if spare a.block then cap else len) ∧
      ∀ i, i < m → ∃ (n : Nat), ∀ (j : Nat) (f : Field), fs[j]? = some f → ∃ (v : Value) (y : DataW H × List MemPlace), w.cell? (a.add (i * fs.size + j)) = some v ∧ DataW.trod enc P w base spare held n f.type [v] = some y := by
  rcases open_slice ht h with ⟨h0, _⟩ | ⟨a, len, cap, m, n, D, Pl, hcs, hb, hl, hm, hmm, hx, hi⟩
  · exact .inl h0
  · refine .inr ⟨a, len, cap, m, hcs, hl, hm, hmm, fun i him => ?_⟩
    obtain ⟨cs', hc, ht'⟩ := hi i him
    rw [hC] at hc
    obtain ⟨ys, n', hn', hy, hlen, hyl, hf⟩ := DataW.trod_struct he ht'
    obtain ⟨_, hcl, hat⟩ := World.cells?_some hc
    refine ⟨n', fun j f hj => ?_⟩
    obtain ⟨ho, hk⟩ := hone_of hone j f hj
    have hjl : j < fs.size := (Array.getElem?_eq_some_iff.1 hj).1
    have hcell := hat j hjl
    have hv : cs'[j]? = some (cs'[j]'(by omega)) := List.getElem?_eq_getElem (by omega)
    have h1 := hf j f hj
    rw [ho, hk] at h1
    have hone' : (cs'.drop j).take 1 = [cs'[j]'(by omega)] := by
      rw [List.drop_eq_getElem_cons (by omega)]
      rfl
    rw [hone'] at h1
    have hys : ys[j]? = some (ys[j]'(by omega)) := List.getElem?_eq_getElem (by omega)
    refine ⟨_, _, ?_, h1.trans hys⟩
    rw [← Go.Deep.add_add, hcell, hv]

def V.wf (v : V) : Prop := (Lit.int .i64 v.k).wf = true ∧ (Lit.int .i64 v.n).wf = true ∧ v.s.size ≤ maxLen
def C.wf (c : C) : Prop := c.nm.size ≤ maxLen ∧ (Lit.int .i64 c.k).wf = true

theorem add_pos {b off n : Nat} : (⟨b, off, none⟩ : Addr).add n = ⟨b, off + n, none⟩ := by
  unfold Addr.add; split
  · subst_vars; rfl
  · rfl

/-- a row that came in -/
theorem open_row {t e : TypeId} {f0 f1 f2 : Field} (ht : P.underlying t = some (.slice e)) (he : P.underlying e = some (.struct #[f0, f1, f2])) (hone : oneCellFields P #[f0, f1, f2] = true) (hC : P.cellsOf e = 3)
    (u0 : P.underlying f0.type = some (.int .i64)) (u1 : P.underlying f1.type = some (.int .i64)) (u2 : P.underlying f2.type = some .string)
    {A : Option Addr} {len cap : Nat} {d : DataW H} {ps : List MemPlace} (h : DataW.Trod enc P w base (fun _ => true) held t (.slice A len cap) d ps) :
    ∃ l : List V, l.length = len ∧ len ≤ cap ∧ cap ≤ maxLen ∧ VRow w w.heap.size A l ∧ ∀ x ∈ l, x.wf := by
  obtain ⟨fuel, hf⟩ := h
  simp only [Value.cells] at hf
  rcases open_fields ht he hone hC hf with hcs | ⟨a, len', cap', m, hcs, hl, hm, hmm, hi⟩
  · simp at hcs
    obtain ⟨rfl, rfl, rfl⟩ := hcs
    exact ⟨[], rfl, Nat.le_refl _, Nat.zero_le _, .inl rfl, fun x hx => by cases hx⟩
  · simp at hcs
    obtain ⟨rfl, rfl, rfl⟩ := hcs
    simp only [if_true] at hmm
    subst hmm
    obtain ⟨l, hll, hp⟩ : ∃ l : List V, l.length = len ∧ ∀ i x, l[i]? = some x → x.wf ∧ w.cell? (a.add (i * 3)) = some (.int .i64 x.k) ∧ w.cell? (a.add (i * 3 + 1)) = some (.int .i64 x.n) ∧ w.cell? (a.add (i * 3 + 2)) = some (.string x.s) := by
      refine list_of fun i hil => ?_
      obtain ⟨n, hg⟩ := hi i (by omega)
      obtain ⟨v0, y0, c0, t0⟩ := hg 0 f0 rfl
      obtain ⟨v1, y1, c1, t1⟩ := hg 1 f1 rfl
      obtain ⟨v2, y2, c2, t2⟩ := hg 2 f2 rfl
      obtain ⟨k, e0, _, wk⟩ := DataW.trod_int u0 t0
      obtain ⟨z, e1, _, wz⟩ := DataW.trod_int u1 t1
      obtain ⟨s, e2, _, ws⟩ := DataW.trod_string u2 t2
      simp only [List.cons.injEq, and_true] at e0 e1 e2
      subst e0 e1 e2
      exact ⟨⟨k, z, s⟩, ⟨wk, wz, ws⟩, c0, c1, c2⟩
    refine ⟨l, hll, hl, hm, ?_, fun x hx => ?_⟩
    · rcases Nat.eq_zero_or_pos len with h0 | h0
      · exact .inl (List.eq_nil_of_length_eq_zero (by omega))
      · obtain ⟨x, hx⟩ : ∃ x, l[0]? = some x := ⟨_, List.getElem?_eq_getElem (by omega)⟩
        obtain ⟨_, c0, _, _⟩ := hp 0 x hx
        have c0' : w.cell? a = some (.int .i64 x.k) := by simpa [Addr.add] using c0
        obtain ⟨b, off, spot⟩ := a
        have hsp : spot = none := World.cell?_spot c0'
        subst hsp
        refine .inr ⟨b, off, rfl, block_lt_of_cell c0', fun i y hy => ?_⟩
        obtain ⟨_, d0, d1, d2⟩ := hp i y hy
        rw [add_pos] at d0 d1 d2
        exact ⟨d0, by rw [Nat.add_assoc]; exact d1, by rw [Nat.add_assoc]; exact d2⟩
    · obtain ⟨i, hil, rfl⟩ := List.mem_iff_getElem.1 hx
      exact (hp i _ (List.getElem?_eq_getElem hil)).1

/-- columns that came in -/
theorem open_cols {t e : TypeId} {f0 f1 : Field} (ht : P.underlying t = some (.slice e)) (he : P.underlying e = some (.struct #[f0, f1])) (hone : oneCellFields P #[f0, f1] = true) (hC : P.cellsOf e = 2)
    (u0 : P.underlying f0.type = some .string) (u1 : P.underlying f1.type = some (.int .i64))
    {A : Option Addr} {len cap : Nat} {d : DataW H} {ps : List MemPlace} (h : DataW.Trod enc P w base (fun _ => true) held t (.slice A len cap) d ps) :
    ∃ l : List C, l.length = len ∧ len ≤ cap ∧ cap ≤ maxLen ∧ CRow w w.heap.size A l ∧ ∀ x ∈ l, x.wf := by
  obtain ⟨fuel, hf⟩ := h
  simp only [Value.cells] at hf
  rcases open_fields ht he hone hC hf with hcs | ⟨a, len', cap', m, hcs, hl, hm, hmm, hi⟩
  · simp at hcs
    obtain ⟨rfl, rfl, rfl⟩ := hcs
    exact ⟨[], rfl, Nat.le_refl _, Nat.zero_le _, .inl rfl, fun x hx => by cases hx⟩
  · simp at hcs
    obtain ⟨rfl, rfl, rfl⟩ := hcs
    simp only [if_true] at hmm
    subst hmm
    obtain ⟨l, hll, hp⟩ : ∃ l : List C, l.length = len ∧ ∀ i x, l[i]? = some x → x.wf ∧ w.cell? (a.add (i * 2)) = some (.string x.nm) ∧ w.cell? (a.add (i * 2 + 1)) = some (.int .i64 x.k) := by
      refine list_of fun i hil => ?_
      obtain ⟨n, hg⟩ := hi i (by omega)
      obtain ⟨v0, y0, c0, t0⟩ := hg 0 f0 rfl
      obtain ⟨v1, y1, c1, t1⟩ := hg 1 f1 rfl
      obtain ⟨s, e0, _, ws⟩ := DataW.trod_string u0 t0
      obtain ⟨k, e1, _, wk⟩ := DataW.trod_int u1 t1
      simp only [List.cons.injEq, and_true] at e0 e1
      subst e0 e1
      exact ⟨⟨s, k⟩, ⟨ws, wk⟩, c0, c1⟩
    refine ⟨l, hll, hl, hm, ?_, fun x hx => ?_⟩
    · rcases Nat.eq_zero_or_pos len with h0 | h0
      · exact .inl (List.eq_nil_of_length_eq_zero (by omega))
      · obtain ⟨x, hx⟩ : ∃ x, l[0]? = some x := ⟨_, List.getElem?_eq_getElem (by omega)⟩
        obtain ⟨_, c0, _⟩ := hp 0 x hx
        have c0' : w.cell? a = some (.string x.nm) := by simpa [Addr.add] using c0
        obtain ⟨b, off, spot⟩ := a
        have hsp : spot = none := World.cell?_spot c0'
        subst hsp
        refine .inr ⟨b, off, rfl, block_lt_of_cell c0', fun i y hy => ?_⟩
        obtain ⟨_, d0, d1⟩ := hp i y hy
        rw [add_pos] at d0 d1
        exact ⟨d0, by rw [Nat.add_assoc]; exact d1⟩
    · obtain ⟨i, hil, rfl⟩ := List.mem_iff_getElem.1 hx
      exact (hp i _ (List.getElem?_eq_getElem hil)).1

/-- all arguments read behind the call as they did -/
theorem trodAll_below (hl : laidOutB P = true) {W W' : World} (hb : Below W.heap.size W W') : ∀ (ts : List TypeId) (vs : List Value) (ds : List (DataW H)) (ps : List MemPlace), (ts.all fun t => P.readableRec t && decide (t < P.types.size)) = true →
    DataW.TrodAll enc P W 0 (fun _ => true) true ts vs ds ps → (∀ x ∈ ps, x.block < W.heap.size) → DataW.TrodAll enc P W' 0 (fun b => decide (b < W.heap.size)) true ts vs ds ps := by
  intro ts
  induction ts with
  | nil =>
    intro vs ds ps _ h _
    cases vs <;> cases ds <;> first | exact h | exact h.elim
  | cons t ts ih =>
    intro vs ds ps hr h hlt
    cases vs with
    | nil => cases ds <;> exact h.elim
    | cons v vs =>
      cases ds with
      | nil => exact h.elim
      | cons d ds =>
        obtain ⟨p, q, h1, h2, rfl⟩ := h
        rw [List.all_cons, Bool.and_eq_true, Bool.and_eq_true, decide_eq_true_eq] at hr
        exact ⟨p, q, Below.trod hl hr.1.1 hr.1.2 h1 hb (fun x hx => hlt x (List.mem_append_left _ hx)), ih vs ds q hr.2 h2 (fun x hx => hlt x (List.mem_append_right _ hx)), rfl⟩

/-- THE END OF A LAW: it returned true, and below the heap's old size nothing has turned -/
theorem law_post {f : Func} {s : ChangeSpec} {W W' : World} {args : Array Value} {ds gs : List (DataW H)} {before : List MemPlace} {tb : TypeId}
    (hl : laidOutB P = true) (hr : (f.params.toList.all fun t => P.readableRec t && decide (t < P.types.size)) = true) (hb : P.underlying tb = some .bool) (hres : f.resultTypes = #[tb]) (hvars : s.vars = [])
    (hW : DataW.Whole enc P f.params.toList s.vars false W args.toList ds gs before) (h1 : (s.fn H (ds ++ gs)).results = [.lit (.bool true)]) (h2 : (s.fn H (ds ++ gs)).args = ds) (h3 : (s.fn H (ds ++ gs)).vars = [])
    (hbelow : Below W.heap.size W W') : s.post enc P f false true false false W args (.bool true) W' := by
  have hW' := hW
  obtain ⟨p, q, hA, hV, rfl, hfz, hnd⟩ := hW
  rw [hvars] at hV
  have hq : q = [] := by
    cases gs with
    | nil => exact hV
    | cons g gs => exact hV.elim
  subst hq
  have hlt : ∀ x ∈ p, x.block < W.heap.size := fun x hx => by simpa using hW'.lt x (by simpa using hx)
  refine ⟨ds, gs, p ++ [], [], p, [], hW', ?_, ?_, ?_, hbelow.frame _, fun h => by cases h⟩
  · rw [h1, hres]
    exact trodAll_cons_mk (shut_bool hb _) trodAll_mk0
  · rw [h2]
    exact trodAll_below hl hbelow _ _ _ _ hr hA hlt
  · rw [h3, hvars]; rfl
end
end Go.Proofs.YtldleckgkgeclaaDoor
