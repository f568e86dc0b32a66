/-
  ExprText: expressions that are written as texts, over the columns of t: both readers, both typings, both reckonings are the same.
-/
import Derived.Test.YtldleckgkgeclaaMa12
import Derived.Test.YtldleckgkgeclaaMa13
import Derived.Test.YtldleckgkgeclaaMa14
import Derived.Test.YtldleckgkgeclaaMa7
import Derived.Test.YtldleckgkgeclaaMa39
import Derived.Deep.DeepCutAuto
import Derived.Deep.RegionLaw
set_option linter.unusedVariables false
set_option linter.unusedSimpArgs false
namespace Go.Proofs.Ytldleckgkgeclaa
open Go.RowKit
theorem block_alloc_keep {w : World} {k : Nat} {o o' : Obj} (h : w.heap[k]? = some o) : (w.alloc o').heap[k]? = some o := by
  have hlt : k < w.heap.size := by
    rcases Nat.lt_or_ge k w.heap.size with h' | h'
    · exact h'
    · rw [Array.getElem?_eq_none h'] at h; cases h
  exact (((Below.refl w.heap.size w).alloc (Nat.le_refl _) o').block k hlt).trans h
set_option maxRecDepth 100000 in
set_option maxHeartbeats 20000000 in
theorem exprText_any (s : ByteArray) (a b : Int) (x : ByteArray) (a1 : -9223372036854775808 ≤ a) (a2 : a ≤ 9223372036854775807) (b1 : -9223372036854775808 ≤ b) (b2 : b ≤ 9223372036854775807) (W : World) :
    Calls Try.prog 6 #[.string s, .int .i64 a, .int .i64 b, .string x] W fun e W' => e = .returned (.bool true) ∧ Below W.heap.size W W' := by
  go_enter Try.func6, Try.ntmps6
  go_upto_if 29 with (fail)
  go_cut [0] (fun v wx => (∃ s' : ByteArray, s'.size ≤ 600 ∧ v = .string s') ∧ wx = W)
  case first =>
    cases h6 : decide (600 < (s.size : Int))
    · have h6' : s.size ≤ 600 := by simp at h6; omega
      go_wp2_with fail
      go_meet
      exact ⟨⟨s, h6', rfl⟩, rfl⟩
    · have h6' : 600 ≤ s.size := by simp at h6; omega
      go_wp2_with fail
      go_meet
      exact ⟨⟨_, by simp only [ByteArray.size_extract]; omega, rfl⟩, rfl⟩
  case rest =>
  obtain ⟨⟨s', hs', rfl⟩, hwc⟩ := hcut
  obtain rfl : W = wc := hwc.symm
  clear hwc
  go_upto_if 34 with (fail)
  go_cut [3] (fun v wx => (∃ x' : ByteArray, x'.size ≤ 41 ∧ v = .string x') ∧ wx = W)
  case first =>
    cases h6 : decide (41 < (x.size : Int))
    · have h6' : x.size ≤ 41 := by simp at h6; omega
      go_wp2_with fail
      go_meet
      exact ⟨⟨x, h6', rfl⟩, rfl⟩
    · have h6' : 41 ≤ x.size := by simp at h6; omega
      go_wp2_with fail
      go_meet
      exact ⟨⟨_, by simp only [ByteArray.size_extract]; omega, rfl⟩, rfl⟩
  case rest =>
  obtain ⟨⟨x', hx', rfl⟩, hwc⟩ := hcut
  obtain rfl : W = wc := hwc.symm
  clear hwc
  go_wp2_with fail
  refine (read7_any s' W).mono ?_
  rintro e w1 ⟨⟨t, A, c, why, at_, rfl, hg, hc, hX⟩, hb1⟩
  have hTF : t.Fine := good_fine t hg
  have HFW := Lib.hid (good_few t hg)
  have HRG := Lib.hid (read_good t hg)
  have HRD := Lib.hid (fun A c w hc h => read_any t A c w hc h)
  have HRR := Lib.hid (fun A c w hc h => refRead_any t hTF A c w hc h)
  have HOU := Lib.hid (fun A c w hc h => out_any t HFW.out A c w hc h)
  have HB1 := Lib.hid hb1
  have HX := Lib.hid hX
  clear hX hb1 hg hTF HFW
  obtain ⟨q, hq⟩ : ∃ q, q = readT t := ⟨_, rfl⟩
  rw [← hq] at HRG HRD HRR
  clear hq
  obtain ⟨e, ey, ea⟩ := q
  obtain ⟨tk, ts, tn, tl, ta⟩ := t
  simp only [T.val, T.k, T.s, T.n, T.kids, T.at_] at hc HX HRD HRR HOU ⊢
  generalize tl.length = tm at *
  by_cases hy0 : why = 0
  · subst hy0
    go_upto_region 8 with (fail)
    obtain ⟨w2, ew2⟩ : ∃ w2, w2 = w1.alloc (.cells #[.int .i64 tk, .string ts, .int .i64 tn, .slice A tm c, .int .i64 ta] 49) := ⟨_, rfl⟩
    have hb2 : Below w1.heap.size w1 w2 := by rw [ew2]; exact (Below.refl _ _).alloc (Nat.le_refl _) _
    have hs2 : w2.heap.size = w1.heap.size + 1 := by rw [ew2]; simp
    have hs1 := HB1.out.size
    have HT2 : Hid (w2.heap[w1.heap.size]? = some (.cells #[.int .i64 tk, .string ts, .int .i64 tn, .slice A tm c, .int .i64 ta] 49 (0, 0))) := Lib.hid (by rw [ew2]; exact heap_alloc_new w1 _)
    have HK2 : Hid (TKids w2 w2.heap.size A tl) := Lib.hid (((HX.out.to fun k hk => hk.2).low hb2).more hb2.size)
    have HB2 := Lib.hid (HB1.out.trans (hb2.mono hs1))
    rw [← ew2]
    clear ew2 hb2 HX HB1
    have hcl := Lib.hid (HOU.out A c w2 hc HK2.out)
    obtain ⟨⟨u0, u1, u2, u3, u4⟩, g0, g1, g2, g3, g4⟩ := cell5 HT2.out
    clear HOU
    go_wp2_with fail
    refine (hcl.out).mono ?_
    rintro r w3 ⟨⟨A', c', rfl, hc', hX'⟩, hb3⟩
    have hs3 := hb3.size
    have HT3 : Hid (w3.heap[w1.heap.size]? = some (.cells #[.int .i64 tk, .string ts, .int .i64 tn, .slice A tm c, .int .i64 ta] 49 (0, 0))) := Lib.hid ((hb3.block _ (by omega)).trans HT2.out)
    have HK3 : Hid (TKids w3 w3.heap.size A tl) := Lib.hid ((HK2.out.low hb3).more hb3.size)
    have HB3 := Lib.hid (HB2.out.trans (hb3.mono (by omega)))
    replace hcl := Lib.hid (HRD.out A' c' w3 hc' (hX'.to fun k hk => hk.2))
    clear hX' hb3 HT2 HK2 HB2 HRD u0 u1 u2 u3 u4 g0 g1 g2 g3 g4
    obtain ⟨ek, es, en, el⟩ := e
    simp only [E.val, E.k, E.s, E.n, E.kids] at hcl HRR
    obtain ⟨em, eem⟩ : ∃ em, em = el.length := ⟨_, rfl⟩
    have HEM := Lib.hid eem
    rw [← eem] at hcl HRR
    clear eem
    go_wp2_with fail
    refine (hcl.out).mono ?_
    rintro r w4 ⟨⟨A3, c3, rfl, hX3⟩, hb4⟩
    have hs4 := hb4.size
    go_upto_region 9 with (fail)
    obtain ⟨w5, ew5⟩ : ∃ w5, w5 = w4.alloc (.cells #[.int .i64 ek, .string es, .int .i64 en, .slice A3 em c3] 35) := ⟨_, rfl⟩
    have hb5 : Below w4.heap.size w4 w5 := by rw [ew5]; exact (Below.refl _ _).alloc (Nat.le_refl _) _
    have hs5 : w5.heap.size = w4.heap.size + 1 := by rw [ew5]; simp
    have HE5 : Hid (w5.heap[w4.heap.size]? = some (.cells #[.int .i64 ek, .string es, .int .i64 en, .slice A3 em c3] 35 (0, 0))) := Lib.hid (by rw [ew5]; exact heap_alloc_new w4 _)
    have hb35 : Below w3.heap.size w3 w5 := hb4.trans (hb5.mono hs4)
    have HT5 : Hid (w5.heap[w1.heap.size]? = some (.cells #[.int .i64 tk, .string ts, .int .i64 tn, .slice A tm c, .int .i64 ta] 49 (0, 0))) := Lib.hid ((hb35.block _ (by omega)).trans HT3.out)
    have HK5 : Hid (TKids w5 w5.heap.size A tl) := Lib.hid ((HK3.out.low hb35).more hb35.size)
    have HX5 : Hid (EKids w5 w5.heap.size A3 el) := Lib.hid (((hX3.to fun k hk => hk.2).low hb5).more hb5.size)
    have HB5 := Lib.hid (HB3.out.trans (hb35.mono (by omega)))
    rw [← ew5]
    clear ew5 hb5 hX3 hb4 hb35 HT3 HK3 HB3
    replace hcl := Lib.hid (HRR.out A c w5 hc HK5.out)
    obtain ⟨⟨u0, u1, u2, u3, u4⟩, g0, g1, g2, g3, g4⟩ := cell5 HT5.out
    clear HRR
    go_wp2_with fail
    refine (hcl.out).mono ?_
    rintro r w6 ⟨⟨A4, c4, rfl, hX4⟩, hb6⟩
    have hs6 := hb6.size
    go_upto_region 10 with (fail)
    obtain ⟨w7, ew7⟩ : ∃ w7, w7 = w6.alloc (.cells #[.int .i64 ek, .string es, .int .i64 en, .slice A4 em c4] 35) := ⟨_, rfl⟩
    have hb7 : Below w6.heap.size w6 w7 := by rw [ew7]; exact (Below.refl _ _).alloc (Nat.le_refl _) _
    have hs7 : w7.heap.size = w6.heap.size + 1 := by rw [ew7]; simp
    have HF7 : Hid (w7.heap[w6.heap.size]? = some (.cells #[.int .i64 ek, .string es, .int .i64 en, .slice A4 em c4] 35 (0, 0))) := Lib.hid (by rw [ew7]; exact heap_alloc_new w6 _)
    have hb57 : Below w5.heap.size w5 w7 := hb6.trans (hb7.mono hs6)
    have HE7 : Hid (w7.heap[w4.heap.size]? = some (.cells #[.int .i64 ek, .string es, .int .i64 en, .slice A3 em c3] 35 (0, 0))) := Lib.hid ((hb57.block _ (by omega)).trans HE5.out)
    have HX7 : Hid (EKids w7 w7.heap.size A3 el) := Lib.hid ((HX5.out.low hb57).more hb57.size)
    have HY7 : Hid (EKids w7 w7.heap.size A4 el) := Lib.hid (((hX4.to fun k hk => hk.2).low hb7).more hb7.size)
    have HB7 := Lib.hid (HB5.out.trans (hb57.mono (by omega)))
    rw [← ew7]
    clear ew7 hb7 hX4 hb6 hb57 HT5 HK5 HB5 HE5 HX5 u0 u1 u2 u3 u4 g0 g1 g2 g3 g4
    obtain ⟨⟨u0, u1, u2, u3⟩, g0, g1, g2, g3⟩ := cell4 HE7.out
    obtain ⟨⟨v0, v1, v2, v3⟩, f0, f1, f2, f3⟩ := cell4 HF7.out
    have hyy : (ey != ey) = false := by simp
    have haa : (ea != ea) = false := by simp
    go_wp2_with fail
    obtain ⟨w8, ew8⟩ : ∃ w8, w8 = (w7.alloc (.cells #[.int .i64 ek, .string es, .int .i64 en, .slice A3 em c3] 35)).alloc (.cells #[.int .i64 ek, .string es, .int .i64 en, .slice A4 em c4] 35) := ⟨_, rfl⟩
    have hb8 : Below w7.heap.size w7 w8 := by rw [ew8]; exact ((Below.refl _ _).alloc (Nat.le_refl _) _).alloc (by simp) _
    have hs8 : w8.heap.size = w7.heap.size + 2 := by rw [ew8]; simp
    have ha8 : w8.heap[w7.heap.size]? = some (.cells #[.int .i64 ek, .string es, .int .i64 en, .slice A3 em c3] 35 (0, 0)) := by rw [ew8]; exact block_alloc_keep (heap_alloc_new w7 _)
    have hc8 : w8.heap[w7.heap.size + 1]? = some (.cells #[.int .i64 ek, .string es, .int .i64 en, .slice A4 em c4] 35 (0, 0)) := by
      have := heap_alloc_new (w7.alloc (.cells #[.int .i64 ek, .string es, .int .i64 en, .slice A3 em c3] 35)) (.cells #[.int .i64 ek, .string es, .int .i64 en, .slice A4 em c4] 35)
      rw [ew8]
      simpa using this
    have hY8 : EKids w8 w8.heap.size A4 el := (HY7.out.low hb8).more hb8.size
    rw [HEM.out] at ha8 hc8
    rw [hs7] at ha8 hc8
    have HSA := Lib.hid (same_any [.mk ek es en el] _ _ 1 1 w8 (ekids_one (e := .mk ek es en el) ha8 (by omega) ((HX7.out.low hb8).more hb8.size)) (ekids_one (e := .mk ek es en el) hc8 (by omega) hY8))
    have HF8 : Hid (w8.heap[w6.heap.size]? = some (.cells #[.int .i64 ek, .string es, .int .i64 en, .slice A4 em c4] 35 (0, 0))) := Lib.hid ((hb8.block _ (by omega)).trans HF7.out)
    have HY8 := Lib.hid hY8
    have HB8 := Lib.hid (HB7.out.trans (hb8.mono (by omega)))
    rw [← ew8]
    clear ew8 hb8 ha8 hc8 hY8 HE7 HF7 HX7 HY7 HB7 u0 u1 u2 u3 g0 g1 g2 g3 v0 v1 v2 v3 f0 f1 f2 f3
    refine (HSA.out).mono ?_
    rintro r wz ⟨rfl, n, rfl⟩
    clear HSA
    go_wp2_with fail
    refine (keep_num a _).mono ?_
    rintro r wz ⟨rfl, rfl⟩
    go_wp2_with fail
    refine (keep_num b _).mono ?_
    rintro r wz ⟨rfl, rfl⟩
    go_wp2_with fail
    refine (keep_str x' _).mono ?_
    rintro r wz ⟨rfl, rfl⟩
    go_upto_region 13 with (fail)
    obtain ⟨rb, hrb⟩ : ∃ rb, rb = w6.heap.size + 1 + 2 + 1 + 1 + 1 := ⟨_, rfl⟩
    obtain ⟨wk, ewk⟩ : ∃ wk, wk = (((w8.drewN n).alloc (.cells #[.int .i64 1, .int .i64 a, .string ⟨#[]⟩] 29)).alloc (.cells #[.int .i64 1, .int .i64 b, .string ⟨#[]⟩] 29)).alloc (.cells #[.int .i64 2, .int .i64 0, .string x'] 29) := ⟨_, rfl⟩
    have hbk : Below w8.heap.size w8 wk := by rw [ewk]; exact (((below_drewN (Below.refl _ _) n).alloc (Nat.le_refl _) _).alloc (by simp) _).alloc (by simp; omega) _
    have hsk : wk.heap.size = rb := by have e0 := (below_drewN (Below.refl w8.heap.size w8) n).size; have e1 : (w8.drewN n).heap.size = w8.heap.size := rfl; rw [ewk, hrb]; simp only [World.size_alloc]; omega
    obtain ⟨w9, ew9⟩ : ∃ w9, w9 = wk.alloc (.cells #[.int .i64 1, .int .i64 a, .string ⟨#[]⟩, .int .i64 1, .int .i64 b, .string ⟨#[]⟩, .int .i64 2, .int .i64 0, .string x'] 29) := ⟨_, rfl⟩
    have hbk9 : Below wk.heap.size wk w9 := by rw [ew9]; exact (Below.refl _ _).alloc (Nat.le_refl _) _
    have hs9 : w9.heap.size = rb + 1 := by rw [ew9]; simp; omega
    have hr9 : w9.heap[rb]? = some (.cells #[.int .i64 1, .int .i64 a, .string ⟨#[]⟩, .int .i64 1, .int .i64 b, .string ⟨#[]⟩, .int .i64 2, .int .i64 0, .string x'] 29 (0, 0)) := by rw [ew9, ← hsk]; exact heap_alloc_new wk _
    have hb9 : Below w8.heap.size w8 w9 := hbk.trans (hbk9.mono hbk.size)
    have HR9 : Hid (VRow w9 w9.heap.size (some ⟨rb, 0, none⟩) [numV a, numV b, strV x']) := Lib.hid (by
      refine .inr ⟨rb, 0, rfl, by omega, ?_⟩
      intro i y hy
      match i, hy with
      | 0, hy => simp at hy; subst hy; simp [World.cell?, hr9, numV, strV]
      | 1, hy => simp at hy; subst hy; simp [World.cell?, hr9, numV, strV]
      | 2, hy => simp at hy; subst hy; simp [World.cell?, hr9, numV, strV])
    have HF9 : Hid (w9.heap[w6.heap.size]? = some (.cells #[.int .i64 ek, .string es, .int .i64 en, .slice A4 em c4] 35 (0, 0))) := Lib.hid ((hb9.block _ (by omega)).trans HF8.out)
    have HY9 : Hid (EKids w9 w9.heap.size A4 el) := Lib.hid ((HY8.out.low hb9).more hb9.size)
    have HB9 := Lib.hid (HB8.out.trans (hb9.mono (by omega)))
    have hlt9 : w6.heap.size < w9.heap.size := by have := hb9.size; omega
    rw [← hrb, ← ewk, ← ew9]
    clear ewk hbk ew9 hbk9 hr9 hb9 HF8 HY8 HB8 hsk hrb wk
    have HFI := Lib.hid HRG.out.1
    have HTX := Lib.hid HRG.out.2.1
    simp only at HFI HTX
    have HTY : Hid (∀ Ac cc wa, Below w9.heap.size w9 wa → CRow wa wa.heap.size Ac tCols → Calls Try.prog 24 #[.agg #[.int .i64 ek, .string es, .int .i64 en, .slice A4 em c4], .slice Ac 3 cc] wa fun r w' => r = .returned (.tuple #[.int .i64 (typeTop tCols (.mk ek es en el)).1, .int .i64 (typeTop tCols (.mk ek es en el)).2]) ∧ Below wa.heap.size wa w') := Lib.hid (fun Ac cc wa h hc => by
      have := type_any tCols (by decide) (.mk ek es en el) A4 Ac c4 cc wa ((HY9.out.low h).more h.size) hc
      simp only [E.val, E.k, E.s, E.n, E.kids] at this
      rw [← HEM.out] at this
      exact this)
    have HTR : Hid (∀ Ac cc wa, Below w9.heap.size w9 wa → CRow wa wa.heap.size Ac tCols → Calls Try.prog 26 #[.agg #[.int .i64 ek, .string es, .int .i64 en, .slice A4 em c4], .slice Ac 3 cc] wa fun r w' => r = .returned (.tuple #[.int .i64 (typeTop tCols (.mk ek es en el)).1, .int .i64 (typeTop tCols (.mk ek es en el)).2]) ∧ Below wa.heap.size wa w') := Lib.hid (fun Ac cc wa h hc => by
      have := refType_any tCols (by decide) tCols_pos (.mk ek es en el) HFI.out A4 Ac c4 cc wa ((HY9.out.low h).more h.size) hc
      simp only [E.val, E.k, E.s, E.n, E.kids] at this
      rw [← HEM.out] at this
      exact this)
    have HEV : Hid (∀ Ac cc wa, Below w9.heap.size w9 wa → CRow wa wa.heap.size Ac tCols → Calls Try.prog 13 #[.agg #[.int .i64 ek, .string es, .int .i64 en, .slice A4 em c4], .slice Ac 3 cc, .slice (some ⟨rb, 0, none⟩) 3 3] wa fun r w' => r = .returned (.tuple #[.agg #[.int .i64 (evalTop tCols [numV a, numV b, strV x'] (.mk ek es en el)).1.k, .int .i64 (evalTop tCols [numV a, numV b, strV x'] (.mk ek es en el)).1.n, .string (evalTop tCols [numV a, numV b, strV x'] (.mk ek es en el)).1.s], .int .i64 (evalTop tCols [numV a, numV b, strV x'] (.mk ek es en el)).2]) ∧ Below wa.heap.size wa w') := Lib.hid (fun Ac cc wa h hc => by
      have := evalTop_any tCols [numV a, numV b, strV x'] (by decide) (by simp) (rowN_three a1 a2 b1 b2 x') (.mk ek es en el) HFI.out A4 Ac (some ⟨rb, 0, none⟩) c4 cc 3 wa ((HY9.out.low h).more h.size) hc ((HR9.out.below h).more h.size)
      simp only [E.val, E.k, E.s, E.n, E.kids] at this
      rw [← HEM.out] at this
      exact this)
    have HRE : Hid (∀ Ac cc wa, Below w9.heap.size w9 wa → CRow wa wa.heap.size Ac tCols → Calls Try.prog 27 #[.agg #[.int .i64 ek, .string es, .int .i64 en, .slice A4 em c4], .slice Ac 3 cc, .slice (some ⟨rb, 0, none⟩) 3 3] wa fun r w' => r = .returned (.tuple #[.agg #[.int .i64 (evalTop tCols [numV a, numV b, strV x'] (.mk ek es en el)).1.k, .int .i64 (evalTop tCols [numV a, numV b, strV x'] (.mk ek es en el)).1.n, .string (evalTop tCols [numV a, numV b, strV x'] (.mk ek es en el)).1.s], .int .i64 (evalTop tCols [numV a, numV b, strV x'] (.mk ek es en el)).2]) ∧ Below wa.heap.size wa w') := Lib.hid (fun Ac cc wa h hc => by
      have := refEvalTop_any tCols [numV a, numV b, strV x'] (by decide) (by simp) tCols_pos (rowN_three a1 a2 b1 b2 x') (.mk ek es en el) HFI.out HTX.out A4 Ac (some ⟨rb, 0, none⟩) c4 cc 3 wa ((HY9.out.low h).more h.size) hc ((HR9.out.below h).more h.size)
      simp only [E.val, E.k, E.s, E.n, E.kids] at this
      rw [← HEM.out] at this
      exact this)
    have HKT := Lib.hid (fun w => keepT w)
    generalize typeTop tCols (.mk ek es en el) = ty at *
    generalize evalTop tCols [numV a, numV b, strV x'] (.mk ek es en el) = ev at *
    obtain ⟨yk, ye⟩ := ty
    obtain ⟨⟨vk, vn, vs⟩, ve⟩ := ev
    simp only at HTY HTR HEV HRE
    clear HRG HFI HTX HY9 HR9 HEM hs9 hs8 hs7 hs6 hs5 hs4 hs3 hs2 hs1 hyy haa hx' hs'
    obtain ⟨wx, ewx⟩ : ∃ wx, wx = w9 := ⟨_, rfl⟩
    have HFX : Hid (wx.heap[w6.heap.size]? = some (.cells #[.int .i64 ek, .string es, .int .i64 en, .slice A4 em c4] 35 (0, 0))) := Lib.hid (by rw [ewx]; exact HF9.out)
    have HBX : Hid (Below w9.heap.size w9 wx) := Lib.hid (by rw [ewx]; exact Below.refl _ _)
    rw [← ewx]
    clear ewx
    go_upto_region 13 with (fail)
    go_cut [19, 20] (fun u v wx => u = .int .i64 yk ∧ v = .int .i64 ye ∧ Below w9.heap.size w9 wx)
    case first =>
      obtain ⟨⟨v0, v1, v2, v3⟩, f0, f1, f2, f3⟩ := cell4 HFX.out
      go_region_law (first
        | (go_simp; go_at_call 25; refine (HKT.out _).mono ?_; rintro r wa ⟨⟨Ac, cc, rfl, hcr⟩, hba⟩
           have hba' : Below w9.heap.size w9 wa := HBX.out.trans ((((Below.refl wx.heap.size wx).drew).trans hba).mono HBX.out.size)
           have hcl := Lib.hid (HTY.out Ac cc wa hba' hcr)
           have HBA := Lib.hid hba'
           obtain ⟨⟨k0, k1, k2, k3⟩, _, _, _, _⟩ := cell4 ((hba'.block _ hlt9).trans HF9.out)
           clear hba hba' hcr)
        | (go_simp; go_at_call 24; refine (hcl.out).mono ?_; rintro r wb ⟨rfl, hbb⟩
           have HBB := Lib.hid (HBA.out.trans (hbb.mono HBA.out.size))
           clear hbb))
      all_goals
        go_wp2_with fail
        go_meet
        exact ⟨rfl, rfl, HBB.out⟩
    case rest =>
    obtain ⟨rfl, rfl, hbx⟩ := hcut
    have HFX : Hid (wc.heap[w6.heap.size]? = some (.cells #[.int .i64 ek, .string es, .int .i64 en, .slice A4 em c4] 35 (0, 0))) := Lib.hid ((hbx.block _ hlt9).trans HF9.out)
    have HBX := Lib.hid hbx
    clear hbx
    go_upto_region 14 with (fail)
    go_cut [21, 22] (fun u v wx => u = .int .i64 yk ∧ v = .int .i64 ye ∧ Below w9.heap.size w9 wx)
    case first =>
      obtain ⟨⟨v0, v1, v2, v3⟩, f0, f1, f2, f3⟩ := cell4 HFX.out
      go_region_law (first
        | (go_simp; go_at_call 25; refine (HKT.out _).mono ?_; rintro r wa ⟨⟨Ac, cc, rfl, hcr⟩, hba⟩
           have hba' : Below w9.heap.size w9 wa := HBX.out.trans ((((Below.refl wc.heap.size wc).drew).trans hba).mono HBX.out.size)
           have hcl := Lib.hid (HTR.out Ac cc wa hba' hcr)
           have HBA := Lib.hid hba'
           obtain ⟨⟨k0, k1, k2, k3⟩, _, _, _, _⟩ := cell4 ((hba'.block _ hlt9).trans HF9.out)
           clear hba hba' hcr)
        | (go_simp; go_at_call 26; refine (hcl.out).mono ?_; rintro r wb ⟨rfl, hbb⟩
           have HBB := Lib.hid (HBA.out.trans (hbb.mono HBA.out.size))
           clear hbb))
      all_goals
        go_wp2_with fail
        go_meet
        exact ⟨rfl, rfl, HBB.out⟩
    case rest =>
    obtain ⟨rfl, rfl, hbx⟩ := hcut
    have HFX : Hid (wc.heap[w6.heap.size]? = some (.cells #[.int .i64 ek, .string es, .int .i64 en, .slice A4 em c4] 35 (0, 0))) := Lib.hid ((hbx.block _ hlt9).trans HF9.out)
    have HBX := Lib.hid hbx
    clear hbx
    obtain ⟨wp, rfl⟩ : ∃ wp, wp = wc := ⟨_, rfl⟩
    go_upto_region 15 with (fail)
    go_cut [23, 24] (fun u v wx => ∃ g, u = .pointer (some ⟨g, 0, none⟩) ∧ v = .int .i64 ve ∧ wp.heap.size ≤ g ∧ wx.heap[g]? = some (.cells #[.int .i64 vk, .int .i64 vn, .string vs] 29 (0, 0)) ∧ Below wp.heap.size wp wx)
    case first =>
      obtain ⟨⟨v0, v1, v2, v3⟩, f0, f1, f2, f3⟩ := cell4 HFX.out
      obtain ⟨⟨l0, l1, l2, l3⟩, _, _, _, _⟩ := cell4 (block_alloc_keep (o' := (.cells #[.int .i64 0, .int .i64 0, .string ⟨#[]⟩] 29)) HFX.out)
      go_region_law (first
        | (go_simp; go_at_call 25; refine (HKT.out _).mono ?_; rintro r wa ⟨⟨Ac, cc, rfl, hcr⟩, hba⟩
           have HCR := Lib.hid hcr
           first
             | (have hba' : Below wp.heap.size wp wa := ((Below.refl wp.heap.size wp).drew).trans hba
                have HBA := Lib.hid hba'
                clear hba')
             | (have hba' : Below wp.heap.size wp wa := (((Below.refl wp.heap.size wp).alloc (Nat.le_refl _) (.cells #[.int .i64 0, .int .i64 0, .string ⟨#[]⟩] 29)).drew).trans (hba.mono (by simp))
                have HBA := Lib.hid hba'
                have HZA := Lib.hid ((hba.block wp.heap.size (by simp)).trans (heap_alloc_new wp (.cells #[.int .i64 0, .int .i64 0, .string ⟨#[]⟩] 29)))
                have HLA : Hid (wp.heap.size < wa.heap.size) := Lib.hid (by have := hba.size; simp at this; omega)
                clear hba')
           have hblk := (HBA.out.block _ (Nat.lt_of_lt_of_le hlt9 HBX.out.size)).trans HFX.out
           obtain ⟨⟨k0, k1, k2, k3⟩, _, _, _, _⟩ := cell4 hblk
           obtain ⟨⟨j0, j1, j2, j3⟩, _, _, _, _⟩ := cell4 (block_alloc_keep (o' := (.cells #[.int .i64 0, .int .i64 0, .string ⟨#[]⟩] 29)) hblk)
           clear hba hcr hblk)
        | (go_simp; go_at_call 13; refine (HEV.out _ _ _ ?h1 ?h2).mono ?_
           case h1 => (first | exact HBX.out.trans (HBA.out.mono HBX.out.size) | exact HBX.out.trans ((HBA.out.alloc HBA.out.size _).mono HBX.out.size))
           case h2 => (first | exact HCR.out | exact (HCR.out.below ((Below.refl wa.heap.size wa).alloc (Nat.le_refl _) _)).more (by simp))
           rintro r wb ⟨rfl, hbb⟩
           first
             | (have HBB : Hid (Below wp.heap.size wp wb) := Lib.hid (HBA.out.trans (hbb.mono HBA.out.size))
                have HZB := Lib.hid ((hbb.block wp.heap.size HLA.out).trans HZA.out)
                have HGB : Hid (wp.heap.size ≤ wp.heap.size) := Lib.hid (Nat.le_refl _)
                obtain ⟨⟨z0, z1, z2⟩, y0, y1, y2⟩ := cell3 HZB.out)
             | (have HBB : Hid (Below wp.heap.size wp wb) := Lib.hid (HBA.out.trans (hbb.mono HBA.out.size))
                skip)
             | (have HBB : Hid (Below wp.heap.size wp wb) := Lib.hid ((HBA.out.alloc HBA.out.size _).trans (hbb.mono (by have := HBA.out.size; simp; omega)))
                have HZB := Lib.hid ((hbb.block wa.heap.size (by simp)).trans (heap_alloc_new wa (.cells #[.int .i64 0, .int .i64 0, .string ⟨#[]⟩] 29)))
                have HGB : Hid (wp.heap.size ≤ wa.heap.size) := Lib.hid HBA.out.size
                obtain ⟨⟨z0, z1, z2⟩, y0, y1, y2⟩ := cell3 HZB.out)
           clear hbb))
      all_goals
        go_wp2_with fail
        go_meet
        first
          | exact ⟨_, rfl, rfl, HGB.out, put3_block HZB.out, put3_below HBB.out HGB.out⟩
          | exact ⟨_, rfl, rfl, HBB.out.size, heap_alloc_new wb _, HBB.out.alloc HBB.out.size _⟩
    case rest =>
    obtain ⟨g1, rfl, rfl, hge1, hg1, hbx⟩ := hcut
    have HFX : Hid (wc.heap[w6.heap.size]? = some (.cells #[.int .i64 ek, .string es, .int .i64 en, .slice A4 em c4] 35 (0, 0))) := Lib.hid ((hbx.block _ (Nat.lt_of_lt_of_le hlt9 HBX.out.size)).trans HFX.out)
    have HBX : Hid (Below w9.heap.size w9 wc) := Lib.hid (HBX.out.trans (hbx.mono HBX.out.size))
    have HV1 := Lib.hid hg1
    have hl1 : g1 < wc.heap.size := by
      rcases Nat.lt_or_ge g1 wc.heap.size with h | h
      · exact h
      · rw [Array.getElem?_eq_none h] at hg1; cases hg1
    clear hbx hg1 hge1
    obtain ⟨wq, rfl⟩ : ∃ wq, wq = wc := ⟨_, rfl⟩
    go_upto_region 16 with (fail)
    go_cut [25, 26] (fun u v wx => ∃ g, u = .pointer (some ⟨g, 0, none⟩) ∧ v = .int .i64 ve ∧ wq.heap.size ≤ g ∧ wx.heap[g]? = some (.cells #[.int .i64 vk, .int .i64 vn, .string vs] 29 (0, 0)) ∧ Below wq.heap.size wq wx)
    case first =>
      obtain ⟨⟨v0, v1, v2, v3⟩, f0, f1, f2, f3⟩ := cell4 HFX.out
      obtain ⟨⟨l0, l1, l2, l3⟩, _, _, _, _⟩ := cell4 (block_alloc_keep (o' := (.cells #[.int .i64 0, .int .i64 0, .string ⟨#[]⟩] 29)) HFX.out)
      go_region_law (first
        | (go_simp; go_at_call 25; refine (HKT.out _).mono ?_; rintro r wa ⟨⟨Ac, cc, rfl, hcr⟩, hba⟩
           have HCR := Lib.hid hcr
           first
             | (have hba' : Below wq.heap.size wq wa := ((Below.refl wq.heap.size wq).drew).trans hba
                have HBA := Lib.hid hba'
                clear hba')
             | (have hba' : Below wq.heap.size wq wa := (((Below.refl wq.heap.size wq).alloc (Nat.le_refl _) (.cells #[.int .i64 0, .int .i64 0, .string ⟨#[]⟩] 29)).drew).trans (hba.mono (by simp))
                have HBA := Lib.hid hba'
                have HZA := Lib.hid ((hba.block wq.heap.size (by simp)).trans (heap_alloc_new wq (.cells #[.int .i64 0, .int .i64 0, .string ⟨#[]⟩] 29)))
                have HLA : Hid (wq.heap.size < wa.heap.size) := Lib.hid (by have := hba.size; simp at this; omega)
                clear hba')
           have hblk := (HBA.out.block _ (Nat.lt_of_lt_of_le hlt9 HBX.out.size)).trans HFX.out
           obtain ⟨⟨k0, k1, k2, k3⟩, _, _, _, _⟩ := cell4 hblk
           obtain ⟨⟨j0, j1, j2, j3⟩, _, _, _, _⟩ := cell4 (block_alloc_keep (o' := (.cells #[.int .i64 0, .int .i64 0, .string ⟨#[]⟩] 29)) hblk)
           clear hba hcr hblk)
        | (go_simp; go_at_call 27; refine (HRE.out _ _ _ ?h1 ?h2).mono ?_
           case h1 => (first | exact HBX.out.trans (HBA.out.mono HBX.out.size) | exact HBX.out.trans ((HBA.out.alloc HBA.out.size _).mono HBX.out.size))
           case h2 => (first | exact HCR.out | exact (HCR.out.below ((Below.refl wa.heap.size wa).alloc (Nat.le_refl _) _)).more (by simp))
           rintro r wb ⟨rfl, hbb⟩
           first
             | (have HBB : Hid (Below wq.heap.size wq wb) := Lib.hid (HBA.out.trans (hbb.mono HBA.out.size))
                have HZB := Lib.hid ((hbb.block wq.heap.size HLA.out).trans HZA.out)
                have HGB : Hid (wq.heap.size ≤ wq.heap.size) := Lib.hid (Nat.le_refl _)
                obtain ⟨⟨z0, z1, z2⟩, y0, y1, y2⟩ := cell3 HZB.out)
             | (have HBB : Hid (Below wq.heap.size wq wb) := Lib.hid (HBA.out.trans (hbb.mono HBA.out.size))
                skip)
             | (have HBB : Hid (Below wq.heap.size wq wb) := Lib.hid ((HBA.out.alloc HBA.out.size _).trans (hbb.mono (by have := HBA.out.size; simp; omega)))
                have HZB := Lib.hid ((hbb.block wa.heap.size (by simp)).trans (heap_alloc_new wa (.cells #[.int .i64 0, .int .i64 0, .string ⟨#[]⟩] 29)))
                have HGB : Hid (wq.heap.size ≤ wa.heap.size) := Lib.hid HBA.out.size
                obtain ⟨⟨z0, z1, z2⟩, y0, y1, y2⟩ := cell3 HZB.out)
           clear hbb))
      all_goals
        go_wp2_with fail
        go_meet
        first
          | exact ⟨_, rfl, rfl, HGB.out, put3_block HZB.out, put3_below HBB.out HGB.out⟩
          | exact ⟨_, rfl, rfl, HBB.out.size, heap_alloc_new wb _, HBB.out.alloc HBB.out.size _⟩
    case rest =>
    obtain ⟨g2, rfl, rfl, hge2, hg2, hbx⟩ := hcut
    have HBX : Hid (Below w9.heap.size w9 wc) := Lib.hid (HBX.out.trans (hbx.mono HBX.out.size))
    have HV2 := Lib.hid hg2
    have HV3 := Lib.hid ((hbx.block _ hl1).trans HV1.out)
    obtain ⟨⟨v0, v1, v2⟩, _, _, _⟩ := cell3 hg2
    obtain ⟨⟨u0, u1, u2⟩, _, _, _⟩ := cell3 HV3.out
    have hyk : (yk == yk) = true := by simp
    have hye : (ye == ye) = true := by simp
    have hve : (ve == ve) = true := by simp
    clear hbx hg2 hge2
    go_wp2_with fail
    refine (known8_any _).mono ?_
    rintro r wz ⟨rfl, hbz⟩
    have HBZ := Lib.hid (HB9.out.trans ((HBX.out.trans (hbz.mono HBX.out.size)).mono HB9.out.size))
    clear hbz
    go_wp2_with fail
    go_ret
    exact ⟨rfl, HBZ.out⟩
  · have hy : (why != 0) = true := by simpa using hy0
    have HK := Lib.hid (fun w => known8_any w)
    clear HX HRG HRD HRR HOU
    go_wp2_with fail
    refine (HK.out _).mono ?_
    rintro e2 w2 ⟨rfl, hb2⟩
    go_wp2_with fail
    go_ret
    exact ⟨rfl, HB1.out.trans ((((Below.refl w1.heap.size w1).alloc (Nat.le_refl _) _).trans (hb2.mono (by simp))).mono HB1.out.size)⟩
end Go.Proofs.Ytldleckgkgeclaa
