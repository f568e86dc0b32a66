/-
  ExprSound: what has a type gives a right value of its kind, or is refused; it hangs on the columns alone that are named.
-/
import Derived.Test.YtldleckgkgeclaaMb33
import Derived.Test.YtldleckgkgeclaaMb7
import Derived.Deep.DeepCutAuto
import Derived.Deep.RegionLaw
set_option linter.unusedVariables false
set_option linter.unusedSimpArgs false
namespace Go.Proofs.Ytldleckgkgeclaa
open Go.RowKit
theorem block_alloc_keep {w : World} {k : Nat} {o o' : Obj} (h : w.heap[k]? = some o) : (w.alloc o').heap[k]? = some o := by
  have hlt : k < w.heap.size := by
    rcases Nat.lt_or_ge k w.heap.size with h' | h'
    · exact h'
    · rw [Array.getElem?_eq_none h'] at h; cases h
  exact (((Below.refl w.heap.size w).alloc (Nat.le_refl _) o').block k hlt).trans h
theorem setc {w : World} {g k : Nat} {arr : Array Value} {u : Value} {t : TypeId} (h : w.heap[g]? = some (.cells arr t (0, 0))) : (w.setCell ⟨g, k, none⟩ u).heap[g]? = some (.cells (arr.set! k u) t (0, 0)) := by
  show (w.heap.modify g _)[g]? = _
  rw [Array.getElem?_modify]
  simp [h]
theorem cell9 {w : World} {g : Nat} {a b c d e f x y z : Value} {t : TypeId} (h : w.heap[g]? = some (.cells #[a, b, c, d, e, f, x, y, z] t (0, 0))) :
    (w.cell? ⟨g, 0, none⟩ = some a ∧ w.cell? ⟨g, 1, none⟩ = some b ∧ w.cell? ⟨g, 2, none⟩ = some c ∧ w.cell? ⟨g, 3, none⟩ = some d ∧ w.cell? ⟨g, 4, none⟩ = some e ∧ w.cell? ⟨g, 5, none⟩ = some f) ∧
    w.frozen? ⟨g, 0, none⟩ = false ∧ w.frozen? ⟨g, 1, none⟩ = false ∧ w.frozen? ⟨g, 2, none⟩ = false ∧ w.frozen? ⟨g, 3, none⟩ = false ∧ w.frozen? ⟨g, 4, none⟩ = false ∧ w.frozen? ⟨g, 5, none⟩ = false := by
  simp [World.cell?, World.frozen?, h]
theorem EKids.old {w w' : World} {B : Nat} {A : Option Addr} {l : List E} (h : EKids w B A l) (hb : ∀ k, k < B → w'.heap[k]? = w.heap[k]?) : EKids w' B A l := by
  induction h with
  | nil A => exact .nil A
  | mk b off l hn hlt A c h hk ih =>
    refine .mk b off l hn hlt A c (fun i e he => ?_) (fun i e he => ih i e he)
    have hc : ∀ o, w'.cell? ⟨b, o, none⟩ = w.cell? ⟨b, o, none⟩ := fun o => World.cell?_of_block (hb b hlt)
    obtain ⟨h1, h2, h3, h4⟩ := h i e he
    exact ⟨(hc _).trans h1, (hc _).trans h2, (hc _).trans h3, (hc _).trans h4⟩
set_option maxRecDepth 100000 in
set_option maxHeartbeats 20000000 in
theorem exprSound_any (s : ByteArray) (a b c0 : Int) (x : ByteArray) (a1 : -9223372036854775808 ≤ a) (a2 : a ≤ 9223372036854775807) (b1 : -9223372036854775808 ≤ b) (b2 : b ≤ 9223372036854775807) (c1 : -9223372036854775808 ≤ c0) (c2 : c0 ≤ 9223372036854775807) (W : World) :
    Calls Try.prog 9 #[.string s, .int .i64 a, .int .i64 b, .int .i64 c0, .string x] W fun e W' => e = .returned (.bool true) ∧ Below W.heap.size W W' := by
  go_enter Try.func9, Try.ntmps9
  go_upto_if 30 with (fail)
  go_cut [0] (fun v wx => (∃ s' : ByteArray, s'.size ≤ 600 ∧ v = .string s') ∧ wx = W)
  case first =>
    cases h6 : decide (600 < (s.size : Int))
    · have h6' : s.size ≤ 600 := by simp at h6; omega
      go_wp2_with fail
      go_meet
      exact ⟨⟨s, h6', rfl⟩, rfl⟩
    · have h6' : 600 ≤ s.size := by simp at h6; omega
      go_wp2_with fail
      go_meet
      exact ⟨⟨_, by simp only [ByteArray.size_extract]; omega, rfl⟩, rfl⟩
  case rest =>
  obtain ⟨⟨s', hs', rfl⟩, hwc⟩ := hcut
  obtain rfl : W = wc := hwc.symm
  clear hwc
  go_upto_if 35 with (fail)
  go_cut [4] (fun v wx => (∃ x' : ByteArray, x'.size ≤ 40 ∧ v = .string x') ∧ wx = W)
  case first =>
    cases h6 : decide (40 < (x.size : Int))
    · have h6' : x.size ≤ 40 := by simp at h6; omega
      go_wp2_with fail
      go_meet
      exact ⟨⟨x, h6', rfl⟩, rfl⟩
    · have h6' : 40 ≤ x.size := by simp at h6; omega
      go_wp2_with fail
      go_meet
      exact ⟨⟨_, by simp only [ByteArray.size_extract]; omega, rfl⟩, rfl⟩
  case rest =>
  obtain ⟨⟨x', hx', rfl⟩, hwc⟩ := hcut
  obtain rfl : W = wc := hwc.symm
  clear hwc
  go_wp2_with fail
  refine (read7_deep s' W).mono ?_
  rintro e w1 ⟨⟨t, A, c, why, at_, rfl, ⟨hg, hdeep⟩, hc, hX⟩, hb1⟩
  have HUF := Lib.hid (uses_few t 13 hdeep)
  have HFW := Lib.hid (good_few t hg)
  have HRG := Lib.hid (read_good t hg)
  have HRD := Lib.hid (fun A c w hc h => read_any t A c w hc h)
  have HOU := Lib.hid (fun A c w hc h => out_any t HFW.out A c w hc h)
  have HB1 := Lib.hid hb1
  have HX := Lib.hid hX
  clear hX hb1 hg hdeep HFW
  obtain ⟨q, hq⟩ : ∃ q, q = readT t := ⟨_, rfl⟩
  rw [← hq] at HRG HRD HUF
  clear hq
  obtain ⟨e, ey, ea⟩ := q
  obtain ⟨tk, ts, tn, tl, ta⟩ := t
  simp only [T.val, T.k, T.s, T.n, T.kids, T.at_] at hc HX HRD HOU ⊢
  generalize tl.length = tm at *
  by_cases hy0 : why = 0
  · subst hy0
    go_upto_region 8 with (fail)
    obtain ⟨w2, ew2⟩ : ∃ w2, w2 = w1.alloc (.cells #[.int .i64 tk, .string ts, .int .i64 tn, .slice A tm c, .int .i64 ta] 49) := ⟨_, rfl⟩
    have hb2 : Below w1.heap.size w1 w2 := by rw [ew2]; exact (Below.refl _ _).alloc (Nat.le_refl _) _
    have hs2 : w2.heap.size = w1.heap.size + 1 := by rw [ew2]; simp
    have hs1 := HB1.out.size
    have HT2 : Hid (w2.heap[w1.heap.size]? = some (.cells #[.int .i64 tk, .string ts, .int .i64 tn, .slice A tm c, .int .i64 ta] 49 (0, 0))) := Lib.hid (by rw [ew2]; exact heap_alloc_new w1 _)
    have HK2 : Hid (TKids w2 w2.heap.size A tl) := Lib.hid (((HX.out.to fun k hk => hk.2).low hb2).more hb2.size)
    have HB2 := Lib.hid (HB1.out.trans (hb2.mono hs1))
    rw [← ew2]
    clear ew2 hb2 HX HB1
    have hcl := Lib.hid (HOU.out A c w2 hc HK2.out)
    obtain ⟨⟨u0, u1, u2, u3, u4⟩, g0, g1, g2, g3, g4⟩ := cell5 HT2.out
    clear HOU
    go_wp2_with fail
    refine (hcl.out).mono ?_
    rintro r w3 ⟨⟨A', c', rfl, hc', hX'⟩, hb3⟩
    have hs3 := hb3.size
    have HT3 : Hid (w3.heap[w1.heap.size]? = some (.cells #[.int .i64 tk, .string ts, .int .i64 tn, .slice A tm c, .int .i64 ta] 49 (0, 0))) := Lib.hid ((hb3.block _ (by omega)).trans HT2.out)
    have HK3 : Hid (TKids w3 w3.heap.size A tl) := Lib.hid ((HK2.out.low hb3).more hb3.size)
    have HB3 := Lib.hid (HB2.out.trans (hb3.mono (by omega)))
    replace hcl := Lib.hid (HRD.out A' c' w3 hc' (hX'.to fun k hk => hk.2))
    clear hX' hb3 HT2 HK2 HB2 HRD u0 u1 u2 u3 u4 g0 g1 g2 g3 g4
    obtain ⟨ek, es, en, el⟩ := e
    simp only [E.val, E.k, E.s, E.n, E.kids] at hcl
    obtain ⟨em, eem⟩ : ∃ em, em = el.length := ⟨_, rfl⟩
    have HEM := Lib.hid eem
    rw [← eem] at hcl
    clear eem
    go_wp2_with fail
    refine (hcl.out).mono ?_
    rintro r w4 ⟨⟨A3, c3, rfl, hX3⟩, hb4⟩
    have hs4 := hb4.size
    go_upto_region 9 with (fail)
    obtain ⟨w5, ew5⟩ : ∃ w5, w5 = w4.alloc (.cells #[.int .i64 ek, .string es, .int .i64 en, .slice A3 em c3] 35) := ⟨_, rfl⟩
    have hb5 : Below w4.heap.size w4 w5 := by rw [ew5]; exact (Below.refl _ _).alloc (Nat.le_refl _) _
    have hs5 : w5.heap.size = w4.heap.size + 1 := by rw [ew5]; simp
    have HF5 : Hid (w5.heap[w4.heap.size]? = some (.cells #[.int .i64 ek, .string es, .int .i64 en, .slice A3 em c3] 35 (0, 0))) := Lib.hid (by rw [ew5]; exact heap_alloc_new w4 _)
    have hb35 : Below w3.heap.size w3 w5 := hb4.trans (hb5.mono hs4)
    have HX4 := Lib.hid (hX3.to fun k hk => hk.2)
    have HB45 := Lib.hid hb5
    have HX5 : Hid (EKids w5 w5.heap.size A3 el) := Lib.hid (((hX3.to fun k hk => hk.2).low hb5).more hb5.size)
    have HB5 := Lib.hid (HB3.out.trans (hb35.mono (by omega)))
    rw [← ew5]
    clear ew5 hb5 hX3 hb4 hb35 HT3 HK3 HB3 hcl
    have HK := Lib.hid (fun w => known8_any w)
    by_cases hey0 : ey = 0
    case neg =>
      have hey : (ey != 0) = true := by simpa using hey0
      clear HF5 HX5 HRG HUF
      go_wp2_with fail
      refine (HK.out _).mono ?_
      rintro r wz ⟨rfl, hbz⟩
      have HBZ := Lib.hid (HB5.out.trans (hbz.mono HB5.out.size))
      clear hbz
      go_wp2_with fail
      go_ret
      exact ⟨rfl, HBZ.out⟩
    case pos =>
    subst hey0
    go_wp2_with fail
    refine (keep_num a _).mono ?_
    rintro r wz ⟨rfl, rfl⟩
    go_wp2_with fail
    refine (keep_num b _).mono ?_
    rintro r wz ⟨rfl, rfl⟩
    go_wp2_with fail
    refine (keep_str x' _).mono ?_
    rintro r wz ⟨rfl, rfl⟩
    go_upto_region 12 with (fail)
    obtain ⟨rb, hrb⟩ : ∃ rb, rb = w4.heap.size + 1 + 1 + 1 + 1 := ⟨_, rfl⟩
    obtain ⟨wk, ewk⟩ : ∃ wk, wk = ((w5.alloc (.cells #[.int .i64 1, .int .i64 a, .string ⟨#[]⟩] 29)).alloc (.cells #[.int .i64 1, .int .i64 b, .string ⟨#[]⟩] 29)).alloc (.cells #[.int .i64 2, .int .i64 0, .string x'] 29) := ⟨_, rfl⟩
    have hbk : Below w5.heap.size w5 wk := by rw [ewk]; exact (((Below.refl _ _).alloc (Nat.le_refl _) _).alloc (by simp) _).alloc (by simp; omega) _
    have hsk : wk.heap.size = rb := by rw [ewk, hrb]; simp only [World.size_alloc]; omega
    obtain ⟨w9, ew9⟩ : ∃ w9, w9 = wk.alloc (.cells #[.int .i64 1, .int .i64 a, .string ⟨#[]⟩, .int .i64 1, .int .i64 b, .string ⟨#[]⟩, .int .i64 2, .int .i64 0, .string x'] 29) := ⟨_, rfl⟩
    have hbk9 : Below wk.heap.size wk w9 := by rw [ew9]; exact (Below.refl _ _).alloc (Nat.le_refl _) _
    have hs9 : w9.heap.size = rb + 1 := by rw [ew9]; simp; omega
    have hr9 : w9.heap[rb]? = some (.cells #[.int .i64 1, .int .i64 a, .string ⟨#[]⟩, .int .i64 1, .int .i64 b, .string ⟨#[]⟩, .int .i64 2, .int .i64 0, .string x'] 29 (0, 0)) := by rw [ew9, ← hsk]; exact heap_alloc_new wk _
    have hb9 : Below w5.heap.size w5 w9 := hbk.trans (hbk9.mono hbk.size)
    have HR9 := Lib.hid hr9
    have HF9 : Hid (w9.heap[w4.heap.size]? = some (.cells #[.int .i64 ek, .string es, .int .i64 en, .slice A3 em c3] 35 (0, 0))) := Lib.hid ((hb9.block _ (by omega)).trans HF5.out)
    have HKL : Hid (EKids w9 w4.heap.size A3 el) := Lib.hid ((HX4.out.low (B := w4.heap.size) HB45.out).low (hb9.mono (by omega)))
    have HY9 : Hid (EKids w9 w9.heap.size A3 el) := Lib.hid ((HX5.out.low hb9).more hb9.size)
    have HB9 := Lib.hid (HB5.out.trans (hb9.mono (by omega)))
    have hlt9 : w4.heap.size < w9.heap.size := by have := hb9.size; omega
    have hwr : W.heap.size ≤ rb := by have := HB5.out.size; omega
    have hl4 : w4.heap.size < rb := by omega
    rw [← hrb, ← ewk, ← ew9]
    clear ewk hbk ew9 hbk9 hr9 hb9 HF5 HX5 HB5 hsk hrb wk
    have HFI := Lib.hid HRG.out.1
    have HTX := Lib.hid HRG.out.2.1
    have HMD := Lib.hid (HRG.out.2.2.1 rfl)
    simp only at HFI HTX HMD
    have HTY : Hid (∀ Ac cc wa, Below w9.heap.size w9 wa → CRow wa wa.heap.size Ac tCols → Calls Try.prog 24 #[.agg #[.int .i64 ek, .string es, .int .i64 en, .slice A3 em c3], .slice Ac 3 cc] wa fun r w' => r = .returned (.tuple #[.int .i64 (typeTop tCols (.mk ek es en el)).1, .int .i64 (typeTop tCols (.mk ek es en el)).2]) ∧ Below wa.heap.size wa w') := Lib.hid (fun Ac cc wa h hc => by
      have := type_any tCols (by decide) (.mk ek es en el) A3 Ac c3 cc wa ((HY9.out.low h).more h.size) hc
      simp only [E.val, E.k, E.s, E.n, E.kids] at this
      rw [← HEM.out] at this
      exact this)
    have HEW : Hid (∀ (p q : Bool) Ac cc wa, EKids wa wa.heap.size A3 el → CRow wa wa.heap.size Ac tCols → VRow wa wa.heap.size (some ⟨rb, 0, none⟩) (turned a b c0 x' p q) → Calls Try.prog 13 #[.agg #[.int .i64 ek, .string es, .int .i64 en, .slice A3 em c3], .slice Ac 3 cc, .slice (some ⟨rb, 0, none⟩) 3 3] wa fun r w' => r = .returned (.tuple #[.agg #[.int .i64 (evalTop tCols (turned a b c0 x' p q) (.mk ek es en el)).1.k, .int .i64 (evalTop tCols (turned a b c0 x' p q) (.mk ek es en el)).1.n, .string (evalTop tCols (turned a b c0 x' p q) (.mk ek es en el)).1.s], .int .i64 (evalTop tCols (turned a b c0 x' p q) (.mk ek es en el)).2]) ∧ Below wa.heap.size wa w') := Lib.hid (fun p q Ac cc wa hk hc hr => by
      have hn : rowN (turned a b c0 x' p q) := by rw [turned_row]; cases p <;> cases q <;> exact rowN_three (by first | exact a1 | exact c1) (by first | exact a2 | exact c2) (by first | exact b1 | exact c1) (by first | exact b2 | exact c2) x'
      have hl : (turned a b c0 x' p q).length = 3 := rfl
      have := evalTop_any tCols (turned a b c0 x' p q) (by decide) (by rw [hl]; decide) hn (.mk ek es en el) HFI.out A3 Ac (some ⟨rb, 0, none⟩) c3 cc 3 wa hk hc hr
      simp only [E.val, E.k, E.s, E.n, E.kids] at this
      rw [← HEM.out, hl] at this
      exact this)
    have HVR : Hid (∀ (p q : Bool) (wa : World), wa.heap[rb]? = some (.cells #[.int .i64 1, .int .i64 (if p then a else c0), .string ⟨#[]⟩, .int .i64 1, .int .i64 (if q then b else c0), .string ⟨#[]⟩, .int .i64 2, .int .i64 0, .string x'] 29 (0, 0)) → VRow wa wa.heap.size (some ⟨rb, 0, none⟩) (turned a b c0 x' p q)) := Lib.hid (fun p q wa h => by
      have hlt : rb < wa.heap.size := by
        rcases Nat.lt_or_ge rb wa.heap.size with h' | h'
        · exact h'
        · rw [Array.getElem?_eq_none h'] at h; cases h
      rw [turned_row]
      refine .inr ⟨rb, 0, rfl, hlt, ?_⟩
      intro i y hy
      match i, hy with
      | 0, hy => simp at hy; subst hy; simp [World.cell?, h, numV]
      | 1, hy => simp at hy; subst hy; simp [World.cell?, h, numV]
      | 2, hy => simp at hy; subst hy; simp [World.cell?, h, strV])
    obtain ⟨hN0, hS0⟩ := top_facts (a := a) (b := b) (c := c0) hx' HMD.out HTX.out
    have HN := Lib.hid hN0
    have HS := Lib.hid hS0
    have HEV : Hid (∀ Ac cc wa, Below w9.heap.size w9 wa → CRow wa wa.heap.size Ac tCols → Calls Try.prog 13 #[.agg #[.int .i64 ek, .string es, .int .i64 en, .slice A3 em c3], .slice Ac 3 cc, .slice (some ⟨rb, 0, none⟩) 3 3] wa fun r w' => r = .returned (.tuple #[.agg #[.int .i64 (evalTop tCols (turned a b c0 x' true true) (.mk ek es en el)).1.k, .int .i64 (evalTop tCols (turned a b c0 x' true true) (.mk ek es en el)).1.n, .string (evalTop tCols (turned a b c0 x' true true) (.mk ek es en el)).1.s], .int .i64 (evalTop tCols (turned a b c0 x' true true) (.mk ek es en el)).2]) ∧ Below wa.heap.size wa w') := Lib.hid (fun Ac cc wa h hc => HEW.out true true Ac cc wa ((HY9.out.low h).more h.size) hc (HVR.out true true wa ((h.block _ (by omega)).trans HR9.out)))
    have HUS : Hid (∀ wa, EKids wa wa.heap.size A3 el → Calls Try.prog 38 #[.agg #[.int .i64 ek, .string es, .int .i64 en, .slice A3 em c3]] wa fun r w' => (∃ (A' : Option Addr) (c' : Nat) (us : List ByteArray), r = .returned (.slice A' us.length c') ∧ us.length ≤ 2000000000000 ∧ URow w' wa.heap.size A' us ∧ ∀ x ∈ usesE (.mk ek es en el), x ∈ us) ∧ Below wa.heap.size wa w') := Lib.hid (fun wa hk => by
      have h4 : (usesE (.mk ek es en el)).length ≤ 4 ^ 13 := HUF.out
      have := usesTop_any (.mk ek es en el) (Nat.le_trans h4 (by decide)) A3 c3 wa hk
      simp only [E.val, E.k, E.s, E.n, E.kids] at this
      rw [← HEM.out] at this
      exact this)
    have HKT := Lib.hid (fun w => keepT w)
    obtain ⟨EV, hEV⟩ : ∃ EV : Bool → Bool → V × Int, EV = fun p q => evalTop tCols (turned a b c0 x' p q) (.mk ek es en el) := ⟨_, rfl⟩
    have hEVe : ∀ p q, evalTop tCols (turned a b c0 x' p q) (.mk ek es en el) = EV p q := fun p q => by rw [hEV]
    simp only [hEVe] at HEV HEW HN HS
    obtain ⟨US, hUS⟩ : ∃ US, US = usesE (.mk ek es en el) := ⟨_, rfl⟩
    rw [← hUS] at HUS HS
    generalize typeTop tCols (.mk ek es en el) = ty at *
    obtain ⟨v0, hv0⟩ : ∃ v0, EV true true = v0 := ⟨_, rfl⟩
    rw [hv0] at HEV HN HS
    have HV0 := Lib.hid hv0
    obtain ⟨yk, ye⟩ := ty
    obtain ⟨⟨vk, vn, vs⟩, ve⟩ := v0
    simp only at HTY HEV HN HS
    have hrlt : rb < w9.heap.size := by omega
    clear HRG HFI HTX HMD HEM HUF hEV hEVe hUS hv0 hN0 hS0 hs9 hs5 hs4 hs3 hs2 hs1 hx' hs'
    obtain ⟨wx, ewx⟩ : ∃ wx, wx = w9 := ⟨_, rfl⟩
    have HFX : Hid (wx.heap[w4.heap.size]? = some (.cells #[.int .i64 ek, .string es, .int .i64 en, .slice A3 em c3] 35 (0, 0))) := Lib.hid (by rw [ewx]; exact HF9.out)
    have HBX : Hid (Below w9.heap.size w9 wx) := Lib.hid (by rw [ewx]; exact Below.refl _ _)
    rw [← ewx]
    clear ewx
    go_upto_region 12 with (fail)
    go_cut [18, 19] (fun u v wx => u = .int .i64 yk ∧ v = .int .i64 ye ∧ Below w9.heap.size w9 wx)
    case first =>
      obtain ⟨⟨v0, v1, v2, v3⟩, f0, f1, f2, f3⟩ := cell4 HFX.out
      go_region_law (first
        | (go_simp; go_at_call 25; refine (HKT.out _).mono ?_; rintro r wa ⟨⟨Ac, cc, rfl, hcr⟩, hba⟩
           have hba' : Below w9.heap.size w9 wa := HBX.out.trans ((((Below.refl wx.heap.size wx).drew).trans hba).mono HBX.out.size)
           have hcl := Lib.hid (HTY.out Ac cc wa hba' hcr)
           have HBA := Lib.hid hba'
           obtain ⟨⟨k0, k1, k2, k3⟩, _, _, _, _⟩ := cell4 ((hba'.block _ hlt9).trans HF9.out)
           clear hba hba' hcr)
        | (go_simp; go_at_call 24; refine (hcl.out).mono ?_; rintro r wb ⟨rfl, hbb⟩
           have HBB := Lib.hid (HBA.out.trans (hbb.mono HBA.out.size))
           clear hbb))
      all_goals
        go_wp2_with fail
        go_meet
        exact ⟨rfl, rfl, HBB.out⟩
    case rest =>
    obtain ⟨rfl, rfl, hbx⟩ := hcut
    have HFX : Hid (wc.heap[w4.heap.size]? = some (.cells #[.int .i64 ek, .string es, .int .i64 en, .slice A3 em c3] 35 (0, 0))) := Lib.hid ((hbx.block _ hlt9).trans HF9.out)
    have HBX := Lib.hid hbx
    clear hbx
    obtain ⟨wp, rfl⟩ : ∃ wp, wp = wc := ⟨_, rfl⟩
    go_upto_region 13 with (fail)
    go_cut [20, 21] (fun u v wx => ∃ g, u = .pointer (some ⟨g, 0, none⟩) ∧ v = .int .i64 ve ∧ wp.heap.size ≤ g ∧ wx.heap[g]? = some (.cells #[.int .i64 vk, .int .i64 vn, .string vs] 29 (0, 0)) ∧ Below wp.heap.size wp wx)
    case first =>
      as_aux_lemma =>
        obtain ⟨⟨v0, v1, v2, v3⟩, f0, f1, f2, f3⟩ := cell4 HFX.out
        obtain ⟨⟨l0, l1, l2, l3⟩, _, _, _, _⟩ := cell4 (block_alloc_keep (o' := (.cells #[.int .i64 0, .int .i64 0, .string ⟨#[]⟩] 29)) HFX.out)
        go_region_law (first
          | (go_simp; go_at_call 25; refine (HKT.out _).mono ?_; rintro r wa ⟨⟨Ac, cc, rfl, hcr⟩, hba⟩
             have HCR := Lib.hid hcr
             first
               | (have hba' : Below wp.heap.size wp wa := ((Below.refl wp.heap.size wp).drew).trans hba
                  have HBA := Lib.hid hba'
                  clear hba')
               | (have hba' : Below wp.heap.size wp wa := (((Below.refl wp.heap.size wp).alloc (Nat.le_refl _) (.cells #[.int .i64 0, .int .i64 0, .string ⟨#[]⟩] 29)).drew).trans (hba.mono (by simp))
                  have HBA := Lib.hid hba'
                  have HZA := Lib.hid ((hba.block wp.heap.size (by simp)).trans (heap_alloc_new wp (.cells #[.int .i64 0, .int .i64 0, .string ⟨#[]⟩] 29)))
                  have HLA : Hid (wp.heap.size < wa.heap.size) := Lib.hid (by have := hba.size; simp at this; omega)
                  clear hba')
             have hblk := (HBA.out.block _ (Nat.lt_of_lt_of_le hlt9 HBX.out.size)).trans HFX.out
             obtain ⟨⟨k0, k1, k2, k3⟩, _, _, _, _⟩ := cell4 hblk
             obtain ⟨⟨j0, j1, j2, j3⟩, _, _, _, _⟩ := cell4 (block_alloc_keep (o' := (.cells #[.int .i64 0, .int .i64 0, .string ⟨#[]⟩] 29)) hblk)
             clear hba hcr hblk)
          | (go_simp; go_at_call 13; refine (HEV.out _ _ _ ?h1 ?h2).mono ?_
             case h1 => (first | exact HBX.out.trans (HBA.out.mono HBX.out.size) | exact HBX.out.trans ((HBA.out.alloc HBA.out.size _).mono HBX.out.size))
             case h2 => (first | exact HCR.out | exact (HCR.out.below ((Below.refl wa.heap.size wa).alloc (Nat.le_refl _) _)).more (by simp))
             rintro r wb ⟨rfl, hbb⟩
             first
               | (have HBB : Hid (Below wp.heap.size wp wb) := Lib.hid (HBA.out.trans (hbb.mono HBA.out.size))
                  have HZB := Lib.hid ((hbb.block wp.heap.size HLA.out).trans HZA.out)
                  have HGB : Hid (wp.heap.size ≤ wp.heap.size) := Lib.hid (Nat.le_refl _)
                  obtain ⟨⟨z0, z1, z2⟩, y0, y1, y2⟩ := cell3 HZB.out)
               | (have HBB : Hid (Below wp.heap.size wp wb) := Lib.hid (HBA.out.trans (hbb.mono HBA.out.size))
                  skip)
               | (have HBB : Hid (Below wp.heap.size wp wb) := Lib.hid ((HBA.out.alloc HBA.out.size _).trans (hbb.mono (by have := HBA.out.size; simp; omega)))
                  have HZB := Lib.hid ((hbb.block wa.heap.size (by simp)).trans (heap_alloc_new wa (.cells #[.int .i64 0, .int .i64 0, .string ⟨#[]⟩] 29)))
                  have HGB : Hid (wp.heap.size ≤ wa.heap.size) := Lib.hid HBA.out.size
                  obtain ⟨⟨z0, z1, z2⟩, y0, y1, y2⟩ := cell3 HZB.out)
             clear hbb))
        all_goals
          go_wp2_with fail
          go_meet
          first
            | exact ⟨_, rfl, rfl, HGB.out, put3_block HZB.out, put3_below HBB.out HGB.out⟩
            | exact ⟨_, rfl, rfl, HBB.out.size, heap_alloc_new wb _, HBB.out.alloc HBB.out.size _⟩
    case rest =>
    obtain ⟨g1, rfl, rfl, hge1, hg1, hbx⟩ := hcut
    have hge9 : w9.heap.size ≤ g1 := Nat.le_trans HBX.out.size hge1
    have HFX : Hid (wc.heap[w4.heap.size]? = some (.cells #[.int .i64 ek, .string es, .int .i64 en, .slice A3 em c3] 35 (0, 0))) := Lib.hid ((hbx.block _ (Nat.lt_of_lt_of_le hlt9 HBX.out.size)).trans HFX.out)
    have HBX : Hid (Below w9.heap.size w9 wc) := Lib.hid (HBX.out.trans (hbx.mono HBX.out.size))
    have HV1 := Lib.hid hg1
    have hg9 : w9.heap.size ≤ g1 := hge9
    have hl1 : g1 < wc.heap.size := by
      rcases Nat.lt_or_ge g1 wc.heap.size with h | h
      · exact h
      · rw [Array.getElem?_eq_none h] at hg1; cases hg1
    clear hbx hg1 hge1
    by_cases hp0 : ye = 0
    case neg =>
      have hp : (ye != 0) = true := by simpa using hp0
      have hz := HN.out hp0
      simp only [Prod.mk.injEq, zeroV, V.mk.injEq] at hz
      obtain ⟨⟨rfl, rfl, rfl⟩, rfl⟩ := hz
      clear HS HN HEV HEW HUS HTY HVR HKT hp0
      obtain ⟨⟨v0, v1, v2⟩, _, _, _⟩ := cell3 HV1.out
      go_wp2_with fail
      refine (HK.out _).mono ?_
      rintro r wz ⟨rfl, hbz⟩
      have HBZ := Lib.hid (HB9.out.trans ((HBX.out.trans (hbz.mono HBX.out.size)).mono HB9.out.size))
      clear hbz
      go_wp2_with fail
      go_ret
      exact ⟨rfl, HBZ.out⟩
    case pos =>
    subst hp0
    obtain ⟨hsd, hag⟩ := HS.out rfl
    by_cases hq0 : ve = 0
    case neg =>
      have hq : (ve != 0) = true := by simpa using hq0
      have hz : (ve = 3 ∨ ve = 26) ∧ (⟨vk, vn, vs⟩ : V) = zeroV := by
        rcases hsd with ⟨h, _⟩ | h
        · exact absurd h hq0
        · exact h
      obtain ⟨hz1, hz2⟩ := hz
      simp only [zeroV, V.mk.injEq] at hz2
      obtain ⟨rfl, rfl, rfl⟩ := hz2
      clear HS HN HEV HEW HUS HTY HVR HKT hq0 hsd hag
      obtain ⟨⟨v0, v1, v2⟩, _, _, _⟩ := cell3 HV1.out
      rcases hz1 with rfl | rfl
      all_goals
        go_wp2_with fail
        refine (HK.out _).mono ?_
        rintro r wz ⟨rfl, hbz⟩
        have HBZ := Lib.hid (HB9.out.trans ((HBX.out.trans (hbz.mono HBX.out.size)).mono HB9.out.size))
        clear hbz
        go_wp2_with fail
        go_ret
        exact ⟨rfl, HBZ.out⟩
    case pos =>
    subst hq0
    have hok : V.okB ⟨vk, vn, vs⟩ = true ∧ vk = yk := by
      rcases hsd with ⟨_, h1, h2⟩ | ⟨h, _⟩
      · exact ⟨h1, h2⟩
      · rcases h with h | h <;> cases h
    have HOK := Lib.hid hok
    have HAG := Lib.hid hag
    clear hsd hag hok HS HN HTY HEV
    have hu := Lib.hid (HUS.out wc ((HY9.out.low HBX.out).more HBX.out.size))
    obtain ⟨⟨v0, v1, v2, v3⟩, f0, f1, f2, f3⟩ := cell4 HFX.out
    go_wp2_with fail
    refine (hu.out).mono ?_
    rintro r wu ⟨⟨Au, cu, us, rfl, hul, hsr, hin⟩, hbu⟩
    have hwcu := hbu.size
    have hwc := HBX.out.size
    have HUR := Lib.hid hsr
    have HRU : Hid (wu.heap[rb]? = some (.cells #[.int .i64 1, .int .i64 (if true then a else c0), .string ⟨#[]⟩, .int .i64 1, .int .i64 (if true then b else c0), .string ⟨#[]⟩, .int .i64 2, .int .i64 0, .string x'] 29 (0, 0))) := Lib.hid ((hbu.block _ (by omega)).trans ((HBX.out.block _ hrlt).trans HR9.out))
    have HFU := Lib.hid ((hbu.block _ (by omega)).trans HFX.out)
    have HVU := Lib.hid ((hbu.block _ hl1).trans HV1.out)
    have HKU : Hid (EKids wu w4.heap.size A3 el) := Lib.hid ((HKL.out.low (HBX.out.mono (by omega))).low (hbu.mono (by omega)))
    have HBU : Hid (Below W.heap.size W wu) := Lib.hid (HB9.out.trans ((HBX.out.trans (hbu.mono HBX.out.size)).mono HB9.out.size))
    have HIN := Lib.hid hin
    have hrg : rb ≠ g1 := by omega
    obtain ⟨ul, hul2⟩ : ∃ ul, ul = us.length := ⟨_, rfl⟩
    rw [← hul2] at hul
    have HUL := Lib.hid hul2
    clear hsr hbu hin HFX HV1 HUS hu v0 v1 v2 v3 f0 f1 f2 f3
    rw [← HUL.out]
    clear hul2
    go_wp2_with fail
    go_loopw [23] (fun i wr => ∃ j : Nat, j ≤ 2 ∧ i = .int .i64 j ∧ Hid (∀ k, k ≠ rb → k < wu.heap.size → wr.heap[k]? = wu.heap[k]?) ∧ wu.heap.size ≤ wr.heap.size ∧ Hid (wr.heap[rb]? = some (.cells #[.int .i64 1, .int .i64 (if decide (j = 0) || hasB us (bs chA) then a else c0), .string ⟨#[]⟩, .int .i64 1, .int .i64 (if decide (j ≤ 1) || hasB us (bs chB) then b else c0), .string ⟨#[]⟩, .int .i64 2, .int .i64 0, .string x'] 29 (0, 0))) ∧ Below W.heap.size W wr) (fun i _ => 2 - (intOf i).toNat)
    case atStart => exact ⟨0, by decide, rfl, Lib.hid (fun k _ _ => rfl), Nat.le_refl _, Lib.hid HRU.out, HBU.out⟩
    case round =>
      obtain ⟨j, hj, rfl, hot, hsz, hrow, hbw⟩ := hrel
      obtain ⟨wo, rfl⟩ : ∃ wo, wo = wr := ⟨_, rfl⟩
      have HBW := Lib.hid hbw
      clear hbw
      by_cases hlt : j < 2
      · have hj3 : j < 3 := by omega
        have hj4 : (j : Int) < 3 := by omega
        obtain ⟨nm, kd, hnm⟩ : ∃ nm kd, tCols[j]? = some ⟨nm, kd⟩ := by
          match j, hlt with
          | 0, _ => exact ⟨_, _, rfl⟩
          | 1, _ => exact ⟨_, _, rfl⟩
        have HNM := Lib.hid hnm
        clear hnm
        go_wp2_with fail
        go_loopw [24, 25] (fun h n wx => ∃ k : Nat, k ≤ ul ∧ n = .int .i64 k ∧ h = .bool (hasB (us.take k) nm) ∧ Below wo.heap.size wo wx) (fun _ n _ => ul - (intOf n).toNat)
        case atStart => exact ⟨0, Nat.zero_le _, rfl, rfl, Below.refl _ _⟩
        case round =>
          obtain ⟨k, hk, rfl, rfl, hbx⟩ := hrel
          have HBI := Lib.hid hbx
          have hsx := hbx.size
          clear hbx
          by_cases hk2 : k < ul
          · obtain ⟨u, hu⟩ : ∃ u, us[k]? = some u := ⟨_, List.getElem?_eq_getElem (by rw [← HUL.out]; exact hk2)⟩
            have hur := HUR.out.kept (w' := wr) (fun b' h1 h2 => (HBI.out.block b' (by omega)).trans (hot.out b' (by omega) h2)) (by omega)
            rcases hur with h0 | ⟨ub, uo, rfl, hub1, hub2, huc⟩
            · rw [h0] at hu; cases hu
            · have hc := huc k u hu
              have hcd : ∀ wa, Below wr.heap.size wr wa → wa.cell? ⟨ub, uo + k, none⟩ = some (.string u) := fun wa h => (h.cell (p := ⟨ub, uo + k, none⟩) hub2).trans hc
              have HCD := Lib.hid hcd
              have hht := Lib.hid (hasB_take (nm := nm) hu)
              clear huc hcd hu
              cases hb : hasB (us.take k) nm
              · rw [hb] at hht
                go_upto_region 26 with (fail)
                go_region_law (first
                  | (go_simp; go_at_call 25; refine (HKT.out _).mono ?_; rintro r wa ⟨⟨Ac, cc, rfl, hcr⟩, hba⟩
                     have hba' : Below wr.heap.size wr wa := ((Below.refl wr.heap.size wr).drew).trans hba
                     have HBA := Lib.hid hba'
                     have hca := HCD.out wa hba'
                     rcases hcr with hcr | ⟨cb, co, rfl, hcl, hcat⟩
                     · exact absurd hcr (by decide)
                     have hnc := (hcat j _ HNM.out).1
                     clear hba hba' hcat))
                all_goals
                  go_wp2_with fail
                  go_roundw
                  case rel => exact ⟨k + 1, by omega, by go_num, by rw [hht.out]; rfl, HBI.out.trans (HBA.out.mono hsx)⟩
                  case measure => simp [intOf]; omega
              · rw [hb] at hht
                go_upto_region 26 with (fail)
                go_quiet (fail)
                go_wp2_with fail
                go_roundw
                case rel => exact ⟨k + 1, by omega, by go_num, by rw [hht.out]; rfl, HBI.out.trans (below_drewN (Below.refl _ _) nq)⟩
                case measure => simp [intOf]; omega
          · obtain rfl : k = ul := by omega
            have hbf : hasB (us.take k) nm = hasB us nm := by rw [HUL.out, List.take_length]
            obtain ⟨hb, ehb⟩ : ∃ hb, hb = hasB (us.take k) nm := ⟨_, rfl⟩
            rw [← ehb]
            have hbn : hasB us nm = hb := by rw [ehb, hbf]
            clear ehb hbf
            have hrx : Hid (wr.heap[rb]? = some (.cells #[.int .i64 1, .int .i64 (if decide (j = 0) || hasB us (bs chA) then a else c0), .string ⟨#[]⟩, .int .i64 1, .int .i64 (if decide (j ≤ 1) || hasB us (bs chB) then b else c0), .string ⟨#[]⟩, .int .i64 2, .int .i64 0, .string x'] 29 (0, 0))) := Lib.hid ((HBI.out.block _ (by omega)).trans hrow.out)
            have hoo : ∀ b', b' ≠ rb → b' < wu.heap.size → wr.heap[b']? = wu.heap[b']? := fun b' h1 h2 => (HBI.out.block b' (by omega)).trans (hot.out b' h1 h2)
            have HOO := Lib.hid hoo
            have HBZ : Hid (Below W.heap.size W wr) := Lib.hid (HBW.out.trans (HBI.out.mono HBW.out.size))
            clear hoo
            cases hb
            · have hj01 : j = 0 ∨ j = 1 := by omega
              rcases hj01 with rfl | rfl
              · have hna : hasB us (bs chA) = false := by
                  obtain rfl : bs chA = nm := by have := HNM.out; simp [tCols] at this; exact this.1
                  exact hbn
                have hzz := hrx.out
                rw [hna] at hzz
                have hz : wr.heap[rb]? = some (.cells #[.int .i64 1, .int .i64 (if true then a else c0), .string ⟨#[]⟩, .int .i64 1, .int .i64 (if true then b else c0), .string ⟨#[]⟩, .int .i64 2, .int .i64 0, .string x'] 29 (0, 0)) := hzz
                have HZ := Lib.hid (block_alloc_keep (o' := .cells #[.int .i64 1, .int .i64 c0, .string ⟨#[]⟩] 29) hz)
                clear hz hzz
                go_wp2_with fail
                refine (keep_num c0 _).mono ?_
                rintro r wz ⟨rfl, rfl⟩
                obtain ⟨⟨e0, e1, e2, e3, e4, e5⟩, q0, q1, q2, q3, q4, q5⟩ := cell9 HZ.out
                go_wp2_with fail
                go_roundw
                case measure => simp [intOf]
                case rel => exact ⟨1, by decide, by go_num, Lib.hid (fun b' h1 h2 => (Below.heap_setCell _ ⟨rb, 2, none⟩ _ b' h1).trans ((Below.heap_setCell _ ⟨rb, 1, none⟩ _ b' h1).trans ((Below.heap_setCell _ ⟨rb, 0, none⟩ _ b' h1).trans ((Below.heap_alloc wr _ b' (by omega)).trans (HOO.out b' h1 h2))))), by simp [World.setCell]; omega, Lib.hid (by rw [hna]; exact setc (setc (setc HZ.out))), (((HBZ.out.alloc (by omega) _).setCell (p := ⟨rb, 0, none⟩) hwr _).setCell (p := ⟨rb, 1, none⟩) hwr _).setCell (p := ⟨rb, 2, none⟩) hwr _⟩
              · have hna : hasB us (bs chB) = false := by
                  obtain rfl : bs chB = nm := by have := HNM.out; simp [tCols] at this; exact this.1
                  exact hbn
                have hzz := hrx.out
                have hz : wr.heap[rb]? = some (.cells #[.int .i64 1, .int .i64 (if hasB us (bs chA) then a else c0), .string ⟨#[]⟩, .int .i64 1, .int .i64 (if true then b else c0), .string ⟨#[]⟩, .int .i64 2, .int .i64 0, .string x'] 29 (0, 0)) := hzz
                have HZ := Lib.hid (block_alloc_keep (o' := .cells #[.int .i64 1, .int .i64 c0, .string ⟨#[]⟩] 29) hz)
                clear hz hzz
                go_wp2_with fail
                refine (keep_num c0 _).mono ?_
                rintro r wz ⟨rfl, rfl⟩
                obtain ⟨⟨e0, e1, e2, e3, e4, e5⟩, q0, q1, q2, q3, q4, q5⟩ := cell9 HZ.out
                go_wp2_with fail
                go_roundw
                case measure => simp [intOf]
                case rel => exact ⟨2, by decide, by go_num, Lib.hid (fun b' h1 h2 => (Below.heap_setCell _ ⟨rb, 5, none⟩ _ b' h1).trans ((Below.heap_setCell _ ⟨rb, 4, none⟩ _ b' h1).trans ((Below.heap_setCell _ ⟨rb, 3, none⟩ _ b' h1).trans ((Below.heap_alloc wr _ b' (by omega)).trans (HOO.out b' h1 h2))))), by simp [World.setCell]; omega, Lib.hid (by rw [hna]; exact setc (setc (setc HZ.out))), (((HBZ.out.alloc (by omega) _).setCell (p := ⟨rb, 3, none⟩) hwr _).setCell (p := ⟨rb, 4, none⟩) hwr _).setCell (p := ⟨rb, 5, none⟩) hwr _⟩
            · go_wp2_with fail
              go_roundw
              case measure => simp [intOf]; omega
              case rel =>
                refine ⟨j + 1, by omega, by go_num, HOO, by omega, Lib.hid ?_, HBZ.out⟩
                rw [hrx.out]
                have hj01 : j = 0 ∨ j = 1 := by omega
                rcases hj01 with rfl | rfl
                · have hna : hasB us (bs chA) = true := by
                    obtain rfl : bs chA = nm := by have := HNM.out; simp [tCols] at this; exact this.1
                    exact hbn
                  rw [hna]
                  rfl
                · have hna : hasB us (bs chB) = true := by
                    obtain rfl : bs chB = nm := by have := HNM.out; simp [tCols] at this; exact this.1
                    exact hbn
                  rw [hna]
                  rfl
      · obtain rfl : j = 2 := by omega
        obtain ⟨wv, rfl⟩ : ∃ wv, wv = wo := ⟨_, rfl⟩
        have hrow2 : wv.heap[rb]? = some (.cells #[.int .i64 1, .int .i64 (if hasB us (bs chA) then a else c0), .string ⟨#[]⟩, .int .i64 1, .int .i64 (if hasB us (bs chB) then b else c0), .string ⟨#[]⟩, .int .i64 2, .int .i64 0, .string x'] 29 (0, 0)) := hrow.out
        have HRW := Lib.hid hrow2
        have HFX : Hid (wv.heap[w4.heap.size]? = some (.cells #[.int .i64 ek, .string es, .int .i64 en, .slice A3 em c3] 35 (0, 0))) := Lib.hid ((hot.out _ (by omega) (by omega)).trans HFU.out)
        have HKV : Hid (EKids wv wv.heap.size A3 el) := Lib.hid ((EKids.old HKU.out (fun k hk => hot.out k (by omega) (by omega))).more (by omega))
        have HV1 := Lib.hid ((hot.out g1 (by omega) (by omega)).trans HVU.out)
        have hlt9 : w4.heap.size < wv.heap.size := by omega
        have hg1v : g1 < wv.heap.size := by omega
        have HBX : Hid (Below wv.heap.size wv wv) := Lib.hid (Below.refl _ _)
        have HE2 := Lib.hid (fun Ac cc wa (h : Below wv.heap.size wv wa) hc => HEW.out (hasB us (bs chA)) (hasB us (bs chB)) Ac cc wa ((HKV.out.low h).more h.size) hc (HVR.out _ _ wa ((h.block _ (by omega)).trans HRW.out)))
        rw [← HAG.out us HIN.out] at HE2
        simp only at HE2
        clear hot hrow hrow2 HEW HVR HAG HIN HUR HFU HVU HKU HKL HF9 HR9 HY9 HRU
        go_upto_region 29 with (fail)
        go_cut [26, 27] (fun u v wx => ∃ g, u = .pointer (some ⟨g, 0, none⟩) ∧ v = .int .i64 0 ∧ wv.heap.size ≤ g ∧ wx.heap[g]? = some (.cells #[.int .i64 vk, .int .i64 vn, .string vs] 29 (0, 0)) ∧ Below wv.heap.size wv wx)
        case first =>
          as_aux_lemma =>
            obtain ⟨⟨v0, v1, v2, v3⟩, f0, f1, f2, f3⟩ := cell4 HFX.out
            obtain ⟨⟨l0, l1, l2, l3⟩, _, _, _, _⟩ := cell4 (block_alloc_keep (o' := (.cells #[.int .i64 0, .int .i64 0, .string ⟨#[]⟩] 29)) HFX.out)
            go_region_law (first
              | (go_simp; go_at_call 25; refine (HKT.out _).mono ?_; rintro r wa ⟨⟨Ac, cc, rfl, hcr⟩, hba⟩
                 have HCR := Lib.hid hcr
                 first
                   | (have hba' : Below wv.heap.size wv wa := ((Below.refl wv.heap.size wv).drew).trans hba
                      have HBA := Lib.hid hba'
                      clear hba')
                   | (have hba' : Below wv.heap.size wv wa := (((Below.refl wv.heap.size wv).alloc (Nat.le_refl _) (.cells #[.int .i64 0, .int .i64 0, .string ⟨#[]⟩] 29)).drew).trans (hba.mono (by simp))
                      have HBA := Lib.hid hba'
                      have HZA := Lib.hid ((hba.block wv.heap.size (by simp)).trans (heap_alloc_new wv (.cells #[.int .i64 0, .int .i64 0, .string ⟨#[]⟩] 29)))
                      have HLA : Hid (wv.heap.size < wa.heap.size) := Lib.hid (by have := hba.size; simp at this; omega)
                      clear hba')
                 have hblk := (HBA.out.block _ (Nat.lt_of_lt_of_le hlt9 HBX.out.size)).trans HFX.out
                 obtain ⟨⟨k0, k1, k2, k3⟩, _, _, _, _⟩ := cell4 hblk
                 obtain ⟨⟨j0, j1, j2, j3⟩, _, _, _, _⟩ := cell4 (block_alloc_keep (o' := (.cells #[.int .i64 0, .int .i64 0, .string ⟨#[]⟩] 29)) hblk)
                 clear hba hcr hblk)
              | (go_simp; go_at_call 13; refine (HE2.out _ _ _ ?h1 ?h2).mono ?_
                 case h1 => (first | exact HBX.out.trans (HBA.out.mono HBX.out.size) | exact HBX.out.trans ((HBA.out.alloc HBA.out.size _).mono HBX.out.size))
                 case h2 => (first | exact HCR.out | exact (HCR.out.below ((Below.refl wa.heap.size wa).alloc (Nat.le_refl _) _)).more (by simp))
                 rintro r wb ⟨rfl, hbb⟩
                 first
                   | (have HBB : Hid (Below wv.heap.size wv wb) := Lib.hid (HBA.out.trans (hbb.mono HBA.out.size))
                      have HZB := Lib.hid ((hbb.block wv.heap.size HLA.out).trans HZA.out)
                      have HGB : Hid (wv.heap.size ≤ wv.heap.size) := Lib.hid (Nat.le_refl _)
                      obtain ⟨⟨z0, z1, z2⟩, y0, y1, y2⟩ := cell3 HZB.out)
                   | (have HBB : Hid (Below wv.heap.size wv wb) := Lib.hid (HBA.out.trans (hbb.mono HBA.out.size))
                      skip)
                   | (have HBB : Hid (Below wv.heap.size wv wb) := Lib.hid ((HBA.out.alloc HBA.out.size _).trans (hbb.mono (by have := HBA.out.size; simp; omega)))
                      have HZB := Lib.hid ((hbb.block wa.heap.size (by simp)).trans (heap_alloc_new wa (.cells #[.int .i64 0, .int .i64 0, .string ⟨#[]⟩] 29)))
                      have HGB : Hid (wv.heap.size ≤ wa.heap.size) := Lib.hid HBA.out.size
                      obtain ⟨⟨z0, z1, z2⟩, y0, y1, y2⟩ := cell3 HZB.out)
                 clear hbb))
            all_goals
              go_wp2_with fail
              go_meet
              first
                | exact ⟨_, rfl, rfl, HGB.out, put3_block HZB.out, put3_below HBB.out HGB.out⟩
                | exact ⟨_, rfl, rfl, HBB.out.size, heap_alloc_new wb _, HBB.out.alloc HBB.out.size _⟩
        case rest =>
        obtain ⟨g2, rfl, rfl, hge2, hg2, hbx⟩ := hcut
        have HBY : Hid (Below W.heap.size W wc) := Lib.hid (HBW.out.trans (hbx.mono HBW.out.size))
        have HV3 := Lib.hid ((hbx.block _ hg1v).trans HV1.out)
        have HV2 := Lib.hid hg2
        have hsy := hbx.size
        have HRT := Lib.hid (fun w => value_right vk vn vs w)
        obtain ⟨hok1, rfl⟩ := HOK.out
        rw [hok1] at HRT
        obtain ⟨⟨v0, v1, v2⟩, _, _, _⟩ := cell3 HV3.out
        clear hbx hg2 hge2 HOK hok1
        go_wp2_with fail
        refine (HRT.out _).mono ?_
        rintro r wz ⟨rfl, rfl⟩
        obtain ⟨⟨y0, y1, y2⟩, _, _, _⟩ := cell3 (block_alloc_keep (o' := .cells #[.int .i64 vk, .int .i64 vn, .string vs] 29) HV3.out)
        obtain ⟨⟨z0, z1, z2⟩, _, _, _⟩ := cell3 (block_alloc_keep (o' := .cells #[.int .i64 vk, .int .i64 vn, .string vs] 29) HV2.out)
        have hkk : (vk == vk) = true := by simp
        have HBQ := Lib.hid (HBY.out.alloc HBY.out.size (.cells #[.int .i64 vk, .int .i64 vn, .string vs] 29))
        go_wp2_with fail
        refine (HK.out _).mono ?_
        rintro r wz ⟨rfl, hbz⟩
        have HBF := Lib.hid (HBQ.out.trans (hbz.mono HBQ.out.size))
        clear hbz
        go_wp2_with fail
        go_ret
        exact ⟨rfl, HBF.out⟩
  · have hy : (why != 0) = true := by simpa using hy0
    have HK := Lib.hid (fun w => known8_any w)
    clear HX HRG HRD HOU HUF
    go_wp2_with fail
    refine (HK.out _).mono ?_
    rintro e2 w2 ⟨rfl, hb2⟩
    go_wp2_with fail
    go_ret
    exact ⟨rfl, HB1.out.trans ((((Below.refl w1.heap.size w1).alloc (Nat.le_refl _) _).trans (hb2.mono (by simp))).mono HB1.out.size)⟩
end Go.Proofs.Ytldleckgkgeclaa
