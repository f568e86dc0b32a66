/-
  Package expr's contracts: Eval.
-/
import Derived.Test.YtldleckgkgeclaaExpr9
import Derived.Test.YtldleckgkgeclaaFits
namespace Go.Proofs.Ytldleckgkgeclaa
open Go.RowKit
theorem okB_size {v : V} (h : V.okB v = true) : v.s.size ≤ 40 := by
  unfold V.okB at h
  simp only [Bool.or_eq_true, Bool.and_eq_true, beq_iff_eq, decide_eq_true_eq] at h
  rcases h with ⟨_, h⟩ | ⟨_, _, h⟩
  · have h0 : v.s.toList.length = v.s.size := by rw [ByteArray.toList_eq]; rfl
    rw [List.isEmpty_iff] at h
    rw [h] at h0
    simp at h0
    omega
  · omega
theorem zip_ok : ∀ {l : List C} {r : List V}, l.length = r.length → zipB l r = true → ∀ v ∈ r, V.okB v = true
  | [], [], _, _, v, hv => by cases hv
  | c :: l, x :: r, h, hz, v, hv => by
    rw [zipB, Bool.and_eq_true, Bool.and_eq_true] at hz
    rcases List.mem_cons.1 hv with rfl | hv
    · exact hz.1.1
    · exact zip_ok (by simpa using h) hz.2 v hv
/-- the numbers of a row are int64's -/
def rowN (r : List V) : Prop := ∀ v ∈ r, -9223372036854775808 ≤ v.n ∧ v.n ≤ 9223372036854775807
theorem fits_fine {l : List C} {r : List V} (hn : rowN r) (h : fitsB l r = true) : (∀ v ∈ r, v.fine) ∧ r.length = l.length := by
  unfold fitsB at h
  rw [Bool.and_eq_true, decide_eq_true_eq] at h
  refine ⟨fun v hv => ?_, h.1.symm⟩
  have := okB_size (zip_ok h.1 h.2 v hv)
  exact ⟨(hn v hv).1, (hn v hv).2, by omega⟩
set_option maxRecDepth 100000 in
set_option maxHeartbeats 1000000 in
theorem evalTop_any (cols : List C) (r : List V) (hcl : cols.length ≤ 9223372036854775807) (hrl : r.length ≤ 9223372036854775807) (hn : rowN r) (e : E) (hf : e.Fine) (A Ac Ar : Option Addr) (c cc cr : Nat) (w : World)
    (hA : EKids w w.heap.size A e.kids) (hAc : CRow w w.heap.size Ac cols) (hAr : VRow w w.heap.size Ar r) :
    Calls Try.prog 13 #[e.val A c, .slice Ac cols.length cc, .slice Ar r.length cr] w fun res w' =>
      res = .returned (.tuple #[.agg #[.int .i64 (evalTop cols r e).1.k, .int .i64 (evalTop cols r e).1.n, .string (evalTop cols r e).1.s], .int .i64 (evalTop cols r e).2]) ∧ Below w.heap.size w w' := by
  obtain ⟨k, s, n, l⟩ := e
  have hz : Hid (evalTop cols r (.mk k s n l) = if fitsB cols r && (madeE (.mk k s n l) && (typeE cols (.mk k s n l)).2 == 0) then evalE cols r (.mk k s n l) else (zeroV, 22)) := Lib.hid rfl
  have hT : Hid (typeTop cols (.mk k s n l) = if madeE (.mk k s n l) = true then typeE cols (.mk k s n l) else (0, 22)) := Lib.hid rfl
  simp only [E.val, E.k, E.s, E.n, E.kids] at hA ⊢
  obtain ⟨ln, eln⟩ : ∃ ln, ln = l.length := ⟨_, rfl⟩
  rw [← eln]
  obtain ⟨w1, ew1⟩ : ∃ w1, w1 = (w.alloc (.cells #[.int .i64 k, .string s, .int .i64 n, .slice A ln c] 35)).alloc (.cells #[.int .i64 0, .int .i64 0, .string ⟨#[]⟩] 29) := ⟨_, rfl⟩
  have hb1 : Below w.heap.size w w1 := by rw [ew1]; exact ((Below.refl _ _).alloc (Nat.le_refl _) _).alloc (by simp) _
  have HB1 := Lib.hid hb1
  have hws : w1.heap.size = w.heap.size + 2 := by rw [ew1]; simp
  have hB : Hid (w1.heap[w.heap.size + 1]? = some (.cells #[.int .i64 0, .int .i64 0, .string ⟨#[]⟩] 29 (0, 0))) := Lib.hid (by
    rw [ew1]
    have := heap_alloc_new (w.alloc (.cells #[.int .i64 k, .string s, .int .i64 n, .slice A ln c] 35)) (.cells #[.int .i64 0, .int .i64 0, .string ⟨#[]⟩] 29)
    simpa using this)
  have HE : Hid (w1.cell? ⟨w.heap.size, 0, none⟩ = some (.int .i64 k) ∧ w1.cell? ⟨w.heap.size, 1, none⟩ = some (.string s) ∧ w1.cell? ⟨w.heap.size, 2, none⟩ = some (.int .i64 n) ∧ w1.cell? ⟨w.heap.size, 3, none⟩ = some (.slice A ln c)) := Lib.hid (by rw [ew1]; simp)
  have HW1 := Lib.hid ew1
  have hfit := Lib.hid (fits_any Ac Ar cc cr cols r hcl hrl w1 ((hAc.below hb1).more hb1.size) ((hAr.below hb1).more hb1.size))
  have HA := Lib.hid ((hA.low hb1).more hb1.size)
  have HC := Lib.hid ((hAc.below hb1).more hb1.size)
  have HR := Lib.hid ((hAr.below hb1).more hb1.size)
  have HTY := Lib.hid (fun w2 (hb : Below w1.heap.size w1 w2) => type_any cols hcl (.mk k s n l) A Ac c cc w2 ((HA.out.low hb).more hb.size) ((HC.out.below hb).more hb.size))
  simp only [E.val, E.k, E.s, E.n, E.kids, ← eln] at HTY
  generalize hqe : evalTop cols r (.mk k s n l) = q at *
  have Hqe := Lib.hid hqe
  clear hqe
  cases hff : fitsB cols r
  · rw [hff] at hz hfit
    have hz2 : Hid (q = (zeroV, 22)) := Lib.hid (by rw [hz.out]; rfl)
    clear hz hT hA hAc hAr hf hb1 HTY ew1 hn
    generalize cols.length = mc at *
    generalize r.length = mr at *
    clear eln
    go_enter Try.func13, Try.ntmps13
    go_wp2_with fail
    rw [← HW1.out]
    refine (hfit.out).mono ?_
    rintro e w4 ⟨rfl, hb4⟩
    have hs4 := hb4.size
    have HB4 : Hid (w4.heap[w.heap.size + 1]? = some (.cells #[.int .i64 0, .int .i64 0, .string ⟨#[]⟩] 29 (0, 0))) := Lib.hid ((hb4.block _ (by omega)).trans hB.out)
    have HBW := Lib.hid (HB1.out.trans (hb4.mono (by omega)))
    obtain ⟨⟨k0, k1, k2⟩, f0, f1, f2⟩ := cell3 HB4.out
    clear hb4
    go_wp2_with fail
    refine bodyPost_ret (results_two rfl rfl rfl (put3_block HB4.out)) rfl ?_
    exact ⟨by rw [hz2.out]; rfl, put3_below HBW.out (Nat.le_succ _)⟩
  obtain ⟨hrf, hre⟩ := fits_fine hn hff
  rw [hff] at hz hfit
  by_cases hty : (typeTop cols (.mk k s n l)).2 = 0
  · have hmd : madeE (.mk k s n l) = true := by
      cases h : madeE (.mk k s n l)
      · rw [hT.out, h] at hty; simp at hty
      · rfl
    have hte : (typeE cols (.mk k s n l)).2 = 0 := by rw [hT.out, if_pos hmd] at hty; exact hty
    have hz2 : Hid (q = evalE cols r (.mk k s n l)) := Lib.hid (by rw [hz.out, hmd, hte]; rfl)
    have HEV := Lib.hid (fun w2 (hb : Below w1.heap.size w1 w2) => eval_any cols r hcl hre hrf (.mk k s n l) hmd hte hf A Ac Ar c cc cr w2 ((HA.out.low hb).more hb.size) ((HC.out.below hb).more hb.size) ((HR.out.below hb).more hb.size))
    simp only [E.val, E.k, E.s, E.n, E.kids, ← eln, ← hz2.out] at HEV
    generalize typeTop cols (.mk k s n l) = ty at *
    obtain ⟨tk, tw⟩ := ty
    simp only at hty
    subst hty
    clear hz hT hA hAc hAr hf hb1 ew1 hn hmd hte hre hrf
    generalize cols.length = mc at *
    generalize r.length = mr at *
    clear eln
    obtain ⟨⟨uk, un, us⟩, ue⟩ := q
    simp only at HEV HTY
    go_enter Try.func13, Try.ntmps13
    go_wp2_with fail
    rw [← HW1.out]
    refine (hfit.out).mono ?_
    rintro e w4 ⟨rfl, hb4⟩
    have hs4 := hb4.size
    have c0 := ((hb4.cell (p := ⟨w.heap.size, 0, none⟩) (show w.heap.size < _ by omega)).trans HE.out.1)
    have c1 := ((hb4.cell (p := ⟨w.heap.size, 1, none⟩) (show w.heap.size < _ by omega)).trans HE.out.2.1)
    have c2 := ((hb4.cell (p := ⟨w.heap.size, 2, none⟩) (show w.heap.size < _ by omega)).trans HE.out.2.2.1)
    have c3 := ((hb4.cell (p := ⟨w.heap.size, 3, none⟩) (show w.heap.size < _ by omega)).trans HE.out.2.2.2)
    have hty2 := Lib.hid (HTY.out w4 hb4)
    have HB4 := Lib.hid hb4
    clear hb4 hfit
    go_wp2_with fail
    refine (hty2.out).mono ?_
    rintro e w5 ⟨rfl, hb5⟩
    have hb6 := HB4.out.trans (hb5.mono hs4)
    have hs5 := hb6.size
    have c0 := ((hb6.cell (p := ⟨w.heap.size, 0, none⟩) (show w.heap.size < _ by omega)).trans HE.out.1)
    have c1 := ((hb6.cell (p := ⟨w.heap.size, 1, none⟩) (show w.heap.size < _ by omega)).trans HE.out.2.1)
    have c2 := ((hb6.cell (p := ⟨w.heap.size, 2, none⟩) (show w.heap.size < _ by omega)).trans HE.out.2.2.1)
    have c3 := ((hb6.cell (p := ⟨w.heap.size, 3, none⟩) (show w.heap.size < _ by omega)).trans HE.out.2.2.2)
    have hev2 := Lib.hid (HEV.out w5 hb6)
    have HB6 := Lib.hid hb6
    clear hb5 hb6 hty2
    go_wp2_with fail
    refine (hev2.out).mono ?_
    rintro e w6 ⟨rfl, hb7⟩
    have HB7 : Hid (w6.heap[w.heap.size + 1]? = some (.cells #[.int .i64 0, .int .i64 0, .string ⟨#[]⟩] 29 (0, 0))) := Lib.hid ((hb7.block _ (by omega)).trans ((HB6.out.block _ (by omega)).trans hB.out))
    have HBX := Lib.hid (HB1.out.trans ((HB6.out.trans (hb7.mono hs5)).mono (by omega)))
    obtain ⟨⟨k0, k1, k2⟩, f0, f1, f2⟩ := cell3 HB7.out
    clear hb7 hev2
    go_wp2_with fail
    refine bodyPost_ret (results_two rfl rfl rfl (put3_block HB7.out)) rfl ?_
    exact ⟨rfl, put3_below HBX.out (Nat.le_succ _)⟩
  · have hz2 : Hid (q = (zeroV, 22)) := Lib.hid (by
      rw [hz.out]
      cases h : madeE (.mk k s n l)
      · rfl
      · have h2 : (typeE cols (.mk k s n l)).2 ≠ 0 := by rw [hT.out, if_pos h] at hty; exact hty
        rw [beq_false_of_ne h2]; rfl)
    generalize typeTop cols (.mk k s n l) = ty at *
    obtain ⟨tk, tw⟩ := ty
    simp only at hty
    have htw : (tw != 0) = true := by simpa using hty
    clear hz hT hA hAc hAr hf hb1 ew1 hn hre hrf
    generalize cols.length = mc at *
    generalize r.length = mr at *
    clear eln
    simp only at HTY
    go_enter Try.func13, Try.ntmps13
    go_wp2_with fail
    rw [← HW1.out]
    refine (hfit.out).mono ?_
    rintro e w4 ⟨rfl, hb4⟩
    have hs4 := hb4.size
    have c0 := ((hb4.cell (p := ⟨w.heap.size, 0, none⟩) (show w.heap.size < _ by omega)).trans HE.out.1)
    have c1 := ((hb4.cell (p := ⟨w.heap.size, 1, none⟩) (show w.heap.size < _ by omega)).trans HE.out.2.1)
    have c2 := ((hb4.cell (p := ⟨w.heap.size, 2, none⟩) (show w.heap.size < _ by omega)).trans HE.out.2.2.1)
    have c3 := ((hb4.cell (p := ⟨w.heap.size, 3, none⟩) (show w.heap.size < _ by omega)).trans HE.out.2.2.2)
    have hty2 := Lib.hid (HTY.out w4 hb4)
    have HB4 := Lib.hid hb4
    clear hb4 hfit
    go_wp2_with fail
    refine (hty2.out).mono ?_
    rintro e w5 ⟨rfl, hb5⟩
    have hb6 := HB4.out.trans (hb5.mono hs4)
    have hs5 := hb6.size
    have HB7 : Hid (w5.heap[w.heap.size + 1]? = some (.cells #[.int .i64 0, .int .i64 0, .string ⟨#[]⟩] 29 (0, 0))) := Lib.hid ((hb6.block _ (by omega)).trans hB.out)
    have HBX := Lib.hid (HB1.out.trans (hb6.mono (by omega)))
    obtain ⟨⟨k0, k1, k2⟩, f0, f1, f2⟩ := cell3 HB7.out
    clear hb5 hb6 hty2
    go_wp2_with fail
    refine bodyPost_ret (results_two rfl rfl rfl (put3_block HB7.out)) rfl ?_
    exact ⟨by rw [hz2.out]; rfl, put3_below HBX.out (Nat.le_succ _)⟩
end Go.Proofs.Ytldleckgkgeclaa
