/-
  SexpPlaces: whatever is read stands where it says; what is refused names a place within.
-/
import Derived.Test.YtldleckgkgeclaaDoorSxV
set_option linter.unusedVariables false
set_option linter.unusedSimpArgs false
namespace Go.Proofs.YtldleckgkgeclaaDoor
open Go.RowKit
set_option linter.unusedSimpArgs false in
set_option maxRecDepth 100000 in
set_option maxHeartbeats 8000000 in
theorem sexpPlaces_any (hP : ParseHere) (hH : HexHere) (s : ByteArray) (W : World) (hE : Errs W) : Calls Tryd.prog 3 #[.string s] W fun e W' => e = .returned (.bool true) ∧ Below W.heap.size W W' := by
  have HE := Lib.hid hE
  clear hE
  go_enter Tryd.func3, Tryd.ntmps3
  go_upto_if 8 with (fail)
  go_cut [0] (fun v wx => (∃ s' : ByteArray, s'.size ≤ 600 ∧ v = .string s') ∧ wx = W)
  case first =>
    cases h6 : decide (600 < (s.size : Int))
    · have h6' : s.size ≤ 600 := by have := of_decide_eq_false h6; omega
      go_wp2_with fail
      go_meet
      exact ⟨⟨s, h6', rfl⟩, rfl⟩
    · have h6' : 600 ≤ s.size := by have := of_decide_eq_true h6; omega
      go_wp2_with fail
      go_meet
      exact ⟨⟨_, by simp only [ByteArray.size_extract]; omega, rfl⟩, rfl⟩
  case rest =>
  obtain ⟨⟨s', hs', rfl⟩, hwc⟩ := hcut
  obtain rfl : W = wc := hwc.symm
  clear hwc
  have HR := Lib.hid (read_sexp hP hH s' hs' W HE.out)
  have hpl := read_placed (s := s') _ 0 [] [] rfl (Nat.zero_le _) .nil (fun t ht => by cases ht)
  obtain ⟨R, hR⟩ : ∃ R, readE s' [] [] 0 = R := ⟨_, rfl⟩
  rw [hR] at HR hpl
  have HPL := Lib.hid hpl
  have HK := Lib.hid (fun w hE => known7 hP hH w hE)
  have HPA := Lib.hid (placed_any s' hs')
  obtain ⟨⟨rk, rs, rn, rl, ra⟩, why, pl⟩ := R
  clear hpl hR
  go_wp2_with fail
  refine (HR.out).mono ?_
  rintro e w1 ⟨⟨A, c, rfl, hc, hx⟩, hb⟩
  simp only [T.k, T.s, T.n, T.kids, T.at_] at hc hx HPL ⊢
  obtain ⟨wa, ewa⟩ : ∃ wa, wa = w1.alloc (.cells #[.int .i64 rk, .string rs, .int .i64 rn, .slice A rl.length c, .int .i64 ra] 24) := ⟨_, rfl⟩
  have hba : Below w1.heap.size w1 wa := by rw [ewa]; exact (Below.refl _ _).alloc (Nat.le_refl _) _
  have hna : wa.heap[w1.heap.size]? = some (.cells #[.int .i64 rk, .string rs, .int .i64 rn, .slice A rl.length c, .int .i64 ra] 24 (0, 0)) := by rw [ewa]; exact heap_alloc_new w1 _
  have hTK : TKids wa wa.heap.size A rl := (hx.kept (fun k hk => hba.block k hk.2)).to (fun k hk => Nat.lt_of_lt_of_le hk.2 hba.size)
  have HB := Lib.hid (hb.trans (hba.mono hb.size))
  have HN := Lib.hid hna
  have HW := Lib.hid ewa
  have HTK := Lib.hid hTK
  have hKa := Lib.hid (HK.out wa (HE.out.below HB.out))
  clear hba hna hTK hb hx ewa
  obtain ⟨ln, hln⟩ : ∃ ln, ln = rl.length := ⟨_, rfl⟩
  rw [← hln] at hc HN HW ⊢
  have HLN := Lib.hid hln
  clear hln
  go_upto_region 4 with (fail)
  rw [← HW.out]
  by_cases hy : why = 0
  · subst hy
    have hcl := HPA.out (.mk rk rs rn rl ra) 0 s'.size A c wa (HPL.out.1 rfl) (by simp only [T.kids]; rw [← HLN.out]; exact hc) HTK.out
    simp only [T.val, T.k, T.s, T.n, T.kids, T.at_] at hcl
    rw [← HLN.out] at hcl
    have HCL := Lib.hid hcl
    obtain ⟨⟨k0, k1, k2, k3, k4⟩, _, _, _, _, _⟩ := cell5 HN.out
    clear hcl
    go_wp2_with fail
    refine (HCL.out).mono ?_
    rintro e w2 ⟨rfl, hb2⟩
    have HB2 := Lib.hid (HB.out.trans (hb2.mono HB.out.size))
    have hK2 := Lib.hid (HK.out w2 (HE.out.below HB2.out))
    clear hb2
    go_wp2_with fail
    refine (hK2.out).mono ?_
    rintro e w3 ⟨rfl, hb3⟩
    have HB3 := Lib.hid (HB2.out.trans (hb3.mono HB2.out.size))
    clear hb3
    go_wp2_with fail
    go_ret
    exact ⟨rfl, HB3.out⟩
  · have hyb : (why != 0) = true := by simpa using hy
    obtain ⟨hp1, hp2⟩ := HPL.out.2 hy
    have q1 : decide (0 ≤ pl) = true := decide_eq_true hp1
    have q2 : decide (pl ≤ (s'.size : Int)) = true := decide_eq_true hp2
    clear hy
    go_wp2_with fail
    refine (hKa.out).mono ?_
    rintro e w3 ⟨rfl, hb3⟩
    have HB3 := Lib.hid (HB.out.trans (hb3.mono HB.out.size))
    clear hb3
    go_wp2_with fail
    go_ret
    exact ⟨rfl, HB3.out⟩
end Go.Proofs.YtldleckgkgeclaaDoor
