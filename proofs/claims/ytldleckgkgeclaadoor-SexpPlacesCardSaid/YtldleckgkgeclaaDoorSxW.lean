/-
  Two runs that the statement holds known: they are as it says.
-/
import Derived.Test.YtldleckgkgeclaaDoorSxR
import Derived.Test.YtldleckgkgeclaaDoorSxK
set_option linter.unusedVariables false
set_option linter.unusedSimpArgs false
namespace Go.Proofs.YtldleckgkgeclaaDoor
open Go.RowKit
theorem xtk_at {w : World} {S : Nat → Prop} {A : Option Addr} {l : List T} (h : XTK w S A l) {i : Nat} {e : T} (he : l[i]? = some e) : ∃ b o A' c', A = some ⟨b, o, none⟩ ∧ S b ∧ w.cell? ⟨b, o + i * 5, none⟩ = some (.int .i64 e.k) ∧ w.cell? ⟨b, o + i * 5 + 1, none⟩ = some (.string e.s) ∧
    w.cell? ⟨b, o + i * 5 + 2, none⟩ = some (.int .i64 e.n) ∧ w.cell? ⟨b, o + i * 5 + 3, none⟩ = some (.slice A' e.kids.length c') ∧ w.cell? ⟨b, o + i * 5 + 4, none⟩ = some (.int .i64 e.at_) ∧ e.kids.length ≤ c' ∧ XTK w S A' e.kids := by
  cases h with
  | nil A => simp at he
  | mk b off l hn hlt A c h hk =>
    obtain ⟨h1, h2, h3, h4, h5, h6⟩ := h i e he
    exact ⟨b, off, A i, c i, rfl, hlt, h1, h2, h3, h4, h5, h6, hk i e he⟩
set_option maxRecDepth 100000 in
set_option maxHeartbeats 4000000 in
theorem known7 (hP : ParseHere) (hH : HexHere) (w : World) (hE : Errs w) : Calls Tryd.prog 8 #[] w fun e w' => e = .returned (.bool true) ∧ Below w.heap.size w w' := by
  have h1 := read_sexp hP hH kn1 (by decide) w hE
  rw [kn1_read] at h1
  have H1 : Hid (Calls Tryd.prog 7 #[.string ⟨#[40, 97, 32, 45, 51, 32, 34, 120, 92, 50, 50, 34, 41]⟩] w fun e w' => ReadIs w (knT, 0, 0) e w' ∧ Below w.heap.size w w') := Lib.hid h1
  have H2 : Hid (∀ w, Errs w → Calls Tryd.prog 7 #[.string ⟨#[40]⟩] w fun e w' => ReadIs w (zeroT, 10, 1) e w' ∧ Below w.heap.size w w') := Lib.hid (fun w hE => by
    have h2 := read_sexp hP hH kn2 (by decide) w hE
    rw [kn2_read] at h2
    exact h2)
  have HE := Lib.hid hE
  clear h1 hE
  go_enter Tryd.func8, Tryd.ntmps8
  go_wp2_with fail
  refine (H1.out).mono ?_
  rintro e w1 ⟨⟨A, c, rfl, hc, hx⟩, hb1⟩
  simp only [knT, T.k, T.s, T.n, T.kids, T.at_, List.length_cons, List.length_nil] at hc hx ⊢
  obtain ⟨b, o, A1, c1, rfl, hb, _, _, m2, _, _, _, _⟩ := xtk_at hx (i := 1) rfl
  obtain ⟨b', o', A2, c2, e2, _, _, n1, _, _, _, _, _⟩ := xtk_at hx (i := 2) rfl
  injection e2 with e2
  injection e2 with e2 e3
  subst e2 e3
  simp only [T.k, T.s, T.n, T.kids, T.at_] at m2 n1 hb
  obtain ⟨wa, ewa⟩ : ∃ wa, wa = w1.alloc (.cells #[.int .i64 1, .string ⟨#[]⟩, .int .i64 0, .slice (some ⟨b, o, none⟩) 3 c, .int .i64 0] 24) := ⟨_, rfl⟩
  have hba : Below w1.heap.size w1 wa := by rw [ewa]; exact (Below.refl _ _).alloc (Nat.le_refl _) _
  have hna : wa.heap[w1.heap.size]? = some (.cells #[.int .i64 1, .string ⟨#[]⟩, .int .i64 0, .slice (some ⟨b, o, none⟩) 3 c, .int .i64 0] 24 (0, 0)) := by rw [ewa]; exact heap_alloc_new w1 _
  have hsa : wa.heap.size = w1.heap.size + 1 := by rw [ewa]; simp
  have HB1 := Lib.hid (hb1.trans (hba.mono hb1.size))
  have HWA := Lib.hid ewa
  have h2 := Lib.hid (H2.out wa (HE.out.below HB1.out))
  have HCELLS : Hid (∀ w', Below wa.heap.size wa w' → w'.cell? ⟨b, o + 1 * 5 + 2, none⟩ = some (.int .i64 (-3)) ∧ w'.cell? ⟨b, o + 2 * 5 + 1, none⟩ = some (.string ⟨#[120, 34]⟩) ∧ w'.heap[w1.heap.size]? = some (.cells #[.int .i64 1, .string ⟨#[]⟩, .int .i64 0, .slice (some ⟨b, o, none⟩) 3 c, .int .i64 0] 24 (0, 0))) := Lib.hid (fun w' h => ⟨(h.cell (p := ⟨b, _, none⟩) (by show b < _; omega)).trans ((hba.cell (p := ⟨b, _, none⟩) (by show b < _; omega)).trans m2), (h.cell (p := ⟨b, _, none⟩) (by show b < _; omega)).trans ((hba.cell (p := ⟨b, _, none⟩) (by show b < _; omega)).trans n1), (h.block _ (by omega)).trans hna⟩)
  clear hba hna ewa m2 n1 hx hb hb1 hc
  go_upto_region 2 with (fail)
  rw [← HWA.out]
  go_wp2_with fail
  refine (h2.out).mono ?_
  rintro e w2 ⟨⟨A3, c3, rfl, _, _⟩, hb2⟩
  simp only [zeroT, T.k, T.s, T.n, T.kids, T.at_, List.length_nil] at ⊢
  have HB2 := Lib.hid (HB1.out.trans (hb2.mono HB1.out.size))
  obtain ⟨m2, n1, hbx⟩ := HCELLS.out (w2.alloc (.cells #[.int .i64 0, .string ⟨#[]⟩, .int .i64 0, .slice A3 0 c3, .int .i64 0] 24)) (hb2.trans ((Below.refl _ _).alloc hb2.size _))
  obtain ⟨⟨k0, k1, k2, k3, k4⟩, _, _, _, _, _⟩ := cell5 hbx
  have e1 : o + 1 * 5 + 2 = o + 5 + 2 := by omega
  have e2 : o + 2 * 5 + 1 = o + 10 + 1 := by omega
  rw [e1] at m2
  rw [e2] at n1
  have HBF := Lib.hid (HB2.out.alloc HB2.out.size (.cells #[.int .i64 0, .string ⟨#[]⟩, .int .i64 0, .slice A3 0 c3, .int .i64 0] 24))
  clear hb2 hbx e1 e2
  go_wp2_with fail
  go_ret
  exact ⟨rfl, HBF.out⟩
end Go.Proofs.YtldleckgkgeclaaDoor
