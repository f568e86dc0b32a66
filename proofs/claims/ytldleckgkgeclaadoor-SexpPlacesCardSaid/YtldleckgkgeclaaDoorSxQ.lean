/-
  Package sexp's reader: add, as to what the reader holds.
-/
import Derived.Test.YtldleckgkgeclaaDoorSxG
import Derived.Test.YtldleckgkgeclaaDoorSxN
set_option linter.unusedVariables false
set_option linter.unusedSimpArgs false
namespace Go.Proofs.YtldleckgkgeclaaDoor
open Go.RowKit
def AddIs (s : ByteArray) (w : World) (σ : St) (t : T) (w2 : World) : Prop := ∃ σ' : St, RInv s w σ' w2 ∧ (σ'.ps.map Prod.fst, σ'.dn.map Prod.fst) = addE (σ.ps.map Prod.fst) (σ.dn.map Prod.fst) t ∧ σ'.ps.length = σ.ps.length ∧ (σ.ps ≠ [] → σ'.dn = σ.dn) ∧
  ∀ p ∈ σ'.ps, ∃ p0 ∈ σ.ps, p.1.kids.length ≤ p0.1.kids.length + 1
theorem add_any {s : ByteArray} {w w1 : World} {σ : St} (h : RInv s w σ w1) (x : TP) (hx : x.1.kids.length ≤ x.2.2 ∧ XTK w1 (σ.free (w.heap.size + 2) w1) x.2.1 x.1.kids) (hfew : σ.ps.length ≤ 12) (hk : ∀ p ∈ σ.ps, p.1.kids.length ≤ 600) (hd : σ.ps = [] → σ.dn = []) :
    Calls Tryd.prog 20 #[.pointer (some ⟨w.heap.size + 1, 0, none⟩), .agg #[.int .i64 x.1.k, .string x.1.s, .int .i64 x.1.n, .slice x.2.1 x.1.kids.length x.2.2, .int .i64 x.1.at_]] w1 fun e w2 => e = .returned (.tuple #[]) ∧ AddIs s w σ x.1 w2 := by
  obtain ⟨⟨k, xs, xn, l, a⟩, A0, c0⟩ := x
  have hz := h.size
  rcases Nat.eq_zero_or_pos σ.ps.length with h0 | h0
  · have hps : σ.ps = [] := List.eq_nil_of_length_eq_zero h0
    have hdn := hd hps
    obtain ⟨hB, hcB⟩ := h.bn hdn
    have hrd := h.rd
    rw [hps, hdn, hB, hcB] at hrd
    refine (add_done (w.heap.size + 1) σ.c (w.heap.size + 2) σ.A s k xn a xs l A0 l.length c0 w1 hrd (by omega) rfl).mono ?_
    rintro e w2 ⟨rfl, he⟩
    refine ⟨rfl, ?_⟩
    obtain ⟨g', cap', hr⟩ := h.done hps hdn hx he
    refine ⟨_, hr, ?_, rfl, fun hne => absurd hps hne, fun p hp => ?_⟩
    · simp only [hps, hdn, List.map_nil, List.map_cons]
      rfl
    · simp only [hps] at hp; cases hp
  · obtain ⟨m, hm⟩ : ∃ m, σ.ps.length = m + 1 := ⟨σ.ps.length - 1, by omega⟩
    obtain ⟨p, hp⟩ : ∃ p, σ.ps[m]? = some p := ⟨_, List.getElem?_eq_getElem (by omega)⟩
    have hpm := List.mem_of_getElem? hp
    obtain ⟨qs, hqs, ho, hqk⟩ := h.kid p hpm
    obtain ⟨hl, hc⟩ := h.own
    rcases hc with ⟨_, h'⟩ | ⟨gO, capO, cur, e1, hb, hg, hnc, hcm, hcs, htake⟩
    · omega
    · have hA : σ.A = some ⟨gO, 0, none⟩ := by injection e1
      have hrd := h.rd
      rw [hA, hm] at hrd
      have hcur : cur[m * 5 + 3]? = some (.slice p.2.1 p.1.kids.length p.2.2) := by
        have h5 := (flatT_get σ.ps m p hp).2.2.2.1
        rw [← htake, List.getElem?_take_of_lt (by omega), Array.getElem?_toList] at h5
        exact h5
      refine (add_kid (w.heap.size + 1) gO m σ.c (.slice σ.B σ.dn.length σ.cB) s cur p.2.1 p.1.kids.length p.2.2 (w.heap.size + 2) qs k xn a xs l A0 l.length c0 w1 hrd hg hcur (by omega) (hk p hpm) (by omega) rfl ho (fun ad e => ?_)).mono ?_
      · have hbk : bk p.2.1 ad.block := ⟨ad, e, rfl⟩
        refine ⟨fun e2 => by have := (own_bk ho hbk).1; omega, fun e2 => (h.ak p hpm ad.block hbk).1 ?_⟩
        rw [hA]
        exact bk_some.2 e2.symm
      · rintro e w2 ⟨rfl, he⟩
        refine ⟨rfl, ?_⟩
        obtain ⟨g', cap', hr⟩ := h.addKid hm hp hA hg rfl hqs hqk hx he
        refine ⟨_, hr, ?_, by simp, fun _ => rfl, fun q hq => ?_⟩
        · unfold addE
          rw [List.length_map, hm, Nat.add_sub_cancel, List.getElem?_map, hp]
          simp only [Option.map_some, List.map_set]
        · obtain ⟨j, hj⟩ := List.mem_iff_getElem?.1 hq
          by_cases ej : m = j
          · subst ej
            have hj' : (p.1.kid (.mk k xs xn l a), some ⟨g', 0, none⟩, cap') = q := by
              have := hj
              simp only [List.getElem?_set_self (show m < σ.ps.length by omega)] at this
              exact Option.some.inj this
            subst hj'
            exact ⟨p, hpm, by show (p.1.kids ++ [_]).length ≤ _; simp⟩
          · have hj' : σ.ps[j]? = some q := by have := hj; simp only [List.getElem?_set_ne ej] at this; exact this
            exact ⟨q, List.mem_of_getElem? hj', by omega⟩
end Go.Proofs.YtldleckgkgeclaaDoor
