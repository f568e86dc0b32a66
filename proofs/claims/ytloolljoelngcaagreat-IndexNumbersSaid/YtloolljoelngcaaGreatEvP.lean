/-
  The evaluator is right: what it computes, the model computes, on every tape.
-/
import Derived.Test.YtloolljoelngcaaGreatEvU
set_option linter.unusedVariables false
namespace Go.Proofs.YtloolljoelngcaaGreat
open Go.RowKit

theorem draw_ok {P : Program} [ExtOk P] {rec : Req → Stt → Option (Out × Stt)} (hm : P.follows .mixedOrders = true) (hS : Snd P rec) : DrawOk P rec := by
  intro id ops s out s' hd h
  unfold evReg at h
  split at h
  · split at h
    · exact hard_ok hm hS id ops s out s' hd h
    · split at h
      · rename_i hx
        exact hard_ok hm hS id ops s out s' hd (hx.trans h)
      · exact lr_ok hm hS id ops s out s' hd _ h
  · split at h
    · exact small_ok hm hS id ops s out s' h
    · exact re_ok hm hS id ops s out s' hd _ h

theorem ev_ok {P : Program} [ExtOk P] (hm : P.follows .mixedOrders = true) : ∀ n, Snd P (ev P n)
  | 0 => fun r s out s' h => by simp [ev] at h
  | n + 1 => evB_ok (ev_ok hm n) (draw_ok hm (ev_ok hm n))

/-- the world's variables hold the tables -/
def TabsAt (w : World) (tabs : List (Nat × List Value)) : Prop := ∀ g cs, (g, cs) ∈ tabs → g < w.heap.size ∧ (flats cs = true → ∀ (i : Nat) v, cs[i]? = some v → w.cell? ⟨g, i, none⟩ = some v) ∧ (cs = [.chan (some g)] → ∃ u, w.cell? ⟨g, 0, none⟩ = some u ∧ oneC u = true)
def symMap (w : World) : Map := fun g => ⟨g, 0, 0, 0, (w.cell? ⟨g, 0, none⟩).getD undef⟩
theorem tabOk_or {g : Nat} {cs : List Value} (h : tabOk g cs = true) : flats cs = true ∨ cs = [.chan (some g)] := by
  unfold tabOk at h
  split at h
  · right
    rw [Nat.beq_eq] at h
    rw [h]
  · exact .inl h
theorem tab_cell {w : World} {tabs : List (Nat × List Value)} (hw : TabsAt w tabs) {g : Nat} {cs : List Value} (hm : (g, cs) ∈ tabs) (hg : g < 1048576) (ho : tabOk g cs = true) {nx : Nat} (hn : 1048576 ≤ nx) {i : Nat} {v : Value} (hv : cs[i]? = some v) :
    ∃ v', w.cell? ⟨g, i, none⟩ = some v' ∧ VR (symMap w) nx v v' := by
  obtain ⟨_, h1, h2⟩ := hw g cs hm
  rcases tabOk_or ho with hf | rfl
  · exact ⟨v, h1 hf i v hv, .flat (flats_mem hf v (List.mem_of_getElem? hv))⟩
  · obtain ⟨u, e, hu⟩ := h2 rfl
    cases i with
    | zero =>
      simp at hv
      subst hv
      have hs : (symMap w g).sym = u := by simp [symMap, e]
      have := VR.tok (μ := symMap w) (nx := nx) (i := g) (by omega) (by rw [hs]; exact hu)
      rw [hs] at this
      exact ⟨u, e, this⟩
    | succ i => simp at hv
theorem withTabs_spec {β : Type} : ∀ (l : List (Nat × List Value)) (h : Tr EvBlk) (k : Tr EvBlk → Option β) (r : β), withTabs l h k = some r →
    ∃ h', k h' = some r ∧ ∀ b x, h'.get b = some x → h.get b = some x ∨ (b < 1048576 ∧ x.own = false ∧ x.es = 0 ∧ tabOk b x.cells = true ∧ (b, x.cells) ∈ l)
  | [], h, k, r, e => ⟨h, e, fun _ _ hx => .inl hx⟩
  | (g, cs) :: l, h, k, r, e => by
    rw [withTabs] at e
    cases hc : Nat.blt g 1048576 && tabOk g cs with
    | false => rw [hc] at e; simp at e
    | true =>
      rw [hc] at e
      rw [Bool.and_eq_true, Nat.blt_eq] at hc
      simp only at e
      obtain ⟨h1, e1, g1⟩ := Tr.upd_spec _ _ _ _ _ _ e
      obtain ⟨h2, e2, g2⟩ := withTabs_spec l h1 k r e1
      refine ⟨h2, e2, fun b x hx => ?_⟩
      rcases g2 b x hx with hx | ⟨q1, q2, q3, q4, q5⟩
      · rw [g1] at hx
        split at hx
        · rename_i hb
          subst hb
          obtain rfl := Option.some.inj hx
          exact .inr ⟨hc.1, rfl, rfl, hc.2, List.mem_cons_self⟩
        · exact .inl hx
      · exact .inr ⟨q1, q2, q3, q4, List.mem_cons_of_mem _ q5⟩
/-- a call with plain arguments: what it gives, on every tape, in whatever memory that holds the tables -/
theorem plain_run {P : Program} [ExtOk P] (hm : P.follows .mixedOrders = true) {fuel : Nat} {f : FuncId} {args : List Value} {tabs : List (Nat × List Value)} {v : Value} (h : runPlain P fuel f args tabs = some v) (w : World) (hw : TabsAt w tabs) :
    Calls P f ⟨args⟩ w fun e w' => e = .returned v ∧ Below w.heap.size w w' := by
  unfold runPlain at h
  cases hf : flat2 args with
  | false => rw [hf] at h; simp at h
  | true =>
    rw [hf] at h
    simp only at h
    obtain ⟨t, h1, ht⟩ := withTabs_spec _ _ _ _ h
    have live : ∀ b x, t.get b = some x → b < 1048576 ∧ x.own = false ∧ x.es = 0 ∧ tabOk b x.cells = true ∧ (b, x.cells) ∈ tabs := fun b x hx => by
      rcases ht b x hx with hx | hx
      · rw [Tr.get_leaf] at hx; cases hx
      · exact hx
    cases hc : evCall P (ev P fuel) f args ⟨t, 1048576, big⟩ with
    | none => rw [hc] at h1; simp at h1
    | some vm =>
      obtain ⟨v1, m'⟩ := vm
      rw [hc] at h1
      simp only at h1
      cases hr : flatR v1 with
      | false => rw [hr] at h1; simp at h1
      | true =>
        rw [hr] at h1
        obtain rfl : v1 = v := by simpa using h1
        let μ : Map := symMap w
        have own : ∀ b x, t.get b = some x → x.own = true → False := fun b x hx ho => by rw [(live b x hx).2.1] at ho; cases ho
        have hR : Rep μ ⟨t, 1048576, big⟩ w := ⟨fun b x hx => (live b x hx).1, fun b x hx i u hu => by
            obtain ⟨q0, _, _, q1, q2⟩ := live b x hx
            obtain ⟨v', e1, e2⟩ := tab_cell hw q2 q0 q1 (Nat.le_refl _) hu
            refine ⟨v', ?_, e2⟩
            show w.cell? ⟨b, 0 + i, none⟩ = _
            rw [Nat.zero_add]
            exact e1,
          fun b x hx ho => (own b x hx ho).elim, fun b x hx => (hw b x.cells (live b x hx).2.2.2.2).1, fun b x hx => (live b x hx).2.2.1.symm, fun b x hx ho => (own b x hx ho).elim, fun b x _ _ hx _ ho => (own b x hx ho).elim⟩
        refine (call_ok (ev_ok hm fuel) hc hR (.of_flat2 (flat2_mem hf)) (fun g _ => ⟨rfl, rfl⟩) (Nat.le_refl _)).mono ?_
        rintro e w' ⟨v', μ', rfl, hok, hv⟩
        obtain rfl := hv.sameR hr
        exact ⟨rfl, hok.os, hok.tape, hok.output, hok.size, fun k hk => hok.frame k hk fun b x hx ho => (own b x hx ho).elim⟩
theorem tabsAt_none (w : World) : TabsAt w [] := fun g cs h => by simp at h
end Go.Proofs.YtloolljoelngcaaGreat
