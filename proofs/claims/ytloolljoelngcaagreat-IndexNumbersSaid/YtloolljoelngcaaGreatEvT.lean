/-
  What two ways give, together: each of the two is within it.
-/
import Derived.Test.YtloolljoelngcaaGreatEvH
set_option linter.unusedVariables false
namespace Go.Proofs.YtloolljoelngcaaGreat
open Go.RowKit

theorem boolish_inv {μ : Map} {nx : Nat} {v v' : Value} (hb : boolish v = true) (h : VR μ nx v v') : VR μ nx (.map (some 0)) v' := by
  unfold boolish at hb
  split at hb
  · obtain rfl := h.bool_inv; exact .coin
  · exact h
  · simp at hb
theorem mergeV_left {a b v : Value} (h : mergeV a b = some v) {μ : Map} {nx : Nat} {v' : Value} (hv : VR μ nx a v') : VR μ nx v v' := by
  unfold mergeV at h
  split at h
  · obtain rfl := Option.some.inj h; exact hv
  · split at h
    · rename_i hb
      rw [Bool.and_eq_true] at hb
      obtain rfl := Option.some.inj h
      exact boolish_inv hb.1 hv
    · simp at h
theorem mergeV_right {a b v : Value} (h : mergeV a b = some v) {μ : Map} {nx : Nat} {v' : Value} (hv : VR μ nx b v') : VR μ nx v v' := by
  unfold mergeV at h
  split at h
  · rename_i he
    obtain rfl := Option.some.inj h
    rw [eqV_eq _ _ _ he]
    exact hv
  · split at h
    · rename_i hb
      rw [Bool.and_eq_true] at hb
      obtain rfl := Option.some.inj h
      exact boolish_inv hb.2 hv
    · simp at h
theorem mergeL_get : ∀ {l m r : List Value}, mergeL l m = some r → r.length = l.length ∧ r.length = m.length ∧ ∀ (i : Nat) v, r[i]? = some v → ∃ a b, l[i]? = some a ∧ m[i]? = some b ∧ mergeV a b = some v
  | [], [], r, h => by simp [mergeL] at h; subst h; exact ⟨rfl, rfl, fun i v e => by simp at e⟩
  | a :: l, b :: m, r, h => by
    rw [mergeL] at h
    cases hv : mergeV a b with
    | none => rw [hv] at h; simp at h
    | some v =>
      rw [hv] at h
      simp only at h
      cases hl : mergeL l m with
      | none => rw [hl] at h; simp at h
      | some q =>
        rw [hl] at h
        obtain rfl := Option.some.inj h
        obtain ⟨h1, h2, h3⟩ := mergeL_get hl
        refine ⟨by simp [h1], by simp [h2], fun i v e => ?_⟩
        cases i with
        | zero => simp at e; subst e; exact ⟨a, b, rfl, rfl, hv⟩
        | succ i => obtain ⟨x, y, g1, g2, g3⟩ := h3 i v (by simpa using e); exact ⟨x, y, by simpa using g1, by simpa using g2, g3⟩
  | [], _ :: _, r, h => by simp [mergeL] at h
  | _ :: _, [], r, h => by simp [mergeL] at h
/-- z says less than x -/
structure Weak (x z : EvBlk) : Prop where
  es : z.es = x.es
  own : z.own = x.own
  length : z.cells.length = x.cells.length
  cells : ∀ (i : Nat) v, z.cells[i]? = some v → ∃ u, x.cells[i]? = some u ∧ ∀ (μ : Map) nx v', VR μ nx u v' → VR μ nx v v'
theorem Weak.refl (x : EvBlk) : Weak x x := ⟨rfl, rfl, rfl, fun i v e => ⟨v, e, fun _ _ _ h => h⟩⟩
theorem mergeB_weak {x y z : EvBlk} (h : mergeB x y = some z) : Weak x z ∧ Weak y z := by
  unfold mergeB at h
  split at h
  rotate_left
  · simp at h
  rename_i hc
  rw [Bool.and_eq_true, Nat.beq_eq] at hc
  split at h
  rotate_left
  · simp at h
  rename_i c hl
  obtain rfl := Option.some.inj h
  obtain ⟨h1, h2, h3⟩ := mergeL_get hl
  have ho : x.own = y.own := by
    have := hc.2
    cases hx : x.own <;> cases hy : y.own <;> rw [hx, hy] at this <;> simp_all
  exact ⟨⟨rfl, rfl, h1, fun i v e => by obtain ⟨a, b, g1, g2, g3⟩ := h3 i v e; exact ⟨a, g1, fun _ _ _ h => mergeV_left g3 h⟩⟩,
    ⟨hc.1, ho, h2, fun i v e => by obtain ⟨a, b, g1, g2, g3⟩ := h3 i v e; exact ⟨b, g2, fun _ _ _ h => mergeV_right g3 h⟩⟩⟩
theorem mergeO_weak {x y : Option EvBlk} {z : EvBlk} (h : mergeO x y = some z) : ∃ a b, x = some a ∧ y = some b ∧ Weak a z ∧ Weak b z := by
  unfold mergeO at h
  split at h
  · obtain ⟨h1, h2⟩ := mergeB_weak h; exact ⟨_, _, rfl, rfl, h1, h2⟩
  · simp at h
theorem mergeH_spec {β : Type} {hA hB : Tr EvBlk} : ∀ (n b : Nat) (h : Tr EvBlk) (k : Tr EvBlk → Option β) (r : β), mergeH hA hB n b h k = some r →
    ∃ h', k h' = some r ∧ ∀ c, h'.get c = if b ≤ c ∧ c < b + n then mergeO (hA.get c) (hB.get c) else h.get c
  | 0, b, h, k, r, e => ⟨h, e, fun c => by rw [if_neg (by omega)]⟩
  | n + 1, b, h, k, r, e => by
    rw [mergeH] at e
    obtain ⟨h1, e1, g1⟩ := Tr.upd_spec _ _ _ _ _ _ e
    obtain ⟨h2, e2, g2⟩ := mergeH_spec n b.succ h1 k r e1
    refine ⟨h2, e2, fun c => ?_⟩
    rw [g2, g1]
    by_cases hc : c = b
    · subst hc
      rw [if_neg (by omega), if_pos rfl, if_pos (by omega)]
    · by_cases h3 : b.succ ≤ c ∧ c < b.succ + n
      · rw [if_pos h3, if_pos (by omega)]
      · rw [if_neg h3, if_neg hc, if_neg (by omega)]
theorem meetT_get : ∀ (a b : Tr Value) (t : Nat), (meetT a b).get t = meetO (a.get t) (b.get t)
  | .node l x r, .node l' x' r', t => by
    rw [meetT, Tr.get_node, Tr.get_node, Tr.get_node]
    split
    · rfl
    · split
      · exact meetT_get l l' _
      · exact meetT_get r r' _
  | .leaf, b, t => by simp [meetT, Tr.get_leaf, meetO]
  | .node l x r, .leaf, t => by
    have e : meetT (.node l x r) .leaf = .leaf := by simp [meetT]
    rw [e, Tr.get_leaf]
    unfold meetO
    split <;> simp_all
theorem meetO_inv {x y : Option Value} {v : Value} (h : meetO x y = some v) : ∃ a b, x = some a ∧ y = some b ∧ mergeV a b = some v := by
  unfold meetO at h
  split at h
  · exact ⟨_, _, rfl, rfl, h⟩
  · simp at h

theorem ok_weaken {μ0 μ : Map} {base mX : Mem} {w0 w : World} {h : Tr EvBlk} {nx low : Nat} (hok : Ok μ0 base w0 μ mX w) (hw : ∀ b z, h.get b = some z → ∃ x, mX.heap.get b = some x ∧ Weak x z)
    (hk : ∀ b, b < low → b < base.next → h.get b = base.heap.get b) (hl : low ≤ mX.low) (hn : mX.next ≤ nx) : Ok μ0 base w0 μ ⟨h, nx, low⟩ w where
  rep := {
    lt := fun b z hz => by obtain ⟨x, hx, _⟩ := hw b z hz; exact Nat.lt_of_lt_of_le (hok.rep.lt b x hx) hn
    cells := fun b z hz i v hv => by
      obtain ⟨x, hx, q⟩ := hw b z hz
      obtain ⟨u, hu, q2⟩ := q.cells i v hv
      obtain ⟨v', e, hv'⟩ := hok.rep.cells b x hx i u hu
      exact ⟨v', e, q2 _ _ _ (hv'.mono hn fun _ _ => rfl)⟩
    fits := fun b z hz ho => by obtain ⟨x, hx, q⟩ := hw b z hz; rw [q.length]; exact hok.rep.fits b x hx (q.own ▸ ho)
    inb := fun b z hz => by obtain ⟨x, hx, q⟩ := hw b z hz; exact hok.rep.inb b x hx
    es := fun b z hz => by obtain ⟨x, hx, q⟩ := hw b z hz; rw [q.es]; exact hok.rep.es b x hx
    there := fun b z hz ho => by obtain ⟨x, hx, q⟩ := hw b z hz; exact hok.rep.there b x hx (q.own ▸ ho)
    apart := fun b z b' z' hz hz' ho hne => by
      obtain ⟨x, hx, q⟩ := hw b z hz
      obtain ⟨x', hx', q'⟩ := hw b' z' hz'
      exact hok.rep.apart b x b' x' hx hx' (q.own ▸ ho) hne }
  next := Nat.le_trans hok.next hn
  mu := hok.mu
  mu2 := fun b hb => hok.mu2 b (Nat.le_trans hn hb)
  low := Nat.le_trans hl hok.low
  keep := hk
  old := fun b z hz hb => by
    obtain ⟨x, hx, q⟩ := hw b z hz
    obtain ⟨x0, h1, h2⟩ := hok.old b x hx hb
    exact ⟨x0, h1, h2.trans q.own.symm⟩
  new := fun b z hz hb => by
    obtain ⟨x, hx, q⟩ := hw b z hz
    obtain ⟨h1, h2⟩ := hok.new b x hx hb
    refine ⟨q.own.trans h1, ?_⟩
    rcases h2 with h2 | ⟨b0, x0, g1, g2, g3, g4⟩
    · exact .inl h2
    · exact .inr ⟨b0, x0, g1, g2, Nat.le_trans hl g3, g4⟩
  os := hok.os
  tape := hok.tape
  output := hok.output
  size := hok.size
  frame := fun k hkk hno => hok.frame k hkk fun b x hx ho hlb => hno b x hx ho (Nat.le_trans hl hlb)

def CovR (base : Mem) (x y : Stt) : Prop := ∀ (μ0 : Map) (w0 : World) (μ : Map) (w : World) (a : Act), Ok μ0 base w0 μ x.mem w → FrR μ x.mem.next x.fr x.size a → Ok μ0 base w0 μ y.mem w ∧ FrR μ y.mem.next y.fr y.size a
theorem CovR.refl (base : Mem) (x : Stt) : CovR base x x := fun _ _ _ _ _ h k => ⟨h, k⟩
theorem CovR.trans {base : Mem} {x y z : Stt} (h : CovR base x y) (k : CovR base y z) : CovR base x z := fun μ0 w0 μ w a h1 h2 => by
  obtain ⟨g1, g2⟩ := h μ0 w0 μ w a h1 h2
  exact k μ0 w0 μ w a g1 g2

theorem mergeS_cov {base : Mem} {sA sB r : Stt} (hlt : ∀ b x, base.heap.get b = some x → b < base.next) (h : mergeS base sA sB = some r) : CovR base sA r ∧ CovR base sB r := by
  obtain ⟨h0, n0, l0⟩ := base
  obtain ⟨frA, size, ⟨hA, nA, lA⟩⟩ := sA
  obtain ⟨frB, size', ⟨hB, nB, lB⟩⟩ := sB
  unfold mergeS at h
  simp only at h hlt
  split at h
  rotate_left
  · simp at h
  rename_i hs
  rw [Nat.beq_eq] at hs
  subst hs
  simp only [fNat_eq] at h
  obtain ⟨h', e1, g⟩ := mergeH_spec _ _ _ _ _ h
  obtain rfl := Option.some.inj e1
  have key : ∀ (frX : Tr Value) (hX : Tr EvBlk) (nX lX : Nat), nX ≤ Nat.max nA nB → Nat.min lA lB ≤ lX → (∀ c z, mergeO (hA.get c) (hB.get c) = some z → ∃ x, hX.get c = some x ∧ Weak x z) →
      (∀ t v, (meetT frA frB).get t = some v → ∃ u, frX.get t = some u ∧ ∀ (μ : Map) nx v', VR μ nx u v' → VR μ nx v v') →
      CovR ⟨h0, n0, l0⟩ ⟨frX, size, ⟨hX, nX, lX⟩⟩ ⟨meetT frA frB, size, ⟨h', Nat.max nA nB, Nat.min lA lB⟩⟩ := by
    intro frX hX nX lX hn hl hw hf μ0 w0 μ w a hok hF
    refine ⟨ok_weaken hok (fun b z hz => ?_) (fun b hb hb0 => ?_) hl hn, ⟨hF.defers, hF.size, fun t v hv => ?_, hF.glob, Nat.le_trans hF.big hn⟩⟩
    · rw [g] at hz
      split at hz
      · exact hw b z hz
      · rename_i hno
        have hb := hlt b z hz
        have hnx := hok.next
        simp only at hnx
        have hst : b < Nat.min (Nat.min lA lB) n0 := by
          rcases Nat.lt_or_ge b (Nat.min (Nat.min lA lB) n0) with h | h
          · exact h
          · exfalso
            refine hno ⟨h, ?_⟩
            omega
        have h1 : b < lX := Nat.lt_of_lt_of_le hst (Nat.le_trans (Nat.min_le_left _ _) hl)
        have := hok.keep b h1 hb
        exact ⟨z, this.trans hz, Weak.refl z⟩
    · rw [g, if_neg]
      rintro ⟨h1, _⟩
      have hb0 : b < n0 := hb0
      have : Nat.min (Nat.min lA lB) n0 = min (Nat.min lA lB) n0 := rfl
      omega
    · obtain ⟨u, h1, h2⟩ := hf t v hv
      exact h2 _ _ _ ((hF.get t u h1).mono hn fun _ _ => rfl)
  refine ⟨key frA hA nA lA (Nat.le_max_left _ _) (Nat.min_le_left _ _) (fun c z hz => ?_) (fun t v hv => ?_), key frB hB nB lB (Nat.le_max_right _ _) (Nat.min_le_right _ _) (fun c z hz => ?_) (fun t v hv => ?_)⟩
  · obtain ⟨a, b, h1, _, h3, _⟩ := mergeO_weak hz; exact ⟨a, h1, h3⟩
  · rw [meetT_get] at hv
    obtain ⟨a, b, h1, _, h3⟩ := meetO_inv hv
    exact ⟨a, h1, fun _ _ _ h => mergeV_left h3 h⟩
  · obtain ⟨a, b, _, h2, _, h4⟩ := mergeO_weak hz; exact ⟨b, h2, h4⟩
  · rw [meetT_get] at hv
    obtain ⟨a, b, _, h2, h3⟩ := meetO_inv hv
    exact ⟨b, h2, fun _ _ _ h => mergeV_right h3 h⟩

theorem Ok.lowers {μ μ' : Map} {h : Tr EvBlk} {n low : Nat} {w w' : World} {m' : Mem} (hok : Ok μ ⟨h, n, big⟩ w μ' m' w') : Ok μ ⟨h, n, low⟩ w μ' ⟨m'.heap, m'.next, Nat.min low m'.low⟩ w' where
  rep := ⟨hok.rep.lt, hok.rep.cells, hok.rep.fits, hok.rep.inb, hok.rep.es, hok.rep.there, hok.rep.apart⟩
  next := hok.next
  mu := hok.mu
  mu2 := hok.mu2
  low := Nat.min_le_left _ _
  keep b hb hn := hok.keep b (Nat.lt_of_lt_of_le hb (Nat.min_le_right _ _)) hn
  old := hok.old
  new b x' hx hb := by
    obtain ⟨h1, h2⟩ := hok.new b x' hx hb
    refine ⟨h1, ?_⟩
    rcases h2 with h2 | ⟨b0, x0, g1, g2, g3, g4⟩
    · exact .inl h2
    · exact .inr ⟨b0, x0, g1, g2, Nat.le_trans (Nat.min_le_right _ _) g3, g4⟩
  os := hok.os
  tape := hok.tape
  output := hok.output
  size := hok.size
  frame k hk hno := hok.frame k hk fun b x hx ho hl => hno b x hx ho (Nat.le_trans (Nat.min_le_right _ _) hl)
theorem sameOut_eq {a b : Out} (h : sameOut a b = true) : a = b := by
  cases a <;> cases b <;> simp [sameOut] at h <;> first | rfl | (subst h; rfl)
end Go.Proofs.YtloolljoelngcaaGreat
