/-
  slices.AppendSeq(nil, maps.Values(m)) of an empty map, and of a map with two entries, in plain words.
-/
import Derived.Test.YtloolljoelngcaaGreatAppSeq
import Derived.StringKeys
set_option linter.unusedVariables false
namespace Go.Proofs.YtloolljoelngcaaGreat
open Go.RowKit Go.Maps Go.Sort Go.Proofs
theorem seq_none (w : World) (B off r clock : Nat) (hB : B < w.heap.size) (hm : w.cell? ⟨B, off, none⟩ = some (.map (some r))) (hb : w.heap[r]? = some (.map #[] clock)) :
    Calls Tryz.prog 125 #[.slice none 0 0, .func (.func 109) #[] #[.pointer (some ⟨B, off, none⟩)]] w fun e w' => e = .returned (.slice none 0 0) ∧ Below w.heap.size w w' := by
  have hown : w.ownsMap Tryz.prog 9 rdG r 0 (.map []) := ⟨#[], clock, hb, ⟨by simp, ⟨by simp, by simp, by simp⟩, by simp⟩, by simp, rfl⟩
  refine (callsIn_wide.1 (app_in Fence.wide 5 trivial trivial rfl (by omega) B off r 0 _ (by simp [Maps.size]) w hB hm hown)).mono ?_
  rintro e w' ⟨v, xs, rfl, ⟨ps, hA, rfl⟩, hrow, hnil, hBl⟩
  have : ps = [] := by
    have := hA.1
    simpa [strKeys] using this
  subst this
  exact ⟨by rw [hnil.2 rfl], hBl⟩
theorem datG_inj {c d : VV} (h : datG c = datG d) : c = d := by
  obtain ⟨p, n, k, q, m, j⟩ := c
  obtain ⟨p', n', k', q', m', j'⟩ := d
  simp [datG] at h
  simp [h]
theorem seq_two (w : World) (B off r clock : Nat) (k1 k2 : List UInt8) (c1 c2 : VV) (b1 b2 : Nat) (hB : B < w.heap.size) (hm : w.cell? ⟨B, off, none⟩ = some (.map (some r)))
    (hb : w.heap[r]? = some (.map #[{ key := .string ⟨⟨k1⟩⟩, val := encG c1, born := b1 }, { key := .string ⟨⟨k2⟩⟩, val := encG c2, born := b2 }] clock)) (hk : k1 ≠ k2) (hb1 : b1 < clock) (hb2 : b2 < clock) (hbb : b1 ≠ b2) (hl1 : k1.length ≤ 1000) (hl2 : k2.length ≤ 1000) :
    Calls Tryz.prog 125 #[.slice none 0 0, .func (.func 109) #[] #[.pointer (some ⟨B, off, none⟩)]] w fun e w' => ∃ xs, (xs = [c1, c2] ∨ xs = [c2, c1]) ∧
      ∃ g cap cur, e = .returned (.slice (some ⟨g, 0, none⟩) 2 cap) ∧ w.heap.size ≤ g ∧ w'.heap[g]? = some (.cells cur 68 (0, 0)) ∧ 2 ≤ cap ∧ cur.size = cap * 2 ∧ cur.toList.take 4 = xs.flatMap cellsG ∧ Below w.heap.size w w' := by
  have hk1 : keyOf Tryz.prog 9 (.string ⟨⟨k1⟩⟩) = some (.string k1) := Go.WideMaps.keyOf_string_mk Tryz.underlying9 (by show k1.length ≤ _; simp only [maxLen]; omega)
  have hk2 : keyOf Tryz.prog 9 (.string ⟨⟨k2⟩⟩) = some (.string k2) := Go.WideMaps.keyOf_string_mk Tryz.underlying9 (by show k2.length ≤ _; simp only [maxLen]; omega)
  have hr1 := WideElems.rd_mk (P := Tryz.prog) (k := 9) (R := rdG) (key := .string ⟨⟨k1⟩⟩) (val := encG c1) (born := b1) hk1 (yv := (datG c1, [])) rfl
  have hr2 := WideElems.rd_mk (P := Tryz.prog) (k := 9) (R := rdG) (key := .string ⟨⟨k2⟩⟩) (val := encG c2) (born := b2) hk2 (yv := (datG c2, [])) rfl
  have hown : w.ownsMap Tryz.prog 9 rdG r 2 (.map (DataW.insert (.string k1, datG c1) (DataW.insert (.string k2, datG c2) []))) := by
    refine ⟨_, clock, hb, ⟨by simp [maxLen], ⟨by simp [hb1, hb2], by simp [hbb], by simp [hk]⟩, fun x hx => ?_⟩, by simp, ?_⟩
    · simp at hx
      rcases hx with rfl | rfl
      · exact ⟨_, hr1⟩
      · exact ⟨_, hr2⟩
    · simp [WideElems.rg_of hr1, WideElems.rg_of hr2]
  have hsz : Maps.size (H := Value) (.map (DataW.insert (.string k1, datG c1) (DataW.insert (.string k2, datG c2) []))) ≤ 100 := by
    simp only [DataW.insert]
    split <;> simp [Maps.size]
  refine (callsIn_wide.1 (app_in Fence.wide 5 trivial trivial rfl (by omega) B off r 2 _ hsz w hB hm hown)).mono ?_
  rintro e w' ⟨v, xs, rfl, ⟨ps, hA, rfl⟩, hrow, hnil, hBl⟩
  have hne : (k1 == k2) = false := by simpa using hk
  have hne' : (k2 == k1) = false := by simpa using Ne.symm hk
  have hat1 : ∀ zd, DataW.atKey (.map (DataW.insert (.string k1, datG c1) (DataW.insert (.string k2, datG c2) []))) (.string k1) zd = datG c1 := fun zd => by
    simp only [DataW.insert]
    split <;> simp [DataW.atKey, List.find?, Lit.sameKey, hne']
  have hat2 : ∀ zd, DataW.atKey (.map (DataW.insert (.string k1, datG c1) (DataW.insert (.string k2, datG c2) []))) (.string k2) zd = datG c2 := fun zd => by
    simp only [DataW.insert]
    split <;> simp [DataW.atKey, List.find?, Lit.sameKey, hne]
  obtain ⟨hperm, hval⟩ := hA
  have hkeys : strKeys (H := Value) (.map (DataW.insert (.string k1, datG c1) (DataW.insert (.string k2, datG c2) []))) = [k1, k2] ∨ strKeys (H := Value) (.map (DataW.insert (.string k1, datG c1) (DataW.insert (.string k2, datG c2) []))) = [k2, k1] := by
    simp only [DataW.insert]
    split
    · exact .inl rfl
    · exact .inr rfl
  have hperm2 : (ps.map (·.1)).Perm [k1, k2] := by
    rcases hkeys with h | h <;> rw [h] at hperm
    · exact hperm
    · exact hperm.trans (List.Perm.swap _ _ _)
  have hx : ps.map (·.2) = [c1, c2] ∨ ps.map (·.2) = [c2, c1] := by
    have hlen : ps.length = 2 := by simpa using hperm2.length_eq
    obtain ⟨p, q, rfl⟩ : ∃ p q, ps = [p, q] := by
      match ps, hlen with
      | [p, q], _ => exact ⟨p, q, rfl⟩
    have hnd : p.1 ≠ q.1 := by
      have := hperm2.nodup_iff.2 (by simp [hk])
      simpa using this
    have hp : p.1 = k1 ∨ p.1 = k2 := by have := hperm2.subset (a := p.1) (by simp); simpa using this
    have hq : q.1 = k1 ∨ q.1 = k2 := by have := hperm2.subset (a := q.1) (by simp); simpa using this
    have vp := hval p (by simp)
    have vq := hval q (by simp)
    unfold ValG at vp vq
    rcases hp with hp | hp <;> rcases hq with hq | hq
    · exact absurd (hp.trans hq.symm) hnd
    · left
      rw [hp] at vp; rw [hq] at vq
      have e1 := datG_inj ((hat1 .nil).symm.trans (vp .nil))
      have e2 := datG_inj ((hat2 .nil).symm.trans (vq .nil))
      simp [e1, e2]
    · right
      rw [hp] at vp; rw [hq] at vq
      have e1 := datG_inj ((hat2 .nil).symm.trans (vp .nil))
      have e2 := datG_inj ((hat1 .nil).symm.trans (vq .nil))
      simp [e1, e2]
    · exact absurd (hp.trans hq.symm) hnd
  have hl2 : (ps.map (·.2)).length = 2 := by rcases hx with h | h <;> rw [h] <;> rfl
  obtain ⟨_, h | ⟨g, cap, cur, rfl, hg, hh, hc, _, hsz2, hcur⟩⟩ := hrow
  · have := h.2
    rw [hl2] at this; cases this
  rw [hl2] at hc hcur ⊢
  exact ⟨_, hx, g, cap, cur, rfl, hg, hh, hc, hsz2, hcur, hBl⟩
end Go.Proofs.YtloolljoelngcaaGreat
