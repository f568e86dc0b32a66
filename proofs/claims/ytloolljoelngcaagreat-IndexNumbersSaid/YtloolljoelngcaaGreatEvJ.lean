/-
  Regions that draw their order: plain lemmas on names, masks, what an operation has made.
-/
import Derived.Test.YtloolljoelngcaaGreatEvI
set_option linter.unusedVariables false
namespace Go.Proofs.YtloolljoelngcaaGreat
open Go.RowKit

theorem addDelta_spec {β : Type} : ∀ (l : Delta) (h : Tr EvBlk) (k : Tr EvBlk → Option β) (r : β), addDelta h l k = some r →
    ∃ h', k h' = some r ∧ (∀ b x, h'.get b = some x → h.get b = some x ∨ (b, x) ∈ l) ∧ (∀ b, (∀ x, (b, x) ∉ l) → h'.get b = h.get b)
  | [], h, k, r, e => ⟨h, e, fun _ _ hx => .inl hx, fun _ _ => rfl⟩
  | (c, y) :: l, h, k, r, e => by
    rw [addDelta] at e
    obtain ⟨h1, e1, g1⟩ := Tr.upd_spec _ _ _ _ _ _ e
    obtain ⟨h2, e2, g2, g3⟩ := addDelta_spec l h1 k r e1
    refine ⟨h2, e2, fun b x hx => ?_, fun b hb => ?_⟩
    · rcases g2 b x hx with hx | hx
      · rw [g1] at hx
        split at hx
        · rename_i hbc
          subst hbc
          obtain rfl := Option.some.inj hx
          exact .inr List.mem_cons_self
        · exact .inl hx
      · exact .inr (List.mem_cons_of_mem _ hx)
    · rw [g3 b fun x hx => hb x (List.mem_cons_of_mem _ hx), g1]
      rw [if_neg]
      rintro rfl
      exact hb y List.mem_cons_self
theorem addDeltas_spec {β : Type} (mask : Nat) : ∀ (l : List Made) (h : Tr EvBlk) (k : Tr EvBlk → Option β) (r : β), addDeltas mask h l k = some r →
    ∃ h', k h' = some r ∧ (∀ b x, h'.get b = some x → h.get b = some x ∨ ∃ e ∈ l, mask.testBit e.i = true ∧ (b, x) ∈ e.d) ∧ (∀ b, (∀ e ∈ l, ∀ x, (b, x) ∉ e.d) → h'.get b = h.get b)
  | [], h, k, r, e => ⟨h, e, fun _ _ hx => .inl hx, fun _ _ => rfl⟩
  | m :: l, h, k, r, e => by
    rw [addDeltas] at e
    cases hm : mask.testBit m.i with
    | true =>
      rw [hm] at e
      simp only at e
      obtain ⟨h1, e1, g1, g1'⟩ := addDelta_spec _ _ _ _ e
      obtain ⟨h2, e2, g2, g3⟩ := addDeltas_spec mask l h1 k r e1
      refine ⟨h2, e2, fun b x hx => ?_, fun b hb => ?_⟩
      · rcases g2 b x hx with hx | ⟨e', he, h3⟩
        · rcases g1 b x hx with hx | hx
          · exact .inl hx
          · exact .inr ⟨m, List.mem_cons_self, hm, hx⟩
        · exact .inr ⟨e', List.mem_cons_of_mem _ he, h3⟩
      · rw [g3 b fun e he x hx => hb e (List.mem_cons_of_mem _ he) x hx, g1' b fun x hx => hb m List.mem_cons_self x hx]
    | false =>
      rw [hm] at e
      simp only at e
      obtain ⟨h2, e2, g2, g3⟩ := addDeltas_spec mask l h k r e
      refine ⟨h2, e2, fun b x hx => ?_, fun b hb => ?_⟩
      · rcases g2 b x hx with hx | ⟨e', he, h3⟩
        · exact .inl hx
        · exact .inr ⟨e', List.mem_cons_of_mem _ he, h3⟩
      · rw [g3 b fun e he x hx => hb e (List.mem_cons_of_mem _ he) x hx]
theorem collect_spec (h : Tr EvBlk) : ∀ (n b0 b : Nat) (x : EvBlk), (b, x) ∈ collect h n b0 → h.get b = some x ∧ b0 ≤ b ∧ b < b0 + n
  | 0, b0, b, x, e => by simp [collect] at e
  | n + 1, b0, b, x, e => by
    rw [collect] at e
    cases hg : h.get b0 with
    | none =>
      rw [hg] at e
      obtain ⟨h1, h2, h3⟩ := collect_spec h n _ b x e
      exact ⟨h1, by omega, by omega⟩
    | some y =>
      rw [hg] at e
      rcases List.mem_cons.1 e with e | e
      · obtain ⟨rfl, rfl⟩ := Prod.mk.inj e
        exact ⟨hg, Nat.le_refl _, by omega⟩
      · obtain ⟨h1, h2, h3⟩ := collect_spec h n _ b x e
        exact ⟨h1, by omega, by omega⟩

mutual
theorem VR.ids {μ μ' : Map} {nx : Nat} {f : Nat → Bool} (hm : ∀ b, f b = true → b < nx → μ' b = μ b) : ∀ {v v' : Value} (k : Nat), VR μ nx v v' → idsV f k v = true → VR μ' nx v v'
  | _, _, 0, _, h => by simp [idsV] at h
  | _, _, k + 1, .flat hf, _ => .flat hf
  | _, _, k + 1, .ptr (b := b) hb, h => by
    rw [idsV] at h
    rw [← hm b h hb]
    exact .ptr hb
  | _, _, k + 1, .slice (b := b) hb hc, h => by
    rw [idsV] at h
    rw [← hm b h hb]
    exact .slice hb hc
  | _, _, k + 1, .sliceAny (b := b) hb hc hr, h => by
    rw [idsV] at h
    rw [← hm b h hb] at hr ⊢
    exact .sliceAny hb hc hr
  | _, _, k + 1, .nowhere, _ => .nowhere
  | _, _, k + 1, .func h1 h2, h => by
    rw [idsV, Bool.and_eq_true] at h
    exact .func (VRs.ids hm k h1 h.1) (VRs.ids hm k h2 h.2)
  | _, _, k + 1, .agg h1, h => by
    rw [idsV] at h
    exact .agg (VRs.ids hm k h1 h)
  | _, _, k + 1, .tuple h1, h => by
    rw [idsV] at h
    exact .tuple (VRs.ids hm k h1 h)
  | _, _, k + 1, .iface h1, h => by
    rw [idsV] at h
    exact .iface (VR.ids hm k h1 h)
  | _, _, k + 1, .coin, _ => .coin
  | _, _, k + 1, .tok (i := i) hi ho, h => by
    rw [idsV] at h
    rw [← hm i h hi] at ho ⊢
    exact .tok hi ho
theorem VRs.ids {μ μ' : Map} {nx : Nat} {f : Nat → Bool} (hm : ∀ b, f b = true → b < nx → μ' b = μ b) : ∀ {l l' : List Value} (k : Nat), VRs μ nx l l' → idsL f k l = true → VRs μ' nx l l'
  | _, _, _, .nil, _ => .nil
  | _, _, k, .cons (v := v) h1 h2, h => by
    rw [idsL] at h
    cases hv : idsV f k v with
    | false => rw [hv] at h; simp at h
    | true => rw [hv] at h; exact .cons (VR.ids hm k h1 hv) (VRs.ids hm k h2 h)
end
theorem idsL_mem {f : Nat → Bool} {k : Nat} : ∀ {l : List Value}, idsL f k l = true → ∀ v ∈ l, idsV f k v = true
  | [], _, v, hv => by simp at hv
  | u :: l, h, v, hv => by
    rw [idsL] at h
    cases hu : idsV f k u with
    | false => rw [hu] at h; simp at h
    | true =>
      rw [hu] at h
      rcases List.mem_cons.1 hv with rfl | hv
      · exact hu
      · exact idsL_mem h v hv
theorem idsD_mem {f : Nat → Bool} : ∀ {l : Delta}, idsD f l = true → ∀ b x, (b, x) ∈ l → idsL f 9 x.cells = true
  | [], _, b, x, hv => by simp at hv
  | (c, y) :: l, h, b, x, hv => by
    rw [idsD] at h
    cases hu : idsL f 9 y.cells with
    | false => rw [hu] at h; simp at h
    | true =>
      rw [hu] at h
      rcases List.mem_cons.1 hv with hv | hv
      · obtain ⟨rfl, rfl⟩ := Prod.mk.inj hv; exact hu
      · exact idsD_mem h b x hv
theorem seen_spec {nb lo mask b : Nat} {ds : List Made} (h : seen nb lo mask ds b = true) : b < nb ∨ lo ≤ b ∨ ∃ e ∈ ds, mask.testBit e.i = true ∧ e.lo ≤ b ∧ b < e.hi := by
  unfold seen at h
  cases hc : Nat.blt b nb || Nat.ble lo b with
  | true =>
    rw [Bool.or_eq_true, Nat.blt_eq, Nat.ble_eq] at hc
    rcases hc with hc | hc
    · exact .inl hc
    · exact .inr (.inl hc)
  | false =>
    rw [hc] at h
    simp only at h
    refine .inr (.inr ?_)
    clear hc
    induction ds with
    | nil => simp [seen1] at h
    | cons e l ih =>
      rw [seen1] at h
      cases hc : mask.testBit e.i && Nat.ble e.lo b && Nat.blt b e.hi with
      | true =>
        rw [Bool.and_eq_true, Bool.and_eq_true, Nat.blt_eq, Nat.ble_eq] at hc
        exact ⟨e, List.mem_cons_self, hc.1.1, hc.1.2, hc.2⟩
      | false =>
        rw [hc] at h
        obtain ⟨e', he, h'⟩ := ih h
        exact ⟨e', List.mem_cons_of_mem _ he, h'⟩

/-! ### masks -/
theorem listNat_get : ∀ (l : List Nat) (i m : Nat), l[i]? = some m → listNat l i = m
  | [], i, m, h => by simp at h
  | x :: l, 0, m, h => by simpa [listNat] using h
  | x :: l, i + 1, m, h => by rw [listNat]; exact listNat_get l i m (by simpa using h)
theorem preE_spec (acc : List Nat) : ∀ (l : List Edge) (j : Nat), (preE acc l).testBit j = true → ∃ e ∈ l, Region.binds .any e = true ∧ (j = e.on ∨ (listNat acc e.on).testBit j = true)
  | [], j, h => by simp [preE] at h
  | e :: l, j, h => by
    rw [preE] at h
    cases hb : Region.binds .any e with
    | true =>
      rw [hb] at h
      simp only [Nat.testBit_or, Bool.or_eq_true] at h
      rcases h with (h | h) | h
      · rw [Nat.testBit_two_pow] at h
        exact ⟨e, List.mem_cons_self, hb, .inl (by have := of_decide_eq_true h; omega)⟩
      · exact ⟨e, List.mem_cons_self, hb, .inr h⟩
      · obtain ⟨e', he, h'⟩ := preE_spec acc l j h
        exact ⟨e', List.mem_cons_of_mem _ he, h'⟩
    | false =>
      rw [hb] at h
      obtain ⟨e', he, h'⟩ := preE_spec acc l j h
      exact ⟨e', List.mem_cons_of_mem _ he, h'⟩
theorem pres_spec : ∀ (l : List Oper) (acc : List Nat), ∃ new, pres l acc = acc ++ new ∧ new.length = l.length ∧ ∀ (k : Nat) o, l[k]? = some o → new[k]? = some (preE (acc ++ new.take k) o.after.toList)
  | [], acc => ⟨[], by simp [pres], rfl, fun k o h => by simp at h⟩
  | o :: l, acc => by
    obtain ⟨new, h1, h2, h3⟩ := pres_spec l (acc ++ [preE acc o.after.toList])
    refine ⟨preE acc o.after.toList :: new, by rw [pres, h1]; simp, by simp [h2], fun k p hp => ?_⟩
    cases k with
    | zero => simp at hp; subst hp; simp
    | succ k =>
      have := h3 k p (by simpa using hp)
      simpa using this
theorem pres_get (ops : Array Oper) {k : Nat} {o : Oper} (h : ops[k]? = some o) :
    (pres ops.toList [])[k]? = some (preE ((pres ops.toList []).take k) o.after.toList) := by
  obtain ⟨new, h1, h2, h3⟩ := pres_spec ops.toList []
  have := h3 k o (by simpa using h)
  rw [h1]
  simpa using this
theorem preE_bit (acc : List Nat) : ∀ (l : List Edge) (e : Edge), e ∈ l → Region.binds .any e = true → (preE acc l).testBit e.on = true
  | [], e, h, _ => by simp at h
  | x :: l, e, h, hb => by
    rw [preE]
    rcases List.mem_cons.1 h with rfl | h
    · rw [hb]
      simp [Nat.testBit_or]
    · have := preE_bit acc l e h hb
      cases Region.binds .any x with
      | true => simp [Nat.testBit_or, this]
      | false => exact this
theorem dirE_mem {k : Nat} : ∀ {l : List Edge}, dirE k l = true → ∃ e ∈ l, Region.binds .any e = true ∧ e.on = k
  | [], h => by simp [dirE] at h
  | x :: l, h => by
    rw [dirE] at h
    cases hc : Region.binds .any x && Nat.beq x.on k with
    | true =>
      rw [Bool.and_eq_true, Nat.beq_eq] at hc
      exact ⟨x, List.mem_cons_self, hc.1, hc.2⟩
    | false =>
      rw [hc] at h
      obtain ⟨e, he, h'⟩ := dirE_mem h
      exact ⟨e, List.mem_cons_of_mem _ he, h'⟩
theorem allBefore_spec {m : Nat} : ∀ {l : List Oper} {j n : Nat}, allBefore m l j n = true → ∀ (k : Nat) o, k < n → l[k]? = some o → m.testBit (j + k) = true ∨ noMem o = true
  | [], j, n, _, k, o, _, h => by simp at h
  | p :: l, j, 0, _, k, o, hk, _ => by omega
  | p :: l, j, n + 1, h, k, o, hk, ho => by
    rw [allBefore] at h
    cases hc : m.testBit j || noMem p with
    | false => rw [hc] at h; simp at h
    | true =>
      rw [hc] at h
      cases k with
      | zero =>
        simp at ho
        subst ho
        rw [Bool.or_eq_true] at hc
        exact hc
      | succ k =>
        have := allBefore_spec h k o (by omega) (by simpa using ho)
        rw [show j + (k + 1) = j.succ + k from by omega]
        exact this
theorem beforeAll_mem {b : Nat} : ∀ {l : List Nat}, beforeAll b l = true → ∀ m ∈ l, m.testBit b = true
  | [], _, m, h => by simp at h
  | x :: l, hh, m, h => by
    rw [beforeAll] at hh
    cases hx : x.testBit b with
    | false => rw [hx] at hh; simp at hh
    | true =>
      rw [hx] at hh
      rcases List.mem_cons.1 h with rfl | h
      · exact hx
      · exact beforeAll_mem hh m h
theorem edgesOk_mem {i : Nat} : ∀ {l : List Edge}, edgesOk i l = true → ∀ e ∈ l, Region.binds .any e = true → e.on < i
  | [], _, e, h, _ => by simp at h
  | x :: l, hh, e, h, hb => by
    rw [edgesOk] at hh
    rcases List.mem_cons.1 h with rfl | h
    · cases hx : Nat.blt e.on i with
      | false => rw [hb, hx] at hh; simp at hh
      | true => simpa [Nat.blt_eq] using hx
    · split at hh
      · simp at hh
      · exact edgesOk_mem hh e h hb
theorem dstOk_spec {o : Oper} {i : Nat} {looks : List Tmp} : ∀ {l : List Oper} {k : Nat}, dstOk o i looks l k = true → ∀ (j : Nat) p d, l[j]? = some p → k + j ≠ i → p.dst = some d →
    o.dst ≠ some d ∧ (d ∈ looks → (∃ e ∈ o.after, Region.binds .any e = true ∧ e.on = k + j) ∨ (∃ e ∈ p.after, Region.binds .any e = true ∧ e.on = i))
  | [], k, _, j, p, d, h, _, _ => by simp at h
  | q :: l, k, hh, j, p, d, h, hne, hd => by
    rw [dstOk] at hh
    split at hh
    · rename_i hc
      cases j with
      | zero =>
        simp at h
        subst h
        rw [Bool.or_eq_true, Nat.beq_eq] at hc
        rcases hc with hc | hc
        · omega
        · rw [hd] at hc
          simp only [Bool.and_eq_true, Bool.or_eq_true] at hc
          obtain ⟨c1, c2⟩ := hc
          refine ⟨?_, fun hl => ?_⟩
          · intro e
            rw [e] at c1
            simp at c1
          · rcases c2 with (c2 | c2) | c2
            · simp at c2; exact absurd hl c2
            · obtain ⟨e, he, h'⟩ := dirE_mem c2; exact .inl ⟨e, by simpa using he, h'⟩
            · obtain ⟨e, he, h'⟩ := dirE_mem c2; exact .inr ⟨e, by simpa using he, h'⟩
      | succ j =>
        have := dstOk_spec hh j p d (by simpa using h) (by omega) hd
        rw [show k + (j + 1) = k.succ + j from by omega]
        exact this
    · simp at hh
theorem allOk_spec {ops : Array Oper} : ∀ {l : List Oper} {k : Nat}, allOk ops l k = true → ∀ (j : Nat) o, l[j]? = some o →
    edgesOk (k + j) o.after.toList = true ∧ dstOk o (k + j) (o.looksAt ops) ops.toList 0 = true ∧ ∀ cs b, o.op ≠ .select cs b
  | [], k, _, j, o, h => by simp at h
  | q :: l, k, hh, j, o, h => by
    rw [allOk] at hh
    split at hh
    · rename_i hc
      cases j with
      | zero =>
        simp at h
        subst h
        simp only [Bool.and_eq_true] at hc
        refine ⟨hc.1.1, hc.1.2, fun cs b e => ?_⟩
        rw [e] at hc
        simp at hc
      | succ j =>
        have := allOk_spec hh j o (by simpa using h)
        rw [show k + (j + 1) = k.succ + j from by omega]
        exact this
    · simp at hh
/-- what is ahead of an operation that may come up has come up -/
theorem pre_closed {ops : Array Oper} (hok : drawOk ops = true) {S : Nat → Prop} (hS : ∀ j o, S j → ops[j]? = some o → ∀ e ∈ o.after, Region.binds .any e = true → S e.on) :
    ∀ (i : Nat) (o : Oper) (m : Nat), ops[i]? = some o → (pres ops.toList [])[i]? = some m → (∀ e ∈ o.after, Region.binds .any e = true → S e.on) → ∀ j, m.testBit j = true → S j ∧ j < i := by
  intro i
  induction i using Nat.strongRecOn with
  | _ i ih =>
    intro o m ho hm hpre j hj
    rw [pres_get ops ho] at hm
    obtain rfl := Option.some.inj hm
    obtain ⟨e, he, hb, h⟩ := preE_spec _ _ _ hj
    have hlt : e.on < i := by
      have := (allOk_spec hok i o (by simpa using ho)).1
      rw [Nat.zero_add] at this
      exact edgesOk_mem this e he hb
    have hSe := hpre e (by simpa using he) hb
    rcases h with rfl | h
    · exact ⟨hSe, hlt⟩
    · have hi : i < ops.size := (Array.getElem?_eq_some_iff.1 ho).1
      have hoe : ops[e.on]? = some ops[e.on] := Array.getElem?_eq_getElem (by omega)
      have hme := pres_get ops hoe
      have h2 : ((pres ops.toList []).take i)[e.on]? = some (preE ((pres ops.toList []).take e.on) ops[e.on].after.toList) := by
        rw [List.getElem?_take, if_pos hlt]; exact hme
      rw [listNat_get _ _ _ h2] at h
      obtain ⟨h3, h4⟩ := ih e.on hlt _ _ hoe hme (hS e.on _ hSe hoe) j h
      exact ⟨h3, by omega⟩
theorem only_spec {β : Type} {fr : Tr Value} : ∀ (l : List Operand) (t : Tr Value) (k : Tr Value → Option β) (r : β), only fr l t k = some r →
    ∃ t', k t' = some r ∧ ∀ i, (Operand.tmp i ∈ l → (t'.get i = fr.get i ∨ fr.get i = none ∧ t'.get i = t.get i)) ∧ (Operand.tmp i ∉ l → t'.get i = t.get i)
  | [], t, k, r, h => ⟨t, h, fun i => ⟨fun hh => by simp at hh, fun _ => rfl⟩⟩
  | x :: l, t, k, r, h => by
    have other : ∀ (hx : ∀ j, x ≠ .tmp j), only fr l t k = some r → ∃ t', k t' = some r ∧ ∀ i, (Operand.tmp i ∈ x :: l → (t'.get i = fr.get i ∨ fr.get i = none ∧ t'.get i = t.get i)) ∧ (Operand.tmp i ∉ x :: l → t'.get i = t.get i) := by
      intro hx h
      obtain ⟨t', h1, h2⟩ := only_spec l t k r h
      refine ⟨t', h1, fun i => ⟨fun hh => ?_, fun hh => ?_⟩⟩
      · rcases List.mem_cons.1 hh with e | hh
        · exact absurd e.symm (hx i)
        · exact (h2 i).1 hh
      · exact (h2 i).2 fun h => hh (List.mem_cons_of_mem _ h)
    unfold only at h
    cases x with
    | tmp j =>
      simp only at h
      cases hg : fr.get j with
      | none =>
        rw [hg] at h
        obtain ⟨t', h1, h2⟩ := only_spec l t k r h
        refine ⟨t', h1, fun i => ⟨fun hh => ?_, fun hh => (h2 i).2 fun h => hh (List.mem_cons_of_mem _ h)⟩⟩
        by_cases hi : Operand.tmp i ∈ l
        · exact (h2 i).1 hi
        · rcases List.mem_cons.1 hh with e | hh
          · injection e with e; subst e; exact .inr ⟨hg, (h2 i).2 hi⟩
          · exact absurd hh hi
      | some v =>
        rw [hg] at h
        simp only at h
        obtain ⟨t1, e1, g1⟩ := Tr.upd_spec _ _ _ _ _ _ h
        obtain ⟨t', h1, h2⟩ := only_spec l t1 k r e1
        refine ⟨t', h1, fun i => ⟨fun hh => ?_, fun hh => ?_⟩⟩
        · by_cases hi : Operand.tmp i ∈ l
          · rcases (h2 i).1 hi with h3 | ⟨h3, h4⟩
            · exact .inl h3
            · have hne : i ≠ j := fun e => by subst e; rw [hg] at h3; cases h3
              rw [g1, if_neg hne] at h4
              exact .inr ⟨h3, h4⟩
          · rcases List.mem_cons.1 hh with e | hh
            · injection e with e; subst e
              left
              rw [(h2 i).2 hi, g1, if_pos rfl, hg]
            · exact absurd hh hi
        · have hne : i ≠ j := fun e => hh (by subst e; exact List.mem_cons_self)
          rw [(h2 i).2 fun h => hh (List.mem_cons_of_mem _ h), g1, if_neg hne]
    | const u => exact other (fun j e => by cases e) h
    | global u => exact other (fun j e => by cases e) h
    | func u => exact other (fun j e => by cases e) h
end Go.Proofs.YtloolljoelngcaaGreat
