/-
  Regions in which a load has no order with an append: the load is of what the region does not write.
-/
import Derived.Test.YtloolljoelngcaaGreatEvS
import Derived.OrdersHeld
set_option linter.unusedVariables false
namespace Go.Proofs.YtloolljoelngcaaGreat
open Go.RowKit

section
variable {P : Program} {rec : Req → Stt → Option (Out × Stt)} {μ : Map} {m : Mem} {w : World}
theorem rd_at (hR : Rep μ m w) {b o n : Nat} {l : List Value} (h : rdCells m ⟨b, o, none⟩ n = some l) :
    ∃ l', VRs μ m.next l l' ∧ l.length = n ∧ ∀ w2 : World, w2.heap[(μ b).blk]? = w.heap[(μ b).blk]? → (loadCells ⟨(μ b).blk, (μ b).base + o, none⟩ n).run P w2 = .ok ⟨l'⟩ w2 := by
  unfold rdCells at h
  split at h
  · simp at h
    subst h
    exact ⟨[], .nil, rfl, fun w2 _ => by simpa using run_loadCells_list (P := P) w2 ⟨(μ b).blk, (μ b).base + o, none⟩ [] (by simp)⟩
  · simp only at h
    cases hx : m.heap.get b with
    | none => rw [hx] at h; simp at h
    | some x =>
      rw [hx] at h
      simp only at h
      rw [dropN_eq] at h
      obtain ⟨rfl, hlen⟩ := takeN_eq _ _ _ h
      have hc := hR.cells b x hx
      have : ∃ f : Nat → Value, ∀ i v, x.cells[i]? = some v → w.cell? ⟨(μ b).blk, (μ b).base + i, none⟩ = some (f i) ∧ VR μ m.next v (f i) := by
        refine ⟨fun i => (w.cell? ⟨(μ b).blk, (μ b).base + i, none⟩).getD undef, fun i v hv => ?_⟩
        obtain ⟨v', e, hv'⟩ := hc i v hv
        simp [e, hv']
      obtain ⟨f, hf⟩ := this
      simp at hlen
      refine ⟨(List.range n).map fun j => f (o + j), VRs.of_get (by simp; omega) (fun i v hv => ?_), by simp; omega, fun w2 hw2 => ?_⟩
      · rw [List.getElem?_take] at hv
        split at hv
        · rename_i hi
          rw [List.getElem?_drop] at hv
          exact ⟨f (o + i), by simp [hi], (hf _ _ hv).2⟩
        · simp at hv
      · have hcell : ∀ p : Addr, p.block = (μ b).blk → w2.cell? p = w.cell? p := fun p hp => by unfold World.cell?; rw [hp, hw2]
        have := run_loadCells (P := P) w2 ⟨(μ b).blk, (μ b).base + o, none⟩ n (fun j => f (o + j)) (fun j hj => by
          rw [add_none, Nat.add_assoc, hcell _ rfl]
          exact (hf (o + j) (x.cells[o + j]'(by omega)) (List.getElem?_eq_getElem (by omega))).1)
        simpa using this
/-- what is loaded, in every world in which the block is the same -/
theorem ldVar_at (hR : Rep μ m w) {t : TypeId} {b f : Nat} {v : Value} (h : ldVar P t m ⟨b, f, none⟩ = some v) :
    ∃ v', VR μ m.next v v' ∧ ∀ w2 : World, w2.heap[(μ b).blk]? = w.heap[(μ b).blk]? → (loadVar t ⟨(μ b).blk, (μ b).base + f, none⟩).run P w2 = .ok v' w2 := by
  unfold ldVar at h
  simp only at h
  cases hx : m.heap.get b with
  | none => rw [hx] at h; simp at h
  | some x =>
    rw [hx] at h
    simp only at h
    cases hu : P.underlying t with
    | none => rw [hu] at h; simp at h
    | some d =>
      rw [hu] at h
      simp only at h
      cases hd : isAggD d with
      | true =>
        rw [hd] at h
        simp only at h
        cases hz : szOf P t with
        | none => rw [hz] at h; simp at h
        | some z =>
          rw [hz] at h
          simp only at h
          cases ht : takeN z (dropN f x.cells) with
          | none => rw [ht] at h; simp at h
          | some l =>
            rw [ht] at h
            simp at h
            subst h
            have hrd : rdCells m ⟨b, f, none⟩ z = some l := by
              unfold rdCells
              split
              · simp [takeN] at ht; exact ht ▸ rfl
              · simp [hx, ht]
            obtain ⟨l', hv, _, hrun⟩ := rd_at (P := P) hR hrd
            refine ⟨.agg ⟨l'⟩, .agg hv, fun w2 hw2 => ?_⟩
            have hagg := run_isAgg (w := w2) hu
            rw [hd] at hagg
            simp [loadVar, hagg, run_sizeOf hz, hrun w2 hw2]
      | false =>
        rw [hd] at h
        simp only at h
        rw [nth_eq] at h
        obtain ⟨u, e, hu'⟩ := hR.cells b x hx f v h
        refine ⟨u, hu', fun w2 hw2 => ?_⟩
        have hagg2 := run_isAgg (w := w2) hu
        rw [hd] at hagg2
        have hcell : ∀ p : Addr, p.block = (μ b).blk → w2.cell? p = w.cell? p := fun p hp => by unfold World.cell?; rw [hp, hw2]
        have e2 : w2.cell? ⟨(μ b).blk, (μ b).base + f, none⟩ = some u := (hcell _ rfl).trans e
        simp [loadVar, hagg2, e2]
end

section
variable {P : Program} {rec : Req → Stt → Option (Out × Stt)} {ops : Array Oper} {MS : List Nat} {st : Nat → DSt} {c nb0 : Nat}
structure WriteL (P : Program) (rec : Req → Stt → Option (Out × Stt)) (ops : Array Oper) (MS : List Nat) (lm : Nat) (L : List Nat) (k : Nat) (p q : DSt) (o : Oper) (m : Nat) (vis hh : Tr EvBlk) (fr : Tr Value) (v : Value) (mh m' : Mem) : Prop where
  op : ops[k]? = some o
  ms : MS[k]? = some m
  wanted : wantedE ops o p.s.fr = some true
  adds : Adds m p.s.mem.heap p.ds vis
  only : OnlyR p.s.fr o.op.operands.toList fr
  hid : ∀ b, hh.get b = if memN b L = true then none else vis.get b
  run : doOp P rec fr ⟨hh, p.s.mem.next, big⟩ o = some (v, mh)
  unhid : m'.next = mh.next ∧ m'.low = mh.low ∧ ∀ b, m'.heap.get b = if memN b L = true then vis.get b else mh.heap.get b
  put : PutR p.s.fr p.s.size o.dst v q.s.fr
  size : q.s.size = p.s.size
  all : ∀ (j : Nat) oj, j < k → ops[j]? = some oj → m.testBit j = true ∨ (noMem oj = true ∨ lm.testBit j = true)
  heavy : noMem o = false
  dark : lm.testBit k = false
  rest : ∀ j m2, k < j → MS[j]? = some m2 → m2.testBit k = true
  mem : q.s.mem = ⟨m'.heap, m'.next, Nat.min p.s.mem.low m'.low⟩
  nb : q.nb = m'.next
  ds : q.ds = []
theorem Rep.hides {μ : Map} {vis hh : Tr EvBlk} {n low : Nat} {w : World} {L : List Nat} (h : Rep μ ⟨vis, n, low⟩ w) (hid : ∀ b, hh.get b = if memN b L = true then none else vis.get b) : Rep μ ⟨hh, n, low⟩ w := by
  have sub : ∀ b x, hh.get b = some x → vis.get b = some x := fun b x hx => by
    rw [hid] at hx
    split at hx
    · cases hx
    · exact hx
  exact ⟨fun b x hx => h.lt b x (sub b x hx), fun b x hx => h.cells b x (sub b x hx), fun b x hx => h.fits b x (sub b x hx), fun b x hx => h.inb b x (sub b x hx), fun b x hx => h.es b x (sub b x hx), fun b x hx => h.there b x (sub b x hx), fun b x b' x' hx hx' => h.apart b x b' x' (sub b x hx) (sub b' x' hx')⟩
/-- what is done on a memory in which blocks are hidden, is done beside them -/
theorem Ok.unhide {μ μ' : Map} {vis hh : Tr EvBlk} {n : Nat} {w w' : World} {L : List Nat} {mh m' : Mem} (h : Rep μ ⟨vis, n, big⟩ w) (hid : ∀ b, hh.get b = if memN b L = true then none else vis.get b)
    (hok : Ok μ ⟨hh, n, big⟩ w μ' mh w') (hun : m'.next = mh.next ∧ m'.low = mh.low ∧ ∀ b, m'.heap.get b = if memN b L = true then vis.get b else mh.heap.get b) :
    Ok μ ⟨vis, n, big⟩ w μ' m' w' ∧ ∀ b x, memN b L = true → vis.get b = some x → w'.heap[(μ b).blk]? = w.heap[(μ b).blk]? := by
  obtain ⟨u1, u2, u3⟩ := hun
  have sub : ∀ b x, hh.get b = some x → vis.get b = some x ∧ memN b L = false := fun b x hx => by
    rw [hid] at hx
    split at hx
    · cases hx
    · rename_i hm; exact ⟨hx, by simpa using hm⟩
  have same : ∀ b x, memN b L = true → vis.get b = some x → w'.heap[(μ b).blk]? = w.heap[(μ b).blk]? := fun b x hb hx =>
    hok.frame _ (h.inb b x hx) fun b' x' hx' ho' _ => by
      obtain ⟨q1, q2⟩ := sub b' x' hx'
      have hne : b' ≠ b := fun e => by subst e; rw [hb] at q2; cases q2
      exact h.apart b' x' b x q1 hx ho' hne
  have cell : ∀ b x, memN b L = true → vis.get b = some x → ∀ i, w'.cell? ⟨(μ' b).blk, i, none⟩ = w.cell? ⟨(μ b).blk, i, none⟩ := fun b x hb hx i => by
    have e := hok.mu b (h.lt b x hx)
    have hs := same b x hb hx
    unfold World.cell?
    rw [e]
    simp only [hs]
  have parts : ∀ b x, m'.heap.get b = some x → (memN b L = true ∧ vis.get b = some x) ∨ (memN b L = false ∧ mh.heap.get b = some x) := fun b x hx => by
    rw [u3] at hx
    split at hx
    · rename_i hm; exact .inl ⟨hm, hx⟩
    · rename_i hm; exact .inr ⟨by simpa using hm, hx⟩
  have hap : ∀ b x b' x', memN b L = true → vis.get b = some x → mh.heap.get b' = some x' → b ≠ b' → (x.own = true ∨ x'.own = true) → (μ' b).blk ≠ (μ' b').blk := fun b x b' x' hb hx hx' hne ho => by
    have hlt := h.lt b x hx
    rw [hok.mu b hlt]
    rcases Nat.lt_or_ge b' n with hb' | hb'
    · obtain ⟨x0, h0, ho0⟩ := hok.old b' x' hx' hb'
      obtain ⟨q1, _⟩ := sub b' x0 h0
      rw [hok.mu b' hb']
      rcases ho with ho | ho
      · exact h.apart b x b' x0 hx q1 ho hne
      · exact fun e => h.apart b' x0 b x q1 hx (ho0.trans ho) (fun e => hne e.symm) e.symm
    · obtain ⟨_, hnw⟩ := hok.new b' x' hx' hb'
      rcases hnw with hnw | ⟨b0, x0, q0, q1, _, q2⟩
      · have := h.inb b x hx
        omega
      · obtain ⟨r1, r2⟩ := sub b0 x0 q0
        rw [q2]
        exact fun e => h.apart b0 x0 b x r1 hx q1 (fun e => by subst e; rw [hb] at r2; cases r2) e.symm
  refine ⟨⟨⟨fun b x hx => ?_, fun b x hx i v hv => ?_, fun b x hx ho => ?_, fun b x hx => ?_, fun b x hx => ?_, fun b x hx ho => ?_, fun b x b' x' hx hx' ho hne => ?_⟩, ?_, hok.mu, fun b hb => hok.mu2 b (by rw [← u1]; exact hb), by rw [u2]; exact hok.low, fun b hb1 hb2 => ?_, fun b x' hx hb => ?_, fun b x' hx hb => ?_, hok.os, hok.tape, hok.output, hok.size, fun k hk hf => ?_⟩, same⟩
  · rw [u1]
    rcases parts b x hx with ⟨hm, hx⟩ | ⟨hm, hx⟩
    · exact Nat.lt_of_lt_of_le (h.lt b x hx) hok.next
    · exact hok.rep.lt b x hx
  · rw [u1]
    rcases parts b x hx with ⟨hm, hx⟩ | ⟨hm, hx⟩
    · obtain ⟨v', e, hv'⟩ := h.cells b x hx i v hv
      refine ⟨v', ?_, hv'.mono hok.next hok.mu⟩
      rw [cell b x hm hx, hok.mu b (h.lt b x hx)]
      exact e
    · exact hok.rep.cells b x hx i v hv
  · rcases parts b x hx with ⟨hm, hx⟩ | ⟨hm, hx⟩
    · rw [hok.mu b (h.lt b x hx)]; exact h.fits b x hx ho
    · exact hok.rep.fits b x hx ho
  · rcases parts b x hx with ⟨hm, hx⟩ | ⟨hm, hx⟩
    · rw [hok.mu b (h.lt b x hx)]; exact Nat.lt_of_lt_of_le (h.inb b x hx) hok.size
    · exact hok.rep.inb b x hx
  · rcases parts b x hx with ⟨hm, hx⟩ | ⟨hm, hx⟩
    · rw [hok.mu b (h.lt b x hx)]; exact h.es b x hx
    · exact hok.rep.es b x hx
  · rcases parts b x hx with ⟨hm, hx⟩ | ⟨hm, hx⟩
    · rw [hok.mu b (h.lt b x hx)]
      exact (h.there b x hx ho).at (same b x hm hx)
    · exact hok.rep.there b x hx ho
  · rcases parts b x hx with ⟨hm, hx⟩ | ⟨hm, hx⟩
    · rcases parts b' x' hx' with ⟨hm', hx'⟩ | ⟨hm', hx'⟩
      · rw [hok.mu b (h.lt b x hx), hok.mu b' (h.lt b' x' hx')]
        exact h.apart b x b' x' hx hx' ho hne
      · exact hap b x b' x' hm hx hx' hne (.inl ho)
    · rcases parts b' x' hx' with ⟨hm', hx'⟩ | ⟨hm', hx'⟩
      · exact fun e => hap b' x' b x hm' hx' hx (fun e => hne e.symm) (.inr ho) e.symm
      · exact hok.rep.apart b x b' x' hx hx' ho hne
  · rw [u1]; exact hok.next
  · rw [u3]
    split
    · rfl
    · rename_i hm
      rw [u2] at hb1
      rw [hok.keep b hb1 hb2, hid, if_neg hm]
  · rcases parts b x' hx with ⟨hm, hx⟩ | ⟨hm, hx⟩
    · exact ⟨x', hx, rfl⟩
    · obtain ⟨x, h0, ho⟩ := hok.old b x' hx hb
      exact ⟨x, (sub b x h0).1, ho⟩
  · rcases parts b x' hx with ⟨hm, hx⟩ | ⟨hm, hx⟩
    · exact absurd (h.lt b x' hx) (by have : n ≤ b := hb; show ¬ b < n; omega)
    · obtain ⟨h1, h2⟩ := hok.new b x' hx hb
      refine ⟨h1, ?_⟩
      rcases h2 with h2 | ⟨b0, x0, q0, q1, q2, q3⟩
      · exact .inl h2
      · exact .inr ⟨b0, x0, (sub b0 x0 q0).1, q1, by rw [u2]; exact q2, q3⟩
  · exact hok.frame k hk fun b x hx ho hl => hf b x (sub b x hx).1 ho (by rw [u2]; exact hl)
theorem hideL_spec {β : Type} : ∀ (L : List Nat) (h : Tr EvBlk) (k : Tr EvBlk → Option β) (r : β), hideL L h k = some r → ∃ h', k h' = some r ∧ ∀ b, h'.get b = if memN b L = true then none else h.get b
  | [], h, k, r, e => ⟨h, e, fun b => by simp [memN]⟩
  | c :: L, h, k, r, e => by
    rw [hideL] at e
    obtain ⟨h1, e1, g1⟩ := Tr.upd_spec _ _ _ _ _ _ e
    obtain ⟨h2, e2, g2⟩ := hideL_spec L h1 k r e1
    refine ⟨h2, e2, fun b => ?_⟩
    rw [g2, g1, memN]
    by_cases hb : b = c
    · subst hb
      simp
    · have : Nat.beq b c = false := by
        cases hx : Nat.beq b c with
        | false => rfl
        | true => exact absurd (Nat.beq_eq.mp hx) hb
      rw [this, if_neg hb]
theorem unhideL_spec {β : Type} (vis : Tr EvBlk) : ∀ (L : List Nat) (h : Tr EvBlk) (k : Tr EvBlk → Option β) (r : β), unhideL vis L h k = some r → ∃ h', k h' = some r ∧ ∀ b, h'.get b = if memN b L = true then vis.get b else h.get b
  | [], h, k, r, e => ⟨h, e, fun b => by simp [memN]⟩
  | c :: L, h, k, r, e => by
    rw [unhideL] at e
    obtain ⟨h1, e1, g1⟩ := Tr.upd_spec _ _ _ _ _ _ e
    obtain ⟨h2, e2, g2⟩ := unhideL_spec vis L h1 k r e1
    refine ⟨h2, e2, fun b => ?_⟩
    rw [g2, g1, memN]
    by_cases hb : b = c
    · subst hb
      simp
    · have : Nat.beq b c = false := by
        cases hx : Nat.beq b c with
        | false => rfl
        | true => exact absurd (Nat.beq_eq.mp hx) hb
      rw [this, if_neg hb]
/-- a load of what stood there when the region began, below all that the region writes -/
def StepL (P : Program) (rec : Req → Stt → Option (Out × Stt)) (ops : Array Oper) (MS : List Nat) (lm : Nat) (L : List Nat) (nb0 : Nat) (k : Nat) (p q : DSt) : Prop :=
  ((∃ o, SkipR ops k p q o) ∨ ∃ o m vis fr v m', GrowR P rec ops MS k p q o m vis fr v m' ∧ (lm.testBit k = true → lightOk L nb0 fr o = true)) ∨
  ∃ o m vis hh fr v mh m', WriteL P rec ops MS lm L k p q o m vis hh fr v mh m'
/-- what no operation of the region turns -/
def Still (st : Nat → DSt) (L : List Nat) (μR : Map) (wR : World) (w : World) : Prop := ∀ b x, (st 0).s.mem.heap.get b = some x → memN b L = true → w.heap[(μR b).blk]? = wR.heap[(μR b).blk]?
theorem any_light [ExtOk P] (hS : Snd P rec) {lm : Nat} {L : List Nat} {μR : Map} {wR : World} {μ0 : Map} {m0 : Mem} {w0 : World} {s' : Stt} {hN : Tr EvBlk} (hnb : nb0 = nx st 0) (hRR : Rep μR (st 0).s.mem wR) (hsteps : ∀ k, k < ops.size → StepL P rec ops MS lm L nb0 k (st k) (st (k + 1)))
    (hfin : Adds (2 ^ ops.size - 1) (st ops.size).s.mem.heap (st ops.size).ds hN) (hs' : s' = ⟨(st ops.size).s.fr, (st ops.size).s.size, ⟨hN, (st ops.size).s.mem.next, (st ops.size).s.mem.low⟩⟩) :
    ∀ (fuel : Nat) (listed : Array Bool) (c : Nat) (μc : Map) (wc : World) (μ : Map) (w : World) (a : Act), listed.size = ops.size → c ≤ ops.size → (∀ j, j < c → listed.getD j false = true) →
      (∀ (j : Nat) o, listed.getD j false = true → ops[j]? = some o → ∀ e ∈ o.after, Region.binds .any e = true → listed.getD e.on false = true) →
      Begin ops MS st c NoX μc wc → Ok μ0 m0 w0 μc (st c).s.mem wc → SI P rec ops MS st c NoX (fun j => c ≤ j ∧ listed.getD j false = true) μc wc μ w a → unl listed ≤ fuel →
      (∀ b, b < nx st 0 → μc b = μR b) → nx st 0 ≤ nx st c → (∀ b, memN b L = true → b < nx st 0 → (st c).s.mem.heap.get b = (st 0).s.mem.heap.get b) → Still st L μR wR w →
      wpAnyH P .any ops (Post μ0 m0 w0 .norm s') (Still st L μR wR) fuel listed a w := by
  intro fuel
  induction fuel with
  | zero =>
    intro listed c μc wc μ w a hsz hcN hA hcl hB hok h hu hmuR hnx0 hkeep0 hSt
    have hall : ∀ j, j < ops.size → listed.getD j false = true := fun j hj => unl_zero (by omega) (by omega)
    refine ⟨?_, ?_⟩
    · cases hr : Region.ready .any ops listed with
      | nil => rfl
      | cons i l =>
        have hi : i ∈ Region.ready .any ops listed := by rw [hr]; exact List.mem_cons_self
        obtain ⟨h1, o, h2, _⟩ := mem_ready.1 hi
        have hlt : i < ops.size := (Array.getElem?_eq_some_iff.1 h2).1
        rw [getD_tf (by omega) true false, hall i hlt] at h1
        cases h1
    · obtain ⟨h1, h2⟩ := h.finish (i := ops.size) (fun _ h => h) hB hcN (fun j h1 h2 => ⟨h1, hall j h2⟩) (fun j hj => by have := getD_lt hj.2; omega) hfin (fun j hj => by rw [Nat.testBit_two_pow_sub_one] at hj; simpa using hj)
      subst hs'
      exact ⟨rfl, μ, hok.trans h1, h2⟩
  | succ fuel ih =>
    intro listed c μc wc μ w a hsz hcN hA hcl hB hok h hu hmuR hnx0 hkeep0 hSt
    refine ⟨fun hr => ?_, fun i hi => ?_⟩
    · by_cases hall : ∀ j, j < ops.size → listed.getD j false = true
      · obtain ⟨h1, h2⟩ := h.finish (i := ops.size) (fun _ h => h) hB hcN (fun j h1 h2 => ⟨h1, hall j h2⟩) (fun j hj => by have := getD_lt hj.2; omega) hfin (fun j hj => by rw [Nat.testBit_two_pow_sub_one] at hj; simpa using hj)
        subst hs'
        exact ⟨rfl, μ, hok.trans h1, h2⟩
      · exfalso
        have : ∃ j, j < ops.size ∧ listed.getD j false ≠ true := by
          by_cases hx : ∃ j, j < ops.size ∧ listed.getD j false ≠ true
          · exact hx
          · exact absurd (fun j hj => by
              by_cases hy : listed.getD j false = true
              · exact hy
              · exact absurd ⟨j, hj, hy⟩ hx) hall
        obtain ⟨j, hj⟩ := this
        obtain ⟨k, ⟨hk1, hk2⟩, _, hk3⟩ := least (p := fun j => j < ops.size ∧ listed.getD j false ≠ true) j hj
        have hmem : k ∈ Region.ready .any ops listed := by
          refine mem_ready.2 ⟨?_, ops[k], Array.getElem?_eq_getElem hk1, fun e he hb => ?_⟩
          · rw [getD_tf (by omega) true false]
            simpa using hk2
          · have hlt : e.on < k := by
              have := (allOk_spec hB.ok k ops[k] (by simp)).1
              rw [Nat.zero_add] at this
              exact edgesOk_mem this e (by simpa using he) hb
            by_cases hy : listed.getD e.on false = true
            · exact hy
            · exact absurd ⟨by omega, hy⟩ (hk3 e.on hlt)
        rw [hr] at hmem
        cases hmem
    · -- what is known of an operation that may come up
      have facts : ∀ (i : Nat), i ∈ Region.ready .any ops listed → ∃ o, ops[i]? = some o ∧ i < ops.size ∧ listed.getD i false = false ∧ c ≤ i ∧ ¬ (c ≤ i ∧ listed.getD i false = true) ∧
          (∀ k, c ≤ k → k < i → StayR P rec ops MS k (st k) (st (k + 1))) ∧
          (∀ m, MS[i]? = some m → ∀ j, m.testBit j = true → c ≤ j → (c ≤ j ∧ listed.getD j false = true)) ∧
          (∀ j mj, (c ≤ j ∧ listed.getD j false = true) → MS[j]? = some mj → ∀ k, mj.testBit k = true → c ≤ k → (c ≤ k ∧ listed.getD k false = true)) ∧
          (∀ j m, (c ≤ j ∧ listed.getD j false = true) → MS[j]? = some m → m.testBit i = true → False) ∧
          (∀ cs b, o.op ≠ .select cs b) ∧ (∀ b, wantedE ops o (st i).s.fr = some b → Region.wanted o (yielded ops a.tmps) = b) ∧
          (∀ fr, OnlyR (st i).s.fr o.op.operands.toList fr → FrR μ (nx st i) fr a.tmps.size (restr a o.op.operands.toList)) ∧
          (∀ j, (listed.setIfInBounds i true).getD j false = true ↔ (listed.getD j false = true ∨ j = i)) ∧
          (∀ (j : Nat) oj, (listed.setIfInBounds i true).getD j false = true → ops[j]? = some oj → ∀ e ∈ oj.after, Region.binds .any e = true → (listed.setIfInBounds i true).getD e.on false = true) ∧
          (∀ j, j < c → (listed.setIfInBounds i true).getD j false = true) ∧ unl (listed.setIfInBounds i true) ≤ fuel ∧
          ((fun j => (c ≤ j ∧ listed.getD j false = true) ∨ j = i) = fun j => c ≤ j ∧ (listed.setIfInBounds i true).getD j false = true) ∧
          (∀ (j : Nat) oj, ops[j]? = some oj → ∃ m, MS[j]? = some m) ∧ (∀ e ∈ o.after, Region.binds .any e = true → listed.getD e.on false = true) := by
        intro i hi
        obtain ⟨hun, o, ho, hedges⟩ := mem_ready.1 hi
        have hiN : i < ops.size := (Array.getElem?_eq_some_iff.1 ho).1
        have hun' : listed.getD i false = false := by rw [getD_tf (by omega) false true]; exact hun
        have hci : c ≤ i := by
          rcases Nat.lt_or_ge i c with hlt | hge
          · rw [hA i hlt] at hun'; cases hun'
          · exact hge
        have hMSj : ∀ (j : Nat) oj, ops[j]? = some oj → ∃ m, MS[j]? = some m := fun j oj hoj => ⟨_, by rw [hB.ms]; exact pres_get ops hoj⟩
        -- what is ahead of what has come up, or comes up now, has come up
        have closed : ∀ (j : Nat) oj m, ops[j]? = some oj → MS[j]? = some m → (j = i ∨ listed.getD j false = true) → ∀ k, m.testBit k = true → listed.getD k false = true := by
          intro j oj m hoj hm hj k hk
          rw [hB.ms] at hm
          refine (pre_closed hB.ok (S := fun k => listed.getD k false = true) hcl j oj m hoj hm ?_ k hk).1
          rcases hj with rfl | hj
          · rw [ho] at hoj
            obtain rfl := Option.some.inj hoj
            exact hedges
          · exact hcl j oj hj hoj
        have hTi : ¬ (c ≤ i ∧ listed.getD i false = true) := fun hh => by rw [hun'] at hh; exact absurd hh.2 (by simp)
        have hst : ∀ k, c ≤ k → k < i → StayR P rec ops MS k (st k) (st (k + 1)) := by
          intro k h1 h2
          rcases hsteps k (by omega) with (⟨o', hk⟩ | ⟨o', m', vis, fr, v, mm, hk, _⟩) | ⟨o', m', vis, hh, fr, v, mh, mm, hk⟩
          · exact .inl (.inl ⟨o', hk⟩)
          · exact .inl (.inr ⟨o', m', vis, fr, v, mm, hk⟩)
          · obtain ⟨m, hm⟩ := hMSj i o ho
            have hb := hk.rest i m h2 hm
            exact h.stay k ⟨h1, closed i o m ho hm (.inl rfl) k hb⟩ k h1 (Nat.le_refl _)
        have hpre : ∀ m, MS[i]? = some m → ∀ j, m.testBit j = true → c ≤ j → (c ≤ j ∧ listed.getD j false = true) := fun m hm j hj h1 => ⟨h1, closed i o m ho hm (.inl rfl) j hj⟩
        have hclT : ∀ j mj, (c ≤ j ∧ listed.getD j false = true) → MS[j]? = some mj → ∀ k, mj.testBit k = true → c ≤ k → (c ≤ k ∧ listed.getD k false = true) := fun j mj hj hmj k hk h1 => by
          have hlt := getD_lt hj.2
          exact ⟨h1, closed j ops[j] mj (Array.getElem?_eq_getElem (by omega)) hmj (.inr hj.2) k hk⟩
        have hnoi : ∀ j m, (c ≤ j ∧ listed.getD j false = true) → MS[j]? = some m → m.testBit i = true → False := fun j m hj hm hb => by
          have hlt := getD_lt hj.2
          have := closed j ops[j] m (Array.getElem?_eq_getElem (by omega)) hm (.inr hj.2) i hb
          rw [hun'] at this
          cases this
        have hslot : ∀ t, t ∈ o.looksAt ops → SlotR μ (nx st i) ((st i).s.fr.get t) (a.tmps.getD t undef) := fun t ht => h.slot hB ho hci hst hTi hpre hnoi ht
        have hsel := (allOk_spec hB.ok i o (by simpa using ho)).2.2
        have hw : (∀ b, wantedE ops o (st i).s.fr = some b → Region.wanted o (yielded ops a.tmps) = b) := wanted_eq' o fun j want d hg hd => hslot d (List.mem_append_right _ (by rw [hg]; simp [hd]))
        have hglob : ∀ g, g < 1048576 → (μ g).blk = g ∧ (μ g).base = 0 := fun g hg => by
          rw [h.below (Nat.lt_of_lt_of_le hg hB.big)]
          exact hB.glob g hg
        have seg := Seg.upto hB.ok hB.ds i hci hst
        have hbig : 1048576 ≤ nx st i := Nat.le_trans hB.big seg.next
        -- the list behind it
        have hset : ∀ j, (listed.setIfInBounds i true).getD j false = true ↔ (listed.getD j false = true ∨ j = i) := fun j => by
          by_cases hji : j = i
          · subst hji
            simp [Array.getD_eq_getD_getElem?, show j < listed.size from by omega]
          · simp [Array.getD_eq_getD_getElem?, Array.getElem?_setIfInBounds_ne (Ne.symm hji), hji]
        have hcl' : ∀ (j : Nat) oj, (listed.setIfInBounds i true).getD j false = true → ops[j]? = some oj → ∀ e ∈ oj.after, Region.binds .any e = true → (listed.setIfInBounds i true).getD e.on false = true := fun j oj hj hoj e he hb => by
          refine (hset _).2 (.inl ?_)
          rcases (hset j).1 hj with hj | rfl
          · exact hcl j oj hj hoj e he hb
          · rw [ho] at hoj
            obtain rfl := Option.some.inj hoj
            exact hedges e he hb
        have hA' : ∀ j, j < c → (listed.setIfInBounds i true).getD j false = true := fun j hj => (hset j).2 (.inl (hA j hj))
        have hu' : unl (listed.setIfInBounds i true) ≤ fuel := by have := unl_set hun; omega
        have hT' : (fun j => (c ≤ j ∧ listed.getD j false = true) ∨ j = i) = fun j => c ≤ j ∧ (listed.setIfInBounds i true).getD j false = true := by
          funext j
          apply propext
          rw [hset]
          constructor
          · rintro (⟨h1, h2⟩ | rfl)
            · exact ⟨h1, .inl h2⟩
            · exact ⟨hci, .inr rfl⟩
          · rintro ⟨h1, h2 | h2⟩
            · exact .inl ⟨h1, h2⟩
            · exact .inr h2
        have frame : ∀ fr, OnlyR (st i).s.fr o.op.operands.toList fr → FrR μ (nx st i) fr a.tmps.size (restr a o.op.operands.toList) := fun fr hon => restr_fr (fun t ht => hslot t (looks_op ht)) hon hglob hbig
        exact ⟨o, ho, hiN, hun', hci, hTi, hst, hpre, hclT, hnoi, hsel, hw, frame, hset, hcl', hA', hu', hT', hMSj, hedges⟩
      by_cases hex : ∃ k ∈ Region.ready .any ops listed, ∃ ok, ops[k]? = some ok ∧ (noMem ok = true ∨ lm.testBit k = true)
      · -- what looks at no memory is taken first
        obtain ⟨k, hk, ok, hok1, hpure⟩ := hex
        refine (?_ : wpAnyH P .any ops (Post μ0 m0 w0 .norm s') (Still st L μR wR) (fuel + 1) listed a w).2 i hi
        obtain ⟨o, ho, hiN, hun', hci, hTi, hst, hpre, hclT, hnoi, hsel, hw, frame, hset, hcl', hA', hu', hT', hMSj, hedges⟩ := facts k hk
        rw [ho] at hok1
        obtain rfl := Option.some.inj hok1
        have chk := (allOk_spec hB.ok k o (by simpa using ho)).2.1
        rw [Nat.zero_add] at chk
        have hfree : ∀ (j : Nat) oj, ops[j]? = some oj → j ≠ k → listed.getD j true = false → (∀ e ∈ oj.after, Region.binds .any e = true → e.on ≠ k) → o.apart ops oj = true := by
          intro j oj hoj hne hunj hnoe
          have hjN : j < ops.size := (Array.getElem?_eq_some_iff.1 hoj).1
          have hunj' : listed.getD j false = false := by rw [getD_tf (by omega) false true]; exact hunj
          have chkj := (allOk_spec hB.ok j oj (by simpa using hoj)).2.1
          rw [Nat.zero_add] at chkj
          have noedge : ∀ e ∈ o.after, Region.binds .any e = true → e.on = j → False := fun e he hb e1 => by
            have := hedges e he hb
            rw [e1, hunj'] at this
            cases this
          unfold Oper.apart
          rw [Bool.and_eq_true]
          constructor
          · cases hd : o.dst with
            | none => rfl
            | some d =>
              have h1 := dstOk_spec chkj k o d (by simpa using ho) (by omega) hd
              rw [Nat.zero_add] at h1
              rw [Bool.and_eq_true]
              constructor
              · have : ¬ d ∈ oj.looksAt ops := fun hl => by
                  rcases h1.2 hl with ⟨e, he, hb, e1⟩ | ⟨e, he, hb, e1⟩
                  · exact hnoe e he hb e1
                  · exact noedge e he hb e1
                simpa using this
              · simpa using h1.1
          · cases hd : oj.dst with
            | none => rfl
            | some d =>
              have h1 := dstOk_spec chk j oj d (by simpa using hoj) (by omega) hd
              rw [Nat.zero_add] at h1
              have : ¬ d ∈ o.looksAt ops := fun hl => by
                rcases h1.2 hl with ⟨e, he, hb, e1⟩ | ⟨e, he, hb, e1⟩
                · exact noedge e he hb e1
                · exact hnoe e he hb e1
              simpa using this
        have hselA : ∀ (j : Nat) (o : Oper) cs b, ops[j]? = some o → o.op ≠ .select cs b := fun j o cs b hj => (allOk_spec hB.ok j o (by simpa using hj)).2.2 cs b
        have hQ : ∀ (v : Value) ch a w, Post μ0 m0 w0 .norm s' (.panic ch) (a.put o.dst v) w → Post μ0 m0 w0 .norm s' (.panic ch) a w := fun v ch a w hp => by
          have := hp.1
          simp [OutIs] at this
        rcases hsteps k hiN with (⟨o2, hs⟩ | ⟨o2, m, vis, fr, v, m', hs, hlight⟩) | ⟨o2, m, vis, hh, fr, v, mh, m', hs⟩
        · have e := hs.op
          rw [ho] at e
          obtain rfl := Option.some.inj e
          have hy : Yields P ops o undef a := .inr ⟨hw _ hs.wanted, rfl⟩
          refine wpAnyH_first ho hselA (hQ undef) fuel listed a w hfree hk hy.yieldsIf hSt ?_
          have := h.skip hB hci hst hTi hs.op hs.put hs.ds (.inl (.inl ⟨o, hs⟩))
          rw [hT'] at this
          exact ih _ c μc wc μ w _ (by simpa using hsz) hcN hA' hcl' hB hok this hu' hmuR hnx0 hkeep0 hSt
        · have e := hs.op
          rw [ho] at e
          obtain rfl := Option.some.inj e
          have hrep := h.rep hB hci hst hs.adds (hpre m hs.ms) big
          have hrun := hs.run
          unfold doOp at hrun
          cases hso : stepOp P fr ⟨vis, (st k).s.mem.next, big⟩ o with
          | none => rw [hso] at hrun; simp at hrun
          | some d =>
            -- what it gives, whatever else comes up ahead of it
            have giv : ∃ v1 v', d = .val v1 ⟨vis, (st k).s.mem.next, big⟩ ∧ YieldsIf P ops (Still st L μR wR) o v' a ∧ VR μ (st k).s.mem.next v1 v' := by
              rcases hpure with hpure | hpure
              · obtain ⟨v1, e1, v', hv1, hv2⟩ := pure_ok (m := ⟨vis, (st k).s.mem.next, big⟩) (frame fr hs.only) hpure hso
                exact ⟨v1, v', e1, .inl ⟨hw _ hs.wanted, fun w _ => by rw [restr_exec hsel]; exact hv1 w⟩, hv2⟩
              · have hl := hlight hpure
                unfold lightOk at hl
                split at hl
                rotate_left
                · simp at hl
                rename_i t x hop
                split at hl
                rotate_left
                · simp at hl
                rename_i b f hx
                rw [Bool.and_eq_true, Nat.blt_eq, hnb] at hl
                rw [stepOp_eq] at hso
                rw [hop] at hso
                simp only [sLoad, hx] at hso
                cases hld : ldVar P t ⟨vis, (st k).s.mem.next, big⟩ ⟨b, f, none⟩ with
                | none => rw [hld] at hso; simp at hso
                | some v1 =>
                  rw [hld] at hso
                  simp only [Option.some.injEq] at hso
                  obtain ⟨x0, hx0⟩ : ∃ x0, vis.get b = some x0 := by
                    unfold ldVar at hld
                    simp only at hld
                    cases hg : vis.get b with
                    | none => rw [hg] at hld; simp at hld
                    | some x0 => exact ⟨x0, rfl⟩
                  have segk := Seg.upto hB.ok hB.ds k hci hst
                  have hold : (st 0).s.mem.heap.get b = some x0 := by
                    rw [← hkeep0 b hl.1 hl.2, ← segk.heap]
                    rcases hs.adds.1 b x0 hx0 with h1 | ⟨e, he, hbit, hd⟩
                    · exact h1
                    · exfalso
                      obtain ⟨g1, g2, g3⟩ := segk.ds e he
                      have hTe : (c ≤ e.i ∧ listed.getD e.i false = true) := hpre m hs.ms e.i hbit g1
                      obtain ⟨_, q2, _⟩ := h.made e g3 hTe b x0 hd
                      rw [g3.lo] at q2
                      have := next_mono (P := P) (rec := rec) (ops := ops) (MS := MS) (st := st) (c := c) e.i c (Nat.le_refl _) g1 fun k' q1 q3 => hst k' q1 (by omega)
                      omega
                  have hmub : μ b = μR b := (h.below (Nat.lt_of_lt_of_le hl.2 hnx0)).trans (hmuR b hl.2)
                  obtain ⟨v', hv', hall⟩ := ldVar_at (P := P) (w := w) hrep hld
                  refine ⟨v1, v', hso.symm, .inl ⟨hw _ hs.wanted, fun w2 hw2 => ?_⟩, hv'⟩
                  have hrun2 := hall w2 (by rw [hmub, hw2 b x0 hold hl.1, hSt b x0 hold hl.1])
                  rw [restr_exec hsel]
                  have hp := opd_ok (frame fr hs.only) hx
                  generalize he : (restr a o.op.operands.toList).eval x = u at hp
                  cases hp with
                  | flat hf => simp [flat1] at hf
                  | ptr hb =>
                    rw [hop] at he
                    simp [execOp, hop, Instr.loadAt, he, Instr.sureAddr, hrun2]
            obtain ⟨v1, v', e1, hy, hv2⟩ := giv
            rw [hso, e1] at hrun
            simp only [Option.some.injEq, Prod.mk.injEq] at hrun
            obtain ⟨rfl, rfl⟩ := hrun
            refine wpAnyH_first ho hselA (hQ v') fuel listed a w hfree hk hy hSt ?_
            have := h.grow hB hci hst hTi hs hclT (hpre m hs.ms) (Ok.refl hrep) hv2
            rw [hT'] at this
            exact ih _ c μc wc μ w _ (by simpa using hsz) hcN hA' hcl' hB hok this hu' hmuR hnx0 hkeep0 hSt
        · have e := hs.op
          rw [ho] at e
          obtain rfl := Option.some.inj e
          rcases hpure with hpure | hpure
          · rw [hs.heavy] at hpure
            cases hpure
          · rw [hs.dark] at hpure
            cases hpure
      obtain ⟨o, ho, hiN, hun', hci, hTi, hst, hpre, hclT, hnoi, hsel, hw, frame, hset, hcl', hA', hu', hT', hMSj, hedges⟩ := facts i hi
      -- what looks at no memory and stands ahead has come up
      have quiet : ∀ m, MS[i]? = some m → (∀ (j : Nat) oj, j < i → ops[j]? = some oj → m.testBit j = true ∨ (noMem oj = true ∨ lm.testBit j = true)) → ∀ j, c ≤ j → j < i → (c ≤ j ∧ listed.getD j false = true) := by
        intro m hm hallB j
        induction j using Nat.strongRecOn with
        | _ j ihj =>
          intro h1 h2
          rcases hallB j ops[j] h2 (Array.getElem?_eq_getElem (by omega)) with hb | hp
          · exact hpre m hm j hb h1
          · refine ⟨h1, ?_⟩
            cases hy : listed.getD j false with
            | true => rfl
            | false =>
              exfalso
              refine hex ⟨j, mem_ready.2 ⟨by rw [getD_tf (by omega) true false]; exact hy, ops[j], Array.getElem?_eq_getElem (by omega), fun e he hb => ?_⟩, ops[j], Array.getElem?_eq_getElem (by omega), hp⟩
              have hlt : e.on < j := by
                have := (allOk_spec hB.ok j ops[j] (by simp)).1
                rw [Nat.zero_add] at this
                exact edgesOk_mem this e (by simpa using he) hb
              rcases Nat.lt_or_ge e.on c with hlc | hgc
              · exact hA e.on hlc
              · exact (ihj e.on hlt hgc (by omega)).2
      unfold wpOp
      simp only [ho]
      rcases hsteps i hiN with (⟨o2, hs⟩ | ⟨o2, m, vis, fr, v, m', hs, _⟩) | ⟨o2, m, vis, hh, fr, v, mh, m', hs⟩
      · have e := hs.op
        rw [ho] at e
        obtain rfl := Option.some.inj e
        rw [hw _ hs.wanted]
        simp only [Bool.false_eq_true, if_false]
        have := h.skip hB hci hst hTi hs.op hs.put hs.ds (.inl (.inl ⟨o, hs⟩))
        rw [hT'] at this
        exact ⟨hSt, ih _ c μc wc μ w _ (by simpa using hsz) hcN hA' hcl' hB hok this hu' hmuR hnx0 hkeep0 hSt⟩
      · have e := hs.op
        rw [ho] at e
        obtain rfl := Option.some.inj e
        rw [hw _ hs.wanted]
        simp only [if_true]
        have hrep := h.rep hB hci hst hs.adds (hpre m hs.ms) big
        refine .inl (do_run hS hs.run hrep (frame fr hs.only) a _ _ (restr_exec hsel) ?_)
        rintro v' w' ⟨μ', hok', hv⟩
        have := h.grow hB hci hst hTi hs hclT (hpre m hs.ms) hok' hv
        rw [hT'] at this
        obtain ⟨f1, _⟩ := h.grow_facts (v' := v') hB hci hst hTi hs hclT (hpre m hs.ms) hok'
        have hSt' : Still st L μR wR w' := fun b x hb hbL => by
          have hin := hRR.inb b x hb
          by_cases hk : (μR b).blk < w.heap.size
          · rw [f1 _ hk]; exact hSt b x hb hbL
          · exfalso
            have e1 := hSt b x hb hbL
            rw [Array.getElem?_eq_none (by omega), Array.getElem?_eq_getElem hin] at e1
            cases e1
        exact ⟨hSt', ih _ c μc wc μ' w' _ (by simpa using hsz) hcN hA' hcl' hB hok this hu' hmuR hnx0 hkeep0 hSt'⟩
      · have e := hs.op
        rw [ho] at e
        obtain rfl := Option.some.inj e
        rw [hw _ hs.wanted]
        simp only [if_true]
        have hrep := h.rep hB hci hst hs.adds (hpre m hs.ms) big
        have hno : ∀ j, (c ≤ j ∧ listed.getD j false = true) → j < i := fun j hj => by
          rcases Nat.lt_or_ge j i with hlt | hge
          · exact hlt
          · exfalso
            have hlt := getD_lt hj.2
            have hne : j ≠ i := fun e => by subst e; rw [hun'] at hj; exact absurd hj.2 (by simp)
            obtain ⟨mj, hmj⟩ := hMSj j ops[j] (Array.getElem?_eq_getElem (by omega))
            exact hnoi j mj hj hmj (hs.rest j mj (by omega) hmj)
        obtain ⟨hfin1, hfin2⟩ := h.finish (fun _ h => h) hB hci (quiet m hs.ms hs.all) hno hs.adds (fun j hj => bit_lt hB ho hs.ms hj)
        refine .inl (do_run hS hs.run (hrep.hides hs.hid) (frame fr hs.only) a _ _ (restr_exec hsel) ?_)
        rintro v' w' ⟨μ', hokh, hv⟩
        obtain ⟨hok', hsame⟩ := Ok.unhide hrep hs.hid hokh hs.unhid
        have hv : VR μ' m'.next v v' := by rw [hs.unhid.1]; exact hv
        have segi := Seg.upto hB.ok hB.ds i hci hst
        have hok2 := Ok.relow (low := (st i).s.mem.low) hok'
        have hmem : (st (i + 1)).s.mem = ⟨m'.heap, m'.next, Nat.min (st i).s.mem.low m'.low⟩ := hs.mem
        rw [← hmem] at hok2
        have hnx : nx st (i + 1) = m'.next := by unfold nx; rw [hmem]
        have hup := FrR.up (m := ⟨vis, nx st i, (st i).s.mem.low⟩) hfin2 hok2
        have hF' : FrR μ' (nx st (i + 1)) (st (i + 1)).s.fr (st (i + 1)).s.size (a.put o.dst v') := by
          have hlt : ∀ d, o.dst = some d → d < a.tmps.size := fun d hd => by rw [hfin2.size]; exact put_lt hs.put d hd
          refine ⟨?_, ?_, fun t => ?_, hup.glob, hup.big⟩
          · rw [show (a.put o.dst v').defers = a.defers from by cases o.dst <;> rfl]; exact hup.defers
          · rw [hs.size, ← hfin2.size]; cases o.dst <;> simp [Act.put]
          · rcases put_get hs.put t with ⟨hd, hg⟩ | ⟨hd, hg⟩
            · rw [hg, (put_slot hlt).1 hd, hnx]; exact SlotR.some hv
            · rw [hg, (put_slot hlt).2 hd]; exact hup.get t
        have hB' : Begin ops MS st (i + 1) NoX μ' w' := ⟨hB.ok, hB.ms, hok2.rep, hs.ds, by rw [hs.nb, hnx], hup.glob, hup.big, fun _ _ _ h => h⟩
        have hSI := SI.start (P := P) (rec := rec) hB' hF'
        have hTn : (fun _ : Nat => False) = fun j => i + 1 ≤ j ∧ (listed.setIfInBounds i true).getD j false = true := by
          funext j
          apply propext
          constructor
          · intro h; exact h.elim
          · rintro ⟨h1, h2⟩
            rcases (hset j).1 h2 with h2 | rfl
            · have := hno j ⟨by omega, h2⟩
              omega
            · omega
        rw [hTn] at hSI
        have hkeepV : ∀ b, memN b L = true → b < nx st 0 → vis.get b = (st 0).s.mem.heap.get b := fun b hb1 hb2 => by
          rw [← hkeep0 b hb1 hb2, ← segi.heap]
          refine hs.adds.2 b fun e he x hd => ?_
          obtain ⟨g1, g2, g3⟩ := segi.ds e he
          have hTe : (c ≤ e.i ∧ listed.getD e.i false = true) := (quiet m hs.ms hs.all) e.i g1 g2
          obtain ⟨_, q2, _⟩ := h.made e g3 hTe b x hd
          rw [g3.lo] at q2
          have := next_mono (P := P) (rec := rec) (ops := ops) (MS := MS) (st := st) (c := c) e.i c (Nat.le_refl _) g1 fun k' q1 q3 => hst k' q1 (by omega)
          omega
        have hnxi : nx st 0 ≤ nx st i := Nat.le_trans hnx0 segi.next
        have hmui : ∀ b, b < nx st 0 → μ b = μR b := fun b hb => (h.below (Nat.lt_of_lt_of_le hb hnx0)).trans (hmuR b hb)
        have hSt' : Still st L μR wR w' := fun b x hb hbL => by
          have hbn : b < nx st 0 := hRR.lt b x hb
          have hv0 : vis.get b = some x := (hkeepV b hbL hbn).trans hb
          rw [← hSt b x hb hbL, ← hmui b hbn]
          exact hsame b x hbL hv0
        refine ⟨hSt', ih _ (i + 1) μ' w' μ' w' _ (by simpa using hsz) (by omega) (fun j hj => ?_) hcl' hB' ((hok.trans hfin1).trans hok2) hSI hu' (fun b hb => ?_) ?_ (fun b hb1 hb2 => ?_) hSt'⟩
        · refine (hset j).2 ?_
          by_cases hji : j = i
          · exact .inr hji
          · refine .inl ?_
            rcases Nat.lt_or_ge j c with hlt | hge
            · exact hA j hlt
            · exact (quiet m hs.ms hs.all j hge (by omega)).2
        · exact (hok'.mu b (Nat.lt_of_lt_of_le hb hnxi)).trans (hmui b hb)
        · rw [hnx]
          exact Nat.le_trans hnxi hok'.next
        · rw [hmem]
          show m'.heap.get b = _
          rw [hs.unhid.2.2, if_pos hb1]
          exact hkeepV b hb1 hb2

theorem allBeforeL_spec {m lm : Nat} : ∀ {l : List Oper} {j n : Nat}, allBeforeL m lm l j n = true → ∀ (k : Nat) o, k < n → l[k]? = some o → m.testBit (j + k) = true ∨ (noMem o = true ∨ lm.testBit (j + k) = true)
  | l, j, 0, _, k, o, hk, _ => by omega
  | [], j, n + 1, _, k, o, _, e => by simp at e
  | p :: l, j, n + 1, h, k, o, hk, e => by
    rw [allBeforeL] at h
    split at h
    · rename_i hc
      cases k with
      | zero =>
        simp at e
        subst e
        rw [Bool.or_eq_true, Bool.or_eq_true] at hc
        exact hc
      | succ k =>
        have := allBeforeL_spec h k o (by omega) (by simpa using e)
        rwa [show j.succ + k = j + (k + 1) from by omega] at this
    · simp at h
theorem traceL {lm : Nat} {L : List Nat} {out : Out} {s' : Stt} : ∀ (l : List Oper) (ms : List Nat) (i nb : Nat) (ds : List Made) (s : Stt), evLight P rec ops lm L nb0 l ms i nb ds s = some (out, s') → (∀ j, l[j]? = ops[i + j]?) → (∀ j, ms[j]? = MS[i + j]?) →
    ∃ st : Nat → DSt, st i = ⟨s, nb, ds⟩ ∧ (∀ k, i ≤ k → k < i + l.length → StepL P rec ops MS lm L nb0 k (st k) (st (k + 1))) ∧ out = .norm ∧
      ∃ h, Adds (2 ^ (i + l.length) - 1) (st (i + l.length)).s.mem.heap (st (i + l.length)).ds h ∧ s' = ⟨(st (i + l.length)).s.fr, (st (i + l.length)).s.size, ⟨h, (st (i + l.length)).s.mem.next, (st (i + l.length)).s.mem.low⟩⟩
  | [], ms, i, nb, ds, s, h, _, _ => by
    rw [evLight] at h
    obtain ⟨h', h1, h2, h3⟩ := addDeltas_spec _ _ _ _ _ h
    simp only [Option.some.injEq, Prod.mk.injEq] at h1
    exact ⟨fun _ => ⟨s, nb, ds⟩, rfl, fun k h1 h2 => by simp at h2; omega, h1.1.symm, h', ⟨h2, h3⟩, h1.2.symm⟩
  | o :: l, ms, i, nb, ds, s, h, hl, hms => by
    cases ms with
    | nil => simp [evLight] at h
    | cons m ms =>
      have ho : ops[i]? = some o := by have := hl 0; simpa using this.symm
      have hm : MS[i]? = some m := by have := hms 0; simpa using this.symm
      have hl' : ∀ j, l[j]? = ops[i + 1 + j]? := fun j => by have := hl (j + 1); rw [show i + (j + 1) = i + 1 + j from by omega] at this; simpa using this
      have hms' : ∀ j, ms[j]? = MS[i + 1 + j]? := fun j => by have := hms (j + 1); rw [show i + (j + 1) = i + 1 + j from by omega] at this; simpa using this
      have fin : ∀ q : DSt, evLight P rec ops lm L nb0 l ms (i + 1) q.nb q.ds q.s = some (out, s') → StepL P rec ops MS lm L nb0 i ⟨s, nb, ds⟩ q → ∃ st : Nat → DSt, st i = ⟨s, nb, ds⟩ ∧ (∀ k, i ≤ k → k < i + (o :: l).length → StepL P rec ops MS lm L nb0 k (st k) (st (k + 1))) ∧ out = .norm ∧
          ∃ h, Adds (2 ^ (i + (o :: l).length) - 1) (st (i + (o :: l).length)).s.mem.heap (st (i + (o :: l).length)).ds h ∧ s' = ⟨(st (i + (o :: l).length)).s.fr, (st (i + (o :: l).length)).s.size, ⟨h, (st (i + (o :: l).length)).s.mem.next, (st (i + (o :: l).length)).s.mem.low⟩⟩ := by
        intro q hq hstep
        obtain ⟨st, h0, h1, h2, h3⟩ := traceL l ms (i + 1) q.nb q.ds q.s hq hl' hms'
        refine ⟨fun k => if k ≤ i then ⟨s, nb, ds⟩ else st k, by simp, fun k hk1 hk2 => ?_, h2, ?_⟩
        · by_cases hki : k = i
          · subst hki
            simp only [Nat.le_refl, if_true]
            rw [if_neg (by omega), h0]
            exact hstep
          · simp only [if_neg (show ¬ k ≤ i by omega), if_neg (show ¬ k + 1 ≤ i by omega)]
            exact h1 k (by omega) (by simp at hk2; omega)
        · simp only [List.length_cons, show i + (l.length + 1) = i + 1 + l.length from by omega, if_neg (show ¬ i + 1 + l.length ≤ i by omega)]
          exact h3
      rw [evLight] at h
      cases hw : wantedE ops o s.fr with
      | none => rw [hw] at h; simp at h
      | some bw =>
      cases bw with
      | false =>
        rw [hw] at h
        simp only at h
        obtain ⟨fr', h1, hp⟩ := put_spec h
        exact fin ⟨⟨fr', s.size, s.mem⟩, nb, ds⟩ h1 (.inl (.inl ⟨o, ho, hw, hp, rfl, rfl, rfl, rfl⟩))
      | true =>
        rw [hw] at h
        simp only at h
        obtain ⟨vis, h1, ha1, ha2⟩ := addDeltas_spec _ _ _ _ _ h
        obtain ⟨fr, h2, hon⟩ := only_spec _ _ _ _ h1
        have hon' : OnlyR s.fr o.op.operands.toList fr := fun j => ⟨fun hj => by
          rcases (hon j).1 hj with h | ⟨h, h'⟩
          · exact h
          · rw [h', h, Tr.get_leaf], fun hj => by rw [(hon j).2 hj, Tr.get_leaf]⟩
        cases hd : doOp P rec fr ⟨vis, s.mem.next, big⟩ o with
        | none => rw [hd] at h2; simp at h2
        | some vm =>
          obtain ⟨v, m'⟩ := vm
          rw [hd] at h2
          simp only at h2
          cases hg : Nat.ble s.mem.next m'.low && Nat.ble s.mem.next m'.next with
          | true =>
            rw [hg] at h2
            rw [Bool.and_eq_true, Nat.ble_eq, Nat.ble_eq] at hg
            simp only at h2
            split at h2
            rotate_left
            · simp at h2
            rename_i hlt
            have hlight : lm.testBit i = true → lightOk L nb0 fr o = true := fun hb => by
              rw [hb] at hlt
              simpa using hlt
            cases hf : flatR v with
            | true =>
              rw [hf] at h2
              simp only at h2
              obtain ⟨fr', h3, hp⟩ := put_spec h2
              exact fin ⟨⟨fr', s.size, ⟨s.mem.heap, m'.next, s.mem.low⟩⟩, nb, ds⟩ h3 (.inl (.inr ⟨o, m, vis, fr, v, m', ⟨⟨ho, hm, hw, ⟨ha1, ha2⟩, hon', hd, hp, rfl⟩, hg.1, hg.2, rfl, rfl, .inl ⟨hf, rfl⟩⟩, hlight⟩))
            | false =>
              rw [hf] at h2
              simp only at h2
              split at h2
              · rename_i hids
                rw [Bool.and_eq_true] at hids
                obtain ⟨fr', h3, hp⟩ := put_spec h2
                exact fin ⟨⟨fr', s.size, ⟨s.mem.heap, m'.next, s.mem.low⟩⟩, nb, ⟨i, s.mem.next, m'.next, collect m'.heap (m'.next - s.mem.next) s.mem.next⟩ :: ds⟩ h3
                  (.inl (.inr ⟨o, m, vis, fr, v, m', ⟨⟨ho, hm, hw, ⟨ha1, ha2⟩, hon', hd, hp, rfl⟩, hg.1, hg.2, rfl, rfl, .inr ⟨_, ⟨rfl, rfl, rfl, fun b x hx => by
                    obtain ⟨h1, h2, _⟩ := collect_spec _ _ _ _ _ hx
                    exact ⟨h1, h2⟩, hids.1, hids.2⟩, rfl⟩⟩, hlight⟩))
              · simp at h2
          | false =>
            rw [hg] at h2
            simp only at h2
            split at h2
            · rename_i hmask
              simp only [Bool.and_eq_true, Bool.not_eq_true'] at hmask
              obtain ⟨hh, h3, hhid⟩ := hideL_spec _ _ _ _ h2
              cases hd2 : doOp P rec fr ⟨hh, s.mem.next, big⟩ o with
              | none => rw [hd2] at h3; simp at h3
              | some vm2 =>
                obtain ⟨v2, mh⟩ := vm2
                rw [hd2] at h3
                simp only at h3
                obtain ⟨hu, h4, hun⟩ := unhideL_spec _ _ _ _ _ h3
                rw [fNat_eq] at h4
                obtain ⟨fr', h5, hp⟩ := put_spec h4
                exact fin ⟨⟨fr', s.size, ⟨hu, mh.next, Nat.min s.mem.low mh.low⟩⟩, mh.next, []⟩ h5 (.inr ⟨o, m, vis, hh, fr, v2, mh, ⟨hu, mh.next, mh.low⟩, ⟨ho, hm, hw, ⟨ha1, ha2⟩, hon', hhid, hd2, ⟨rfl, rfl, hun⟩, hp, rfl, fun j oj hj hoj => by
                  have := allBeforeL_spec hmask.1.1.1 j oj hj (by simpa using hoj)
                  rwa [Nat.zero_add] at this, hmask.1.2, hmask.2, fun j m2 hj hm2 => by
                  have := hms' (j - (i + 1))
                  rw [show i + 1 + (j - (i + 1)) = j from by omega, hm2] at this
                  exact beforeAll_mem hmask.1.1.2 m2 (List.mem_of_getElem? this), rfl, rfl, rfl⟩⟩)
            · simp at h2
end

theorem lr_ok {P : Program} [ExtOk P] {rec : Req → Stt → Option (Out × Stt)} (hm : P.follows .mixedOrders = true) (hS : Snd P rec) (id : Nat) (ops : Array Oper) (s : Stt) (out : Out) (s' : Stt) (hd : drawOk ops = true) (q : List Nat)
    (h : evLR P rec ops q s = some (out, s')) : ∀ μ0 m0 w0 μ w a, Ok μ0 m0 w0 μ s.mem w → FrR μ s.mem.next s.fr s.size a → (Code.region id ops true).wp P (Post μ0 m0 w0 out s') a w := by
  intro μ0 m0 w0 μ w a hok hF
  unfold evLR at h
  split at h
  rotate_left
  · simp at h
  rename_i hc
  rw [Bool.and_eq_true] at hc
  have hp := permOk_spec hc.1
  have lenR : (renL ops q q).toArray.size = ops.size := by
    have := (renL_get (ops := ops) (q := q) (l := q) fun j hj => by
      obtain ⟨i, hi⟩ := List.getElem?_of_mem hj
      exact (hp.there i j hi).1).1
    simp [this, hp.len]
  refine wp_region_any hm ?_
  have hdr : Ok μ s.mem w μ s.mem { w with drawn := w.drawn + 1 } := Ok.drawn hok.rep rfl rfl rfl rfl
  have hok' := hok.trans hdr
  generalize ({ w with drawn := w.drawn + 1 } : World) = wR at hok'
  refine perm_any hp (fun j o ho e he hb => ?_) ops.size _ _ a _ (⟨by simp, by simp, fun i j e => ?_⟩ : RelL ops.size q (Array.replicate ops.size false) _) ?_
  · have h2 := (allOk_spec hd j o (by simpa using ho)).1
    rw [Nat.zero_add] at h2
    have h3 := edgesOk_mem h2 e (by simpa using he) hb
    have h4 : j < ops.size := (Array.getElem?_eq_some_iff.1 ho).1
    omega
  · have h1 : i < ops.size := by rw [← hp.len]; exact (List.getElem?_eq_some_iff.1 e).1
    have h2 := (hp.there i j e).1
    simp [h1, h2]
  · rw [← lenR]
    have hd' := hc.2
    generalize hops : (renL ops q q).toArray = ops' at h hd'
    generalize lightMask _ _ _ _ = lm at h
    have hms : pres (renL ops q q) [] = pres ops'.toList [] := by rw [← hops]
    rw [hms] at h
    clear hms
    unfold evLR1 at h
    generalize guessL P ops' s.mem lm ops'.toList 0 s.fr [] = L at h
    obtain ⟨st, h0, hsteps, rfl, hN, hfin, hs'⟩ := traceL (MS := pres ops'.toList []) ops'.toList _ 0 s.mem.next [] s h (fun j => by simp) (fun j => by simp)
    simp only [Array.length_toList, Nat.zero_add] at hsteps hfin hs'
    have hB : Begin ops' (pres ops'.toList []) st 0 NoX μ wR := ⟨hd', rfl, by rw [h0]; exact hok'.rep, by rw [h0], by unfold nx; rw [h0], hF.glob, by unfold nx; rw [h0]; exact hF.big, fun _ _ _ h => h⟩
    have hSI := SI.start (P := P) (rec := rec) hB (by unfold nx; rw [h0]; exact hF)
    have hTn : (fun _ : Nat => False) = fun j => 0 ≤ j ∧ (Array.replicate ops'.size false).getD j false = true := by
      funext j
      apply propext
      constructor
      · intro h; exact h.elim
      · rintro ⟨_, h2⟩
        rw [Array.getD_eq_getD_getElem?, Array.getElem?_replicate] at h2
        split at h2 <;> simp at h2
    rw [hTn] at hSI
    refine wpAny_of_held (S := Still st L μ wR) _ _ _ _ (any_light hS (nb0 := s.mem.next) (μR := μ) (wR := wR) (by unfold nx; rw [h0]) (by rw [h0]; exact hok'.rep) (fun k hk => hsteps k (Nat.zero_le _) hk) hfin hs' ops'.size _ 0 μ _ μ _ a (by simp) (Nat.zero_le _) (fun j hj => by omega) (fun j o hj => ?_) hB (by rw [h0]; exact hok') hSI ?_
      (fun _ _ => rfl) (Nat.le_refl _) (fun _ _ _ => rfl) (fun _ _ _ _ => rfl))
    · rw [Array.getD_eq_getD_getElem?, Array.getElem?_replicate] at hj
      split at hj <;> simp at hj
    · unfold unl
      exact Nat.le_trans (List.length_filter_le _ _) (by simp)
end Go.Proofs.YtloolljoelngcaaGreat
