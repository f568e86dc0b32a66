/-
  Regions that draw their order: what is run in the order of the text is run in every order.
-/
import Derived.Test.YtloolljoelngcaaGreatEvJ
set_option linter.unusedVariables false
namespace Go.Proofs.YtloolljoelngcaaGreat
open Go.RowKit

structure DSt where
  s : Stt
  nb : Nat
  ds : List Made
def PutR (fr : Tr Value) (sz : Nat) (dst : Option Tmp) (v : Value) (fr' : Tr Value) : Prop :=
  (dst = none ∧ fr' = fr) ∨ ∃ d, dst = some d ∧ d < sz ∧ ∀ t, fr'.get t = if t = d then some v else fr.get t
def Adds (mask : Nat) (h : Tr EvBlk) (ds : List Made) (vis : Tr EvBlk) : Prop :=
  (∀ b x, vis.get b = some x → h.get b = some x ∨ ∃ e ∈ ds, mask.testBit e.i = true ∧ (b, x) ∈ e.d) ∧ (∀ b, (∀ e ∈ ds, ∀ x, (b, x) ∉ e.d) → vis.get b = h.get b)
def OnlyR (fr : Tr Value) (l : List Operand) (fr' : Tr Value) : Prop := ∀ i, (Operand.tmp i ∈ l → fr'.get i = fr.get i) ∧ (Operand.tmp i ∉ l → fr'.get i = none)

section
variable (P : Program) (rec : Req → Stt → Option (Out × Stt)) (ops : Array Oper) (MS : List Nat)
structure SkipR (k : Nat) (p q : DSt) (o : Oper) : Prop where
  op : ops[k]? = some o
  wanted : wantedE ops o p.s.fr = some false
  put : PutR p.s.fr p.s.size o.dst undef q.s.fr
  size : q.s.size = p.s.size
  mem : q.s.mem = p.s.mem
  nb : q.nb = p.nb
  ds : q.ds = p.ds
/-- an operation is done on the blocks of those ahead of it -/
structure DoneR (k : Nat) (p q : DSt) (o : Oper) (m : Nat) (vis : Tr EvBlk) (fr : Tr Value) (v : Value) (m' : Mem) : Prop where
  op : ops[k]? = some o
  ms : MS[k]? = some m
  wanted : wantedE ops o p.s.fr = some true
  adds : Adds m p.s.mem.heap p.ds vis
  only : OnlyR p.s.fr o.op.operands.toList fr
  run : doOp P rec fr ⟨vis, p.s.mem.next, big⟩ o = some (v, m')
  put : PutR p.s.fr p.s.size o.dst v q.s.fr
  size : q.s.size = p.s.size
structure MadeR (k : Nat) (p : DSt) (m : Nat) (v : Value) (m' : Mem) (e : Made) : Prop where
  i : e.i = k
  lo : e.lo = p.s.mem.next
  hi : e.hi = m'.next
  d : ∀ b x, (b, x) ∈ e.d → m'.heap.get b = some x ∧ p.s.mem.next ≤ b
  idv : idsV (seen p.nb p.s.mem.next m p.ds) 9 v = true
  idd : idsD (seen p.nb p.s.mem.next m p.ds) e.d = true
structure GrowR (k : Nat) (p q : DSt) (o : Oper) (m : Nat) (vis : Tr EvBlk) (fr : Tr Value) (v : Value) (m' : Mem) : Prop extends DoneR P rec ops MS k p q o m vis fr v m' where
  low : p.s.mem.next ≤ m'.low
  next : p.s.mem.next ≤ m'.next
  mem : q.s.mem = ⟨p.s.mem.heap, m'.next, p.s.mem.low⟩
  nb : q.nb = p.nb
  ds : (flatR v = true ∧ q.ds = p.ds) ∨ ∃ e, MadeR k p m v m' e ∧ q.ds = e :: p.ds
structure WriteR (k : Nat) (p q : DSt) (o : Oper) (m : Nat) (vis : Tr EvBlk) (fr : Tr Value) (v : Value) (m' : Mem) : Prop extends DoneR P rec ops MS k p q o m vis fr v m' where
  all : ∀ (j : Nat) oj, j < k → ops[j]? = some oj → m.testBit j = true ∨ noMem oj = true
  heavy : noMem o = false
  rest : ∀ j m2, k < j → MS[j]? = some m2 → m2.testBit k = true
  mem : q.s.mem = ⟨m'.heap, m'.next, Nat.min p.s.mem.low m'.low⟩
  nb : q.nb = m'.next
  ds : q.ds = []
def Stay0R (k : Nat) (p q : DSt) : Prop := (∃ o, SkipR ops k p q o) ∨ ∃ o m vis fr v m', GrowR P rec ops MS k p q o m vis fr v m'
/-- a store that has no order with others: seen by nobody -/
structure SoftR (k : Nat) (p q : DSt) (o : Oper) : Prop where
  op : ops[k]? = some o
  wanted : wantedE ops o p.s.fr = some true
  dst : o.dst = none
  same : q = p
def StayR (k : Nat) (p q : DSt) : Prop := Stay0R P rec ops MS k p q ∨ ∃ o, SoftR ops k p q o
def StepR (k : Nat) (p q : DSt) : Prop := Stay0R P rec ops MS k p q ∨ ∃ o m vis fr v m', WriteR P rec ops MS k p q o m vis fr v m'
end

theorem put_spec {β : Type} {s : Stt} {k : Stt → Option β} {r : β} {v : Value} {m' : Mem} {dst : Option Tmp} (h : s.put dst v m' k = some r) : ∃ fr', k ⟨fr', s.size, m'⟩ = some r ∧ PutR s.fr s.size dst v fr' := by
  rw [put_eq] at h
  cases dst with
  | none => exact ⟨_, h, .inl ⟨rfl, rfl⟩⟩
  | some d =>
    simp only at h
    cases hb : Nat.blt d s.size with
    | false => rw [hb] at h; simp at h
    | true =>
      rw [hb] at h
      rw [Nat.blt_eq] at hb
      obtain ⟨t', hk, hg⟩ := Tr.upd_spec _ _ _ _ _ _ h
      exact ⟨t', hk, .inr ⟨d, rfl, hb, hg⟩⟩

section
variable {P : Program} {rec : Req → Stt → Option (Out × Stt)} {ops : Array Oper} {MS : List Nat}
theorem trace {out : Out} {s' : Stt} : ∀ (l : List Oper) (ms : List Nat) (i nb : Nat) (ds : List Made) (s : Stt), evDraw P rec ops l ms i nb ds s = some (out, s') → (∀ j, l[j]? = ops[i + j]?) → (∀ j, ms[j]? = MS[i + j]?) →
    ∃ st : Nat → DSt, st i = ⟨s, nb, ds⟩ ∧ (∀ k, i ≤ k → k < i + l.length → StepR P rec ops MS k (st k) (st (k + 1))) ∧ out = .norm ∧
      ∃ h, Adds (2 ^ (i + l.length) - 1) (st (i + l.length)).s.mem.heap (st (i + l.length)).ds h ∧ s' = ⟨(st (i + l.length)).s.fr, (st (i + l.length)).s.size, ⟨h, (st (i + l.length)).s.mem.next, (st (i + l.length)).s.mem.low⟩⟩
  | [], ms, i, nb, ds, s, h, _, _ => by
    rw [evDraw_nil] at h
    obtain ⟨h', h1, h2, h3⟩ := addDeltas_spec _ _ _ _ _ h
    simp only [Option.some.injEq, Prod.mk.injEq] at h1
    exact ⟨fun _ => ⟨s, nb, ds⟩, rfl, fun k h1 h2 => by simp at h2; omega, h1.1.symm, h', ⟨h2, h3⟩, h1.2.symm⟩
  | o :: l, ms, i, nb, ds, s, h, hl, hms => by
    cases ms with
    | nil => simp [evDraw] at h
    | cons m ms =>
      have ho : ops[i]? = some o := by have := hl 0; simpa using this.symm
      have hm : MS[i]? = some m := by have := hms 0; simpa using this.symm
      have hl' : ∀ j, l[j]? = ops[i + 1 + j]? := fun j => by have := hl (j + 1); rw [show i + (j + 1) = i + 1 + j from by omega] at this; simpa using this
      have hms' : ∀ j, ms[j]? = MS[i + 1 + j]? := fun j => by have := hms (j + 1); rw [show i + (j + 1) = i + 1 + j from by omega] at this; simpa using this
      -- what remains once the next state is known
      have fin : ∀ q : DSt, evDraw P rec ops l ms (i + 1) q.nb q.ds q.s = some (out, s') → StepR P rec ops MS i ⟨s, nb, ds⟩ q → ∃ st : Nat → DSt, st i = ⟨s, nb, ds⟩ ∧ (∀ k, i ≤ k → k < i + (o :: l).length → StepR P rec ops MS k (st k) (st (k + 1))) ∧ out = .norm ∧
          ∃ h, Adds (2 ^ (i + (o :: l).length) - 1) (st (i + (o :: l).length)).s.mem.heap (st (i + (o :: l).length)).ds h ∧ s' = ⟨(st (i + (o :: l).length)).s.fr, (st (i + (o :: l).length)).s.size, ⟨h, (st (i + (o :: l).length)).s.mem.next, (st (i + (o :: l).length)).s.mem.low⟩⟩ := by
        intro q hq hstep
        obtain ⟨st, h0, h1, h2, h3⟩ := trace l ms (i + 1) q.nb q.ds q.s hq hl' hms'
        refine ⟨fun k => if k ≤ i then ⟨s, nb, ds⟩ else st k, by simp, fun k hk1 hk2 => ?_, h2, ?_⟩
        · by_cases hki : k = i
          · subst hki
            simp only [Nat.le_refl, if_true]
            rw [if_neg (by omega), h0]
            exact hstep
          · simp only [if_neg (show ¬ k ≤ i by omega), if_neg (show ¬ k + 1 ≤ i by omega)]
            exact h1 k (by omega) (by simp at hk2; omega)
        · simp only [List.length_cons, show i + (l.length + 1) = i + 1 + l.length from by omega, if_neg (show ¬ i + 1 + l.length ≤ i by omega)]
          exact h3
      rw [evDraw_cons] at h
      cases hw : wantedE ops o s.fr with
      | none => rw [hw] at h; simp at h
      | some bw =>
      cases bw with
      | false =>
        rw [hw] at h
        simp only at h
        obtain ⟨fr', h1, hp⟩ := put_spec h
        exact fin ⟨⟨fr', s.size, s.mem⟩, nb, ds⟩ h1 (.inl (.inl ⟨o, ho, hw, hp, rfl, rfl, rfl, rfl⟩))
      | true =>
        rw [hw] at h
        simp only at h
        obtain ⟨vis, h1, ha1, ha2⟩ := addDeltas_spec _ _ _ _ _ h
        obtain ⟨fr, h2, hon⟩ := only_spec _ _ _ _ h1
        have hon' : OnlyR s.fr o.op.operands.toList fr := fun j => ⟨fun hj => by
          rcases (hon j).1 hj with h | ⟨h, h'⟩
          · exact h
          · rw [h', h, Tr.get_leaf], fun hj => by rw [(hon j).2 hj, Tr.get_leaf]⟩
        cases hd : doOp P rec fr ⟨vis, s.mem.next, big⟩ o with
        | none => rw [hd] at h2; simp at h2
        | some vm =>
          obtain ⟨v, m'⟩ := vm
          rw [hd] at h2
          simp only at h2
          cases hg : Nat.ble s.mem.next m'.low && Nat.ble s.mem.next m'.next with
          | true =>
            rw [hg] at h2
            rw [Bool.and_eq_true, Nat.ble_eq, Nat.ble_eq] at hg
            simp only at h2
            cases hf : flatR v with
            | true =>
              rw [hf] at h2
              simp only at h2
              obtain ⟨fr', h3, hp⟩ := put_spec h2
              exact fin ⟨⟨fr', s.size, ⟨s.mem.heap, m'.next, s.mem.low⟩⟩, nb, ds⟩ h3 (.inl (.inr ⟨o, m, vis, fr, v, m', ⟨⟨ho, hm, hw, ⟨ha1, ha2⟩, hon', hd, hp, rfl⟩, hg.1, hg.2, rfl, rfl, .inl ⟨hf, rfl⟩⟩⟩))
            | false =>
              rw [hf] at h2
              simp only at h2
              split at h2
              · rename_i hids
                rw [Bool.and_eq_true] at hids
                obtain ⟨fr', h3, hp⟩ := put_spec h2
                exact fin ⟨⟨fr', s.size, ⟨s.mem.heap, m'.next, s.mem.low⟩⟩, nb, ⟨i, s.mem.next, m'.next, collect m'.heap (m'.next - s.mem.next) s.mem.next⟩ :: ds⟩ h3
                  (.inl (.inr ⟨o, m, vis, fr, v, m', ⟨⟨ho, hm, hw, ⟨ha1, ha2⟩, hon', hd, hp, rfl⟩, hg.1, hg.2, rfl, rfl, .inr ⟨_, ⟨rfl, rfl, rfl, fun b x hx => by
                    obtain ⟨h1, h2, _⟩ := collect_spec _ _ _ _ _ hx
                    exact ⟨h1, h2⟩, hids.1, hids.2⟩, rfl⟩⟩⟩))
              · simp at h2
          | false =>
            rw [hg] at h2
            simp only at h2
            split at h2
            · rename_i hmask
              rw [Bool.and_eq_true, Bool.and_eq_true] at hmask
              rw [fNat_eq] at h2
              obtain ⟨fr', h3, hp⟩ := put_spec h2
              exact fin ⟨⟨fr', s.size, ⟨m'.heap, m'.next, Nat.min s.mem.low m'.low⟩⟩, m'.next, []⟩ h3 (.inr ⟨o, m, vis, fr, v, m', ⟨⟨ho, hm, hw, ⟨ha1, ha2⟩, hon', hd, hp, rfl⟩, fun j oj hj hoj => by
                have := allBefore_spec hmask.1.1 j oj hj (by simpa using hoj)
                rwa [Nat.zero_add] at this, by simpa using hmask.2, fun j m2 hj hm2 => by
                have := hms' (j - (i + 1))
                rw [show i + 1 + (j - (i + 1)) = j from by omega, hm2] at this
                exact beforeAll_mem hmask.1.2 m2 (List.mem_of_getElem? this), rfl, rfl, rfl⟩⟩)
            · simp at h2

/-! ### a stretch without a write -/
variable {st : Nat → DSt}
def nx (st : Nat → DSt) (k : Nat) : Nat := (st k).s.mem.next
/-- e is what operation e.i has made -/
structure MadeAt (st : Nat → DSt) (ops : Array Oper) (MS : List Nat) (e : Made) : Prop where
  ds : (st (e.i + 1)).ds = e :: (st e.i).ds
  lo : e.lo = nx st e.i
  hi : e.hi = nx st (e.i + 1)
  ms : ∃ m, MS[e.i]? = some m ∧ idsD (seen (st e.i).nb (nx st e.i) m (st e.i).ds) e.d = true
structure Seg (st : Nat → DSt) (ops : Array Oper) (MS : List Nat) (c k : Nat) : Prop where
  heap : (st k).s.mem.heap = (st c).s.mem.heap
  low : (st k).s.mem.low = (st c).s.mem.low
  nb : (st k).nb = (st c).nb
  size : (st k).s.size = (st c).s.size
  next : nx st c ≤ nx st k
  ds : ∀ e ∈ (st k).ds, c ≤ e.i ∧ e.i < k ∧ MadeAt st ops MS e
  fr : ∀ t, (∃ j o, c ≤ j ∧ j < k ∧ ops[j]? = some o ∧ o.dst = some t ∧ (st k).s.fr.get t = (st (j + 1)).s.fr.get t) ∨ ((∀ j o, c ≤ j → j < k → ops[j]? = some o → o.dst ≠ some t) ∧ (st k).s.fr.get t = (st c).s.fr.get t)
theorem Seg.start (c : Nat) (h : (st c).ds = []) : Seg st ops MS c c :=
  ⟨rfl, rfl, rfl, rfl, Nat.le_refl _, fun e he => by rw [h] at he; simp at he, fun t => .inr ⟨fun j o h1 h2 => by omega, rfl⟩⟩
theorem put_get {fr fr' : Tr Value} {sz : Nat} {dst : Option Tmp} {v : Value} (h : PutR fr sz dst v fr') (t : Tmp) : (dst = some t ∧ fr'.get t = some v) ∨ (dst ≠ some t ∧ fr'.get t = fr.get t) := by
  rcases h with ⟨rfl, rfl⟩ | ⟨d, rfl, _, h⟩
  · exact .inr ⟨by simp, rfl⟩
  · by_cases ht : t = d
    · subst ht; exact .inl ⟨rfl, by rw [h, if_pos rfl]⟩
    · exact .inr ⟨fun e => ht (Option.some.inj e).symm, by rw [h, if_neg ht]⟩
/-- the parts that a quiet step has in either case -/
theorem stay_parts {k : Nat} (h : StayR P rec ops MS k (st k) (st (k + 1))) : ∃ o v, ops[k]? = some o ∧ PutR (st k).s.fr (st k).s.size o.dst v (st (k + 1)).s.fr ∧ (st (k + 1)).s.size = (st k).s.size ∧ (st (k + 1)).s.mem.heap = (st k).s.mem.heap ∧
    (st (k + 1)).s.mem.low = (st k).s.mem.low ∧ nx st k ≤ nx st (k + 1) ∧ (st (k + 1)).nb = (st k).nb ∧ ((st (k + 1)).ds = (st k).ds ∧ flatR v = true ∨ ∃ e m, e.i = k ∧ MadeAt st ops MS e ∧ (st (k + 1)).ds = e :: (st k).ds ∧ MS[k]? = some m ∧ idsV (seen (st k).nb (nx st k) m (st k).ds) 9 v = true) := by
  rcases h with (⟨o, h⟩ | ⟨o, m, vis, fr, v, m', h⟩) | ⟨o, h⟩
  · exact ⟨o, undef, h.op, h.put, h.size, by rw [h.mem], by rw [h.mem], by unfold nx; rw [h.mem]; exact Nat.le_refl _, h.nb, .inl ⟨h.ds, rfl⟩⟩
  · refine ⟨o, v, h.op, h.put, h.size, by rw [h.mem], by rw [h.mem], by unfold nx; rw [h.mem]; exact h.next, h.nb, ?_⟩
    rcases h.ds with ⟨h1, h2⟩ | ⟨e, h1, h2⟩
    · exact .inl ⟨h2, h1⟩
    · refine .inr ⟨e, m, h1.i, ?_, h2, h.ms, h1.idv⟩
      have hi := h1.i
      subst hi
      exact ⟨h2, h1.lo, by rw [h1.hi]; unfold nx; rw [h.mem], m, h.ms, h1.idd⟩
  · exact ⟨o, undef, h.op, .inl ⟨h.dst, by rw [h.same]⟩, by rw [h.same], by rw [h.same], by rw [h.same], by unfold nx; rw [h.same]; exact Nat.le_refl _, by rw [h.same], .inl ⟨by rw [h.same], rfl⟩⟩
theorem Seg.step (hok : drawOk ops = true) {c k : Nat} (hck : c ≤ k) (h : Seg st ops MS c k) (hs : StayR P rec ops MS k (st k) (st (k + 1))) : Seg st ops MS c (k + 1) := by
  obtain ⟨o, v, ho, hp, h1, h2, h3, h4, h5, h6⟩ := stay_parts hs
  refine ⟨h2.trans h.heap, h3.trans h.low, h5.trans h.nb, h1.trans h.size, Nat.le_trans h.next h4, fun e he => ?_, fun t => ?_⟩
  · rcases h6 with ⟨h6, _⟩ | ⟨e', m, hei, hm, h6, _⟩
    · rw [h6] at he
      obtain ⟨g1, g2, g3⟩ := h.ds e he
      exact ⟨g1, by omega, g3⟩
    · rw [h6] at he
      rcases List.mem_cons.1 he with rfl | he
      · exact ⟨by omega, by omega, hm⟩
      · obtain ⟨g1, g2, g3⟩ := h.ds e he
        exact ⟨g1, by omega, g3⟩
  · rcases put_get hp t with ⟨hd, hg⟩ | ⟨hd, hg⟩
    · exact .inl ⟨k, o, hck, by omega, ho, hd, rfl⟩
    · rcases h.fr t with ⟨j, o', g1, g2, g3, g4, g5⟩ | ⟨g1, g2⟩
      · exact .inl ⟨j, o', g1, by omega, g3, g4, hg.trans g5⟩
      · refine .inr ⟨fun j o' hj1 hj2 ho' => ?_, hg.trans g2⟩
        by_cases hjk : j = k
        · subst hjk
          rw [ho] at ho'
          obtain rfl := Option.some.inj ho'
          exact hd
        · exact g1 j o' hj1 (by omega) ho'
theorem Seg.upto (hok : drawOk ops = true) {c : Nat} (h0 : (st c).ds = []) : ∀ k, c ≤ k → (∀ j, c ≤ j → j < k → StayR P rec ops MS j (st j) (st (j + 1))) → Seg st ops MS c k := by
  intro k hk
  induction k with
  | zero => intro _; obtain rfl : c = 0 := (by omega); exact Seg.start 0 h0
  | succ k ih =>
    intro hs
    by_cases hck : c = k + 1
    · subst hck; exact Seg.start _ h0
    · exact (ih (by omega) fun j h1 h2 => hs j h1 (by omega)).step hok (by omega) (hs k (by omega) (by omega))
theorem next_mono {c : Nat} : ∀ k j, c ≤ j → j ≤ k → (∀ i, c ≤ i → i < k → StayR P rec ops MS i (st i) (st (i + 1))) → nx st j ≤ nx st k := by
  intro k
  induction k with
  | zero => intro j _ h _; obtain rfl : j = 0 := (by omega); exact Nat.le_refl _
  | succ k ih =>
    intro j h1 h2 hs
    by_cases hj : j = k + 1
    · subst hj; exact Nat.le_refl _
    · obtain ⟨_, _, _, _, _, _, _, h4, _⟩ := stay_parts (hs k (by omega) (by omega))
      exact Nat.le_trans (ih j h1 (by omega) fun i g1 g2 => hs i g1 (by omega)) h4
end
end Go.Proofs.YtloolljoelngcaaGreat
