/-
  Stores that have no order with others: lists, names, what is run in the order of the text.
-/
import Derived.Test.YtloolljoelngcaaGreatEvM
set_option linter.unusedVariables false
namespace Go.Proofs.YtloolljoelngcaaGreat
open Go.RowKit

def Ap (e f : Soft) : Prop := e.b ≠ f.b ∨ e.o + e.vs.length ≤ f.o ∨ f.o + f.vs.length ≤ e.o
theorem apartS_spec {e : Soft} : ∀ {l : List Soft}, apartS e l = true → ∀ f ∈ l, Ap e f
  | [], _, f, h => by simp at h
  | g :: l, hh, f, h => by
    rw [apartS] at hh
    split at hh
    · rename_i hc
      rcases List.mem_cons.1 h with rfl | h
      · simp only [Bool.or_eq_true, Nat.ble_eq, len_eq, Nat.add_zero, Bool.not_eq_true'] at hc
        rcases hc with (hc | hc) | hc
        · left
          intro e1
          rw [e1] at hc
          simp at hc
        · exact .inr (.inl hc)
        · exact .inr (.inr hc)
      · exact apartS_spec hh f h
    · simp at hh
theorem inHid_spec {e : Soft} : ∀ {hb : List (Nat × EvBlk)}, inHid e hb = true → ∃ x, (e.b, x) ∈ hb ∧ e.o + e.vs.length ≤ x.cells.length
  | [], h => by simp [inHid] at h
  | (c, y) :: l, h => by
    rw [inHid] at h
    split at h
    · rename_i hc
      rw [Nat.beq_eq] at hc
      subst hc
      rw [Nat.ble_eq, len_eq, len_eq] at h
      exact ⟨y, List.mem_cons_self, by omega⟩
    · obtain ⟨x, h1, h2⟩ := inHid_spec h
      exact ⟨x, List.mem_cons_of_mem _ h1, h2⟩
theorem hideAll_spec {β : Type} : ∀ (l : List Nat) (h : Tr EvBlk) (hb : List (Nat × EvBlk)) (k : Tr EvBlk → List (Nat × EvBlk) → Option β) (r : β), hideAll l h hb k = some r →
    ∃ h' hb', k h' hb' = some r ∧ (∀ b x, h'.get b = some x → h.get b = some x) ∧ (∀ b x, h.get b = some x → h'.get b = some x ∨ (b, x) ∈ hb') ∧ (∀ b x, (b, x) ∈ hb → (b, x) ∈ hb') ∧
      (∀ b x, (b, x) ∈ hb' → (b, x) ∈ hb ∨ (h.get b = some x ∧ x.own = true ∧ h'.get b = none))
  | [], h, hb, k, r, e => ⟨h, hb, e, fun _ _ hx => hx, fun _ _ hx => .inl hx, fun _ _ hx => hx, fun _ _ hx => .inl hx⟩
  | c :: l, h, hb, k, r, e => by
    rw [hideAll] at e
    cases hg : h.get c with
    | none => rw [hg] at e; simp at e
    | some y =>
      rw [hg] at e
      simp only at e
      cases ho : y.own with
      | false => rw [ho] at e; simp at e
      | true =>
        rw [ho] at e
        simp only at e
        obtain ⟨h1, e1, g1⟩ := Tr.upd_spec _ _ _ _ _ _ e
        obtain ⟨h', hb', e2, a1, a2, a3, a4⟩ := hideAll_spec l h1 _ k r e1
        have hc' : h'.get c = none := by
          cases hh : h'.get c with
          | none => rfl
          | some z =>
            have := a1 c z hh
            rw [g1, if_pos rfl] at this
            cases this
        refine ⟨h', hb', e2, fun b x hx => ?_, fun b x hx => ?_, fun b x hx => a3 b x (List.mem_cons_of_mem _ hx), fun b x hx => ?_⟩
        · have := a1 b x hx
          rw [g1] at this
          split at this
          · cases this
          · exact this
        · by_cases hbc : b = c
          · subst hbc
            rw [hg] at hx
            obtain rfl := Option.some.inj hx
            exact .inr (a3 _ _ List.mem_cons_self)
          · exact a2 b x (by rw [g1, if_neg hbc]; exact hx)
        · rcases a4 b x hx with hx | ⟨h1', h2', h3'⟩
          · rcases List.mem_cons.1 hx with hx | hx
            · obtain ⟨rfl, rfl⟩ := Prod.mk.inj hx
              exact .inr ⟨hg, ho, hc'⟩
            · exact .inl hx
          · rw [g1] at h1'
            split at h1'
            · cases h1'
            · exact .inr ⟨h1', h2', h3'⟩
theorem applyS_spec (b : Nat) : ∀ (sf : List Soft) (cs0 cs : List Value), applyS b sf cs0 = some cs → cs.length = cs0.length ∧ ∀ (i : Nat) v, cs[i]? = some v →
    (∃ e ∈ sf, e.b = b ∧ e.o ≤ i ∧ i < e.o + e.vs.length ∧ e.vs[i - e.o]? = some v) ∨ (cs0[i]? = some v ∧ ∀ e ∈ sf, e.b = b → ¬(e.o ≤ i ∧ i < e.o + e.vs.length))
  | [], cs0, cs, h => by
    rw [applyS] at h
    obtain rfl := Option.some.inj h
    exact ⟨rfl, fun i v hv => .inr ⟨hv, fun e he => by simp at he⟩⟩
  | e :: l, cs0, cs, h => by
    rw [applyS] at h
    cases ha : applyS b l cs0 with
    | none => rw [ha] at h; simp at h
    | some c1 =>
      rw [ha] at h
      simp only at h
      obtain ⟨h1, h2⟩ := applyS_spec b l cs0 c1 ha
      cases hb : Nat.beq e.b b with
      | false =>
        rw [hb] at h
        obtain rfl := Option.some.inj h
        refine ⟨h1, fun i v hv => ?_⟩
        rcases h2 i v hv with ⟨f, g1, g2⟩ | ⟨g1, g2⟩
        · exact .inl ⟨f, List.mem_cons_of_mem _ g1, g2⟩
        · refine .inr ⟨g1, fun f hf hfb => ?_⟩
          rcases List.mem_cons.1 hf with rfl | hf
          · rw [hfb] at hb; simp at hb
          · exact g2 f hf hfb
      | true =>
        rw [hb] at h
        rw [Nat.beq_eq] at hb
        simp only at h
        obtain ⟨hlen, rfl⟩ := putN_eq _ _ _ _ h
        refine ⟨by simp; omega, fun i v hv => ?_⟩
        by_cases hio : i < e.o
        · rw [List.append_assoc, List.getElem?_append_left (by simp; omega), List.getElem?_take, if_pos hio] at hv
          rcases h2 i v hv with ⟨f, g1, g2⟩ | ⟨g1, g2⟩
          · exact .inl ⟨f, List.mem_cons_of_mem _ g1, g2⟩
          · refine .inr ⟨g1, fun f hf hfb => ?_⟩
            rcases List.mem_cons.1 hf with rfl | hf
            · omega
            · exact g2 f hf hfb
        · by_cases hi2 : i < e.o + e.vs.length
          · rw [List.append_assoc, List.getElem?_append_right (by simp; omega), List.getElem?_append_left (by simp; omega)] at hv
            rw [List.length_take, Nat.min_eq_left (by omega)] at hv
            exact .inl ⟨e, List.mem_cons_self, hb, by omega, hi2, hv⟩
          · rw [List.getElem?_append_right (by simp; omega), List.getElem?_drop] at hv
            rw [List.length_append, List.length_take, Nat.min_eq_left (by omega), show e.o + e.vs.length + (i - (e.o + e.vs.length)) = i from by omega] at hv
            rcases h2 i v hv with ⟨f, g1, g2⟩ | ⟨g1, g2⟩
            · exact .inl ⟨f, List.mem_cons_of_mem _ g1, g2⟩
            · refine .inr ⟨g1, fun f hf hfb => ?_⟩
              rcases List.mem_cons.1 hf with rfl | hf
              · omega
              · exact g2 f hf hfb
theorem restore_spec {β : Type} (sf : List Soft) : ∀ (hb : List (Nat × EvBlk)) (h : Tr EvBlk) (low : Nat) (k : Tr EvBlk → Nat → Option β) (r : β), restore sf hb h low k = some r →
    ∃ h' low', k h' low' = some r ∧ low' ≤ low ∧ (∀ b x, (b, x) ∈ hb → low' ≤ b) ∧ (∀ b, (∀ x, (b, x) ∉ hb) → h'.get b = h.get b) ∧
      (∀ b y, h'.get b = some y → (h.get b = some y ∧ ∀ x, (b, x) ∉ hb) ∨ ∃ x cs, (b, x) ∈ hb ∧ applyS b sf x.cells = some cs ∧ y = ⟨x.es, true, cs⟩)
  | [], h, low, k, r, e => ⟨h, low, e, Nat.le_refl _, fun _ _ hx => by simp at hx, fun _ _ => rfl, fun b y hy => .inl ⟨hy, fun _ hx => by simp at hx⟩⟩
  | (c, z) :: l, h, low, k, r, e => by
    rw [restore] at e
    cases ha : applyS c sf z.cells with
    | none => rw [ha] at e; simp at e
    | some cs =>
      rw [ha] at e
      simp only at e
      obtain ⟨h1, e1, g1⟩ := Tr.upd_spec _ _ _ _ _ _ e
      rw [fNat_eq] at e1
      obtain ⟨h', low', e2, a1, a2, a3, a4⟩ := restore_spec sf l h1 _ k r e1
      have m1 : Nat.min low c ≤ low := Nat.min_le_left _ _
      have m2 : Nat.min low c ≤ c := Nat.min_le_right _ _
      refine ⟨h', low', e2, by omega, fun b x hx => ?_, fun b hx => ?_, fun b y hy => ?_⟩
      · rcases List.mem_cons.1 hx with hx | hx
        · obtain ⟨rfl, rfl⟩ := Prod.mk.inj hx; omega
        · exact a2 b x hx
      · rw [a3 b fun x h => hx x (List.mem_cons_of_mem _ h), g1, if_neg]
        rintro rfl
        exact hx z List.mem_cons_self
      · rcases a4 b y hy with ⟨h2, h3⟩ | ⟨x, cs', h2, h3, h4⟩
        · rw [g1] at h2
          split at h2
          · rename_i hbc
            subst hbc
            exact .inr ⟨z, cs, List.mem_cons_self, ha, (Option.some.inj h2).symm⟩
          · rename_i hbc
            refine .inl ⟨h2, fun x hx => ?_⟩
            rcases List.mem_cons.1 hx with hx | hx
            · exact hbc (Prod.mk.inj hx).1
            · exact h3 x hx
        · exact .inr ⟨x, cs', List.mem_cons_of_mem _ h2, h3, h4⟩

/-- a store that has no order with others -/
structure SoftE (P : Program) (ops : Array Oper) (MS : List Nat) (hb : List (Nat × EvBlk)) (p q : DSt) (o : Oper) (e : Soft) (m : Nat) (fr : Tr Value) : Prop extends SoftR ops e.i p q o where
  ms : MS[e.i]? = some m
  only : OnlyR p.s.fr o.op.operands.toList fr
  run : softOp P fr o = some (e.b, e.o, e.vs)
  ids : idsL (seen p.nb p.s.mem.next m p.ds) 9 e.vs = true
  hid : inHid e hb = true
def Good (F : List Soft) : Prop := ∀ e ∈ F, ∀ f ∈ F, e = f ∨ (e.i ≠ f.i ∧ Ap e f)
theorem Ap.symm {e f : Soft} (h : Ap e f) : Ap f e := by
  rcases h with h | h | h
  · exact .inl (Ne.symm h)
  · exact .inr (.inr h)
  · exact .inr (.inl h)
section
variable {P : Program} {rec : Req → Stt → Option (Out × Stt)} {ops : Array Oper} {MS : List Nat} {hb : List (Nat × EvBlk)}
theorem traceS {out : Out} {s' : Stt} : ∀ (l : List Oper) (ms : List Nat) (i nb : Nat) (ds : List Made) (sf : List Soft) (s : Stt), evSoft P rec ops hb l ms i nb ds sf s = some (out, s') → (∀ j, l[j]? = ops[i + j]?) → (∀ j, ms[j]? = MS[i + j]?) →
    Good sf → (∀ e ∈ sf, e.i < i) →
    ∃ (st : Nat → DSt) (F : List Soft), st i = ⟨s, nb, ds⟩ ∧ (∀ k, i ≤ k → k < i + l.length → Stay0R P rec ops MS k (st k) (st (k + 1)) ∨ ∃ o e m fr, e.i = k ∧ e ∈ F ∧ SoftE P ops MS hb (st k) (st (k + 1)) o e m fr) ∧
      Good F ∧ (∀ e ∈ sf, e ∈ F) ∧ (∀ e ∈ F, e ∈ sf ∨ (i ≤ e.i ∧ e.i < i + l.length ∧ ∃ o m fr, SoftE P ops MS hb (st e.i) (st (e.i + 1)) o e m fr)) ∧
      ∃ h, Adds (2 ^ (i + l.length) - 1) (st (i + l.length)).s.mem.heap (st (i + l.length)).ds h ∧
        (restore F hb h (st (i + l.length)).s.mem.low fun h low => some (Out.norm, ⟨(st (i + l.length)).s.fr, (st (i + l.length)).s.size, ⟨h, (st (i + l.length)).s.mem.next, low⟩⟩)) = some (out, s')
  | [], ms, i, nb, ds, sf, s, h, _, _, hg, _ => by
    rw [evSoft] at h
    obtain ⟨h', h1, h2, h3⟩ := addDeltas_spec _ _ _ _ _ h
    exact ⟨fun _ => ⟨s, nb, ds⟩, sf, rfl, fun k h1 h2 => by simp at h2; omega, hg, fun _ h => h, fun _ h => .inl h, h', ⟨h2, h3⟩, h1⟩
  | o :: l, ms, i, nb, ds, sf, s, h, hl, hms, hgood, hsf => by
    cases ms with
    | nil => simp [evSoft] at h
    | cons m ms =>
      have ho : ops[i]? = some o := by have := hl 0; simpa using this.symm
      have hm : MS[i]? = some m := by have := hms 0; simpa using this.symm
      have hl' : ∀ j, l[j]? = ops[i + 1 + j]? := fun j => by have := hl (j + 1); rw [show i + (j + 1) = i + 1 + j from by omega] at this; simpa using this
      have hms' : ∀ j, ms[j]? = MS[i + 1 + j]? := fun j => by have := hms (j + 1); rw [show i + (j + 1) = i + 1 + j from by omega] at this; simpa using this
      -- what remains once the next state is known
      have fin : ∀ (q : DSt) (sf1 : List Soft), evSoft P rec ops hb l ms (i + 1) q.nb q.ds sf1 q.s = some (out, s') → Good sf1 → (∀ e ∈ sf1, e.i < i + 1) → (∀ e ∈ sf, e ∈ sf1) → (∀ e ∈ sf1, e ∈ sf ∨ (e.i = i ∧ ∃ o m fr, SoftE P ops MS hb ⟨s, nb, ds⟩ q o e m fr)) →
          (Stay0R P rec ops MS i ⟨s, nb, ds⟩ q ∨ ∃ o e m fr, e.i = i ∧ e ∈ sf1 ∧ SoftE P ops MS hb ⟨s, nb, ds⟩ q o e m fr) →
          ∃ (st : Nat → DSt) (F : List Soft), st i = ⟨s, nb, ds⟩ ∧ (∀ k, i ≤ k → k < i + (o :: l).length → Stay0R P rec ops MS k (st k) (st (k + 1)) ∨ ∃ o e m fr, e.i = k ∧ e ∈ F ∧ SoftE P ops MS hb (st k) (st (k + 1)) o e m fr) ∧
      Good F ∧ (∀ e ∈ sf, e ∈ F) ∧ (∀ e ∈ F, e ∈ sf ∨ (i ≤ e.i ∧ e.i < i + (o :: l).length ∧ ∃ o m fr, SoftE P ops MS hb (st e.i) (st (e.i + 1)) o e m fr)) ∧
      ∃ h, Adds (2 ^ (i + (o :: l).length) - 1) (st (i + (o :: l).length)).s.mem.heap (st (i + (o :: l).length)).ds h ∧
        (restore F hb h (st (i + (o :: l).length)).s.mem.low fun h low => some (Out.norm, ⟨(st (i + (o :: l).length)).s.fr, (st (i + (o :: l).length)).s.size, ⟨h, (st (i + (o :: l).length)).s.mem.next, low⟩⟩)) = some (out, s') := by
        intro q sf1 hq hg1 hlt1 hsub hof hstep
        obtain ⟨st, F, h0, h1, h2, h3, h4, h5⟩ := traceS l ms (i + 1) q.nb q.ds sf1 q.s hq hl' hms' hg1 hlt1
        refine ⟨fun k => if k ≤ i then ⟨s, nb, ds⟩ else st k, F, by simp, fun k hk1 hk2 => ?_, h2, fun e he => h3 e (hsub e he), fun e he => ?_, ?_⟩
        · by_cases hki : k = i
          · subst hki
            simp only [Nat.le_refl, if_true]
            rw [if_neg (by omega), h0]
            rcases hstep with hstep | ⟨o', e, m', fr, g1, g2, g3⟩
            · exact .inl hstep
            · exact .inr ⟨o', e, m', fr, g1, h3 e g2, g3⟩
          · simp only [if_neg (show ¬ k ≤ i by omega), if_neg (show ¬ k + 1 ≤ i by omega)]
            exact h1 k (by omega) (by simp at hk2; omega)
        · rcases h4 e he with he | ⟨g1, g2, g3⟩
          · rcases hof e he with he | ⟨g1, o', m', fr, g3⟩
            · exact .inl he
            · refine .inr ⟨by omega, by simp; omega, o', m', fr, ?_⟩
              dsimp only
              rw [if_pos (by omega), if_neg (by omega), g1, h0]
              exact g3
          · refine .inr ⟨by omega, by simp; omega, ?_⟩
            dsimp only
            rw [if_neg (by omega), if_neg (by omega)]
            exact g3
        · simp only [List.length_cons, show i + (l.length + 1) = i + 1 + l.length from by omega, if_neg (show ¬ i + 1 + l.length ≤ i by omega)]
          exact h5
      have lt1 : ∀ e ∈ sf, e.i < i + 1 := fun e he => by have := hsf e he; omega
      rw [evSoft] at h
      cases hw : wantedE ops o s.fr with
      | none => rw [hw] at h; simp at h
      | some bw =>
      cases bw with
      | false =>
        rw [hw] at h
        simp only at h
        obtain ⟨fr', h1, hp⟩ := put_spec h
        exact fin ⟨⟨fr', s.size, s.mem⟩, nb, ds⟩ sf h1 hgood lt1 (fun _ h => h) (fun _ h => .inl h) (.inl (.inl ⟨o, ho, hw, hp, rfl, rfl, rfl, rfl⟩))
      | true =>
        rw [hw] at h
        simp only at h
        obtain ⟨fr, h2, hon⟩ := only_spec _ _ _ _ h
        have hon' : OnlyR s.fr o.op.operands.toList fr := fun j => ⟨fun hj => by
          rcases (hon j).1 hj with h | ⟨h, h'⟩
          · exact h
          · rw [h', h, Tr.get_leaf], fun hj => by rw [(hon j).2 hj, Tr.get_leaf]⟩
        cases hst : isStore o with
        | true =>
          rw [hst] at h2
          simp only at h2
          split at h2
          · rename_i b f vs hso hdst
            split at h2
            · rename_i hc
              rw [Bool.and_eq_true, Bool.and_eq_true] at hc
              have hap := apartS_spec hc.1.2
              have hE : SoftE P ops MS hb ⟨s, nb, ds⟩ ⟨s, nb, ds⟩ o ⟨i, b, f, vs⟩ m fr := ⟨⟨ho, hw, hdst, rfl⟩, hm, hon', hso, hc.2, hc.1.1⟩
              refine fin ⟨s, nb, ds⟩ (⟨i, b, f, vs⟩ :: sf) h2 (fun e he g hg => ?_) (fun e he => ?_) (fun e he => List.mem_cons_of_mem _ he) (fun e he => ?_) (.inr ⟨o, ⟨i, b, f, vs⟩, m, fr, rfl, List.mem_cons_self, hE⟩)
              · rcases List.mem_cons.1 he with rfl | he
                · rcases List.mem_cons.1 hg with rfl | hg
                  · exact .inl rfl
                  · exact .inr ⟨fun e => by have := hsf g hg; simp only at e; omega, hap g hg⟩
                · rcases List.mem_cons.1 hg with rfl | hg
                  · exact .inr ⟨fun e1 => by have := hsf e he; simp only at e1; omega, (hap e he).symm⟩
                  · exact hgood e he g hg
              · rcases List.mem_cons.1 he with rfl | he
                · simp
                · exact lt1 e he
              · rcases List.mem_cons.1 he with rfl | he
                · exact .inr ⟨rfl, o, m, fr, hE⟩
                · exact .inl he
            · simp at h2
          · simp at h2
        | false =>
          rw [hst] at h2
          simp only at h2
          obtain ⟨vis, h1, ha1, ha2⟩ := addDeltas_spec _ _ _ _ _ h2
          cases hd : doOp P rec fr ⟨vis, s.mem.next, big⟩ o with
          | none => rw [hd] at h1; simp at h1
          | some vm =>
            obtain ⟨v, m'⟩ := vm
            rw [hd] at h1
            simp only at h1
            cases hg : Nat.ble s.mem.next m'.low && Nat.ble s.mem.next m'.next with
            | true =>
              rw [hg] at h1
              rw [Bool.and_eq_true, Nat.ble_eq, Nat.ble_eq] at hg
              simp only at h1
              cases hf : flatR v with
              | true =>
                rw [hf] at h1
                simp only at h1
                obtain ⟨fr', h3, hp⟩ := put_spec h1
                exact fin ⟨⟨fr', s.size, ⟨s.mem.heap, m'.next, s.mem.low⟩⟩, nb, ds⟩ sf h3 hgood lt1 (fun _ h => h) (fun _ h => .inl h) (.inl (.inr ⟨o, m, vis, fr, v, m', ⟨⟨ho, hm, hw, ⟨ha1, ha2⟩, hon', hd, hp, rfl⟩, hg.1, hg.2, rfl, rfl, .inl ⟨hf, rfl⟩⟩⟩))
              | false =>
                rw [hf] at h1
                simp only at h1
                split at h1
                · rename_i hids
                  rw [Bool.and_eq_true] at hids
                  obtain ⟨fr', h3, hp⟩ := put_spec h1
                  exact fin ⟨⟨fr', s.size, ⟨s.mem.heap, m'.next, s.mem.low⟩⟩, nb, ⟨i, s.mem.next, m'.next, collect m'.heap (m'.next - s.mem.next) s.mem.next⟩ :: ds⟩ sf h3 hgood lt1 (fun _ h => h) (fun _ h => .inl h)
                    (.inl (.inr ⟨o, m, vis, fr, v, m', ⟨⟨ho, hm, hw, ⟨ha1, ha2⟩, hon', hd, hp, rfl⟩, hg.1, hg.2, rfl, rfl, .inr ⟨_, ⟨rfl, rfl, rfl, fun b x hx => by
                      obtain ⟨h1, h2, _⟩ := collect_spec _ _ _ _ _ hx
                      exact ⟨h1, h2⟩, hids.1, hids.2⟩, rfl⟩⟩⟩))
                · simp at h1
            | false =>
              rw [hg] at h1
              simp at h1
end
end Go.Proofs.YtloolljoelngcaaGreat
