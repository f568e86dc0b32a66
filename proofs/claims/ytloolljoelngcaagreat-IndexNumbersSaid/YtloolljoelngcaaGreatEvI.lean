/-
  The evaluator's code beside the model's: calls, regions in the order of the text, branches, loops, jumps. (Regions that draw their order: a hypothesis here.)
-/
import Derived.Test.YtloolljoelngcaaGreatEvV
set_option linter.unusedVariables false
namespace Go.Proofs.YtloolljoelngcaaGreat
open Go.RowKit

def OutIs : Out → Exit → Prop
  | .norm, e => e = .normal
  | .exit id, e => e = .exit id
  | .goto l, e => e = .goto l
  | .ret, e => e = .ret
def Post (μ : Map) (m : Mem) (w : World) (out : Out) (s : Stt) (e : Exit) (a : Act) (w' : World) : Prop :=
  OutIs out e ∧ ∃ μ', Ok μ m w μ' s.mem w' ∧ FrR μ' s.mem.next s.fr s.size a
def ReqWp (P : Program) (Q : Exit → Act → World → Prop) (a : Act) (w : World) : Req → Prop
  | .code c => c.wp P Q a w
  | .insc c rest => ∀ (b : Frame) (k : List Item) (cs : List Frame), ∃ e a' w', Q e a' w' ∧ Arrives P (lone (b.at a (.code rest :: .inScope c :: k)) cs w) b k cs e a' w'
  | .looped c => ∀ (b : Frame) (k : List Item) (cs : List Frame), ∃ e a' w', Q e a' w' ∧ Arrives P (lone (b.at a (.inLoop c :: k)) cs w) b k cs e a' w'
def Snd (P : Program) (rec : Req → Stt → Option (Out × Stt)) : Prop :=
  ∀ r s out s', rec r s = some (out, s') → ∀ μ0 m0 w0 μ w a, Ok μ0 m0 w0 μ s.mem w → FrR μ s.mem.next s.fr s.size a → ReqWp P (Post μ0 m0 w0 out s') a w r

section
variable {P : Program} {μ : Map} {m : Mem} {w : World} {fr : Tr Value} {n : Nat} {a : Act} {o : Oper} {rec : Req → Stt → Option (Out × Stt)}

theorem fillFr_spec {β : Type} : ∀ (l : List Value) (n : Nat) (t : Tr Value) (k : Tr Value → Option β) (r : β), fillFr l n t k = some r →
    ∃ t', k t' = some r ∧ ∀ i, t'.get i = if n ≤ i ∧ i < n + l.length then l[i - n]? else t.get i
  | [], n, t, k, r, h => ⟨t, h, fun i => by rw [if_neg (by simp only [List.length_nil]; omega)]⟩
  | v :: l, n, t, k, r, h => by
    rw [fillFr] at h
    obtain ⟨t1, h1, g1⟩ := Tr.upd_spec _ _ _ _ _ _ h
    obtain ⟨t2, h2, g2⟩ := fillFr_spec l n.succ t1 k r h1
    refine ⟨t2, h2, fun i => ?_⟩
    rw [g2, g1]
    simp only [List.length_cons]
    by_cases hi : i = n
    · subst hi
      rw [if_neg (by omega), if_pos rfl, if_pos (by omega)]
      simp
    · by_cases h3 : n.succ ≤ i ∧ i < n.succ + l.length
      · rw [if_pos h3, if_pos (by omega)]
        rw [show i - n = i - n.succ + 1 from by omega]
        simp
      · rw [if_neg h3, if_neg hi, if_neg (by omega)]

theorem wanted_eq' {nx : Nat} {ops : Array Oper} (o : Oper) (hF : ∀ j want d, o.guard = some (j, want) → (ops[j]?).bind (·.dst) = some d → SlotR μ nx (fr.get d) (a.tmps.getD d undef)) : ∀ b, wantedE ops o fr = some b → Region.wanted o (yielded ops a.tmps) = b := by
  intro b hb
  unfold wantedE at hb
  unfold Region.wanted
  cases hg : o.guard with
  | none => rw [hg] at hb; simpa using hb
  | some g =>
    obtain ⟨j, want⟩ := g
    rw [hg] at hb
    simp only at hb ⊢
    unfold yielded
    cases hd : (ops[j]?).bind (·.dst) with
    | none => rw [hd] at hb; simp at hb; simp [hb]
    | some d =>
      rw [hd] at hb
      simp only [Option.bind_some] at hb ⊢
      have hv := hF _ _ d hg hd
      cases hf : fr.get d with
      | none => rw [hf] at hb; simp at hb
      | some v =>
        have hv := hv v hf
        rw [hf] at hb
        cases ht : a.tmps[d]? with
        | none =>
          have hu : a.tmps.getD d undef = undef := by simp [Array.getD_eq_getD_getElem?, ht]
          rw [hu] at hv
          unfold undef at hv
          split at hb
          · rename_i q e
            obtain rfl := Option.some.inj e
            cases hv
          · simp at hb
            simp [hb]
          · simp at hb
        | some u =>
          have hu : a.tmps.getD d undef = u := by simp [Array.getD_eq_getD_getElem?, ht]
          rw [hu] at hv
          split at hb
          · rename_i q e
            obtain rfl := Option.some.inj e
            obtain rfl := hv.bool_inv
            cases want <;> simp at hb <;> subst hb <;> simp
          · rename_i e
            obtain rfl := Option.some.inj e
            obtain rfl := hv.sameV rfl
            simp at hb
            simp [hb]
          · simp at hb

theorem wanted_eq {nx : Nat} {ops : Array Oper} (hF : FrR μ nx fr n a) (o : Oper) : ∀ b, wantedE ops o fr = some b → Region.wanted o (yielded ops a.tmps) = b :=
  wanted_eq' o fun _ _ d _ _ => hF.get d
theorem put_ok {β : Type} {s : Stt} {k : Stt → Option β} {r : β} {v v' : Value} {m' : Mem} {dst : Option Tmp} {nx : Nat} (h : s.put dst v m' k = some r) (hF : FrR μ nx s.fr s.size a) (hv : VR μ nx v v') :
    ∃ fr', k ⟨fr', s.size, m'⟩ = some r ∧ FrR μ nx fr' s.size (a.put dst v') := by
  rw [put_eq] at h
  cases dst with
  | none => exact ⟨_, h, hF⟩
  | some d =>
    simp only at h
    cases hb : Nat.blt d s.size with
    | false => rw [hb] at h; simp at h
    | true =>
      rw [hb] at h
      rw [Nat.blt_eq] at hb
      obtain ⟨t', hk, hg⟩ := Tr.upd_spec _ _ _ _ _ _ h
      refine ⟨t', hk, hF.defers, by simp [Act.put]; exact hF.size, fun t => ?_, hF.glob, hF.big⟩
      rw [hg]
      have hsz := hF.size
      by_cases ht : t = d
      · subst ht
        rw [if_pos rfl]
        have : (a.put (some t) v').tmps.getD t undef = v' := by simp [Act.put, Array.getD_eq_getD_getElem?, hsz, hb]
        rw [this]
        intro u e
        obtain rfl := Option.some.inj e
        exact hv
      · rw [if_neg ht]
        have : (a.put (some d) v').tmps.getD t undef = a.tmps.getD t undef := by simp [Act.put, Array.getD_eq_getD_getElem?, Array.getElem?_setIfInBounds_ne (Ne.symm ht)]
        rw [this]
        exact hF.get t

def resG (tmps : Array Value) : ResultVar → Sem Value
  | .tmp t => pure (tmps.getD t undef)
  | .cell p t => do loadVar t (← asAddr (tmps.getD p undef))
theorem results_eq (fn : Func) (tmps : Array Value) : results fn tmps = (do
    let vs ← fn.results.mapM (resG tmps)
    pure (if h : vs.size = 1 then vs[0] else .tuple vs)) := by
  unfold results
  congr 1
theorem res_ok {s : Stt} (hR : Rep μ s.mem w) (hF : FrR μ s.mem.next s.fr s.size a) : ∀ (rs : List ResultVar) (l : List Value), resVals P s rs = some l →
    ∃ l', (rs.mapM (resG a.tmps)).run P w = .ok l' w ∧ VRs μ s.mem.next l l'
  | [], l, h => by simp [resVals] at h; subst h; exact ⟨[], by simp, .nil⟩
  | r :: rs, l, h => by
    rw [resVals] at h
    cases h1 : resVal P s r with
    | none => rw [h1] at h; simp at h
    | some v =>
      rw [h1] at h
      simp only at h
      cases h2 : resVals P s rs with
      | none => rw [h2] at h; simp at h
      | some q =>
        rw [h2] at h
        simp at h
        subst h
        obtain ⟨l', hrun, hv⟩ := res_ok hR hF rs q h2
        cases r with
        | tmp t =>
          rw [resVal] at h1
          have hvt : VR μ s.mem.next v (a.tmps.getD t undef) := hF.get t v h1
          exact ⟨a.tmps.getD t undef :: l', by rw [List.mapM_cons]; simp only [resG, Sem.run_bind, Sem.run_pure, Result.andThen_ok, hrun], .cons hvt hv⟩
        | cell p t =>
          rw [resVal] at h1
          cases hf : s.fr.get p with
          | none => rw [hf] at h1; simp at h1
          | some u =>
            rw [hf] at h1
            have hg := hF.get p u hf
            split at h1
            · rename_i ad he
              obtain rfl := Option.some.inj he
              obtain ⟨b, f, rfl, hb, e⟩ := hg.ptr_inv
              obtain ⟨v', hl, hv'⟩ := ldVar_ok (w := w) hR h1
              refine ⟨v' :: l', ?_, .cons hv' hv⟩
              rw [List.mapM_cons]
              simp only [resG, e, asAddr, Sem.run_bind, Sem.run_pure, Result.andThen_ok, hl, hrun]
            · simp at h1

theorem call_ok [ExtOk P] (hS : Snd P rec) {f : FuncId} {args args' : List Value} {v : Value} {m' : Mem} (h : evCall P rec f args m = some (v, m')) (hR : Rep μ m w) (hargs : VRs μ m.next args args')
    (hg : ∀ g, g < 1048576 → (μ g).blk = g ∧ (μ g).base = 0) (hb : 1048576 ≤ m.next) :
    Calls P f ⟨args'⟩ w fun e w' => ∃ v' μ', e = .returned v' ∧ Ok μ m w μ' m' w' ∧ VR μ' m'.next v v' := by
  unfold evCall at h
  cases hfn : P.funcs[f]? with
  | none => rw [hfn] at h; simp at h
  | some fn =>
    rw [hfn] at h
    simp only at h
    cases hpk : primKind fn.name with
    | succ k =>
      rw [hpk] at h
      simp only at h
      cases hpr : primRun k.succ args m with
      | none => rw [hpr] at h; simp at h
      | some u =>
        rw [hpr] at h
        simp only [Option.some.injEq, Prod.mk.injEq] at h
        obtain ⟨rfl, rfl⟩ := h
        refine (prim_ok hfn hpk hpr hR hargs).mono ?_
        rintro e w' ⟨he, hB⟩
        exact ⟨u, μ, he, ok_of_below hR hB, prim_flat hpr⟩
    | zero =>
    rw [hpk] at h
    simp only at h
    cases hbody : fn.body with
    | none => rw [hbody] at h; simp at h
    | some c =>
      rw [hbody] at h
      simp only at h
      obtain ⟨t, h1, hget⟩ := fillFr_spec _ _ _ _ _ h
      rw [fNat_eq, openMem_eq] at h1
      cases hrec : rec (.code c) ⟨t, Nat.max fn.ntmps (len args 0), ⟨m.heap, m.next, big⟩⟩ with
      | none => rw [hrec] at h1; simp at h1
      | some os =>
        obtain ⟨out, s⟩ := os
        rw [hrec] at h1
        simp only at h1
        have hR0 : Rep μ ⟨m.heap, m.next, big⟩ w := ⟨hR.lt, hR.cells, hR.fits, hR.inb, hR.es, hR.there, hR.apart⟩
        have hal := hargs.length
        have hF0 : FrR μ m.next t (Nat.max fn.ntmps (len args 0)) { tmps := (⟨args'⟩ : Array Value) ++ Array.replicate (fn.ntmps - (⟨args'⟩ : Array Value).size) undef, defers := [] } := by
          refine ⟨rfl, ?_, fun i => ?_, hg, hb⟩
          · have : Nat.max fn.ntmps (len args 0) = max fn.ntmps (len args 0) := rfl
            rw [len_eq, this] at *
            simp [hal]
            omega
          · rw [hget]
            by_cases hi : i < args.length
            · rw [if_pos (by omega), Nat.sub_zero]
              obtain ⟨v', e, hv⟩ := hargs.get i args[i] (List.getElem?_eq_getElem hi)
              rw [List.getElem?_eq_getElem hi]
              have : ((⟨args'⟩ : Array Value) ++ Array.replicate (fn.ntmps - (⟨args'⟩ : Array Value).size) undef).getD i undef = v' := by
                rw [Array.getD_eq_getD_getElem?, Array.getElem?_append_left (by simp; omega)]
                simp [e]
              rw [this]
              intro u e
              obtain rfl := Option.some.inj e
              exact hv
            · rw [if_neg (by omega), Tr.get_leaf]
              have : ((⟨args'⟩ : Array Value) ++ Array.replicate (fn.ntmps - (⟨args'⟩ : Array Value).size) undef).getD i undef = undef := by
                rw [Array.getD_eq_getD_getElem?, Array.getElem?_append_right (by simp; omega)]
                rw [Array.getElem?_replicate]
                split <;> rfl
              rw [this]
              exact SlotR.none
        have hwp := hS _ _ _ _ hrec μ ⟨m.heap, m.next, big⟩ w μ w _ (.refl hR0) hF0
        refine calls_of_wp hfn hbody (wp_mono hwp ?_)
        rintro e a' w' ⟨hout, μ', hok, hF'⟩
        have fin : (out = .norm ∨ out = .ret) ∧ ∃ l, resVals P s fn.results.toList = some l := by
          split at h1
          · split at h1
            · rename_i l hl; exact ⟨.inl rfl, l, hl⟩
            · simp at h1
          · split at h1
            · rename_i l hl; exact ⟨.inr rfl, l, hl⟩
            · simp at h1
          · simp at h1
        obtain ⟨ho2, l, hl⟩ := fin
        obtain ⟨l', hrun, hvl⟩ := res_ok (P := P) hok.rep hF' _ _ hl
        have hres : ∃ v', (results fn a'.tmps).run P w' = .ok v' w' ∧ VR μ' s.mem.next (tupled l) v' := by
          refine ⟨if h : (⟨l'⟩ : Array Value).size = 1 then (⟨l'⟩ : Array Value)[0] else .tuple ⟨l'⟩, ?_, ?_⟩
          · rw [results_eq, Array.mapM_eq_mapM_toList]
            simp only [Sem.run_bind, Sem.run_map, hrun, Result.andThen_ok, Sem.run_pure]
          · cases hvl with
            | nil => simp; exact .tuple .nil
            | cons h1 h2 => cases h2 with
              | nil => simp; exact h1
              | cons h2 h3 => simp; exact .tuple (.cons h1 (.cons h2 h3))
        obtain ⟨v', hres, hv'⟩ := hres
        have fin2 : leave m s.mem (tupled l) = some (v, m') := by
          rcases ho2 with rfl | rfl <;> simpa only [hl] using h1
        have key : Ok μ m w μ' m' w' ∧ VR μ' m'.next v v' := by
          generalize tupled l = V at fin2 hv'
          rw [leave_eq] at fin2
          cases hgc : flatR V && Nat.ble m.next s.mem.low with
          | true =>
            rw [hgc] at fin2
            simp only [Option.some.injEq, Prod.mk.injEq] at fin2
            obtain ⟨rfl, rfl⟩ := fin2
            rw [Bool.and_eq_true, Nat.ble_eq] at hgc
            refine ⟨?_, hv'⟩
            have same : ∀ b x, m.heap.get b = some x → s.mem.heap.get b = some x := fun b x hx => by
              have := hR.lt b x hx
              exact (hok.keep b (by omega) this).trans hx
            have hrep := hok.rep
            constructor
            case rep => exact ⟨fun b x hx => hrep.lt b x (same b x hx), fun b x hx => hrep.cells b x (same b x hx), fun b x hx => hrep.fits b x (same b x hx), fun b x hx => hrep.inb b x (same b x hx), fun b x hx => hrep.es b x (same b x hx), fun b x hx => hrep.there b x (same b x hx), fun b x b' x' hx hx' => hrep.apart b x b' x' (same b x hx) (same b' x' hx')⟩
            case next => exact hok.next
            case mu => exact hok.mu
            case mu2 => exact hok.mu2
            case low => exact Nat.le_refl _
            case keep => intro _ _ _; rfl
            case old => intro b x' hx _; exact ⟨x', hx, rfl⟩
            case new => intro b x' hx hb; have := hR.lt b x' hx; omega
            case os => exact hok.os
            case tape => exact hok.tape
            case output => exact hok.output
            case size => exact hok.size
            case frame => intro j hj _; exact hok.frame j hj fun b x hx _ hl => absurd (hR.lt b x hx) (by omega)
          | false =>
            rw [hgc, fNat_eq] at fin2
            simp only [Option.some.injEq, Prod.mk.injEq] at fin2
            obtain ⟨rfl, rfl⟩ := fin2
            refine ⟨?_, hv'⟩
            have hrep := hok.rep
            have hm1 : Nat.min m.low s.mem.low ≤ m.low := Nat.min_le_left _ _
            have hm2 : Nat.min m.low s.mem.low ≤ s.mem.low := Nat.min_le_right _ _
            constructor
            case rep => exact ⟨hrep.lt, hrep.cells, hrep.fits, hrep.inb, hrep.es, hrep.there, hrep.apart⟩
            case next => exact hok.next
            case mu => exact hok.mu
            case mu2 => exact hok.mu2
            case low => exact hm1
            case keep => intro b hb hn; exact hok.keep b (Nat.lt_of_lt_of_le hb hm2) hn
            case old => exact hok.old
            case new =>
              intro b x' hx hb
              obtain ⟨h1, h2⟩ := hok.new b x' hx hb
              refine ⟨h1, ?_⟩
              rcases h2 with h2 | ⟨b0, x0, g1, g2, g3, g4⟩
              · exact .inl h2
              · exact .inr ⟨b0, x0, g1, g2, Nat.le_trans hm2 g3, g4⟩
            case os => exact hok.os
            case tape => exact hok.tape
            case output => exact hok.output
            case size => exact hok.size
            case frame => intro j hj hno; exact hok.frame j hj fun b x hx ho hl => hno b x hx ho (Nat.le_trans hm2 hl)
        obtain ⟨hok', hv''⟩ := key
        rcases ho2 with rfl | rfl
        · obtain rfl : e = .normal := hout
          exact ⟨hF'.defers, v', hres, v', μ', rfl, hok', hv''⟩
        · obtain rfl : e = .ret := hout
          exact ⟨hF'.defers, v', hres, v', μ', rfl, hok', hv''⟩

/-- what an operation does, whatever comes behind it -/
def DoesTo (P : Program) (o : Oper) (a : Act) (w : World) (R : Value → World → Prop) : Prop :=
  ∀ (a2 : Act) (K : Act → World → Prop) (Q : Exit → Act → World → Prop), execOp a2.eval o = execOp a.eval o → (∀ v' w', R v' w' → K (a2.put o.dst v') w') → o.wp P a2 w K Q
theorem do_run [ExtOk P] (hS : Snd P rec) {v : Value} {m' : Mem} (h : doOp P rec fr m o = some (v, m')) (hR : Rep μ m w) (hF : FrR μ m.next fr n a) :
    DoesTo P o a w fun v' w' => ∃ μ', Ok μ m w μ' m' w' ∧ VR μ' m'.next v v' := by
  intro a2 K Q he hK
  unfold doOp at h
  cases hs : stepOp P fr m o with
  | none => rw [hs] at h; simp at h
  | some d =>
    rw [hs] at h
    have hd := step_ok (w := w) hR hF hs
    unfold Oper.wp
    rw [he]
    cases d with
    | val u m1 =>
      simp only [Option.some.injEq, Prod.mk.injEq] at h
      obtain ⟨rfl, rfl⟩ := h
      obtain ⟨μ', w', v', hrun, hok, hv⟩ := hd
      rw [hrun]
      exact hK v' w' ⟨μ', hok, hv⟩
    | none_ m1 =>
      simp only [Option.some.injEq, Prod.mk.injEq] at h
      obtain ⟨rfl, rfl⟩ := h
      obtain ⟨μ', w', hrun, hok⟩ := hd
      rw [hrun]
      exact hK undef w' ⟨μ', hok, .undef⟩
    | call f args m1 =>
      simp only at h
      obtain ⟨args', hrun, hv, rfl⟩ := hd
      rw [hrun]
      refine (call_ok hS h hR hv hF.glob hF.big).mono ?_
      rintro e w' ⟨v', μ', rfl, hok, hv'⟩
      exact hK v' w' ⟨μ', hok, hv'⟩
theorem do_ok [ExtOk P] (hS : Snd P rec) {v : Value} {m' : Mem} (h : doOp P rec fr m o = some (v, m')) (hR : Rep μ m w) (hF : FrR μ m.next fr n a) {K : Act → World → Prop} {Q : Exit → Act → World → Prop}
    (hK : ∀ v' w' μ', Ok μ m w μ' m' w' → VR μ' m'.next v v' → K (a.put o.dst v') w') : o.wp P a w K Q :=
  do_run hS h hR hF a K Q rfl fun v' w' ⟨μ', h1, h2⟩ => hK v' w' μ' h1 h2

theorem ops_ok [ExtOk P] (hS : Snd P rec) {ops : Array Oper} {μ0 : Map} {m0 : Mem} {w0 : World} {out : Out} {s' : Stt} : ∀ (l : List Oper) (i : Nat) (s : Stt) (μ : Map) (w : World) (a : Act), (∀ j, l[j]? = ops[i + j]?) →
    evOps P rec ops l s = some (out, s') → Ok μ0 m0 w0 μ s.mem w → FrR μ s.mem.next s.fr s.size a → wpOps P ops (Post μ0 m0 w0 out s') (List.range' i l.length) a w
  | [], i, s, μ, w, a, _, h, hok, hF => by
    simp [evOps] at h
    obtain ⟨rfl, rfl⟩ := h
    exact ⟨rfl, μ, hok, hF⟩
  | o :: l, i, s, μ, w, a, hl, h, hok, hF => by
    have ho : ops[i]? = some o := by have := hl 0; simpa using this.symm
    have hl' : ∀ j, l[j]? = ops[i + 1 + j]? := fun j => by
      have := hl (j + 1)
      rw [show i + (j + 1) = i + 1 + j from by omega] at this
      simpa using this
    rw [evOps_cons] at h
    simp only [List.length_cons, List.range'_succ, wpOps, ho]
    have hw := wanted_eq (ops := ops) hF o
    cases hwe : wantedE ops o s.fr with
    | none => rw [hwe] at h; simp at h
    | some bw =>
    cases bw with
    | false =>
      rw [hwe] at h
      rw [hw false hwe]
      simp only [Bool.false_eq_true, if_false] at h ⊢
      obtain ⟨fr', h', hF'⟩ := put_ok h hF .undef
      exact ops_ok hS l (i + 1) _ μ w _ hl' h' hok hF'
    | true =>
      rw [hwe] at h
      rw [hw true hwe]
      simp only [if_true] at h ⊢
      cases hdo : doOp P rec s.fr s.mem o with
      | none => rw [hdo] at h; simp at h
      | some vm =>
        obtain ⟨v, m1⟩ := vm
        rw [hdo] at h
        simp only at h
        refine .inl (do_ok hS hdo hok.rep hF fun v' w' μ' hok' hv => ?_)
        obtain ⟨fr', h', hF'⟩ := put_ok h (hF.up hok') hv
        exact ops_ok hS l (i + 1) _ μ' w' _ hl' h' (hok.trans hok') hF'

theorem VR.coin_inv {μ : Map} {nx : Nat} {v' : Value} (h : VR μ nx (.map (some 0)) v') : ∃ b, v' = .bool b := by
  cases h with
  | flat hf => simp [flat1] at hf
  | coin => exact ⟨_, rfl⟩
theorem both_ok (hS : Snd P rec) {x y : Code} {s : Stt} {out : Out} {s' : Stt} (h : bothWays rec x y s = some (out, s')) :
    ∀ μ0 m0 w0 μ w a, Ok μ0 m0 w0 μ s.mem w → FrR μ s.mem.next s.fr s.size a → x.wp P (Post μ0 m0 w0 out s') a w ∧ y.wp P (Post μ0 m0 w0 out s') a w := by
  intro μ0 m0 w0 μ w a hok hF
  obtain ⟨fr, size, ⟨hp, n, low⟩⟩ := s
  unfold bothWays at h
  simp only at h hok hF
  have hrep : Rep μ ⟨hp, n, big⟩ w := ⟨hok.rep.lt, hok.rep.cells, hok.rep.fits, hok.rep.inb, hok.rep.es, hok.rep.there, hok.rep.apart⟩
  split at h
  rotate_left
  · simp at h
  rename_i oA sA hA
  split at h
  rotate_left
  · simp at h
  rename_i oB sB hB
  split at h
  rotate_left
  · simp at h
  rename_i ho
  obtain rfl := sameOut_eq ho
  split at h
  rotate_left
  · simp at h
  rename_i r hr
  simp only [Option.some.injEq, Prod.mk.injEq] at h
  obtain ⟨rfl, rfl⟩ := h
  obtain ⟨cA, cB⟩ := mergeS_cov (base := ⟨hp, n, big⟩) hok.rep.lt hr
  obtain ⟨frR, sizeR, ⟨hR, nR, lR⟩⟩ := r
  have fin : ∀ (e : Exit) (a1 : Act) (w1 : World), Post μ ⟨hp, n, big⟩ w oA ⟨frR, sizeR, ⟨hR, nR, lR⟩⟩ e a1 w1 → Post μ0 m0 w0 oA (relow low ⟨frR, sizeR, ⟨hR, nR, lR⟩⟩) e a1 w1 := by
    rintro e a1 w1 ⟨he, μ1, hok1, hF1⟩
    exact ⟨he, μ1, hok.trans hok1.lowers, hF1⟩
  constructor
  · refine wp_mono (hS _ _ _ _ hA μ ⟨hp, n, big⟩ w μ w a (.refl hrep) hF) ?_
    rintro e a1 w1 ⟨he, μ1, hok1, hF1⟩
    obtain ⟨g1, g2⟩ := cA μ w μ1 w1 a1 hok1 hF1
    exact fin e a1 w1 ⟨he, μ1, g1, g2⟩
  · refine wp_mono (hS _ _ _ _ hB μ ⟨hp, n, big⟩ w μ w a (.refl hrep) hF) ?_
    rintro e a1 w1 ⟨he, μ1, hok1, hF1⟩
    obtain ⟨g1, g2⟩ := cB μ w μ1 w1 a1 hok1 hF1
    exact fin e a1 w1 ⟨he, μ1, g1, g2⟩

/-- what is owed for a region that draws its order -/
def DrawOk (P : Program) (rec : Req → Stt → Option (Out × Stt)) : Prop := ∀ (id : Nat) (ops : Array Oper) (s : Stt) (out : Out) (s' : Stt), drawOk ops = true → evReg P rec ops s = some (out, s') →
  ∀ μ0 m0 w0 μ w a, Ok μ0 m0 w0 μ s.mem w → FrR μ s.mem.next s.fr s.size a → (Code.region id ops true).wp P (Post μ0 m0 w0 out s') a w

theorem evB_ok [ExtOk P] (hS : Snd P rec) (hD : DrawOk P rec) : Snd P (evB P rec) := by
  intro r s out s' h μ0 m0 w0 μ w a hok hF
  cases r with
  | looped c =>
    intro b k cs
    rw [evB_eq] at h; simp only at h
    cases hc : rec (.code c) s with
    | none => rw [hc] at h; simp at h
    | some os =>
      obtain ⟨o1, s1⟩ := os
      rw [hc] at h
      obtain ⟨e, a1, w1, ⟨he, μ1, hok1, hF1⟩, harr⟩ := hS _ _ _ _ hc μ0 m0 w0 μ w a hok hF b (.inLoop c :: k) cs
      cases o1 with
      | norm =>
        obtain rfl : e = .normal := he
        simp only at h
        obtain ⟨e2, a2, w2, hp, harr2⟩ := hS _ _ _ _ h μ0 m0 w0 μ1 w1 a1 hok1 hF1 b k cs
        exact ⟨e2, a2, w2, hp, .of_steps (.head step_inLoop harr) harr2⟩
      | exit id =>
        obtain rfl : e = .exit id := he
        simp only [Option.some.injEq, Prod.mk.injEq] at h
        obtain ⟨rfl, rfl⟩ := h
        exact ⟨_, a1, w1, ⟨rfl, μ1, hok1, hF1⟩, .of_steps (.one step_inLoop) (.pass (x := .inLoop c) rfl (fun _ _ => .inl (by simp)) harr)⟩
      | goto l =>
        obtain rfl : e = .goto l := he
        simp only [Option.some.injEq, Prod.mk.injEq] at h
        obtain ⟨rfl, rfl⟩ := h
        exact ⟨_, a1, w1, ⟨rfl, μ1, hok1, hF1⟩, .of_steps (.one step_inLoop) (.pass (x := .inLoop c) rfl (fun _ _ => .inl (by simp)) harr)⟩
      | ret =>
        obtain rfl : e = .ret := he
        simp only [Option.some.injEq, Prod.mk.injEq] at h
        obtain ⟨rfl, rfl⟩ := h
        exact ⟨_, a1, w1, ⟨rfl, μ1, hok1, hF1⟩, .of_steps (.one step_inLoop) (.pass (x := .inLoop c) rfl (fun _ _ => .inl (by simp)) harr)⟩
  | insc c rest =>
    intro b k cs
    rw [evB_eq] at h; simp only at h
    cases hc : rec (.code rest) s with
    | none => rw [hc] at h; simp at h
    | some os =>
      obtain ⟨o1, s1⟩ := os
      rw [hc] at h
      obtain ⟨e, a1, w1, ⟨he, μ1, hok1, hF1⟩, harr⟩ := hS _ _ _ _ hc μ0 m0 w0 μ w a hok hF b (.inScope c :: k) cs
      cases o1 with
      | norm =>
        obtain rfl : e = .normal := he
        simp only [Option.some.injEq, Prod.mk.injEq] at h
        obtain ⟨rfl, rfl⟩ := h
        exact ⟨.normal, a1, w1, ⟨rfl, μ1, hok1, hF1⟩, Steps.trans harr (.one step_inScope)⟩
      | exit id =>
        obtain rfl : e = .exit id := he
        simp only [Option.some.injEq, Prod.mk.injEq] at h
        obtain ⟨rfl, rfl⟩ := h
        exact ⟨.exit id, a1, w1, ⟨rfl, μ1, hok1, hF1⟩, fun k' hk => harr k' (by simp [exitTo, hk])⟩
      | goto l =>
        obtain rfl : e = .goto l := he
        simp only at h
        cases hf : findLabel c l with
        | none =>
          rw [hf] at h
          simp only [Option.some.injEq, Prod.mk.injEq] at h
          obtain ⟨rfl, rfl⟩ := h
          exact ⟨.goto l, a1, w1, ⟨rfl, μ1, hok1, hF1⟩, fun k' hk => harr k' (by simp [gotoIn, hf, hk])⟩
        | some rest' =>
          rw [hf] at h
          simp only at h
          have hg : gotoIn l (.inScope c :: k) = some (.code rest' :: .inScope c :: k) := by simp [gotoIn, hf]
          obtain ⟨e2, a2, w2, hp, harr2⟩ := hS _ _ _ _ h μ0 m0 w0 μ1 w1 a1 hok1 hF1 b k cs
          exact ⟨e2, a2, w2, hp, .of_steps (harr _ hg) harr2⟩
      | ret =>
        obtain rfl : e = .ret := he
        simp only [Option.some.injEq, Prod.mk.injEq] at h
        obtain ⟨rfl, rfl⟩ := h
        exact ⟨_, a1, w1, ⟨rfl, μ1, hok1, hF1⟩, harr⟩
  | code c =>
    cases c with
    | skip => simp only [evB_eq, Option.some.injEq, Prod.mk.injEq] at h; obtain ⟨rfl, rfl⟩ := h; exact wp_skip ⟨rfl, μ, hok, hF⟩
    | label l => simp only [evB_eq, Option.some.injEq, Prod.mk.injEq] at h; obtain ⟨rfl, rfl⟩ := h; exact wp_label ⟨rfl, μ, hok, hF⟩
    | exit id => simp only [evB_eq, Option.some.injEq, Prod.mk.injEq] at h; obtain ⟨rfl, rfl⟩ := h; exact wp_exit ⟨rfl, μ, hok, hF⟩
    | goto l => simp only [evB_eq, Option.some.injEq, Prod.mk.injEq] at h; obtain ⟨rfl, rfl⟩ := h; exact wp_goto ⟨rfl, μ, hok, hF⟩
    | ret => simp only [evB_eq, Option.some.injEq, Prod.mk.injEq] at h; obtain ⟨rfl, rfl⟩ := h; exact wp_ret ⟨rfl, μ, hok, hF⟩
    | refuse why => simp [evB_eq] at h
    | rangeFunc f p q r => simp [evB_eq] at h
    | region id ops draw =>
      cases draw with
      | false =>
        rw [evB_eq] at h; simp only at h
        have := ops_ok hS (ops := ops) (μ0 := μ0) (m0 := m0) (w0 := w0) ops.toList 0 s μ w a (fun j => by simp) h hok hF
        refine wp_region ?_
        rw [List.range_eq_range']
        simpa using this
      | true =>
        rw [evB_eq] at h; simp only at h
        cases hd : drawOk ops with
        | false => rw [hd] at h; simp at h
        | true => rw [hd] at h; exact hD id ops s out s' hd h μ0 m0 w0 μ w a hok hF
    | seq x y =>
      rw [evB_eq] at h; simp only at h
      cases hc : rec (.code x) s with
      | none => rw [hc] at h; simp at h
      | some os =>
        obtain ⟨o1, s1⟩ := os
        rw [hc] at h
        refine wp_seq (wp_mono (hS _ _ _ _ hc μ0 m0 w0 μ w a hok hF) ?_)
        rintro e a1 w1 ⟨he, μ1, hok1, hF1⟩
        cases o1 with
        | norm => obtain rfl : e = .normal := he; exact hS _ _ _ _ h μ0 m0 w0 μ1 w1 a1 hok1 hF1
        | exit id => obtain rfl : e = .exit id := he; simp only [Option.some.injEq, Prod.mk.injEq] at h; obtain ⟨rfl, rfl⟩ := h; exact ⟨rfl, μ1, hok1, hF1⟩
        | goto l => obtain rfl : e = .goto l := he; simp only [Option.some.injEq, Prod.mk.injEq] at h; obtain ⟨rfl, rfl⟩ := h; exact ⟨rfl, μ1, hok1, hF1⟩
        | ret => obtain rfl : e = .ret := he; simp only [Option.some.injEq, Prod.mk.injEq] at h; obtain ⟨rfl, rfl⟩ := h; exact ⟨rfl, μ1, hok1, hF1⟩
    | cond c x y =>
      rw [evB_eq] at h; simp only at h
      split at h
      · rename_i hc; exact wp_cond_true ((opd_ok hF hc).bool_inv) (hS _ _ _ _ h μ0 m0 w0 μ w a hok hF)
      · rename_i hc; exact wp_cond_false ((opd_ok hF hc).bool_inv) (hS _ _ _ _ h μ0 m0 w0 μ w a hok hF)
      · rename_i hc
        obtain ⟨q, hq⟩ := (opd_ok hF hc).coin_inv
        have hb := both_ok hS h μ0 m0 w0 μ w a hok hF
        cases q with
        | true => exact wp_cond_true hq hb.1
        | false => exact wp_cond_false hq hb.2
      · simp at h
    | block id c =>
      rw [evB_eq] at h; simp only at h
      cases hc : rec (.code c) s with
      | none => rw [hc] at h; simp at h
      | some os =>
        obtain ⟨o1, s1⟩ := os
        rw [hc] at h
        refine wp_block (wp_mono (hS _ _ _ _ hc μ0 m0 w0 μ w a hok hF) ?_)
        rintro e a1 w1 ⟨he, μ1, hok1, hF1⟩
        cases o1 with
        | norm => obtain rfl : e = .normal := he; simp only [Option.some.injEq, Prod.mk.injEq] at h; obtain ⟨rfl, rfl⟩ := h; exact ⟨rfl, μ1, hok1, hF1⟩
        | exit i =>
          obtain rfl : e = .exit i := he
          simp only at h
          cases hb : Nat.beq i id with
          | true =>
            rw [hb] at h
            obtain rfl : i = id := by simpa using hb
            simp only [Option.some.injEq, Prod.mk.injEq] at h
            obtain ⟨rfl, rfl⟩ := h
            simp only [Exit.inBlock, if_true]
            exact ⟨rfl, μ1, hok1, hF1⟩
          | false =>
            rw [hb] at h
            have hne : i ≠ id := Nat.ne_of_beq_eq_false hb
            simp only [Option.some.injEq, Prod.mk.injEq] at h
            obtain ⟨rfl, rfl⟩ := h
            simp only [Exit.inBlock, hne, if_false]
            exact ⟨rfl, μ1, hok1, hF1⟩
        | goto l => obtain rfl : e = .goto l := he; simp only [Option.some.injEq, Prod.mk.injEq] at h; obtain ⟨rfl, rfl⟩ := h; exact ⟨rfl, μ1, hok1, hF1⟩
        | ret => obtain rfl : e = .ret := he; simp only [Option.some.injEq, Prod.mk.injEq] at h; obtain ⟨rfl, rfl⟩ := h; exact ⟨rfl, μ1, hok1, hF1⟩
    | loop c =>
      intro b k cs
      rw [evB_eq] at h; simp only at h
      cases hc : rec (.code c) s with
      | none => rw [hc] at h; simp at h
      | some os =>
        obtain ⟨o1, s1⟩ := os
        rw [hc] at h
        obtain ⟨e, a1, w1, ⟨he, μ1, hok1, hF1⟩, harr⟩ := hS _ _ _ _ hc μ0 m0 w0 μ w a hok hF b (.inLoop c :: k) cs
        cases o1 with
        | norm =>
          obtain rfl : e = .normal := he
          simp only at h
          obtain ⟨e2, a2, w2, hp, harr2⟩ := hS _ _ _ _ h μ0 m0 w0 μ1 w1 a1 hok1 hF1 b k cs
          exact ⟨e2, a2, w2, hp, .of_steps (.head step_loop harr) harr2⟩
        | exit id =>
          obtain rfl : e = .exit id := he
          simp only [Option.some.injEq, Prod.mk.injEq] at h
          obtain ⟨rfl, rfl⟩ := h
          exact ⟨_, a1, w1, ⟨rfl, μ1, hok1, hF1⟩, .of_steps (.one step_loop) (.pass (x := .inLoop c) rfl (fun _ _ => .inl (by simp)) harr)⟩
        | goto l =>
          obtain rfl : e = .goto l := he
          simp only [Option.some.injEq, Prod.mk.injEq] at h
          obtain ⟨rfl, rfl⟩ := h
          exact ⟨_, a1, w1, ⟨rfl, μ1, hok1, hF1⟩, .of_steps (.one step_loop) (.pass (x := .inLoop c) rfl (fun _ _ => .inl (by simp)) harr)⟩
        | ret =>
          obtain rfl : e = .ret := he
          simp only [Option.some.injEq, Prod.mk.injEq] at h
          obtain ⟨rfl, rfl⟩ := h
          exact ⟨_, a1, w1, ⟨rfl, μ1, hok1, hF1⟩, .of_steps (.one step_loop) (.pass (x := .inLoop c) rfl (fun _ _ => .inl (by simp)) harr)⟩
    | scope c =>
      intro b k cs
      rw [evB_eq] at h; simp only at h
      obtain ⟨e, a1, w1, hp, harr⟩ := hS _ _ _ _ h μ0 m0 w0 μ w a hok hF b k cs
      exact ⟨e, a1, w1, hp, .of_steps (.one step_scope) harr⟩
end
end Go.Proofs.YtloolljoelngcaaGreat
