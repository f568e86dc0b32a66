/-
  The evaluator's operations beside the model's.
-/
import Derived.Test.YtloolljoelngcaaGreatEvB
set_option linter.unusedVariables false
namespace Go.Proofs.YtloolljoelngcaaGreat
open Go.RowKit

/-- a slot that may be unknown -/
def SlotR (μ : Map) (nx : Nat) (o : Option Value) (v' : Value) : Prop := ∀ v, o = some v → VR μ nx v v'
theorem SlotR.mono {μ μ' : Map} {nx nx' : Nat} {o : Option Value} {v' : Value} (h : SlotR μ nx o v') (hn : nx ≤ nx') (hm : ∀ b, b < nx → μ' b = μ b) : SlotR μ' nx' o v' := fun v e => (h v e).mono hn hm
theorem SlotR.up {μ μ' : Map} {m m' : Mem} {w w' : World} {o : Option Value} {v' : Value} (hv : SlotR μ m.next o v') (h : Ok μ m w μ' m' w') : SlotR μ' m'.next o v' := fun v e => (hv v e).up h
theorem SlotR.some {μ : Map} {nx : Nat} {v v' : Value} (h : VR μ nx v v') : SlotR μ nx (some v) v' := fun _ e => by cases e; exact h
theorem SlotR.none {μ : Map} {nx : Nat} {v' : Value} : SlotR μ nx none v' := fun _ e => by cases e
structure FrR (μ : Map) (nx : Nat) (fr : Tr Value) (n : Nat) (a : Act) : Prop where
  defers : a.defers = []
  size : a.tmps.size = n
  get : ∀ t, SlotR μ nx (fr.get t) (a.tmps.getD t undef)
  glob : ∀ g, g < 1048576 → (μ g).blk = g ∧ (μ g).base = 0
  big : 1048576 ≤ nx

section
variable {P : Program} {μ : Map} {m : Mem} {w : World} {fr : Tr Value} {n : Nat} {a : Act} {o : Oper}

theorem FrR.up {μ' : Map} {m' : Mem} {w' : World} (h : FrR μ m.next fr n a) (k : Ok μ m w μ' m' w') : FrR μ' m'.next fr n a :=
  ⟨h.defers, h.size, fun t => (h.get t).up k, fun g hg => by rw [k.mu g (Nat.lt_of_lt_of_le hg h.big)]; exact h.glob g hg, Nat.le_trans h.big k.next⟩

theorem opd_ok {nx : Nat} (hF : FrR μ nx fr n a) {x : Operand} {v : Value} (h : opd fr x = some v) : VR μ nx v (a.eval x) := by
  cases x with
  | tmp t =>
    rw [opd_tmp] at h
    exact hF.get t v h
  | const u =>
    rw [opd_const] at h
    cases hf : flatV u <;> rw [hf] at h <;> simp at h
    subst h
    exact .of_flatV hf
  | global g =>
    rw [opd_global] at h
    cases hf : Nat.blt g 1048576 <;> rw [hf] at h <;> simp at h
    subst h
    have hg : g < 1048576 := by simpa [Nat.blt_eq] using hf
    obtain ⟨e1, e2⟩ := hF.glob g hg
    have := VR.ptr (μ := μ) (nx := nx) (b := g) (o := 0) (Nat.lt_of_lt_of_le hg hF.big)
    rw [e1, e2] at this
    exact this
  | func f =>
    rw [opd_func] at h
    simp at h
    subst h
    exact .func .nil .nil
theorem opds_ok {nx : Nat} (hF : FrR μ nx fr n a) : ∀ {xs : List Operand} {l : List Value}, opds fr xs = some l → VRs μ nx l (xs.map a.eval)
  | [], l, h => by simp [opds] at h; subst h; exact .nil
  | x :: xs, l, h => by
    rw [opds] at h
    cases h1 : opd fr x with
    | none => rw [h1] at h; simp at h
    | some v =>
      rw [h1] at h
      simp only at h
      cases h2 : opds fr xs with
      | none => rw [h2] at h; simp at h
      | some q =>
        rw [h2] at h
        simp at h
        subst h
        exact .cons (opd_ok hF h1) (opds_ok hF h2)

def DidOk (P : Program) (μ : Map) (m : Mem) (w : World) (o : Oper) (a : Act) : Did → Prop
  | .val v m' => ∃ μ' w' v', (execOp a.eval o).run P w = .ok (.value v') w' ∧ Ok μ m w μ' m' w' ∧ VR μ' m'.next v v'
  | .none_ m' => ∃ μ' w', (execOp a.eval o).run P w = .ok .skip w' ∧ Ok μ m w μ' m' w'
  | .call f args m' => ∃ args', (execOp a.eval o).run P w = .ok (.enter f ⟨args'⟩) w ∧ VRs μ m.next args args' ∧ m' = m

/-- an operation that only computes -/
theorem did_val (hR : Rep μ m w) {v v' : Value} (hrun : (execOp a.eval o).run P w = .ok (.value v') w) (hv : VR μ m.next v v') : DidOk P μ m w o a (.val v m) :=
  ⟨μ, w, v', hrun, .refl hR, hv⟩

/-- what it gives hangs on no world -/
def PDid (P : Program) (μ : Map) (nx : Nat) (o : Oper) (a : Act) (v : Value) : Prop := ∃ v', (∀ w : World, (execOp a.eval o).run P w = .ok (.value v') w) ∧ VR μ nx v v'
theorem pdid {nx : Nat} {v v' : Value} (h : ∀ w : World, (execOp a.eval o).run P w = .ok (.value v') w) (hv : VR μ nx v v') : PDid P μ nx o a v := ⟨v', h, hv⟩
theorem PDid.did {v : Value} (h : PDid P μ m.next o a v) (hR : Rep μ m w) : DidOk P μ m w o a (.val v m) := by
  obtain ⟨v', h1, h2⟩ := h
  exact did_val hR (h1 w) h2
theorem plain_pure (hF : FrR μ m.next fr n a) (hs : ∀ cs b, o.op ≠ .select cs b) {d : Did} (h : plainOp P fr m o = some d) : ∃ v, d = .val v m ∧ PDid P μ m.next o a v := by
  unfold plainOp at h
  cases h1 : opds fr o.op.operands.toList with
  | none => rw [h1] at h; simp at h
  | some l =>
    rw [h1] at h
    simp only at h
    cases h2 : flat2 l with
    | false => rw [h2] at h; simp at h
    | true =>
      rw [h2] at h
      simp only at h
      cases h3 : pureRun P (execOp (opV fr) o) with
      | none => rw [h3] at h; simp at h
      | some nx =>
        rw [h3] at h
        cases nx with
        | value v =>
          simp only at h
          cases h4 : flatV v with
          | false => rw [h4] at h; simp at h
          | true =>
            rw [h4] at h
            simp only [fVal_eq, Option.some.injEq] at h
            subst h
            have key : ∀ (xs : List Operand) (l : List Value), opds fr xs = some l → flat2 l = true → ∀ x ∈ xs, a.eval x = opV fr x := by
              intro xs
              induction xs with
              | nil => intro l _ _ x hx; simp at hx
              | cons y ys ih =>
                intro l hl hf x hx
                rw [opds] at hl
                cases g1 : opd fr y with
                | none => rw [g1] at hl; simp at hl
                | some u =>
                  rw [g1] at hl
                  simp only at hl
                  cases g2 : opds fr ys with
                  | none => rw [g2] at hl; simp at hl
                  | some q =>
                    rw [g2] at hl
                    simp at hl
                    subst hl
                    rcases List.mem_cons.1 hx with rfl | hx
                    · have := (opd_ok hF g1).sameV (flat2_mem hf u List.mem_cons_self)
                      rw [this]
                      simp [opV, g1, getV]
                    · refine ih q g2 ?_ x hx
                      rw [flat2] at hf
                      split at hf
                      · exact hf
                      · simp at hf
            have e : execOp a.eval o = execOp (opV fr) o := execOp_congr o hs fun x hx => key _ _ h1 h2 x (by simpa using hx)
            exact ⟨v, rfl, pdid (fun w => by rw [e]; exact pureRun_run P _ _ h3 w) (.of_flatV h4)⟩
        | _ => simp at h

theorem plain_ok (hR : Rep μ m w) (hF : FrR μ m.next fr n a) (hs : ∀ cs b, o.op ≠ .select cs b) {d : Did} (h : plainOp P fr m o = some d) : DidOk P μ m w o a d := by
  obtain ⟨v, e, hp⟩ := plain_pure hF hs h
  rw [e]
  exact hp.did hR

theorem info_of {t : TypeId} {z : Nat} (h : szOf P t = some z) : ∃ i, P.info? t = some i ∧ i.size = z := by
  unfold szOf at h
  cases hi : P.info? t with
  | none => rw [hi] at h; simp at h
  | some i => rw [hi] at h; exact ⟨i, rfl, by simpa using h⟩
theorem run_sizeOf {t : TypeId} {z : Nat} (h : szOf P t = some z) : (sizeOf t).run P w = .ok z w := by
  obtain ⟨i, hi, rfl⟩ := info_of h
  simp [sizeOf, typeInfo, hi]
theorem run_zero {t : TypeId} {l : List Value} (h : zeroOf P t = some l) : ∃ v : Value, (zeroValue t).run P w = .ok v w ∧ v.cells.toList = l := by
  unfold zeroOf at h
  cases hi : P.info? t with
  | none => rw [hi] at h; simp at h
  | some i =>
    rw [hi] at h
    simp only at h
    cases hz : i.zero with
    | none => rw [hz] at h; simp at h
    | some v =>
      rw [hz] at h
      simp at h
      exact ⟨v, by simp [zeroValue, typeInfo, hi, hz], h⟩
theorem run_under {t : TypeId} {d : TypeDesc} (h : P.underlying t = some d) : (underlying t).run P w = .ok d w := by
  simp [underlying, h]
theorem run_isAgg {t : TypeId} {d : TypeDesc} (h : P.underlying t = some d) : (isAgg t).run P w = .ok (isAggD d) w := by
  simp only [isAgg, Sem.run_bind, run_under h, Result.andThen_ok]
  cases d <;> rfl

theorem did_move {x : Operand} (ho : o.op = .move x ∨ o.op = .assign x) (hF : FrR μ m.next fr n a) {v : Value} (h : opd fr x = some v) : PDid P μ m.next o a v := by
  refine pdid (v' := a.eval x) (fun w => ?_) (opd_ok hF h)
  rcases ho with ho | ho <;> simp [execOp, ho]
theorem did_pick {c x y : Operand} (ho : o.op = .pick c x y) (hF : FrR μ m.next fr n a) {b : Bool} {u v : Value} (hc : opd fr c = some (.bool b)) (h1 : opd fr x = some u) (h2 : opd fr y = some v) :
    PDid P μ m.next o a (if b then u else v) := by
  have hc' := (opd_ok hF hc).same1 rfl
  refine pdid (v' := if b then a.eval x else a.eval y) (fun w => ?_) (by cases b; exact opd_ok hF h2; exact opd_ok hF h1)
  simp [execOp, ho, hc', asBool]
theorem alloc_run {e : TypeId} {l : List Value} (ho : o.op = .alloc e) (h : zeroOf P e = some l) : (execOp a.eval o).run P w = .ok (.value (.pointer (some ⟨w.heap.size, 0, none⟩))) { w with heap := w.heap.push (.cells ⟨l⟩ e) } := by
  obtain ⟨v, hv, rfl⟩ := run_zero (w := w) h
  simp [execOp, ho, Instr.alloc, hv, newVar, newRow]
theorem did_alloc {e : TypeId} {l : List Value} (ho : o.op = .alloc e) (hR : Rep μ m w) (h : zeroOf P e = some l) (hf : flats l = true) {d : Did}
    (hd : (newBlk m 0 l fun a m => some (.val (.pointer (some a)) m)) = some d) : DidOk P μ m w o a d := by
  obtain ⟨μ', m', hk, hok, hn, hμ⟩ := newBlk_ok (w' := { w with heap := w.heap.push (.cells ⟨l⟩ e) }) (vs := l) (ex := []) (t := e) (lo := 0) (hi := 0) hR hd (.of_flats (flats_mem hf)) (by simp) (.inl rfl) rfl rfl rfl
  simp only [Option.some.injEq] at hk
  subst hk
  refine ⟨μ', _, _, alloc_run ho h, hok, ?_⟩
  have := VR.ptr (μ := μ') (nx := m'.next) (b := m.next) (o := 0) (by omega)
  rw [hμ] at this
  exact this
theorem did_box {e : TypeId} {x : Operand} (ho : o.op = .box e x) (hR : Rep μ m w) (hF : FrR μ m.next fr n a) {v : Value} (h : opd fr x = some v) {d : Did}
    (hd : (newBlk m 0 v.cells.toList fun a m => some (.val (.pointer (some a)) m)) = some d) : DidOk P μ m w o a d := by
  have hv := (opd_ok hF h).cells
  obtain ⟨μ', m', hk, hok, hn, hμ⟩ := newBlk_ok (w' := { w with heap := w.heap.push (.cells (a.eval x).cells e) }) (vs := (a.eval x).cells.toList) (ex := []) (t := e) (lo := 0) (hi := 0) hR hd hv (by simp) (.inl rfl) rfl rfl rfl
  simp only [Option.some.injEq] at hk
  subst hk
  refine ⟨μ', _, _, by simp [execOp, ho, Instr.box, newVar, newRow]; rfl, hok, ?_⟩
  have := VR.ptr (μ := μ') (nx := m'.next) (b := m.next) (o := 0) (by omega)
  rw [hμ] at this
  exact this

theorem ldVar_ok (hR : Rep μ m w) {t : TypeId} {b f : Nat} {v : Value} (h : ldVar P t m ⟨b, f, none⟩ = some v) :
    ∃ v', (loadVar t ⟨(μ b).blk, (μ b).base + f, none⟩).run P w = .ok v' w ∧ VR μ m.next v v' := by
  unfold ldVar at h
  simp only at h
  cases hx : m.heap.get b with
  | none => rw [hx] at h; simp at h
  | some x =>
    rw [hx] at h
    simp only at h
    cases hu : P.underlying t with
    | none => rw [hu] at h; simp at h
    | some d =>
      rw [hu] at h
      simp only at h
      have hagg := run_isAgg (w := w) hu
      cases hd : isAggD d with
      | true =>
        rw [hd] at h hagg
        simp only at h
        cases hz : szOf P t with
        | none => rw [hz] at h; simp at h
        | some z =>
          rw [hz] at h
          simp only at h
          cases ht : takeN z (dropN f x.cells) with
          | none => rw [ht] at h; simp at h
          | some l =>
            rw [ht] at h
            simp at h
            subst h
            have hrd : rdCells m ⟨b, f, none⟩ z = some l := by
              unfold rdCells
              split
              · simp [takeN] at ht; exact ht ▸ rfl
              · simp [hx, ht]
            obtain ⟨l', hv, _, hrun⟩ := rd_ok (P := P) hR hrd
            exact ⟨.agg ⟨l'⟩, by simp [loadVar, hagg, run_sizeOf hz, hrun], .agg hv⟩
      | false =>
        rw [hd] at h hagg
        simp only at h
        rw [nth_eq] at h
        obtain ⟨v', hc, hv⟩ := hR.cells b x hx f v h
        exact ⟨v', by simp [loadVar, hagg, hc], hv⟩
theorem did_load {t : TypeId} {x : Operand} (ho : o.op = .load t x) (hR : Rep μ m w) (hF : FrR μ m.next fr n a) {p : Addr} {v : Value} (h : opd fr x = some (.pointer (some p))) (hl : ldVar P t m p = some v) :
    DidOk P μ m w o a (.val v m) := by
  have hp := opd_ok hF h
  cases hs : p with
  | mk b f s =>
    subst hs
    cases s with
    | some s => simp [ldVar] at hl
    | none =>
      generalize he : a.eval x = u at hp
      cases hp with
      | flat hf => simp [flat1] at hf
      | ptr hb =>
        obtain ⟨v', hrun, hv⟩ := ldVar_ok (w := w) hR hl
        exact did_val hR (by simp [execOp, ho, Instr.loadAt, he, Instr.sureAddr, hrun]) hv
theorem did_store {t : TypeId} {x y : Operand} (ho : o.op = .store t x y) (hR : Rep μ m w) (hF : FrR μ m.next fr n a) {p : Addr} {v : Value} {z : Nat}
    (h : opd fr x = some (.pointer (some p))) (h2 : opd fr y = some v) (hz : szOf P t = some z) (hl : len v.cells.toList 0 = z) {d : Did}
    (hd : (wrCells m p v.cells.toList fun m => some (.none_ m)) = some d) : DidOk P μ m w o a d := by
  have hp := opd_ok hF h
  have hv := (opd_ok hF h2).cells
  rw [len_eq, Nat.add_zero] at hl
  have hl2 := hv.length
  have key : ∀ b f, p = ⟨b, f, none⟩ → DidOk P μ m w o a d := by
    rintro b f rfl
    generalize he : a.eval x = u at hp
    cases hp with
    | flat hf => simp [flat1] at hf
    | ptr hb =>
      obtain ⟨m', w', hk, hok, _, hrun, _⟩ := wr_ok (P := P) hR hd hv
      simp only [Option.some.injEq] at hk
      subst hk
      refine ⟨μ, w', ?_, hok⟩
      have hsz : (a.eval y).cells.size = z := by simp at hl2 hl; omega
      simp [execOp, ho, Instr.storeAt, he, Instr.sureAddr, storeVar, run_sizeOf hz, hsz, hrun]
  cases p with
  | mk b f s =>
    cases s with
    | none => exact key b f rfl
    | some s =>
      generalize he : a.eval x = u at hp
      cases hp with
      | flat hf => simp [flat1] at hf
theorem did_nilCheck {x : Operand} (ho : o.op = .nilCheck x) (hF : FrR μ m.next fr n a) {v : Value} (h : opd fr x = some v)
    (hv : (∃ p, v = .pointer (some p)) ∨ (∃ p n c, v = .slice p n c) ∨ (∃ f p q, v = .func (.func f) p q)) : PDid P μ m.next o a v := by
  have hp := opd_ok hF h
  refine pdid (v' := a.eval x) (fun w => ?_) hp
  generalize he : a.eval x = u at hp
  rcases hv with ⟨p, rfl⟩ | ⟨p, n, c, rfl⟩ | ⟨f, p, q, rfl⟩ <;> cases hp <;> first
    | (simp [execOp, ho, he]; done)
    | (rename_i hf; simp [flat1] at hf; done)

/-! ### structs and slices are built -/
theorem fold_set : ∀ (vs : List Value) (k off : Nat) (cs : Array Value), off + k + vs.length ≤ cs.size →
    (vs.zipIdx k).foldl (fun cs (x : Value × Nat) => cs.setIfInBounds (off + x.2) x.1) cs = ⟨cs.toList.take (off + k) ++ vs ++ cs.toList.drop (off + k + vs.length)⟩
  | [], k, off, cs, _ => by simp
  | v :: vs, k, off, cs, h => by
    simp at h
    rw [List.zipIdx_cons, List.foldl_cons, fold_set vs (k + 1) off _ (by simp; omega)]
    have h0 : off + k < cs.toList.length := by simp; omega
    have e1 : (cs.setIfInBounds (off + k) v).toList = cs.toList.set (off + k) v := by simp
    rw [e1]
    have e2 : (cs.toList.set (off + k) v).take (off + (k + 1)) = cs.toList.take (off + k) ++ [v] := by
      rw [← Nat.add_assoc, List.take_succ_eq_append_getElem (by simp; omega), List.take_set_of_le (Nat.le_refl _)]
      simp
    have e3 : (cs.toList.set (off + k) v).drop (off + (k + 1) + vs.length) = cs.toList.drop (off + k + (v :: vs).length) := by
      rw [List.drop_set_of_lt (by omega)]
      congr 1
      simp
      omega
    rw [e2, e3]
    simp
theorem fill_ok {nx : Nat} (hF : FrR μ nx fr n a) {place : Nat → Option (Nat × Nat)} : ∀ {ps : List (Nat × Operand)} {l : List (Nat × Value)} {cells r cs : List Value},
    parts fr ps = some l → fillV place cells l = some r → VRs μ nx cells cs →
    ∃ r', Instr.fill place ⟨cs⟩ (ps.map fun x => (x.1, a.eval x.2)) = some ⟨r'⟩ ∧ VRs μ nx r r'
  | [], l, cells, r, cs, h, h2, hv => by
    simp [parts] at h
    subst h
    simp [fillV] at h2
    subst h2
    exact ⟨cs, rfl, hv⟩
  | (i, x) :: ps, l, cells, r, cs, h, h2, hv => by
    rw [parts] at h
    cases g1 : opd fr x with
    | none => rw [g1] at h; simp at h
    | some u =>
      rw [g1] at h
      simp only at h
      cases g2 : parts fr ps with
      | none => rw [g2] at h; simp at h
      | some q =>
        rw [g2] at h
        simp at h
        subst h
        rw [fillV] at h2
        cases hp : place i with
        | none => rw [hp] at h2; simp at h2
        | some oz =>
          obtain ⟨off, z⟩ := oz
          rw [hp] at h2
          simp only at h2
          cases hb : Nat.beq (len u.cells.toList 0) z with
          | false => rw [hb] at h2; simp at h2
          | true =>
            rw [hb] at h2
            simp only at h2
            cases hpu : putN off cells u.cells.toList with
            | none => rw [hpu] at h2; simp at h2
            | some c =>
              rw [hpu] at h2
              simp only at h2
              have hz : u.cells.toList.length = z := by rw [len_eq] at hb; simpa using hb
              obtain ⟨hle, rfl⟩ := putN_eq _ _ _ _ hpu
              have hu := (opd_ok hF g1).cells
              have hul := hu.length
              have hvl := hv.length
              have hnew : VRs μ nx (List.take off cells ++ u.cells.toList ++ List.drop (off + u.cells.toList.length) cells) (List.take off cs ++ (a.eval x).cells.toList ++ List.drop (off + (a.eval x).cells.toList.length) cs) := by
                rw [hul]
                exact ((hv.take off).append hu).append (hv.drop _)
              obtain ⟨r', hr, hvr⟩ := fill_ok hF g2 h2 hnew
              refine ⟨r', ?_, hvr⟩
              simp only [List.map_cons, Instr.fill, hp]
              have hsz : (a.eval x).cells.size = z := by simp at hul hz; omega
              rw [if_neg (by simp [hsz]; simp at hle hz hvl; omega)]
              have hf := fold_set (a.eval x).cells.toList 0 off ⟨cs⟩ (by simp; simp at hle hz hvl; omega)
              rw [← Array.foldl_toList, Array.toList_zipIdx]
              simp only [Nat.add_zero] at hf
              rw [hf]
              exact hr
theorem mapM_run {α β : Type} (g : α → Sem β) (h : α → β) : ∀ (l : List α), (∀ x ∈ l, (g x).run P w = .ok (h x) w) → (l.mapM g).run P w = .ok (l.map h) w
  | [], _ => by simp
  | x :: l, hh => by
    simp [List.mapM_cons, hh x List.mem_cons_self, mapM_run g h l fun y hy => hh y (List.mem_cons_of_mem _ hy)]
theorem rep_get (l : List Value) : ∀ (n i : Nat), i < n * l.length → (repN n l)[i]? = l[i % l.length]?
  | 0, i, h => by omega
  | n + 1, i, h => by
    rw [repN, joinV_eq]
    have hz : 0 < l.length := by
      rcases Nat.eq_zero_or_pos l.length with e | e
      · rw [e, Nat.mul_zero] at h; omega
      · exact e
    rw [Nat.succ_mul] at h
    by_cases hi : i < l.length
    · rw [List.getElem?_append_left hi, Nat.mod_eq_of_lt hi]
    · rw [List.getElem?_append_right (by omega), rep_get l n _ (by omega)]
      congr 1
      conv => rhs; rw [show i = i - l.length + l.length from by omega]
      rw [Nat.add_mod_right]
theorem zeros_eq (zero : Array Value) (n z : Nat) (hz : zero.size = z) : ((Array.range (n * z)).map fun i => zero[i % zero.size]!) = ⟨repN n zero.toList⟩ := by
  apply Array.ext'
  apply List.ext_getElem?
  intro i
  simp only [Array.toList_map, Array.toList_range, List.getElem?_map]
  by_cases hi : i < n * z
  · rw [rep_get zero.toList n i (by simpa [hz] using hi)]
    have h0 : 0 < zero.size := by
      rcases Nat.eq_zero_or_pos zero.size with e | e
      · rw [← hz, e, Nat.mul_zero] at hi; omega
      · exact e
    have hm := Nat.mod_lt i h0
    simp [hi, hm]
  · simp [hi]
    rw [repN_length]
    simp [hz]
    omega

theorem did_build {t : TypeId} {ps : Array (Nat × Operand)} (ho : o.op = .build t ps) (hR : Rep μ m w) (hF : FrR μ m.next fr n a) {zero l : List Value} {d : TypeDesc} {q : List (Nat × Value)}
    (hz : zeroOf P t = some zero) (hu : P.underlying t = some d) (hp : parts fr ps.toList = some q) (hfl : flats zero = true)
    (h : (∃ fields : Array Field, d = .struct fields ∧ (fields.all fun f : Field => (szOf P f.type).isSome) = true ∧ fillV (fun i => match fields[i]? with
            | some f => match szOf P f.type with
              | some z => some (f.offset, z)
              | none => none
            | none => none) zero q = some l) ∨ (∃ k e z, d = .array k e ∧ szOf P e = some z ∧ fillV (fun i => some (i * z, z)) zero q = some l)) : DidOk P μ m w o a (.val (.agg ⟨l⟩) m) := by
  obtain ⟨v, hv, hvc⟩ := run_zero (w := w) hz
  have e0 : v.cells = ⟨zero⟩ := by rw [← hvc]
  have hm : (ps.map fun x => (x.1, a.eval x.2)).toList = ps.toList.map fun x => (x.1, a.eval x.2) := by simp
  rcases h with ⟨fields, rfl, hall, hf⟩ | ⟨k, e, z, rfl, hez, hf⟩
  · obtain ⟨r', hr, hvr⟩ := fill_ok hF hp hf (.of_flats (flats_mem hfl))
    have hall' : ∀ f ∈ fields.toList, ∃ z, szOf P f.type = some z := fun f hf => by
      have := (Array.all_eq_true_iff_forall_mem.1 hall) f (by simpa using hf)
      exact Option.isSome_iff_exists.1 this
    have hmap := mapM_run (P := P) (w := w) (fun f : Field => (do pure (f.offset, ← sizeOf f.type) : Sem (Nat × Nat))) (fun f : Field => (f.offset, (szOf P f.type).getD 0)) fields.toList (fun f hf => by
      obtain ⟨z, hz⟩ := hall' f hf
      simp [run_sizeOf hz, hz])
    have hplace : (fun i : Nat => ((fields.toList.map fun f : Field => (f.offset, (szOf P f.type).getD 0)).toArray)[i]?) = (fun i : Nat => match fields[i]? with
            | some f => match szOf P f.type with
              | some z => some (f.offset, z)
              | none => none
            | none => none) := by
      funext i
      simp only [List.getElem?_toArray, List.getElem?_map, Array.getElem?_toList]
      cases hi : fields[i]? with
      | none => rfl
      | some f =>
        obtain ⟨z, hz⟩ := hall' f (by simpa using Array.mem_of_getElem? hi)
        simp [hz]
    rw [← hplace] at hr
    refine did_val hR (v' := .agg ⟨r'⟩) ?_ (.agg hvr)
    simp only [execOp, ho, Instr.build, Sem.run_bind, hv, Result.andThen_ok, run_under hu, Array.mapM_eq_mapM_toList, Sem.run_map, hmap, e0, hm]
    rw [hr]
    simp
  · obtain ⟨r', hr, hvr⟩ := fill_ok hF hp hf (.of_flats (flats_mem hfl))
    refine did_val hR (v' := .agg ⟨r'⟩) ?_ (.agg hvr)
    simp only [execOp, ho, Instr.build, Sem.run_bind, hv, Result.andThen_ok, run_under hu, run_sizeOf hez, e0, hm]
    rw [hr]
    simp
theorem did_buildSlice {t e : TypeId} {k : Nat} {ps : Array (Nat × Operand)} (ho : o.op = .buildSlice t k ps) (hR : Rep μ m w) (hF : FrR μ m.next fr n a) {zero l : List Value} {q : List (Nat × Value)} {z : Nat}
    (hu : P.underlying t = some (.slice e)) (hz : zeroOf P e = some zero) (hs : szOf P e = some z) (hp : parts fr ps.toList = some q) (hfl : flats zero = true) (hzl : zero.length = z) (hk : k * z ≤ 16777216) (hka : k < anyCap)
    (hf : fillV (fun i => some (i * z, z)) (repN k zero) q = some l) {d : Did} (hd : (newBlk m z l fun a m => some (.val (.slice (some a) k k) m)) = some d) : DidOk P μ m w o a d := by
  obtain ⟨v, hv, hvc⟩ := run_zero (w := w) hz
  have hrep : VRs μ m.next (repN k zero) (repN k zero) := .of_flats (by
    intro u hu
    rw [repN_eq] at hu
    obtain ⟨l1, hl1, hu⟩ := List.mem_flatten.1 hu
    obtain ⟨_, e1⟩ := List.mem_replicate.1 hl1
    exact flats_mem hfl u (e1 ▸ hu))
  obtain ⟨r', hr, hvr⟩ := fill_ok hF hp hf hrep
  have hm : (ps.map fun x => (x.1, a.eval x.2)).toList = ps.toList.map fun x => (x.1, a.eval x.2) := by simp
  obtain ⟨μ', m', hk', hok, hn, hμ⟩ := newBlk_ok (w' := { w with heap := w.heap.push (.cells ⟨r'⟩ e) }) (vs := r') (ex := []) (t := e) (lo := 0) (hi := 0) hR hd hvr (by simp) (.inl rfl) rfl rfl rfl
  simp only [Option.some.injEq] at hk'
  subst hk'
  refine ⟨μ', _, .slice (some ⟨w.heap.size, 0, none⟩) k k, ?_, hok, ?_⟩
  · simp only [execOp, ho, Instr.buildSlice, Sem.run_bind, run_under hu, Result.andThen_ok, run_sizeOf hs]
    rw [if_neg (by omega)]
    by_cases h0 : k * z = 0
    · rw [if_pos h0]
      have e1 : repN k zero = [] := List.eq_nil_of_length_eq_zero (by rw [repN_length, hzl, h0])
      have e2 : (Array.map (fun i => (#[] : Array Value)[i % (#[] : Array Value).size]!) (Array.range (k * z))) = ⟨repN k zero⟩ := by rw [h0, e1]; simp
      simp only [Sem.run_bind, Sem.run_pure, Result.andThen_ok, e2, hm, hr]
      simp [newRow]
    · rw [if_neg h0]
      have e2 := zeros_eq v.cells k z (by rw [← hzl, ← hvc]; simp)
      rw [hvc] at e2
      simp only [Sem.run_bind, Sem.run_pure, Result.andThen_ok, hv, e2, hm, hr]
      simp [newRow]
  · have := VR.slice (μ := μ') (nx := m'.next) (b := m.next) (o := 0) (n := k) (c := k) (by omega) ⟨Nat.le_refl _, hka⟩
    rw [hμ] at this
    exact this
end
end Go.Proofs.YtloolljoelngcaaGreat
