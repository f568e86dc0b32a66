/-
  slices.AppendSeq(nil, maps.Values(m)) as a step of a run: of an empty map; of a map with two entries, in two ways. No program in sight.
-/
import Derived.Test.YtloolljoelngcaaGreatCw
set_option linter.unusedVariables false
namespace Go.Proofs.YtloolljoelngcaaGreat
open Go.RowKit
noncomputable section
variable {ro : Nat} {M0 : Map}
def isG : Value → Bool
  | .agg ⟨[.slice _ _ _, .slice _ _ _]⟩ => true
  | _ => false
def SeqNone (P : Program) (gA gV : FuncId) : Prop := ∀ (w : World) (B off r clock : Nat), B < w.heap.size → w.cell? ⟨B, off, none⟩ = some (.map (some r)) → w.heap[r]? = some (.map #[] clock) →
  Calls P gA #[.slice none 0 0, .func (.func gV) #[] #[.pointer (some ⟨B, off, none⟩)]] w fun e w' => e = .returned (.slice none 0 0) ∧ Below w.heap.size w w'
def SeqTwo (P : Program) (gA gV : FuncId) : Prop := ∀ (w : World) (B off r clock : Nat) (k1 k2 : List UInt8) (v1 v2 : Value) (b1 b2 : Nat), B < w.heap.size → w.cell? ⟨B, off, none⟩ = some (.map (some r)) →
  w.heap[r]? = some (.map #[{ key := .string ⟨⟨k1⟩⟩, val := v1, born := b1 }, { key := .string ⟨⟨k2⟩⟩, val := v2, born := b2 }] clock) → isG v1 = true → isG v2 = true → k1 ≠ k2 → b1 < clock → b2 < clock → b1 ≠ b2 → k1.length ≤ 1000 → k2.length ≤ 1000 →
  Calls P gA #[.slice none 0 0, .func (.func gV) #[] #[.pointer (some ⟨B, off, none⟩)]] w fun e w' => ∃ xs, (xs = [v1, v2] ∨ xs = [v2, v1]) ∧
    ∃ g cap cur t, e = .returned (.slice (some ⟨g, 0, none⟩) 2 cap) ∧ w.heap.size ≤ g ∧ w'.heap[g]? = some (.cells cur t (0, 0)) ∧ 2 ≤ cap ∧ cur.size = cap * 2 ∧ cur.toList.take 4 = xs.flatMap (fun v => v.cells.toList) ∧ Below w.heap.size w w'
class SeqOk (P : Program) where
  gA : FuncId
  gV : FuncId
  none_ : SeqNone P gA gV
  two : SeqTwo P gA gV
/-- the map that the iterator walks -/
def seqMap (P : Program) (gA gV : FuncId) (ops : Array Oper) (o : Oper) (fr : Tr Value) (m : Mem) (os : Objs) : Option (List EntE × Nat) := match wantedE ops o fr with
  | some true => match stepOp P fr m o with
    | some (.call f [.slice none 0 0, .func (.func g) ⟨[]⟩ ⟨[.pointer (some ⟨b, off, none⟩)]⟩] _) => match Nat.beq f gA && Nat.beq g gV with
      | true => match m.heap.get b with
        | some x => match x.cells[off]? with
          | some (.chan (some t)) => match getO t os with
            | some (.map es c) => some (es, c)
            | _ => none
          | _ => none
        | none => none
      | false => none
    | _ => none
  | _ => none
theorem seqMap_ok {P : Program} [ExtOk P] {W : World} {μ : Map} {m : Mem} {w : World} {os : Objs} {ops : Array Oper} {o : Oper} {a : Act} {fr : Tr Value} {n : Nat} {gA gV c : Nat} {es : List EntE} (hT : Top W μ m w) (hi : ObjsR ro M0 os W μ m w) (hF : FrR μ m.next fr n a) (h : seqMap P gA gV ops o fr m os = some (es, c)) :
    Region.wanted o (yielded ops a.tmps) = true ∧ ∃ (B off r : Nat) (es' : Array MapEntry), (execOp a.eval o).run P w = .ok (.enter gA #[.slice none 0 0, .func (.func gV) #[] #[.pointer (some ⟨B, off, none⟩)]]) w ∧ B < w.heap.size ∧ w.cell? ⟨B, off, none⟩ = some (.map (some r)) ∧ w.heap[r]? = some (.map es' c) ∧ EntsR μ m.next es es'.toList := by
  unfold seqMap at h
  split at h
  rotate_left
  · cases h
  rename_i hwe
  refine ⟨wanted_eq (ops := ops) hF o true hwe, ?_⟩
  split at h
  rotate_left
  · cases h
  rename_i f g b off m9 hs
  split at h
  rotate_left
  · cases h
  rename_i hfg
  rw [Bool.and_eq_true] at hfg
  obtain rfl : f = gA := Nat.eq_of_beq_eq_true hfg.1
  obtain rfl : g = gV := Nat.eq_of_beq_eq_true hfg.2
  split at h
  rotate_left
  · cases h
  rename_i x hx
  split at h
  rotate_left
  · cases h
  rename_i t hc
  split at h
  rotate_left
  · cases h
  rename_i es0 c0 hg
  simp only [Option.some.injEq, Prod.mk.injEq] at h
  obtain ⟨rfl, rfl⟩ := h
  obtain ⟨hsym, es', hb, hes⟩ := hi.rel _ _ (getO_mem hg)
  obtain ⟨v', hcell, hv⟩ := hT.rep.cells b x hx off _ hc
  obtain rfl := hv.tok_inv
  rw [hsym] at hcell
  obtain ⟨args', hrun, hargs, _⟩ : ∃ args', (execOp a.eval o).run P w = .ok (.enter f ⟨args'⟩) w ∧ VRs μ m.next [.slice none 0 0, .func (.func g) ⟨[]⟩ ⟨[.pointer (some ⟨b, off, none⟩)]⟩] args' ∧ m9 = m := step_ok (P := P) (w := w) (a := a) (n := n) hT.rep hF hs
  refine ⟨(μ b).blk, (μ b).base + off, (μ t).blk, es', ?_, hT.rep.inb b x hx, hcell, hb, hes⟩
  cases hargs with
  | cons h1 h2 => cases h2 with
    | cons h2 h3 =>
      cases h3
      have e1 := h1.same1 rfl
      subst e1
      rw [hrun]
      cases h2 with
      | flat hf => simp [flat1] at hf
      | func q1 q2 =>
        cases q1
        cases q2 with
        | cons q3 q4 =>
          cases q4
          obtain ⟨b', f', e1, _, e2⟩ := q3.ptr_inv
          cases e1
          rw [e2]
def seqPut (fr : Tr Value) (n : Nat) (m : Mem) (os : Objs) (o : Oper) (l : List Value) : Option (Stt × Objs) := match m with
  | ⟨h, nx, low⟩ => h.upd deep nx (some ⟨2, true, l⟩) fun h2 => fNat (nx + 1) fun n' => match Stt.put ⟨fr, n, ⟨h2, n', low⟩⟩ o.dst (.slice (some ⟨nx, 0, none⟩) 2 anyCap) ⟨h2, n', low⟩ some with
    | some s => some (s, os)
    | none => none
/-- a new row of a call's own beside the memory -/
theorem seqPut_ok {W : World} {μ : Map} {m : Mem} {w w' : World} {os os' : Objs} {o : Oper} {a : Act} {fr : Tr Value} {n : Nat} {l l' : List Value} {s : Stt} (hT : Top W μ m w) (hi : ObjsR ro M0 os W μ m w) (hF : FrR μ m.next fr n a) (h : seqPut fr n m os o l = some (s, os'))
    (hB : Below w.heap.size w w') {g cap t : Nat} {cur : Array Value} (hg : w.heap.size ≤ g) (hh : w'.heap[g]? = some (.cells cur t (0, 0))) (hc : 2 ≤ cap) (hsz : cur.size = cap * 2) (hcur : cur.toList.take 4 = l') (hv : VRs μ m.next l l') (hl : l.length = 4) :
    ∃ μ', OGo ro M0 W μ m w os μ' s.mem w' os' ∧ FrR μ' s.mem.next s.fr s.size (a.put o.dst (.slice (some ⟨g, 0, none⟩) 2 cap)) := by
  obtain ⟨hp, nx, low⟩ := m
  simp only [seqPut] at h
  obtain ⟨h2, h3, hget⟩ := Tr.upd_spec _ _ _ _ _ _ h
  rw [fNat_eq] at h3
  clear h
  split at h3
  rotate_left
  · cases h3
  rename_i s1 hput
  simp only [Option.some.injEq, Prod.mk.injEq] at h3
  obtain ⟨rfl, rfl⟩ := h3
  let μ2 : Map := fun b => if b = nx then ⟨g, 0, cap * 2, 2, undef⟩ else μ b
  have hmu2 : ∀ b, b < nx → μ2 b = μ b := fun b hb => if_neg (by omega)
  have hat2 : μ2 nx = ⟨g, 0, cap * 2, 2, undef⟩ := if_pos rfl
  have hst : Wst w w' := ⟨hB.os, hB.tape, hB.output, hB.size, fun k c t f hk => by rw [hB.block k (Array.getElem?_eq_some_iff.1 hk).1]; exact hk⟩
  have hR2 : Rep μ2 ⟨hp, nx + 1, low⟩ w' := hT.rep.wst hst rfl (Nat.le_succ _) hmu2
  have hlt : g < w'.heap.size := (Array.getElem?_eq_some_iff.1 hh).1
  have old : ∀ b x, h2.get b = some x → (b = nx ∧ x = ⟨2, true, l⟩) ∨ (b < nx ∧ hp.get b = some x) := fun b x hx => by
    rw [hget] at hx
    split at hx
    · rename_i hbe
      exact .inl ⟨hbe, (Option.some.inj hx).symm⟩
    · exact .inr ⟨hT.rep.lt b x hx, hx⟩
  have hfree : FreeRow w' g (cap * 2) := ⟨cur, t, 0, 0, hh, by omega, .inl rfl⟩
  have hcellat : ∀ (i : Nat) v, l[i]? = some v → ∃ v', w'.cell? ⟨g, 0 + i, none⟩ = some v' ∧ VR μ2 (nx + 1) v v' := fun i v hiv => by
    obtain ⟨v', q1, q2⟩ := hv.get i v hiv
    refine ⟨v', ?_, q2.mono (Nat.le_succ _) hmu2⟩
    rw [← hcur, List.getElem?_take] at q1
    split at q1
    · rw [Nat.zero_add]
      unfold World.cell?
      simp only [hh]
      simpa using q1
    · cases q1
  have hR3 : Rep μ2 ⟨h2, nx + 1, low⟩ w' := by
    refine ⟨fun b x hx => ?_, fun b x hx i v hv => ?_, fun b x hx ho => ?_, fun b x hx => ?_, fun b x hx => ?_, fun b x hx ho => ?_, fun b x b' x' hx hx' ho hne => ?_⟩ <;> rcases old b x hx with ⟨rfl, rfl⟩ | ⟨hlt1, hx1⟩
    · exact Nat.lt_succ_self _
    · exact Nat.lt_succ_of_lt hlt1
    · rw [hat2]; exact hcellat i v hv
    · exact hR2.cells b x hx1 i v hv
    · rw [hat2]
      show l.length ≤ cap * 2
      omega
    · exact hR2.fits b x hx1 ho
    · rw [hat2]; exact hlt
    · exact hR2.inb b x hx1
    · rw [hat2]
    · exact hR2.es b x hx1
    · rw [hat2]; show FreeRow w' g (0 + cap * 2); rw [Nat.zero_add]; exact hfree
    · exact hR2.there b x hx1 ho
    · rcases old b' x' hx' with ⟨rfl, rfl⟩ | ⟨hb', hx1'⟩
      · exact absurd rfl hne
      · rw [hat2, hmu2 b' hb']
        have := hT.rep.inb b' x' hx1'
        show g ≠ (μ b').blk
        omega
    · rcases old b' x' hx' with ⟨rfl, rfl⟩ | ⟨_, hx1'⟩
      · rw [hat2, hmu2 b hlt1]
        have := hT.rep.inb b x hx1
        show (μ b).blk ≠ g
        omega
      · exact hR2.apart b x b' x' hx1 hx1' ho hne
  have hT3 : Top W μ2 ⟨h2, nx + 1, low⟩ w' := ⟨hR3, hT.below.trans ⟨hB.os, hB.tape, hB.output, hB.size, fun j hj => hB.block j (Nat.lt_of_lt_of_le hj hT.below.size)⟩, fun b x hx ho => by
    rcases old b x hx with ⟨rfl, rfl⟩ | ⟨hlt1, hx1⟩
    · rw [hat2]; exact Nat.le_trans hT.below.size hg
    · rw [hmu2 b hlt1]; exact hT.own b x hx1 ho⟩
  have hO3 : ObjsR ro M0 os W μ2 ⟨h2, nx + 1, low⟩ w' := ⟨fun i o h => Nat.lt_succ_of_lt (hi.lt i o h), fun i o h => (hi.rel i o h).mono (Nat.le_succ _) hmu2 (hi.lt i o h) (hB.block _ (hi.rel i o h).inb), fun i o h hr => by rw [hmu2 i (hi.lt i o h)]; exact hi.new i o h hr, fun i o j p h h' hne => by rw [hmu2 i (hi.lt i o h), hmu2 j (hi.lt j p h')]; exact hi.two i o j p h h' hne, hi.farS (Nat.le_succ _) hmu2⟩
  have hval : VR μ2 (nx + 1) (.slice (some ⟨nx, 0, none⟩) 2 anyCap) (.slice (some ⟨g, 0, none⟩) 2 cap) := by
    have := VR.sliceAny (μ := μ2) (nx := nx + 1) (b := nx) (o := 0) (n := 2) (c := cap) (Nat.lt_succ_self _) hc (by rw [hat2]; simp)
    rw [hat2] at this
    exact this
  obtain ⟨fr3, e3, hF3⟩ := put_ok hput (hF.far (μ' := μ2) (Nat.le_succ _) hmu2) hval
  have e3 := Option.some.inj e3
  subst e3
  exact ⟨μ2, ⟨hT3, hO3, Nat.le_succ _, hmu2⟩, hF3⟩
theorem isG_up {μ : Map} {nx : Nat} {v v' : Value} (h : isG v = true) (hv : VR μ nx v v') : isG v' = true ∧ VRs μ nx v.cells.toList v'.cells.toList ∧ v.cells.toList.length = 2 := by
  have hc := hv.cells
  unfold isG at h
  split at h
  · rename_i a1 a2 a3 b1 b2 b3
    obtain ⟨cs', rfl, hcs⟩ := hv.agg_inv
    refine ⟨?_, hc, rfl⟩
    cases hcs with
    | cons h1 h2 => cases h2 with
      | cons h2 h3 =>
        cases h3
        obtain ⟨p', c', rfl, _⟩ := h1.slice_inv
        obtain ⟨q', d', rfl, _⟩ := h2.slice_inv
        rfl
  · cases h
/-- a call that ends in a known way is a step -/
theorem enter_steps {P : Program} [ExtOk P] {ops : Array Oper} {i : Nat} {o : Oper} {a : Act} {w : World} {f : FuncId} {args : Array Value} {R : Value → World → Prop} (ho : ops[i]? = some o) (hw : Region.wanted o (yielded ops a.tmps) = true) (hrun : (execOp a.eval o).run P w = .ok (.enter f args) w)
    (hcall : Calls P f args w fun e w' => ∃ v, e = .returned v ∧ R v w') (l : List Nat) (b : Frame) (k : List Item) (cs : List Frame) :
    ∃ v w', R v w' ∧ Steps P (lone (b.at a (.inRegion ops (i :: l) :: k)) cs w) (lone (b.at (a.put o.dst v) (.inRegion ops l :: k)) cs w') := by
  have hwp : wpOps P ops (fun e a' w1 => e = .normal ∧ ∃ v, a' = a.put o.dst v ∧ R v w1) [i] a w := by
    simp only [wpOps, ho, hw, if_true]
    refine .inl ?_
    unfold Oper.wp
    rw [hrun]
    refine hcall.mono ?_
    rintro e w' ⟨v, rfl, hR⟩
    exact ⟨by trivial, v, rfl, hR⟩
  obtain ⟨a1, w1, ⟨_, v, rfl, hR⟩, hs⟩ := wp_part (fun e a w hp => hp.1) l [i] a w hwp b k cs
  exact ⟨v, w1, hR, hs⟩
def seq2E (P : Program) [SeqOk P] (ops : Array Oper) (o : Oper) (fr : Tr Value) (n : Nat) (m : Mem) (os : Objs) : Option ((Stt × Objs) × (Stt × Objs)) := match seqMap P (SeqOk.gA P) (SeqOk.gV P) ops o fr m os with
  | some ([e1, e2], c) => match isG e1.val && (isG e2.val && (!(strEq e1.key e2.key) && (Nat.blt e1.born c && (Nat.blt e2.born c && (!(Nat.beq e1.born e2.born) && (lenLe 1000 e1.key && lenLe 1000 e2.key)))))) with
    | true => match seqPut fr n m os o (e1.val.cells.toList ++ e2.val.cells.toList) with
      | some s1 => match seqPut fr n m os o (e2.val.cells.toList ++ e1.val.cells.toList) with
        | some s2 => some (s1, s2)
        | none => none
      | none => none
    | false => none
  | _ => none
def seq0E (P : Program) [SeqOk P] (ops : Array Oper) (o : Oper) (fr : Tr Value) (n : Nat) (m : Mem) (os : Objs) : Option (Stt × Objs) := match seqMap P (SeqOk.gA P) (SeqOk.gV P) ops o fr m os with
  | some ([], _) => match Stt.put ⟨fr, n, m⟩ o.dst (.slice none 0 0) m some with
    | some s => some (s, os)
    | none => none
  | _ => none
theorem seq0E_ok {P : Program} [ExtOk P] [SeqOk P] {W : World} {μ : Map} {m : Mem} {w : World} {os os' : Objs} {ops : Array Oper} {i : Nat} {o : Oper} {a : Act} {fr : Tr Value} {n : Nat} {s : Stt} (hT : Top W μ m w) (hi : ObjsR ro M0 os W μ m w) (hF : FrR μ m.next fr n a) (ho : ops[i]? = some o) (h : seq0E P ops o fr n m os = some (s, os')) (l : List Nat) (b : Frame) (k : List Item) (cs : List Frame) :
    ∃ μ' w' a', OGo ro M0 W μ m w os μ' s.mem w' os' ∧ FrR μ' s.mem.next s.fr s.size a' ∧ Steps P (lone (b.at a (.inRegion ops (i :: l) :: k)) cs w) (lone (b.at a' (.inRegion ops l :: k)) cs w') := by
  unfold seq0E at h
  split at h
  rotate_left
  · cases h
  rename_i c hm
  obtain ⟨hw, B, off, r, es', hrun, hB, hcell, hb, hes⟩ := seqMap_ok hT hi hF hm
  split at h
  rotate_left
  · cases h
  rename_i s1 hput
  simp only [Option.some.injEq, Prod.mk.injEq] at h
  obtain ⟨rfl, rfl⟩ := h
  have he : es' = #[] := by
    obtain ⟨le⟩ := es'
    cases le with
    | nil => rfl
    | cons y l => exact hes.elim
  subst he
  obtain ⟨v, w', ⟨rfl, hBl⟩, hs⟩ := enter_steps (R := fun v w' => v = .slice none 0 0 ∧ Below w.heap.size w w') ho hw hrun ((SeqOk.none_ (P := P) w B off r c hB hcell hb).mono fun e w' ⟨h1, h2⟩ => ⟨_, h1, rfl, h2⟩) l b k cs
  obtain ⟨fr2, e, hF2⟩ := put_ok hput hF (VR.flat (v := .slice none 0 0) rfl)
  have e := Option.some.inj e
  subst e
  exact ⟨μ, w', _, OGo.below hT hi hBl, hF2, hs⟩
theorem seq2E_ok {P : Program} [ExtOk P] [SeqOk P] {W : World} {μ : Map} {m : Mem} {w : World} {os os1 os2 : Objs} {ops : Array Oper} {i : Nat} {o : Oper} {a : Act} {fr : Tr Value} {n : Nat} {s1 s2 : Stt} (hT : Top W μ m w) (hi : ObjsR ro M0 os W μ m w) (hF : FrR μ m.next fr n a) (ho : ops[i]? = some o) (h : seq2E P ops o fr n m os = some ((s1, os1), (s2, os2))) (l : List Nat) (b : Frame) (k : List Item) (cs : List Frame) :
    (∃ μ' w' a', OGo ro M0 W μ m w os μ' s1.mem w' os1 ∧ FrR μ' s1.mem.next s1.fr s1.size a' ∧ Steps P (lone (b.at a (.inRegion ops (i :: l) :: k)) cs w) (lone (b.at a' (.inRegion ops l :: k)) cs w')) ∨
    (∃ μ' w' a', OGo ro M0 W μ m w os μ' s2.mem w' os2 ∧ FrR μ' s2.mem.next s2.fr s2.size a' ∧ Steps P (lone (b.at a (.inRegion ops (i :: l) :: k)) cs w) (lone (b.at a' (.inRegion ops l :: k)) cs w')) := by
  unfold seq2E at h
  split at h
  rotate_left
  · cases h
  rename_i e1 e2 c hm
  obtain ⟨hw, B, off, r, es', hrun, hB, hcell, hb, hes⟩ := seqMap_ok hT hi hF hm
  split at h
  rotate_left
  · cases h
  rename_i hc
  simp only [Bool.and_eq_true, Bool.not_eq_true', Nat.blt_eq] at hc
  obtain ⟨c1, c2, c3, c4, c5, c6, c7, c8⟩ := hc
  split at h
  rotate_left
  · cases h
  rename_i t1 hp1
  split at h
  rotate_left
  · cases h
  rename_i t2 hp2
  simp only [Option.some.injEq, Prod.mk.injEq] at h
  obtain ⟨rfl, rfl⟩ := h
  obtain ⟨y1, y2, rfl, ⟨q1, q2, q3⟩, ⟨r1, r2, r3⟩⟩ : ∃ y1 y2, es' = #[y1, y2] ∧ (y1.key = .string ⟨⟨e1.key⟩⟩ ∧ VR μ m.next e1.val y1.val ∧ y1.born = e1.born) ∧ (y2.key = .string ⟨⟨e2.key⟩⟩ ∧ VR μ m.next e2.val y2.val ∧ y2.born = e2.born) := by
    obtain ⟨le⟩ := es'
    match le, hes with
    | [y1, y2], hes => exact ⟨y1, y2, rfl, hes.1, hes.2.1⟩
  obtain ⟨k1, v1, b1⟩ := y1
  obtain ⟨k2, v2, b2⟩ := y2
  simp only at q1 q2 q3 r1 r2 r3
  subst q1 q3 r1 r3
  obtain ⟨g1, g2, g3⟩ := isG_up c1 q2
  obtain ⟨g4, g5, g6⟩ := isG_up c2 r2
  have hne : e1.key ≠ e2.key := fun e => by rw [strEq_eq, e] at c3; simp at c3
  have hnb : e1.born ≠ e2.born := fun e => by rw [e, Nat.beq_refl] at c6; cases c6
  have hcall := SeqOk.two (P := P) w B off r c e1.key e2.key v1 v2 e1.born e2.born hB hcell hb g1 g4 hne c4 c5 hnb (lenLe_ok c7) (lenLe_ok c8)
  obtain ⟨v, w', ⟨xs, hx, g, cap, cur, t, rfl, h1, h2, h3, h4, h5, h6⟩, hs⟩ := enter_steps (R := fun v w' => ∃ xs, (xs = [v1, v2] ∨ xs = [v2, v1]) ∧ ∃ g cap cur t, v = .slice (some ⟨g, 0, none⟩) 2 cap ∧ w.heap.size ≤ g ∧ w'.heap[g]? = some (.cells cur t (0, 0)) ∧ 2 ≤ cap ∧ cur.size = cap * 2 ∧ cur.toList.take 4 = xs.flatMap (fun v => v.cells.toList) ∧ Below w.heap.size w w') ho hw hrun
    (hcall.mono fun e w' ⟨xs, hx, g, cap, cur, t, he, h⟩ => ⟨_, he, xs, hx, g, cap, cur, t, rfl, h⟩) l b k cs
  rcases hx with rfl | rfl
  · obtain ⟨μ', hgo, hF2⟩ := seqPut_ok (l' := v1.cells.toList ++ v2.cells.toList) hT hi hF hp1 h6 h1 h2 h3 h4 (by rw [h5]; simp) (g2.append g5) (by rw [List.length_append, g3, g6])
    exact .inl ⟨μ', w', _, hgo, hF2, hs⟩
  · obtain ⟨μ', hgo, hF2⟩ := seqPut_ok (l' := v2.cells.toList ++ v1.cells.toList) hT hi hF hp2 h6 h1 h2 h3 h4 (by rw [h5]; simp) (g5.append g2) (by rw [List.length_append, g3, g6])
    exact .inr ⟨μ', w', _, hgo, hF2, hs⟩
def seq2O (P : Program) [SeqOk P] (ps : Option Pos) (n n1 n2 : SnapO) : Bool :=
  match ps with
  | some ((_, .inRegion ops (i :: _) :: _) :: _) => match loadO n fun s => match s with
      | ⟨⟨(fr, q) :: frs, mem⟩, os⟩ => match ops[i]? with
        | some o => match seq2E P ops o fr q mem os with
          | some ((⟨fr1, q1, m1⟩, os1), (⟨fr2, q2, m2⟩, os2)) => match coversO ⟨⟨(fr1, q1) :: frs, m1⟩, os1⟩ n1 && coversO ⟨⟨(fr2, q2) :: frs, m2⟩, os2⟩ n2 with
            | true => some ()
            | false => none
          | none => none
        | none => none
      | _ => none with
    | some _ => true
    | none => false
  | _ => false
theorem seq2O_ok {P : Program} [ExtOk P] [SeqOk P] {W : World} {Q : Exit → Act → World → Prop} {ps : Option Pos} {n n1 n2 : SnapO} (h : seq2O P ps n n1 n2 = true) (g1 : SafeNO ro M0 P W Q (thenNavsO P [.mop] ps) n1) (g2 : SafeNO ro M0 P W Q (thenNavsO P [.mop] ps) n2) : SafeNO ro M0 P W Q ps n := by
  intro ps0 hps s hc
  subst hps
  unfold seq2O at h
  split at h
  rotate_left
  · cases h
  rename_i f ops i l k0 rest hps
  obtain rfl := Option.some.inj hps
  split at h
  rotate_left
  · cases h
  rename_i u hu
  unfold loadO at hu
  obtain ⟨s0, h1, hl⟩ := loadM_spec hu
  dsimp only at h1
  split at h1
  rotate_left
  · cases h1
  rename_i fr q frs mem osX hse
  split at h1
  rotate_left
  · cases h1
  rename_i o ho
  split at h1
  rotate_left
  · cases h1
  rename_i fr1 q1 m1 os1 fr2 q2 m2 os2 htwo
  split at h1
  rotate_left
  · cases h1
  rename_i hcc
  rw [Bool.and_eq_true] at hcc
  refine SafeO.weak hc hl ?_
  obtain rfl : s0 = ⟨(fr, q) :: frs, mem⟩ := by cases hse; rfl
  have hos : n.os = osX := congrArg SttO.os hse
  have hnav : thenNavsO P [.mop] (some ((f, .inRegion ops (i :: l) :: k0) :: rest)) = some ((f, .inRegion ops l :: k0) :: rest) := by simp [thenNavsO, navsO, navO, navM]
  have s1 := g1 _ hnav _ hcc.1
  have s2 := g2 _ hnav _ hcc.2
  rw [← hos] at htwo
  have key : ∀ (b : Frame) (k : List Item) (cs : List Frame) (μ : Map) (w : World) (a : Act), Top W μ mem w → ObjsR ro M0 n.os W μ mem w → FrR μ mem.next fr q a →
      (∃ μ' w' a', OGo ro M0 W μ mem w n.os μ' m1 w' os1 ∧ FrR μ' m1.next fr1 q1 a' ∧ Steps P (lone (b.at a (.inRegion ops (i :: l) :: k)) cs w) (lone (b.at a' (.inRegion ops l :: k)) cs w')) ∨
      (∃ μ' w' a', OGo ro M0 W μ mem w n.os μ' m2 w' os2 ∧ FrR μ' m2.next fr2 q2 a' ∧ Steps P (lone (b.at a (.inRegion ops (i :: l) :: k)) cs w) (lone (b.at a' (.inRegion ops l :: k)) cs w')) := by
    intro b k cs μ w a hT hi hF
    exact seq2E_ok hT hi hF ho htwo l b k cs
  intro b k cs μ w F fs hT hi hFs
  rcases FramesR.inv hFs with ⟨a, rfl, rfl, hF, rfl, rfl⟩ | ⟨a, b', rfl, hF, h3, h4, t⟩
  · rcases key b (k0 ++ k) fs μ w a hT hi hF with ⟨μ', w', a', hok, hF', hs⟩ | ⟨μ', w', a', hok, hF', hs⟩
    · exact (s1 b k fs μ' w' _ _ hok.top hok.obj (.last hF')).of_steps hs
    · exact (s2 b k fs μ' w' _ _ hok.top hok.obj (.last hF')).of_steps hs
  · rcases key b' k0 fs μ w a hT hi hF with ⟨μ', w', a', hok, hF', hs⟩ | ⟨μ', w', a', hok, hF', hs⟩
    · exact (s1 b k cs μ' w' _ _ hok.top hok.obj (.more hF' h3 h4 (t.far hok.next hok.mu))).of_steps hs
    · exact (s2 b k cs μ' w' _ _ hok.top hok.obj (.more hF' h3 h4 (t.far hok.next hok.mu))).of_steps hs
def seq0O (P : Program) [SeqOk P] (ps : Option Pos) (n n1 : SnapO) : Bool :=
  match ps with
  | some ((_, .inRegion ops (i :: _) :: _) :: _) => match loadO n fun s => match s with
      | ⟨⟨(fr, q) :: frs, mem⟩, os⟩ => match ops[i]? with
        | some o => match seq0E P ops o fr q mem os with
          | some (⟨fr1, q1, m1⟩, os1) => match coversO ⟨⟨(fr1, q1) :: frs, m1⟩, os1⟩ n1 with
            | true => some ()
            | false => none
          | none => none
        | none => none
      | _ => none with
    | some _ => true
    | none => false
  | _ => false
theorem seq0O_ok {P : Program} [ExtOk P] [SeqOk P] {W : World} {Q : Exit → Act → World → Prop} {ps : Option Pos} {n n1 : SnapO} (h : seq0O P ps n n1 = true) (g1 : SafeNO ro M0 P W Q (thenNavsO P [.mop] ps) n1) : SafeNO ro M0 P W Q ps n := by
  intro ps0 hps s hc
  subst hps
  unfold seq0O at h
  split at h
  rotate_left
  · cases h
  rename_i f ops i l k0 rest hps
  obtain rfl := Option.some.inj hps
  split at h
  rotate_left
  · cases h
  rename_i u hu
  unfold loadO at hu
  obtain ⟨s0, h1, hl⟩ := loadM_spec hu
  dsimp only at h1
  split at h1
  rotate_left
  · cases h1
  rename_i fr q frs mem osX hse
  split at h1
  rotate_left
  · cases h1
  rename_i o ho
  split at h1
  rotate_left
  · cases h1
  rename_i fr1 q1 m1 os1 htwo
  split at h1
  rotate_left
  · cases h1
  rename_i hcc
  refine SafeO.weak hc hl ?_
  obtain rfl : s0 = ⟨(fr, q) :: frs, mem⟩ := by cases hse; rfl
  have hos : n.os = osX := congrArg SttO.os hse
  have hnav : thenNavsO P [.mop] (some ((f, .inRegion ops (i :: l) :: k0) :: rest)) = some ((f, .inRegion ops l :: k0) :: rest) := by simp [thenNavsO, navsO, navO, navM]
  have s1 := g1 _ hnav _ hcc
  rw [← hos] at htwo
  have key : ∀ (b : Frame) (k : List Item) (cs : List Frame) (μ : Map) (w : World) (a : Act), Top W μ mem w → ObjsR ro M0 n.os W μ mem w → FrR μ mem.next fr q a →
      ∃ μ' w' a', OGo ro M0 W μ mem w n.os μ' m1 w' os1 ∧ FrR μ' m1.next fr1 q1 a' ∧ Steps P (lone (b.at a (.inRegion ops (i :: l) :: k)) cs w) (lone (b.at a' (.inRegion ops l :: k)) cs w') := by
    intro b k cs μ w a hT hi hF
    exact seq0E_ok hT hi hF ho htwo l b k cs
  intro b k cs μ w F fs hT hi hFs
  rcases FramesR.inv hFs with ⟨a, rfl, rfl, hF, rfl, rfl⟩ | ⟨a, b', rfl, hF, h3, h4, t⟩
  · obtain ⟨μ', w', a', hok, hF', hs⟩ := key b (k0 ++ k) fs μ w a hT hi hF
    exact (s1 b k fs μ' w' _ _ hok.top hok.obj (.last hF')).of_steps hs
  · obtain ⟨μ', w', a', hok, hF', hs⟩ := key b' k0 fs μ w a hT hi hF
    exact (s1 b k cs μ' w' _ _ hok.top hok.obj (.more hF' h3 h4 (t.far hok.next hok.mu))).of_steps hs
end
end Go.Proofs.YtloolljoelngcaaGreat
