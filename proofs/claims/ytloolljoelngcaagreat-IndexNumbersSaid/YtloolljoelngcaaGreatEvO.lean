/-
  Stores that have no order with others: every order gives the same.
-/
import Derived.Test.YtloolljoelngcaaGreatEvN
set_option linter.unusedVariables false
namespace Go.Proofs.YtloolljoelngcaaGreat
open Go.RowKit

section
variable {P : Program} {rec : Req → Stt → Option (Out × Stt)} {ops : Array Oper} {MS : List Nat} {st : Nat → DSt} {c : Nat} {X T : Nat → Prop} {μc μ : Map} {wc w : World} {a : Act} {hb : List (Nat × EvBlk)} {F : List Soft}

theorem SI.touch (h : SI P rec ops MS st c X T μc wc μ w a) {w' : World} (hos : w'.os = w.os) (ht : w'.tape = w.tape) (ho : w'.output = w.output) (hsz : w'.heap.size = w.heap.size)
    (hsame : ∀ k, ¬ (X k ∧ k < wc.heap.size) → w'.heap[k]? = w.heap[k]?) : SI P rec ops MS st c X T μc wc μ w' a :=
  { h with
    os := hos.trans h.os
    tape := ht.trans h.tape
    output := ho.trans h.output
    size := by rw [hsz]; exact h.size
    same := fun k hk hX => by rw [hsame k fun hh => hX hh.1]; exact h.same k hk hX
    made := fun e he hT b x hd => by
      obtain ⟨g1, g2, g3, g4, g5, g6, g7, g8, g9⟩ := h.made e he hT b x hd
      have hk := hsame (μ b).blk fun hh => by omega
      refine ⟨g1, g2, g3, g4, by rw [hsz]; exact g5, g6, g7, g8.at hk, fun k u hu => ?_⟩
      · rw [World.cell?_of_block (w := w) hk]
        exact g9 k u hu }

/-- what an operation that makes blocks leaves alone -/
theorem SI.grow_facts (hB : Begin ops MS st c X μc wc) (h : SI P rec ops MS st c X T μc wc μ w a) {i : Nat} {o : Oper} {m : Nat} {vis : Tr EvBlk} {fr : Tr Value} {v v' : Value} {m' : Mem} {μ' : Map} {w' : World} (hci : c ≤ i)
    (hst : ∀ k, c ≤ k → k < i → StayR P rec ops MS k (st k) (st (k + 1))) (hTi : ¬ T i) (hs : GrowR P rec ops MS i (st i) (st (i + 1)) o m vis fr v m') (hcl : ∀ j mj, T j → MS[j]? = some mj → ∀ k, mj.testBit k = true → c ≤ k → T k) (hpre : ∀ k, m.testBit k = true → c ≤ k → T k)
    (hok : Ok μ ⟨vis, nx st i, big⟩ w μ' m' w') :
    (∀ k, k < w.heap.size → w'.heap[k]? = w.heap[k]?) ∧ (∀ j mj b, T j → MS[j]? = some mj → seen (st j).nb (nx st j) mj (st j).ds b = true → b < nx st (j + 1) → μ' b = μ b) := by
  have seg := Seg.upto hB.ok hB.ds i hci hst
  have hstayi : StayR P rec ops MS i (st i) (st (i + 1)) := .inl (.inr ⟨o, m, vis, fr, v, m', hs⟩)
  have hni : nx st (i + 1) = m'.next := by unfold nx; rw [hs.mem]
  have hlow : nx st i ≤ m'.low := hs.low
  have hvlt : ∀ b x, vis.get b = some x → b < nx st i := fun b x hx => by
    have h1 := hok.rep
    rcases Nat.lt_or_ge b (nx st i) with hlt | hge
    · exact hlt
    · -- what is seen has a name below
      have := hs.adds.1 b x hx
      rcases this with hx | ⟨e, he, hbit, hd⟩
      · rw [seg.heap] at hx
        exact Nat.lt_of_lt_of_le (hB.rep.lt b x hx) seg.next
      · obtain ⟨g1, g2, g3⟩ := seg.ds e he
        have hTe : T e.i := hpre e.i hbit g1
        obtain ⟨_, _, g, _⟩ := h.made e g3 hTe b x hd
        rw [g3.hi] at g
        exact Nat.lt_of_lt_of_le g (next_mono i (e.i + 1) (by omega) g2 hst)
  have same2 : ∀ k, k < w.heap.size → w'.heap[k]? = w.heap[k]? := fun k hk => hok.frame k hk fun b x hx _ hl => by
    have := hvlt b x hx
    omega
  have muold : ∀ b, ¬(nx st i ≤ b ∧ b < nx st (i + 1)) → μ' b = μ b := fun b hb => by
    rw [hni] at hb
    rcases Nat.lt_or_ge b (nx st i) with hlt | hge
    · exact hok.mu b hlt
    · exact hok.mu2 b (by omega)
  have ranges : ∀ j b, T j → nx st j ≤ b → b < nx st (j + 1) → ¬(nx st i ≤ b ∧ b < nx st (i + 1)) := fun j b hT h1 h2 => by
    have hne : i ≠ j := fun e => hTi (e ▸ hT)
    refine apart_ranges (P := P) (rec := rec) (ops := ops) (MS := MS) (c := c) (n := max i j + 1) (fun k g1 g2 => ?_) hci (h.ge j hT) (by omega) (by omega) hne h1 h2
    by_cases hkj : k ≤ j
    · exact h.stay j hT k g1 hkj
    · by_cases hki : k = i
      · subst hki; exact hstayi
      · exact hst k g1 (by omega)
  have belowC : ∀ b, b < nx st c → ¬(nx st i ≤ b ∧ b < nx st (i + 1)) := fun b hb => by have := seg.next; omega
  -- what an operation of the stretch may have seen has not turned
  have seenOk : ∀ j mj b, T j → MS[j]? = some mj → seen (st j).nb (nx st j) mj (st j).ds b = true → b < nx st (j + 1) → μ' b = μ b := fun j mj b hT hmj hse hb => by
    have segj := Seg.upto hB.ok hB.ds j (h.ge j hT) fun k g1 g2 => h.stay j hT k g1 (by omega)
    refine muold b ?_
    rcases seen_spec hse with hlt' | hge | ⟨e, he, hbit, h1, h2⟩
    · rw [segj.nb, hB.nb] at hlt'
      exact belowC b hlt'
    · exact ranges j b hT hge hb
    · obtain ⟨g1, g2, g3⟩ := segj.ds e he
      rw [g3.lo] at h1
      rw [g3.hi] at h2
      exact ranges e.i b (hcl j mj hT hmj e.i hbit g1) h1 h2
  exact ⟨same2, seenOk⟩

/-- what is hidden: as it was, but for the stores that have come up -/
structure HI (st : Nat → DSt) (hb : List (Nat × EvBlk)) (F : List Soft) (T : Nat → Prop) (μc : Map) (wc : World) (μ : Map) (w : World) : Prop where
  there : ∀ b x, (b, x) ∈ hb → FreeRow w (μc b).blk ((μc b).base + (μc b).room)
  old : ∀ b x, (b, x) ∈ hb → ∀ (i : Nat) v, x.cells[i]? = some v → (∀ e ∈ F, T e.i → e.b = b → ¬(e.o ≤ i ∧ i < e.o + e.vs.length)) → w.cell? ⟨(μc b).blk, (μc b).base + i, none⟩ = wc.cell? ⟨(μc b).blk, (μc b).base + i, none⟩
  new : ∀ e ∈ F, T e.i → ∀ (j : Nat) v, e.vs[j]? = some v → ∃ v', w.cell? ⟨(μc e.b).blk, (μc e.b).base + e.o + j, none⟩ = some v' ∧ VR μ (nx st (e.i + 1)) v v'

theorem HI.up (h : HI st hb F T μc wc μ w) (hin : ∀ b x, (b, x) ∈ hb → (μc b).blk < w.heap.size) (hF : ∀ e ∈ F, ∃ x, (e.b, x) ∈ hb) {i : Nat} (hi : ∀ e ∈ F, e.i ≠ i) {μ' : Map} {w' : World}
    (hsame : ∀ k, k < w.heap.size → w'.heap[k]? = w.heap[k]?) (hmu : ∀ e ∈ F, T e.i → ∀ v v', v ∈ e.vs → VR μ (nx st (e.i + 1)) v v' → VR μ' (nx st (e.i + 1)) v v') : HI st hb F (fun j => T j ∨ j = i) μc wc μ' w' := by
  constructor
  case there =>
    intro b x hx
    exact (h.there b x hx).at (hsame _ (hin b x hx))
  case old =>
    intro b x hx k v hv hno
    rw [World.cell?_of_block (w := w) (hsame _ (hin b x hx))]
    exact h.old b x hx k v hv fun e he hT => hno e he (.inl hT)
  case new =>
    rintro e he (hT | hT) j v hv
    · obtain ⟨x, hx⟩ := hF e he
      obtain ⟨v', g1, g2⟩ := h.new e he hT j v hv
      exact ⟨v', by rw [World.cell?_of_block (w := w) (hsame _ (hin e.b x hx))]; exact g1, hmu e he hT v v' (List.mem_of_getElem? hv) g2⟩
    · exact absurd hT (hi e he)

theorem HI.store (h : HI st hb F T μc wc μ w) (hgood : Good F) (hap : ∀ b x b' x', (b, x) ∈ hb → (b', x') ∈ hb → b ≠ b' → (μc b).blk ≠ (μc b').blk) (hF : ∀ e ∈ F, ∃ x, (e.b, x) ∈ hb ∧ e.o + e.vs.length ≤ (μc e.b).room)
    {e : Soft} (he : e ∈ F) (hT : ¬ T e.i) {vs' : List Value} (hv : VRs μ (nx st (e.i + 1)) e.vs vs') : HI st hb F (fun j => T j ∨ j = e.i) μc wc μ (w.setCells (μc e.b).blk ((μc e.b).base + e.o) vs') := by
  obtain ⟨x0, hx0, hroom⟩ := hF e he
  have hll := hv.length
  have hin : ∀ j, j < vs'.length → (w.cell? ⟨(μc e.b).blk, (μc e.b).base + e.o + j, none⟩).isSome = true := fun j hj => by rw [Nat.add_assoc]; exact (h.there e.b x0 hx0).cell (by omega)
  -- another place
  have other : ∀ b x k, (b, x) ∈ hb → (b = e.b → k < e.o ∨ e.o + e.vs.length ≤ k) → (w.setCells (μc e.b).blk ((μc e.b).base + e.o) vs').cell? ⟨(μc b).blk, (μc b).base + k, none⟩ = w.cell? ⟨(μc b).blk, (μc b).base + k, none⟩ := fun b x k hx hk => by
    refine World.cell?_setCells_out _ _ _ _ _ fun e1 _ => ?_
    by_cases hbe : b = e.b
    · subst hbe
      simp only
      rcases hk rfl with hk | hk
      · left; omega
      · right; omega
    · exact absurd e1 (hap b x e.b x0 hx hx0 hbe)
  constructor
  case there =>
    intro b x hx
    exact (h.there b x hx).setCells _ _ _
  case old =>
    intro b x hx k v hk hno
    rw [other b x k hx fun hbe => by
      have := hno e he (.inr rfl) hbe.symm
      omega]
    exact h.old b x hx k v hk fun f hf hTf => hno f hf (.inl hTf)
  case new =>
    intro f hf hTf j v hj
    have hjl : j < f.vs.length := (List.getElem?_eq_some_iff.1 hj).1
    by_cases hfe : f = e
    · subst hfe
      obtain ⟨v', g1, g2⟩ := hv.get j v hj
      have hjl' : j < vs'.length := by omega
      have := World.cell?_setCells_in (μc f.b).blk vs' ((μc f.b).base + f.o) w hin j hjl'
      rw [List.getElem?_eq_getElem hjl'] at g1
      exact ⟨v', by rw [this]; exact g1, g2⟩
    · rcases hgood f hf e he with h1 | ⟨h1, h2⟩
      · exact absurd h1 hfe
      · have hTf' : T f.i := by
          rcases hTf with hTf | hTf
          · exact hTf
          · exact absurd hTf h1
        obtain ⟨v', g1, g2⟩ := h.new f hf hTf' j v hj
        obtain ⟨x, hx, _⟩ := hF f hf
        refine ⟨v', ?_, g2⟩
        rw [Nat.add_assoc, other f.b x (f.o + j) hx fun hbe => by
          rcases h2 with h2 | h2 | h2
          · exact absurd hbe h2
          · left; omega
          · right; omega, ← Nat.add_assoc]
        exact g1

theorem soft_run {nx n : Nat} {fr : Tr Value} {o : Oper} (hF : FrR μ nx fr n a) {b f : Nat} {vs : List Value} (h : softOp P fr o = some (b, f, vs))
    (hroom : ∀ j, j < vs.length → (w.cell? ⟨(μ b).blk, (μ b).base + f + j, none⟩).isSome = true ∧ w.frozen? ⟨(μ b).blk, (μ b).base + f + j, none⟩ = false) :
    ∃ vs', VRs μ nx vs vs' ∧ (execOp a.eval o).run P w = .ok .skip (w.setCells (μ b).blk ((μ b).base + f) vs') := by
  unfold softOp at h
  split at h
  · rename_i t x y ho
    split at h
    · rename_i b' f' v z h1 h2 hz
      split at h
      · rename_i hc
        rw [Bool.and_eq_true, Nat.beq_eq, len_eq, Nat.add_zero] at hc
        simp only [Option.some.injEq, Prod.mk.injEq] at h
        obtain ⟨rfl, rfl, rfl⟩ := h
        have hp := opd_ok hF h1
        have hv := (opd_ok hF h2).cells
        have hl2 := hv.length
        generalize he : a.eval x = u at hp
        cases hp with
        | flat hf => simp [flat1] at hf
        | ptr hb =>
          have hst := run_storeCells_cells (P := P) (μ b').blk ((μ b').base + f') (a.eval y).cells.toList 0 w
            (fun j hj => by rw [Nat.add_zero]; exact (hroom j (by omega)).1)
            (fun j hj => by rw [Nat.add_zero]; exact (hroom j (by omega)).2)
            (fun v hv' => by rw [← oneC_eq]; exact hv.oneC (oneCells_mem hc.2) v hv')
          rw [Nat.add_zero] at hst
          refine ⟨_, hv, ?_⟩
          have hsz : (a.eval y).cells.size = z := by simp at hl2 hc; omega
          simp [execOp, ho, Instr.storeAt, he, Instr.sureAddr, storeVar, run_sizeOf hz, hsz, hst]
      · simp at h
    · simp at h
  · simp at h

theorem any_soft [ExtOk P] (hS : Snd P rec) {Q : Exit → Act → World → Prop} (hX : X = fun k => ∃ b x, (b, x) ∈ hb ∧ (μc b).blk = k) (hcN : c ≤ ops.size) (hB : Begin ops MS st c X μc wc)
    (hhb : ∀ b x, (b, x) ∈ hb → (μc b).blk < wc.heap.size ∧ b < nx st c ∧ x.cells.length ≤ (μc b).room)
    (hap : ∀ b x b' x', (b, x) ∈ hb → (b', x') ∈ hb → b ≠ b' → (μc b).blk ≠ (μc b').blk) (hgood : Good F)
    (hF : ∀ e ∈ F, c ≤ e.i ∧ e.i < ops.size ∧ ∃ o m fr, SoftE P ops MS hb (st e.i) (st (e.i + 1)) o e m fr)
    (hsteps : ∀ k, c ≤ k → k < ops.size → Stay0R P rec ops MS k (st k) (st (k + 1)) ∨ ∃ o e m fr, e.i = k ∧ e ∈ F ∧ SoftE P ops MS hb (st k) (st (k + 1)) o e m fr)
    (hend : ∀ (T : Nat → Prop) (μ : Map) (w : World) (a : Act), (∀ j, c ≤ j → j < ops.size → T j) → (∀ j, T j → j < ops.size) → SI P rec ops MS st c X T μc wc μ w a → HI st hb F T μc wc μ w → Q .normal a w) :
    ∀ (fuel : Nat) (listed : Array Bool) (μ : Map) (w : World) (a : Act), listed.size = ops.size → (∀ j, j < c → listed.getD j false = true) →
      (∀ (j : Nat) o, listed.getD j false = true → ops[j]? = some o → ∀ e ∈ o.after, Region.binds .any e = true → listed.getD e.on false = true) →
      SI P rec ops MS st c X (fun j => c ≤ j ∧ listed.getD j false = true) μc wc μ w a → HI st hb F (fun j => c ≤ j ∧ listed.getD j false = true) μc wc μ w → unl listed ≤ fuel →
      wpAny P .any ops Q fuel listed a w := by
  have hFx : ∀ e ∈ F, ∃ x, (e.b, x) ∈ hb ∧ e.o + e.vs.length ≤ (μc e.b).room := fun e he => by
    obtain ⟨_, _, o, m, fr, hE⟩ := hF e he
    obtain ⟨x, h1, h2⟩ := inHid_spec hE.hid
    exact ⟨x, h1, Nat.le_trans h2 (hhb _ _ h1).2.2⟩
  intro fuel
  induction fuel with
  | zero =>
    intro listed μ w a hsz hA hcl h hh hu
    have hall : ∀ j, j < ops.size → listed.getD j false = true := fun j hj => unl_zero (by omega) (by omega)
    refine ⟨?_, hend _ μ w a (fun j h1 hj => ⟨h1, hall j hj⟩) (fun j hj => by have := getD_lt hj.2; omega) h hh⟩
    cases hr : Region.ready .any ops listed with
    | nil => rfl
    | cons i l =>
      have hi : i ∈ Region.ready .any ops listed := by rw [hr]; exact List.mem_cons_self
      obtain ⟨h1, o, h2, _⟩ := mem_ready.1 hi
      have hlt : i < ops.size := (Array.getElem?_eq_some_iff.1 h2).1
      rw [getD_tf (by omega) true false, hall i hlt] at h1
      cases h1
  | succ fuel ih =>
    intro listed μ w a hsz hA hcl h hh hu
    refine ⟨fun hr => ?_, fun i hi => ?_⟩
    · by_cases hall : ∀ j, j < ops.size → listed.getD j false = true
      · exact hend _ μ w a (fun j h1 hj => ⟨h1, hall j hj⟩) (fun j hj => by have := getD_lt hj.2; omega) h hh
      · exfalso
        have : ∃ j, j < ops.size ∧ listed.getD j false ≠ true := by
          by_cases hx : ∃ j, j < ops.size ∧ listed.getD j false ≠ true
          · exact hx
          · exact absurd (fun j hj => by
              by_cases hy : listed.getD j false = true
              · exact hy
              · exact absurd ⟨j, hj, hy⟩ hx) hall
        obtain ⟨j, hj⟩ := this
        obtain ⟨k, ⟨hk1, hk2⟩, _, hk3⟩ := least (p := fun j => j < ops.size ∧ listed.getD j false ≠ true) j hj
        have hmem : k ∈ Region.ready .any ops listed := by
          refine mem_ready.2 ⟨?_, ops[k], Array.getElem?_eq_getElem hk1, fun e he hb => ?_⟩
          · rw [getD_tf (by omega) true false]
            simpa using hk2
          · have hlt : e.on < k := by
              have := (allOk_spec hB.ok k ops[k] (by simp)).1
              rw [Nat.zero_add] at this
              exact edgesOk_mem this e (by simpa using he) hb
            by_cases hy : listed.getD e.on false = true
            · exact hy
            · exact absurd ⟨by omega, hy⟩ (hk3 e.on hlt)
        rw [hr] at hmem
        cases hmem
    · obtain ⟨hun, o, ho, hedges⟩ := mem_ready.1 hi
      have hiN : i < ops.size := (Array.getElem?_eq_some_iff.1 ho).1
      have hun' : listed.getD i false = false := by rw [getD_tf (by omega) false true]; exact hun
      have hci : c ≤ i := by
        rcases Nat.lt_or_ge i c with hlt | hge
        · rw [hA i hlt] at hun'; cases hun'
        · exact hge
      have hMSj : ∀ (j : Nat) oj, ops[j]? = some oj → ∃ m, MS[j]? = some m := fun j oj hoj => ⟨_, by rw [hB.ms]; exact pres_get ops hoj⟩
      -- what is ahead of what has come up, or comes up now, has come up
      have closed : ∀ (j : Nat) oj m, ops[j]? = some oj → MS[j]? = some m → (j = i ∨ listed.getD j false = true) → ∀ k, m.testBit k = true → listed.getD k false = true := by
        intro j oj m hoj hm hj k hk
        rw [hB.ms] at hm
        refine (pre_closed hB.ok (S := fun k => listed.getD k false = true) hcl j oj m hoj hm ?_ k hk).1
        rcases hj with rfl | hj
        · rw [ho] at hoj
          obtain rfl := Option.some.inj hoj
          exact hedges
        · exact hcl j oj hj hoj
      have hTi : ¬ (c ≤ i ∧ listed.getD i false = true) := fun hh => by rw [hun'] at hh; exact absurd hh.2 (by simp)
      have hst : ∀ k, c ≤ k → k < i → StayR P rec ops MS k (st k) (st (k + 1)) := by
        intro k h1 h2
        rcases hsteps k h1 (by omega) with hk | ⟨o', e, m', fr, rfl, he, hk⟩
        · exact .inl hk
        · exact .inr ⟨o', hk.toSoftR⟩
      have hpre : ∀ m, MS[i]? = some m → ∀ j, m.testBit j = true → c ≤ j → (c ≤ j ∧ listed.getD j false = true) := fun m hm j hj h1 => ⟨h1, closed i o m ho hm (.inl rfl) j hj⟩
      have hclT : ∀ j mj, (c ≤ j ∧ listed.getD j false = true) → MS[j]? = some mj → ∀ k, mj.testBit k = true → c ≤ k → (c ≤ k ∧ listed.getD k false = true) := fun j mj hj hmj k hk h1 => by
        have hlt := getD_lt hj.2
        exact ⟨h1, closed j ops[j] mj (Array.getElem?_eq_getElem (by omega)) hmj (.inr hj.2) k hk⟩
      have hnoi : ∀ j m, (c ≤ j ∧ listed.getD j false = true) → MS[j]? = some m → m.testBit i = true → False := fun j m hj hm hb => by
        have hlt := getD_lt hj.2
        have := closed j ops[j] m (Array.getElem?_eq_getElem (by omega)) hm (.inr hj.2) i hb
        rw [hun'] at this
        cases this
      have hslot : ∀ t, t ∈ o.looksAt ops → SlotR μ (nx st i) ((st i).s.fr.get t) (a.tmps.getD t undef) := fun t ht => h.slot hB ho hci hst hTi hpre hnoi ht
      have hsel := (allOk_spec hB.ok i o (by simpa using ho)).2.2
      have hw : (∀ b, wantedE ops o (st i).s.fr = some b → Region.wanted o (yielded ops a.tmps) = b) := wanted_eq' o fun j want d hg hd => hslot d (List.mem_append_right _ (by rw [hg]; simp [hd]))
      have hglob : ∀ g, g < 1048576 → (μ g).blk = g ∧ (μ g).base = 0 := fun g hg => by
        rw [h.below (Nat.lt_of_lt_of_le hg hB.big)]
        exact hB.glob g hg
      have seg := Seg.upto hB.ok hB.ds i hci hst
      have hbig : 1048576 ≤ nx st i := Nat.le_trans hB.big seg.next
      -- the list behind it
      have hset : ∀ j, (listed.setIfInBounds i true).getD j false = true ↔ (listed.getD j false = true ∨ j = i) := fun j => by
        by_cases hji : j = i
        · subst hji
          simp [Array.getD_eq_getD_getElem?, show j < listed.size from by omega]
        · simp [Array.getD_eq_getD_getElem?, Array.getElem?_setIfInBounds_ne (Ne.symm hji), hji]
      have hcl' : ∀ (j : Nat) oj, (listed.setIfInBounds i true).getD j false = true → ops[j]? = some oj → ∀ e ∈ oj.after, Region.binds .any e = true → (listed.setIfInBounds i true).getD e.on false = true := fun j oj hj hoj e he hb => by
        refine (hset _).2 (.inl ?_)
        rcases (hset j).1 hj with hj | rfl
        · exact hcl j oj hj hoj e he hb
        · rw [ho] at hoj
          obtain rfl := Option.some.inj hoj
          exact hedges e he hb
      have hA' : ∀ j, j < c → (listed.setIfInBounds i true).getD j false = true := fun j hj => (hset j).2 (.inl (hA j hj))
      have hu' : unl (listed.setIfInBounds i true) ≤ fuel := by have := unl_set hun; omega
      have hT' : (fun j => (c ≤ j ∧ listed.getD j false = true) ∨ j = i) = fun j => c ≤ j ∧ (listed.setIfInBounds i true).getD j false = true := by
        funext j
        apply propext
        rw [hset]
        constructor
        · rintro (⟨h1, h2⟩ | rfl)
          · exact ⟨h1, .inl h2⟩
          · exact ⟨hci, .inr rfl⟩
        · rintro ⟨h1, h2 | h2⟩
          · exact .inl ⟨h1, h2⟩
          · exact .inr h2
      have frame : ∀ fr, OnlyR (st i).s.fr o.op.operands.toList fr → FrR μ (nx st i) fr a.tmps.size (restr a o.op.operands.toList) := fun fr hon => restr_fr (fun t ht => hslot t (looks_op ht)) hon hglob hbig
      unfold wpOp
      simp only [ho]
      have notF : Stay0R P rec ops MS i (st i) (st (i + 1)) → True := fun _ => trivial
      have hinb : ∀ b x, (b, x) ∈ hb → (μc b).blk < w.heap.size := fun b x hx => Nat.lt_of_lt_of_le (hhb b x hx).1 h.size
      have hFx' : ∀ e ∈ F, ∃ x, (e.b, x) ∈ hb := fun e he => by obtain ⟨x, hx, _⟩ := hFx e he; exact ⟨x, hx⟩
      by_cases hsoft : ∃ e ∈ F, e.i = i
      · obtain ⟨e, he, rfl⟩ := hsoft
        obtain ⟨_, _, o2, m, fr, hE⟩ := hF e he
        have e1 := hE.op
        rw [ho] at e1
        obtain rfl := Option.some.inj e1
        rw [hw _ hE.wanted]
        simp only [if_true]
        obtain ⟨x, hx, hroom⟩ := hFx e he
        have hmub : μ e.b = μc e.b := h.below (hhb _ _ hx).2.1
        obtain ⟨vs', hv, hrun⟩ := soft_run (P := P) (w := w) (frame fr hE.only) hE.run fun j hj => by
          rw [hmub, Nat.add_assoc]
          exact ⟨(hh.there e.b x hx).cell (by omega), (hh.there e.b x hx).froz (by omega)⟩
        rw [← restr_exec hsel, hmub] at hrun
        have hnx : nx st (e.i + 1) = nx st e.i := by unfold nx; rw [hE.same]
        have hh' := hh.store hgood hap hFx he hTi (hnx ▸ hv)
        have ht := h.touch (w' := w.setCells (μc e.b).blk ((μc e.b).base + e.o) vs') (setCells_os _ _ _ _).1 (setCells_os _ _ _ _).2.1 (setCells_os _ _ _ _).2.2 (setCells_size _ _ _ _) fun k hk => setCells_heap _ _ _ _ _ fun e2 => hk (by
          subst e2
          rw [hX]
          exact ⟨⟨e.b, x, hx, rfl⟩, (hhb _ _ hx).1⟩)
        have := ht.skip hB hci hst hTi hE.op (.inl ⟨hE.dst, by rw [hE.same]⟩) (by rw [hE.same]) (.inr ⟨o, hE.toSoftR⟩)
        rw [hT'] at this hh'
        refine .inl ?_
        unfold Oper.wp
        rw [hrun]
        exact ih _ μ _ _ (by simpa using hsz) hA' hcl' this hh' hu'
      · have hni : ∀ e ∈ F, e.i ≠ i := fun e he hei => hsoft ⟨e, he, hei⟩
        rcases hsteps i hci hiN with (⟨o2, hs⟩ | ⟨o2, m, vis, fr, v, m', hs⟩) | ⟨o2, e, m, fr, hei, he, _⟩
        · have e := hs.op
          rw [ho] at e
          obtain rfl := Option.some.inj e
          rw [hw _ hs.wanted]
          simp only [Bool.false_eq_true, if_false]
          have := h.skip hB hci hst hTi hs.op hs.put hs.ds (.inl (.inl ⟨o, hs⟩))
          have hh' := hh.up hinb hFx' hni (fun _ _ => rfl) fun e he hT v v' _ hv => hv
          rw [hT'] at this hh'
          exact ih _ μ w _ (by simpa using hsz) hA' hcl' this hh' hu'
        · have e := hs.op
          rw [ho] at e
          obtain rfl := Option.some.inj e
          rw [hw _ hs.wanted]
          simp only [if_true]
          have hrep := h.rep hB hci hst hs.adds (hpre m hs.ms) big
          refine .inl (do_run hS hs.run hrep (frame fr hs.only) a _ _ (restr_exec hsel) ?_)
          rintro v' w' ⟨μ', hok', hv⟩
          have := h.grow hB hci hst hTi hs hclT (hpre m hs.ms) hok' hv
          obtain ⟨f1, f2⟩ := h.grow_facts (v' := v') hB hci hst hTi hs hclT (hpre m hs.ms) hok'
          have hh' := hh.up hinb hFx' hni f1 fun e he hT v v' hvm hv => by
            obtain ⟨_, _, o3, m3, fr3, hE⟩ := hF e he
            exact VR.ids (fun b' hf hb' => f2 e.i m3 b' hT hE.ms hf hb') 9 hv (idsL_mem hE.ids v hvm)
          rw [hT'] at this hh'
          exact ih _ μ' w' _ (by simpa using hsz) hA' hcl' this hh' hu'
        · exact absurd hei (hni e he)
end
end Go.Proofs.YtloolljoelngcaaGreat
