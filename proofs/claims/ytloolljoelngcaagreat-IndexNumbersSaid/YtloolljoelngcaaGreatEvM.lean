/-
  The evaluator is right: what it computes, the model computes, on every tape.
-/
import Derived.Test.YtloolljoelngcaaGreatEvL
set_option linter.unusedVariables false
namespace Go.Proofs.YtloolljoelngcaaGreat
open Go.RowKit

theorem Ok.relow {μ μ' : Map} {h : Tr EvBlk} {n low : Nat} {w w' : World} {m' : Mem} (hok : Ok μ ⟨h, n, big⟩ w μ' m' w') : Ok μ ⟨h, n, low⟩ w μ' ⟨m'.heap, m'.next, Nat.min low m'.low⟩ w' := by
  have hrep := hok.rep
  have hm1 : Nat.min low m'.low ≤ low := Nat.min_le_left _ _
  have hm2 : Nat.min low m'.low ≤ m'.low := Nat.min_le_right _ _
  constructor
  case rep => exact ⟨hrep.lt, hrep.cells, hrep.fits, hrep.inb, hrep.es, hrep.there, hrep.apart⟩
  case next => exact hok.next
  case mu => exact hok.mu
  case mu2 => exact hok.mu2
  case low => exact hm1
  case keep => intro b hb hn; exact hok.keep b (Nat.lt_of_lt_of_le hb hm2) hn
  case old => exact hok.old
  case new =>
    intro b x' hx hb
    obtain ⟨h1, h2⟩ := hok.new b x' hx hb
    refine ⟨h1, ?_⟩
    rcases h2 with h2 | ⟨b0, x0, g1, g2, g3, g4⟩
    · exact .inl h2
    · exact .inr ⟨b0, x0, g1, g2, Nat.le_trans hm2 g3, g4⟩
  case os => exact hok.os
  case tape => exact hok.tape
  case output => exact hok.output
  case size => exact hok.size
  case frame => intro j hj hno; exact hok.frame j hj fun b x hx ho hl => hno b x hx ho (Nat.le_trans hm2 hl)

def tmpsOf (l : List Operand) : List Tmp := l.filterMap fun | .tmp t => some t | _ => none
theorem tmpsOf_mem {l : List Operand} {t : Tmp} : t ∈ tmpsOf l ↔ Operand.tmp t ∈ l := by
  unfold tmpsOf
  rw [List.mem_filterMap]
  constructor
  · rintro ⟨x, hx, e⟩
    cases x <;> simp at e
    subst e
    exact hx
  · intro h; exact ⟨_, h, rfl⟩
def restr (a : Act) (l : List Operand) : Act := ⟨((List.range a.tmps.size).map fun t => if t ∈ tmpsOf l then a.tmps.getD t undef else undef).toArray, []⟩
theorem restr_get (a : Act) (l : List Operand) (t : Nat) : (restr a l).tmps.getD t undef = if t ∈ tmpsOf l then a.tmps.getD t undef else undef := by
  unfold restr
  rw [Array.getD_eq_getD_getElem?]
  simp only [List.getElem?_toArray, List.getElem?_map]
  by_cases ht : t < a.tmps.size
  · simp [ht]
  · have e1 : (List.range a.tmps.size)[t]? = none := by simp; omega
    have e2 : a.tmps.getD t undef = undef := by rw [Array.getD_eq_getD_getElem?, Array.getElem?_eq_none (by omega)]; rfl
    rw [e1, e2]
    simp
theorem restr_fr {μ : Map} {nx : Nat} {fr0 fr : Tr Value} {a : Act} {l : List Operand} (h : ∀ t, Operand.tmp t ∈ l → SlotR μ nx (fr0.get t) (a.tmps.getD t undef)) (ho : OnlyR fr0 l fr) (hg : ∀ g, g < 1048576 → (μ g).blk = g ∧ (μ g).base = 0) (hb : 1048576 ≤ nx) :
    FrR μ nx fr a.tmps.size (restr a l) := by
  refine ⟨rfl, by simp [restr], fun t => ?_, hg, hb⟩
  rw [restr_get]
  by_cases ht : Operand.tmp t ∈ l
  · rw [if_pos (tmpsOf_mem.2 ht), (ho t).1 ht]
    exact h t ht
  · rw [if_neg (fun e => ht (tmpsOf_mem.1 e)), (ho t).2 ht]
    exact SlotR.none
theorem restr_exec {a : Act} {o : Oper} (hs : ∀ cs b, o.op ≠ .select cs b) : execOp a.eval o = execOp (restr a o.op.operands.toList).eval o :=
  execOp_congr o hs fun x hx => by
    cases x with
    | tmp t =>
      have hm : Operand.tmp t ∈ o.op.operands.toList := by simpa using hx
      have := restr_get a o.op.operands.toList t
      rw [if_pos (tmpsOf_mem.2 hm)] at this
      exact this.symm
    | _ => rfl

theorem least {p : Nat → Prop} : ∀ n, p n → ∃ k, p k ∧ k ≤ n ∧ ∀ j, j < k → ¬ p j := by
  intro n
  induction n using Nat.strongRecOn with
  | _ n ih =>
    intro hn
    by_cases h : ∃ j, j < n ∧ p j
    · obtain ⟨j, hj, hp⟩ := h
      obtain ⟨k, h1, h2, h3⟩ := ih j hj hp
      exact ⟨k, h1, by omega, h3⟩
    · exact ⟨n, hn, Nat.le_refl _, fun j hj hp => h ⟨j, hj, hp⟩⟩

section
variable {P : Program} {rec : Req → Stt → Option (Out × Stt)} {ops : Array Oper} {MS : List Nat} {st : Nat → DSt}

theorem getD_lt {listed : Array Bool} {j : Nat} (h : listed.getD j false = true) : j < listed.size := by
  rcases Nat.lt_or_ge j listed.size with h' | h'
  · exact h'
  · rw [Array.getD_eq_getD_getElem?, Array.getElem?_eq_none h'] at h; simp at h
theorem getD_tf {listed : Array Bool} {j : Nat} (h : j < listed.size) (b b' : Bool) : listed.getD j b = listed.getD j b' := by
  simp [Array.getD_eq_getD_getElem?, h]
def unl (listed : Array Bool) : Nat := (listed.toList.filter fun b => !b).length
theorem filter_set : ∀ (l : List Bool) (i : Nat), l[i]? = some false → ((l.set i true).filter fun b => !b).length + 1 = (l.filter fun b => !b).length
  | [], i, h => by simp at h
  | b :: l, 0, h => by simp at h; subst h; simp
  | b :: l, i + 1, h => by
    have := filter_set l i (by simpa using h)
    cases b <;> simp <;> omega
theorem unl_set {listed : Array Bool} {i : Nat} (h : listed.getD i true = false) : unl (listed.setIfInBounds i true) + 1 = unl listed := by
  have hi : listed.toList[i]? = some false := by
    rw [Array.getD_eq_getD_getElem?] at h
    rw [Array.getElem?_toList]
    cases hg : listed[i]? with
    | none => rw [hg] at h; simp at h
    | some b => rw [hg] at h; simp at h; rw [h]
  have := filter_set _ _ hi
  unfold unl
  simpa using this
theorem unl_zero {listed : Array Bool} (h : unl listed = 0) {j : Nat} (hj : j < listed.size) : listed.getD j false = true := by
  unfold unl at h
  have h0 := List.eq_nil_of_length_eq_zero h
  rw [List.filter_eq_nil_iff] at h0
  have := h0 listed[j] (by simp)
  rw [Array.getD_eq_getD_getElem?, Array.getElem?_eq_getElem hj]
  simpa using this

theorem any_ok [ExtOk P] (hS : Snd P rec) {μ0 : Map} {m0 : Mem} {w0 : World} {s' : Stt} {hN : Tr EvBlk} (hsteps : ∀ k, k < ops.size → StepR P rec ops MS k (st k) (st (k + 1)))
    (hfin : Adds (2 ^ ops.size - 1) (st ops.size).s.mem.heap (st ops.size).ds hN) (hs' : s' = ⟨(st ops.size).s.fr, (st ops.size).s.size, ⟨hN, (st ops.size).s.mem.next, (st ops.size).s.mem.low⟩⟩) :
    ∀ (fuel : Nat) (listed : Array Bool) (c : Nat) (μc : Map) (wc : World) (μ : Map) (w : World) (a : Act), listed.size = ops.size → c ≤ ops.size → (∀ j, j < c → listed.getD j false = true) →
      (∀ (j : Nat) o, listed.getD j false = true → ops[j]? = some o → ∀ e ∈ o.after, Region.binds .any e = true → listed.getD e.on false = true) →
      Begin ops MS st c NoX μc wc → Ok μ0 m0 w0 μc (st c).s.mem wc → SI P rec ops MS st c NoX (fun j => c ≤ j ∧ listed.getD j false = true) μc wc μ w a → unl listed ≤ fuel →
      wpAny P .any ops (Post μ0 m0 w0 .norm s') fuel listed a w := by
  intro fuel
  induction fuel with
  | zero =>
    intro listed c μc wc μ w a hsz hcN hA hcl hB hok h hu
    have hall : ∀ j, j < ops.size → listed.getD j false = true := fun j hj => unl_zero (by omega) (by omega)
    refine ⟨?_, ?_⟩
    · cases hr : Region.ready .any ops listed with
      | nil => rfl
      | cons i l =>
        have hi : i ∈ Region.ready .any ops listed := by rw [hr]; exact List.mem_cons_self
        obtain ⟨h1, o, h2, _⟩ := mem_ready.1 hi
        have hlt : i < ops.size := (Array.getElem?_eq_some_iff.1 h2).1
        rw [getD_tf (by omega) true false, hall i hlt] at h1
        cases h1
    · obtain ⟨h1, h2⟩ := h.finish (i := ops.size) (fun _ h => h) hB hcN (fun j h1 h2 => ⟨h1, hall j h2⟩) (fun j hj => by have := getD_lt hj.2; omega) hfin (fun j hj => by rw [Nat.testBit_two_pow_sub_one] at hj; simpa using hj)
      subst hs'
      exact ⟨rfl, μ, hok.trans h1, h2⟩
  | succ fuel ih =>
    intro listed c μc wc μ w a hsz hcN hA hcl hB hok h hu
    refine ⟨fun hr => ?_, fun i hi => ?_⟩
    · by_cases hall : ∀ j, j < ops.size → listed.getD j false = true
      · obtain ⟨h1, h2⟩ := h.finish (i := ops.size) (fun _ h => h) hB hcN (fun j h1 h2 => ⟨h1, hall j h2⟩) (fun j hj => by have := getD_lt hj.2; omega) hfin (fun j hj => by rw [Nat.testBit_two_pow_sub_one] at hj; simpa using hj)
        subst hs'
        exact ⟨rfl, μ, hok.trans h1, h2⟩
      · exfalso
        have : ∃ j, j < ops.size ∧ listed.getD j false ≠ true := by
          by_cases hx : ∃ j, j < ops.size ∧ listed.getD j false ≠ true
          · exact hx
          · exact absurd (fun j hj => by
              by_cases hy : listed.getD j false = true
              · exact hy
              · exact absurd ⟨j, hj, hy⟩ hx) hall
        obtain ⟨j, hj⟩ := this
        obtain ⟨k, ⟨hk1, hk2⟩, _, hk3⟩ := least (p := fun j => j < ops.size ∧ listed.getD j false ≠ true) j hj
        have hmem : k ∈ Region.ready .any ops listed := by
          refine mem_ready.2 ⟨?_, ops[k], Array.getElem?_eq_getElem hk1, fun e he hb => ?_⟩
          · rw [getD_tf (by omega) true false]
            simpa using hk2
          · have hlt : e.on < k := by
              have := (allOk_spec hB.ok k ops[k] (by simp)).1
              rw [Nat.zero_add] at this
              exact edgesOk_mem this e (by simpa using he) hb
            by_cases hy : listed.getD e.on false = true
            · exact hy
            · exact absurd ⟨by omega, hy⟩ (hk3 e.on hlt)
        rw [hr] at hmem
        cases hmem
    · -- what is known of an operation that may come up
      have facts : ∀ (i : Nat), i ∈ Region.ready .any ops listed → ∃ o, ops[i]? = some o ∧ i < ops.size ∧ listed.getD i false = false ∧ c ≤ i ∧ ¬ (c ≤ i ∧ listed.getD i false = true) ∧
          (∀ k, c ≤ k → k < i → StayR P rec ops MS k (st k) (st (k + 1))) ∧
          (∀ m, MS[i]? = some m → ∀ j, m.testBit j = true → c ≤ j → (c ≤ j ∧ listed.getD j false = true)) ∧
          (∀ j mj, (c ≤ j ∧ listed.getD j false = true) → MS[j]? = some mj → ∀ k, mj.testBit k = true → c ≤ k → (c ≤ k ∧ listed.getD k false = true)) ∧
          (∀ j m, (c ≤ j ∧ listed.getD j false = true) → MS[j]? = some m → m.testBit i = true → False) ∧
          (∀ cs b, o.op ≠ .select cs b) ∧ (∀ b, wantedE ops o (st i).s.fr = some b → Region.wanted o (yielded ops a.tmps) = b) ∧
          (∀ fr, OnlyR (st i).s.fr o.op.operands.toList fr → FrR μ (nx st i) fr a.tmps.size (restr a o.op.operands.toList)) ∧
          (∀ j, (listed.setIfInBounds i true).getD j false = true ↔ (listed.getD j false = true ∨ j = i)) ∧
          (∀ (j : Nat) oj, (listed.setIfInBounds i true).getD j false = true → ops[j]? = some oj → ∀ e ∈ oj.after, Region.binds .any e = true → (listed.setIfInBounds i true).getD e.on false = true) ∧
          (∀ j, j < c → (listed.setIfInBounds i true).getD j false = true) ∧ unl (listed.setIfInBounds i true) ≤ fuel ∧
          ((fun j => (c ≤ j ∧ listed.getD j false = true) ∨ j = i) = fun j => c ≤ j ∧ (listed.setIfInBounds i true).getD j false = true) ∧
          (∀ (j : Nat) oj, ops[j]? = some oj → ∃ m, MS[j]? = some m) ∧ (∀ e ∈ o.after, Region.binds .any e = true → listed.getD e.on false = true) := by
        intro i hi
        obtain ⟨hun, o, ho, hedges⟩ := mem_ready.1 hi
        have hiN : i < ops.size := (Array.getElem?_eq_some_iff.1 ho).1
        have hun' : listed.getD i false = false := by rw [getD_tf (by omega) false true]; exact hun
        have hci : c ≤ i := by
          rcases Nat.lt_or_ge i c with hlt | hge
          · rw [hA i hlt] at hun'; cases hun'
          · exact hge
        have hMSj : ∀ (j : Nat) oj, ops[j]? = some oj → ∃ m, MS[j]? = some m := fun j oj hoj => ⟨_, by rw [hB.ms]; exact pres_get ops hoj⟩
        -- what is ahead of what has come up, or comes up now, has come up
        have closed : ∀ (j : Nat) oj m, ops[j]? = some oj → MS[j]? = some m → (j = i ∨ listed.getD j false = true) → ∀ k, m.testBit k = true → listed.getD k false = true := by
          intro j oj m hoj hm hj k hk
          rw [hB.ms] at hm
          refine (pre_closed hB.ok (S := fun k => listed.getD k false = true) hcl j oj m hoj hm ?_ k hk).1
          rcases hj with rfl | hj
          · rw [ho] at hoj
            obtain rfl := Option.some.inj hoj
            exact hedges
          · exact hcl j oj hj hoj
        have hTi : ¬ (c ≤ i ∧ listed.getD i false = true) := fun hh => by rw [hun'] at hh; exact absurd hh.2 (by simp)
        have hst : ∀ k, c ≤ k → k < i → StayR P rec ops MS k (st k) (st (k + 1)) := by
          intro k h1 h2
          rcases hsteps k (by omega) with hk | ⟨o', m', vis, fr, v, mm, hk⟩
          · exact .inl hk
          · obtain ⟨m, hm⟩ := hMSj i o ho
            have hb := hk.rest i m h2 hm
            exact h.stay k ⟨h1, closed i o m ho hm (.inl rfl) k hb⟩ k h1 (Nat.le_refl _)
        have hpre : ∀ m, MS[i]? = some m → ∀ j, m.testBit j = true → c ≤ j → (c ≤ j ∧ listed.getD j false = true) := fun m hm j hj h1 => ⟨h1, closed i o m ho hm (.inl rfl) j hj⟩
        have hclT : ∀ j mj, (c ≤ j ∧ listed.getD j false = true) → MS[j]? = some mj → ∀ k, mj.testBit k = true → c ≤ k → (c ≤ k ∧ listed.getD k false = true) := fun j mj hj hmj k hk h1 => by
          have hlt := getD_lt hj.2
          exact ⟨h1, closed j ops[j] mj (Array.getElem?_eq_getElem (by omega)) hmj (.inr hj.2) k hk⟩
        have hnoi : ∀ j m, (c ≤ j ∧ listed.getD j false = true) → MS[j]? = some m → m.testBit i = true → False := fun j m hj hm hb => by
          have hlt := getD_lt hj.2
          have := closed j ops[j] m (Array.getElem?_eq_getElem (by omega)) hm (.inr hj.2) i hb
          rw [hun'] at this
          cases this
        have hslot : ∀ t, t ∈ o.looksAt ops → SlotR μ (nx st i) ((st i).s.fr.get t) (a.tmps.getD t undef) := fun t ht => h.slot hB ho hci hst hTi hpre hnoi ht
        have hsel := (allOk_spec hB.ok i o (by simpa using ho)).2.2
        have hw : (∀ b, wantedE ops o (st i).s.fr = some b → Region.wanted o (yielded ops a.tmps) = b) := wanted_eq' o fun j want d hg hd => hslot d (List.mem_append_right _ (by rw [hg]; simp [hd]))
        have hglob : ∀ g, g < 1048576 → (μ g).blk = g ∧ (μ g).base = 0 := fun g hg => by
          rw [h.below (Nat.lt_of_lt_of_le hg hB.big)]
          exact hB.glob g hg
        have seg := Seg.upto hB.ok hB.ds i hci hst
        have hbig : 1048576 ≤ nx st i := Nat.le_trans hB.big seg.next
        -- the list behind it
        have hset : ∀ j, (listed.setIfInBounds i true).getD j false = true ↔ (listed.getD j false = true ∨ j = i) := fun j => by
          by_cases hji : j = i
          · subst hji
            simp [Array.getD_eq_getD_getElem?, show j < listed.size from by omega]
          · simp [Array.getD_eq_getD_getElem?, Array.getElem?_setIfInBounds_ne (Ne.symm hji), hji]
        have hcl' : ∀ (j : Nat) oj, (listed.setIfInBounds i true).getD j false = true → ops[j]? = some oj → ∀ e ∈ oj.after, Region.binds .any e = true → (listed.setIfInBounds i true).getD e.on false = true := fun j oj hj hoj e he hb => by
          refine (hset _).2 (.inl ?_)
          rcases (hset j).1 hj with hj | rfl
          · exact hcl j oj hj hoj e he hb
          · rw [ho] at hoj
            obtain rfl := Option.some.inj hoj
            exact hedges e he hb
        have hA' : ∀ j, j < c → (listed.setIfInBounds i true).getD j false = true := fun j hj => (hset j).2 (.inl (hA j hj))
        have hu' : unl (listed.setIfInBounds i true) ≤ fuel := by have := unl_set hun; omega
        have hT' : (fun j => (c ≤ j ∧ listed.getD j false = true) ∨ j = i) = fun j => c ≤ j ∧ (listed.setIfInBounds i true).getD j false = true := by
          funext j
          apply propext
          rw [hset]
          constructor
          · rintro (⟨h1, h2⟩ | rfl)
            · exact ⟨h1, .inl h2⟩
            · exact ⟨hci, .inr rfl⟩
          · rintro ⟨h1, h2 | h2⟩
            · exact .inl ⟨h1, h2⟩
            · exact .inr h2
        have frame : ∀ fr, OnlyR (st i).s.fr o.op.operands.toList fr → FrR μ (nx st i) fr a.tmps.size (restr a o.op.operands.toList) := fun fr hon => restr_fr (fun t ht => hslot t (looks_op ht)) hon hglob hbig
        exact ⟨o, ho, hiN, hun', hci, hTi, hst, hpre, hclT, hnoi, hsel, hw, frame, hset, hcl', hA', hu', hT', hMSj, hedges⟩
      by_cases hex : ∃ k ∈ Region.ready .any ops listed, ∃ ok, ops[k]? = some ok ∧ noMem ok = true
      · -- what looks at no memory is taken first
        obtain ⟨k, hk, ok, hok1, hpure⟩ := hex
        refine (?_ : wpAny P .any ops (Post μ0 m0 w0 .norm s') (fuel + 1) listed a w).2 i hi
        obtain ⟨o, ho, hiN, hun', hci, hTi, hst, hpre, hclT, hnoi, hsel, hw, frame, hset, hcl', hA', hu', hT', hMSj, hedges⟩ := facts k hk
        rw [ho] at hok1
        obtain rfl := Option.some.inj hok1
        have chk := (allOk_spec hB.ok k o (by simpa using ho)).2.1
        rw [Nat.zero_add] at chk
        have hfree : ∀ (j : Nat) oj, ops[j]? = some oj → j ≠ k → listed.getD j true = false → (∀ e ∈ oj.after, Region.binds .any e = true → e.on ≠ k) → o.apart ops oj = true := by
          intro j oj hoj hne hunj hnoe
          have hjN : j < ops.size := (Array.getElem?_eq_some_iff.1 hoj).1
          have hunj' : listed.getD j false = false := by rw [getD_tf (by omega) false true]; exact hunj
          have chkj := (allOk_spec hB.ok j oj (by simpa using hoj)).2.1
          rw [Nat.zero_add] at chkj
          have noedge : ∀ e ∈ o.after, Region.binds .any e = true → e.on = j → False := fun e he hb e1 => by
            have := hedges e he hb
            rw [e1, hunj'] at this
            cases this
          unfold Oper.apart
          rw [Bool.and_eq_true]
          constructor
          · cases hd : o.dst with
            | none => rfl
            | some d =>
              have h1 := dstOk_spec chkj k o d (by simpa using ho) (by omega) hd
              rw [Nat.zero_add] at h1
              rw [Bool.and_eq_true]
              constructor
              · have : ¬ d ∈ oj.looksAt ops := fun hl => by
                  rcases h1.2 hl with ⟨e, he, hb, e1⟩ | ⟨e, he, hb, e1⟩
                  · exact hnoe e he hb e1
                  · exact noedge e he hb e1
                simpa using this
              · simpa using h1.1
          · cases hd : oj.dst with
            | none => rfl
            | some d =>
              have h1 := dstOk_spec chk j oj d (by simpa using hoj) (by omega) hd
              rw [Nat.zero_add] at h1
              have : ¬ d ∈ o.looksAt ops := fun hl => by
                rcases h1.2 hl with ⟨e, he, hb, e1⟩ | ⟨e, he, hb, e1⟩
                · exact noedge e he hb e1
                · exact hnoe e he hb e1
              simpa using this
        have hselA : ∀ (j : Nat) (o : Oper) cs b, ops[j]? = some o → o.op ≠ .select cs b := fun j o cs b hj => (allOk_spec hB.ok j o (by simpa using hj)).2.2 cs b
        have hQ : ∀ (v : Value) ch a w, Post μ0 m0 w0 .norm s' (.panic ch) (a.put o.dst v) w → Post μ0 m0 w0 .norm s' (.panic ch) a w := fun v ch a w hp => by
          have := hp.1
          simp [OutIs] at this
        rcases hsteps k hiN with (⟨o2, hs⟩ | ⟨o2, m, vis, fr, v, m', hs⟩) | ⟨o2, m, vis, fr, v, m', hs⟩
        · have e := hs.op
          rw [ho] at e
          obtain rfl := Option.some.inj e
          have hy : Yields P ops o undef a := .inr ⟨hw _ hs.wanted, rfl⟩
          refine wpAny_first ho hselA (hQ undef) fuel listed a w hfree hk hy ?_
          have := h.skip hB hci hst hTi hs.op hs.put hs.ds (.inl (.inl ⟨o, hs⟩))
          rw [hT'] at this
          exact ih _ c μc wc μ w _ (by simpa using hsz) hcN hA' hcl' hB hok this hu'
        · have e := hs.op
          rw [ho] at e
          obtain rfl := Option.some.inj e
          have hrep := h.rep hB hci hst hs.adds (hpre m hs.ms) big
          have hrun := hs.run
          unfold doOp at hrun
          cases hso : stepOp P fr ⟨vis, (st k).s.mem.next, big⟩ o with
          | none => rw [hso] at hrun; simp at hrun
          | some d =>
            obtain ⟨v1, e1, v', hv1, hv2⟩ := pure_ok (m := ⟨vis, (st k).s.mem.next, big⟩) (frame fr hs.only) hpure hso
            rw [hso, e1] at hrun
            simp only [Option.some.injEq, Prod.mk.injEq] at hrun
            obtain ⟨rfl, rfl⟩ := hrun
            have hy : Yields P ops o v' a := .inl ⟨hw _ hs.wanted, fun w => by rw [restr_exec hsel]; exact hv1 w⟩
            refine wpAny_first ho hselA (hQ v') fuel listed a w hfree hk hy ?_
            have := h.grow hB hci hst hTi hs hclT (hpre m hs.ms) (Ok.refl hrep) hv2
            rw [hT'] at this
            exact ih _ c μc wc μ w _ (by simpa using hsz) hcN hA' hcl' hB hok this hu'
        · have e := hs.op
          rw [ho] at e
          obtain rfl := Option.some.inj e
          rw [hs.heavy] at hpure
          cases hpure
      obtain ⟨o, ho, hiN, hun', hci, hTi, hst, hpre, hclT, hnoi, hsel, hw, frame, hset, hcl', hA', hu', hT', hMSj, hedges⟩ := facts i hi
      -- what looks at no memory and stands ahead has come up
      have quiet : ∀ m, MS[i]? = some m → (∀ (j : Nat) oj, j < i → ops[j]? = some oj → m.testBit j = true ∨ noMem oj = true) → ∀ j, c ≤ j → j < i → (c ≤ j ∧ listed.getD j false = true) := by
        intro m hm hallB j
        induction j using Nat.strongRecOn with
        | _ j ihj =>
          intro h1 h2
          rcases hallB j ops[j] h2 (Array.getElem?_eq_getElem (by omega)) with hb | hp
          · exact hpre m hm j hb h1
          · refine ⟨h1, ?_⟩
            cases hy : listed.getD j false with
            | true => rfl
            | false =>
              exfalso
              refine hex ⟨j, mem_ready.2 ⟨by rw [getD_tf (by omega) true false]; exact hy, ops[j], Array.getElem?_eq_getElem (by omega), fun e he hb => ?_⟩, ops[j], Array.getElem?_eq_getElem (by omega), hp⟩
              have hlt : e.on < j := by
                have := (allOk_spec hB.ok j ops[j] (by simp)).1
                rw [Nat.zero_add] at this
                exact edgesOk_mem this e (by simpa using he) hb
              rcases Nat.lt_or_ge e.on c with hlc | hgc
              · exact hA e.on hlc
              · exact (ihj e.on hlt hgc (by omega)).2
      unfold wpOp
      simp only [ho]
      rcases hsteps i hiN with (⟨o2, hs⟩ | ⟨o2, m, vis, fr, v, m', hs⟩) | ⟨o2, m, vis, fr, v, m', hs⟩
      · have e := hs.op
        rw [ho] at e
        obtain rfl := Option.some.inj e
        rw [hw _ hs.wanted]
        simp only [Bool.false_eq_true, if_false]
        have := h.skip hB hci hst hTi hs.op hs.put hs.ds (.inl (.inl ⟨o, hs⟩))
        rw [hT'] at this
        exact ih _ c μc wc μ w _ (by simpa using hsz) hcN hA' hcl' hB hok this hu'
      · have e := hs.op
        rw [ho] at e
        obtain rfl := Option.some.inj e
        rw [hw _ hs.wanted]
        simp only [if_true]
        have hrep := h.rep hB hci hst hs.adds (hpre m hs.ms) big
        refine .inl (do_run hS hs.run hrep (frame fr hs.only) a _ _ (restr_exec hsel) ?_)
        rintro v' w' ⟨μ', hok', hv⟩
        have := h.grow hB hci hst hTi hs hclT (hpre m hs.ms) hok' hv
        rw [hT'] at this
        exact ih _ c μc wc μ' w' _ (by simpa using hsz) hcN hA' hcl' hB hok this hu'
      · have e := hs.op
        rw [ho] at e
        obtain rfl := Option.some.inj e
        rw [hw _ hs.wanted]
        simp only [if_true]
        have hrep := h.rep hB hci hst hs.adds (hpre m hs.ms) big
        have hno : ∀ j, (c ≤ j ∧ listed.getD j false = true) → j < i := fun j hj => by
          rcases Nat.lt_or_ge j i with hlt | hge
          · exact hlt
          · exfalso
            have hlt := getD_lt hj.2
            have hne : j ≠ i := fun e => by subst e; rw [hun'] at hj; exact absurd hj.2 (by simp)
            obtain ⟨mj, hmj⟩ := hMSj j ops[j] (Array.getElem?_eq_getElem (by omega))
            exact hnoi j mj hj hmj (hs.rest j mj (by omega) hmj)
        obtain ⟨hfin1, hfin2⟩ := h.finish (fun _ h => h) hB hci (quiet m hs.ms hs.all) hno hs.adds (fun j hj => bit_lt hB ho hs.ms hj)
        refine .inl (do_run hS hs.run hrep (frame fr hs.only) a _ _ (restr_exec hsel) ?_)
        rintro v' w' ⟨μ', hok', hv⟩
        have hok2 := Ok.relow (low := (st i).s.mem.low) hok'
        have hmem : (st (i + 1)).s.mem = ⟨m'.heap, m'.next, Nat.min (st i).s.mem.low m'.low⟩ := hs.mem
        rw [← hmem] at hok2
        have hnx : nx st (i + 1) = m'.next := by unfold nx; rw [hmem]
        have hup := FrR.up (m := ⟨vis, nx st i, (st i).s.mem.low⟩) hfin2 hok2
        have hF' : FrR μ' (nx st (i + 1)) (st (i + 1)).s.fr (st (i + 1)).s.size (a.put o.dst v') := by
          have hlt : ∀ d, o.dst = some d → d < a.tmps.size := fun d hd => by rw [hfin2.size]; exact put_lt hs.put d hd
          refine ⟨?_, ?_, fun t => ?_, hup.glob, hup.big⟩
          · rw [show (a.put o.dst v').defers = a.defers from by cases o.dst <;> rfl]; exact hup.defers
          · rw [hs.size, ← hfin2.size]; cases o.dst <;> simp [Act.put]
          · rcases put_get hs.put t with ⟨hd, hg⟩ | ⟨hd, hg⟩
            · rw [hg, (put_slot hlt).1 hd, hnx]; exact SlotR.some hv
            · rw [hg, (put_slot hlt).2 hd]; exact hup.get t
        have hB' : Begin ops MS st (i + 1) NoX μ' w' := ⟨hB.ok, hB.ms, hok2.rep, hs.ds, by rw [hs.nb, hnx], hup.glob, hup.big, fun _ _ _ h => h⟩
        have hSI := SI.start (P := P) (rec := rec) hB' hF'
        have hTn : (fun _ : Nat => False) = fun j => i + 1 ≤ j ∧ (listed.setIfInBounds i true).getD j false = true := by
          funext j
          apply propext
          constructor
          · intro h; exact h.elim
          · rintro ⟨h1, h2⟩
            rcases (hset j).1 h2 with h2 | rfl
            · have := hno j ⟨by omega, h2⟩
              omega
            · omega
        rw [hTn] at hSI
        refine ih _ (i + 1) μ' w' μ' w' _ (by simpa using hsz) (by omega) (fun j hj => ?_) hcl' hB' ((hok.trans hfin1).trans hok2) hSI hu'
        refine (hset j).2 ?_
        by_cases hji : j = i
        · exact .inr hji
        · refine .inl ?_
          rcases Nat.lt_or_ge j c with hlt | hge
          · exact hA j hlt
          · exact (quiet m hs.ms hs.all j hge (by omega)).2
end

theorem hard_ok {P : Program} [ExtOk P] {rec : Req → Stt → Option (Out × Stt)} (hm : P.follows .mixedOrders = true) (hS : Snd P rec) (id : Nat) (ops : Array Oper) (s : Stt) (out : Out) (s' : Stt) (hd : drawOk ops = true)
    (h : evDraw P rec ops ops.toList (pres ops.toList []) 0 s.mem.next [] s = some (out, s')) : ∀ μ0 m0 w0 μ w a, Ok μ0 m0 w0 μ s.mem w → FrR μ s.mem.next s.fr s.size a → (Code.region id ops true).wp P (Post μ0 m0 w0 out s') a w := by
  intro μ0 m0 w0 μ w a hok hF
  obtain ⟨st, h0, hsteps, rfl, hN, hfin, hs'⟩ := trace (MS := pres ops.toList []) ops.toList _ 0 s.mem.next [] s h (fun j => by simp) (fun j => by simp)
  simp only [Array.length_toList, Nat.zero_add] at hsteps hfin hs'
  refine wp_region_any hm ?_
  have hdr : Ok μ s.mem w μ s.mem { w with drawn := w.drawn + 1 } := Ok.drawn hok.rep rfl rfl rfl rfl
  have hok' := hok.trans hdr
  have hB : Begin ops (pres ops.toList []) st 0 NoX μ { w with drawn := w.drawn + 1 } := ⟨hd, rfl, by rw [h0]; exact hdr.rep, by rw [h0], by unfold nx; rw [h0], hF.glob, by unfold nx; rw [h0]; exact hF.big, fun _ _ _ h => h⟩
  have hSI := SI.start (P := P) (rec := rec) hB (by unfold nx; rw [h0]; exact hF)
  have hTn : (fun _ : Nat => False) = fun j => 0 ≤ j ∧ (Array.replicate ops.size false).getD j false = true := by
    funext j
    apply propext
    constructor
    · intro h; exact h.elim
    · rintro ⟨_, h2⟩
      rw [Array.getD_eq_getD_getElem?, Array.getElem?_replicate] at h2
      split at h2 <;> simp at h2
  rw [hTn] at hSI
  refine any_ok hS (fun k hk => hsteps k (Nat.zero_le _) hk) hfin hs' ops.size _ 0 μ _ μ _ a (by simp) (Nat.zero_le _) (fun j hj => by omega) (fun j o hj => ?_) hB (by rw [h0]; exact hok') hSI ?_
  · rw [Array.getD_eq_getD_getElem?, Array.getElem?_replicate] at hj
    split at hj <;> simp at hj
  · unfold unl
    exact Nat.le_trans (List.length_filter_le _ _) (by simp)
end Go.Proofs.YtloolljoelngcaaGreat
