/-
  Regions with stores that have no order: up to the last other write, then the rest; in an order of the text in which what looks at no memory comes early.
-/
import Derived.Test.YtloolljoelngcaaGreatEvO
set_option linter.unusedVariables false
namespace Go.Proofs.YtloolljoelngcaaGreat
open Go.RowKit

section
variable {P : Program} {rec : Req → Stt → Option (Out × Stt)} {ops : Array Oper} {MS : List Nat} {st : Nat → DSt} {c : Nat}
theorem any_hard [ExtOk P] (hS : Snd P rec) {μ0 : Map} {m0 : Mem} {w0 : World} {Q : Exit → Act → World → Prop} {n : Nat} (hn : n < ops.size) (hlow : ∀ k, k < n → StepR P rec ops MS k (st k) (st (k + 1)))
    (hbar : ∃ o m vis fr v m', WriteR P rec ops MS n (st n) (st (n + 1)) o m vis fr v m') (hnQ : ∀ ch a w, ¬ Q (.panic ch) a w)
    (hcont : ∀ (fuel : Nat) (listed : Array Bool) (μ : Map) (w : World) (a : Act), listed.size = ops.size → (∀ j, listed.getD j false = true ↔ j < n + 1) → Ok μ0 m0 w0 μ (st (n + 1)).s.mem w →
      FrR μ (nx st (n + 1)) (st (n + 1)).s.fr (st (n + 1)).s.size a → unl listed ≤ fuel → wpAny P .any ops Q fuel listed a w) :
    ∀ (fuel : Nat) (listed : Array Bool) (c : Nat) (μc : Map) (wc : World) (μ : Map) (w : World) (a : Act), listed.size = ops.size → c ≤ n → (∀ j, j < c → listed.getD j false = true) →
      (∀ (j : Nat) o, listed.getD j false = true → ops[j]? = some o → ∀ e ∈ o.after, Region.binds .any e = true → listed.getD e.on false = true) →
      Begin ops MS st c NoX μc wc → Ok μ0 m0 w0 μc (st c).s.mem wc → SI P rec ops MS st c NoX (fun j => c ≤ j ∧ listed.getD j false = true) μc wc μ w a → listed.getD n false = false → unl listed ≤ fuel →
      wpAny P .any ops Q fuel listed a w := by
  have hsteps : ∀ k, k ≤ n → StepR P rec ops MS k (st k) (st (k + 1)) := fun k hk => by
    rcases Nat.lt_or_ge k n with h | h
    · exact hlow k h
    · obtain rfl : k = n := by omega
      exact .inr hbar
  have hsplit : ∀ k, k ≤ n → (k < n ∧ Stay0R P rec ops MS k (st k) (st (k + 1))) ∨ ∃ o m vis fr v m', WriteR P rec ops MS k (st k) (st (k + 1)) o m vis fr v m' := fun k hk => by
    rcases Nat.lt_or_ge k n with h | h
    · rcases hlow k h with h1 | h1
      · exact .inl ⟨h, h1⟩
      · exact .inr h1
    · obtain rfl : k = n := by omega
      exact .inr hbar
  have hkeep : ∀ {listed : Array Bool} {i : Nat}, listed.getD n false = false → ((listed.setIfInBounds i true).getD n false = true ↔ (listed.getD n false = true ∨ n = i)) → n ≠ i → (listed.setIfInBounds i true).getD n false = false := by
    intro listed i h1 h2 h3
    rw [Bool.eq_false_iff]
    intro e
    rcases h2.1 e with e | e
    · rw [h1] at e; cases e
    · exact h3 e
  have hrest : ∀ j m, n < j → MS[j]? = some m → m.testBit n = true := by
    obtain ⟨_, _, _, _, _, _, hw⟩ := hbar
    exact hw.rest
  intro fuel
  induction fuel with
  | zero =>
    intro listed c μc wc μ w a hsz hcN hA hcl hB hok h hln hu
    have hall : ∀ j, j < ops.size → listed.getD j false = true := fun j hj => unl_zero (by omega) (by omega)
    rw [hall n hn] at hln
    cases hln
  | succ fuel ih =>
    intro listed c μc wc μ w a hsz hcN hA hcl hB hok h hln hu
    refine ⟨fun hr => ?_, fun i hi => ?_⟩
    · by_cases hall : ∀ j, j < ops.size → listed.getD j false = true
      · rw [hall n hn] at hln
        cases hln
      · exfalso
        have : ∃ j, j < ops.size ∧ listed.getD j false ≠ true := by
          by_cases hx : ∃ j, j < ops.size ∧ listed.getD j false ≠ true
          · exact hx
          · exact absurd (fun j hj => by
              by_cases hy : listed.getD j false = true
              · exact hy
              · exact absurd ⟨j, hj, hy⟩ hx) hall
        obtain ⟨j, hj⟩ := this
        obtain ⟨k, ⟨hk1, hk2⟩, _, hk3⟩ := least (p := fun j => j < ops.size ∧ listed.getD j false ≠ true) j hj
        have hmem : k ∈ Region.ready .any ops listed := by
          refine mem_ready.2 ⟨?_, ops[k], Array.getElem?_eq_getElem hk1, fun e he hb => ?_⟩
          · rw [getD_tf (by omega) true false]
            simpa using hk2
          · have hlt : e.on < k := by
              have := (allOk_spec hB.ok k ops[k] (by simp)).1
              rw [Nat.zero_add] at this
              exact edgesOk_mem this e (by simpa using he) hb
            by_cases hy : listed.getD e.on false = true
            · exact hy
            · exact absurd ⟨by omega, hy⟩ (hk3 e.on hlt)
        rw [hr] at hmem
        cases hmem
    · -- what is known of an operation that may come up
      have facts : ∀ (i : Nat), i ∈ Region.ready .any ops listed → ∃ o, ops[i]? = some o ∧ i < ops.size ∧ i ≤ n ∧ listed.getD i false = false ∧ c ≤ i ∧ ¬ (c ≤ i ∧ listed.getD i false = true) ∧
          (∀ k, c ≤ k → k < i → StayR P rec ops MS k (st k) (st (k + 1))) ∧
          (∀ m, MS[i]? = some m → ∀ j, m.testBit j = true → c ≤ j → (c ≤ j ∧ listed.getD j false = true)) ∧
          (∀ j mj, (c ≤ j ∧ listed.getD j false = true) → MS[j]? = some mj → ∀ k, mj.testBit k = true → c ≤ k → (c ≤ k ∧ listed.getD k false = true)) ∧
          (∀ j m, (c ≤ j ∧ listed.getD j false = true) → MS[j]? = some m → m.testBit i = true → False) ∧
          (∀ cs b, o.op ≠ .select cs b) ∧ (∀ b, wantedE ops o (st i).s.fr = some b → Region.wanted o (yielded ops a.tmps) = b) ∧
          (∀ fr, OnlyR (st i).s.fr o.op.operands.toList fr → FrR μ (nx st i) fr a.tmps.size (restr a o.op.operands.toList)) ∧
          (∀ j, (listed.setIfInBounds i true).getD j false = true ↔ (listed.getD j false = true ∨ j = i)) ∧
          (∀ (j : Nat) oj, (listed.setIfInBounds i true).getD j false = true → ops[j]? = some oj → ∀ e ∈ oj.after, Region.binds .any e = true → (listed.setIfInBounds i true).getD e.on false = true) ∧
          (∀ j, j < c → (listed.setIfInBounds i true).getD j false = true) ∧ unl (listed.setIfInBounds i true) ≤ fuel ∧
          ((fun j => (c ≤ j ∧ listed.getD j false = true) ∨ j = i) = fun j => c ≤ j ∧ (listed.setIfInBounds i true).getD j false = true) ∧
          (∀ (j : Nat) oj, ops[j]? = some oj → ∃ m, MS[j]? = some m) ∧ (∀ e ∈ o.after, Region.binds .any e = true → listed.getD e.on false = true) := by
        intro i hi
        obtain ⟨hun, o, ho, hedges⟩ := mem_ready.1 hi
        have hiN : i < ops.size := (Array.getElem?_eq_some_iff.1 ho).1
        have hun' : listed.getD i false = false := by rw [getD_tf (by omega) false true]; exact hun
        have hci : c ≤ i := by
          rcases Nat.lt_or_ge i c with hlt | hge
          · rw [hA i hlt] at hun'; cases hun'
          · exact hge
        have hMSj : ∀ (j : Nat) oj, ops[j]? = some oj → ∃ m, MS[j]? = some m := fun j oj hoj => ⟨_, by rw [hB.ms]; exact pres_get ops hoj⟩
        -- what is ahead of what has come up, or comes up now, has come up
        have closed : ∀ (j : Nat) oj m, ops[j]? = some oj → MS[j]? = some m → (j = i ∨ listed.getD j false = true) → ∀ k, m.testBit k = true → listed.getD k false = true := by
          intro j oj m hoj hm hj k hk
          rw [hB.ms] at hm
          refine (pre_closed hB.ok (S := fun k => listed.getD k false = true) hcl j oj m hoj hm ?_ k hk).1
          rcases hj with rfl | hj
          · rw [ho] at hoj
            obtain rfl := Option.some.inj hoj
            exact hedges
          · exact hcl j oj hj hoj
        have hin : i ≤ n := by
          rcases Nat.lt_or_ge n i with hlt | hge
          · obtain ⟨m, hm⟩ := hMSj i o ho
            have := closed i o m ho hm (.inl rfl) n (hrest i m hlt hm)
            rw [hln] at this
            cases this
          · exact hge
        have hTi : ¬ (c ≤ i ∧ listed.getD i false = true) := fun hh => by rw [hun'] at hh; exact absurd hh.2 (by simp)
        have hst : ∀ k, c ≤ k → k < i → StayR P rec ops MS k (st k) (st (k + 1)) := by
          intro k h1 h2
          rcases hsteps k (by omega) with hk | ⟨o', m', vis, fr, v, mm, hk⟩
          · exact .inl hk
          · obtain ⟨m, hm⟩ := hMSj i o ho
            have hb := hk.rest i m h2 hm
            exact h.stay k ⟨h1, closed i o m ho hm (.inl rfl) k hb⟩ k h1 (Nat.le_refl _)
        have hpre : ∀ m, MS[i]? = some m → ∀ j, m.testBit j = true → c ≤ j → (c ≤ j ∧ listed.getD j false = true) := fun m hm j hj h1 => ⟨h1, closed i o m ho hm (.inl rfl) j hj⟩
        have hclT : ∀ j mj, (c ≤ j ∧ listed.getD j false = true) → MS[j]? = some mj → ∀ k, mj.testBit k = true → c ≤ k → (c ≤ k ∧ listed.getD k false = true) := fun j mj hj hmj k hk h1 => by
          have hlt := getD_lt hj.2
          exact ⟨h1, closed j ops[j] mj (Array.getElem?_eq_getElem (by omega)) hmj (.inr hj.2) k hk⟩
        have hnoi : ∀ j m, (c ≤ j ∧ listed.getD j false = true) → MS[j]? = some m → m.testBit i = true → False := fun j m hj hm hb => by
          have hlt := getD_lt hj.2
          have := closed j ops[j] m (Array.getElem?_eq_getElem (by omega)) hm (.inr hj.2) i hb
          rw [hun'] at this
          cases this
        have hslot : ∀ t, t ∈ o.looksAt ops → SlotR μ (nx st i) ((st i).s.fr.get t) (a.tmps.getD t undef) := fun t ht => h.slot hB ho hci hst hTi hpre hnoi ht
        have hsel := (allOk_spec hB.ok i o (by simpa using ho)).2.2
        have hw : (∀ b, wantedE ops o (st i).s.fr = some b → Region.wanted o (yielded ops a.tmps) = b) := wanted_eq' o fun j want d hg hd => hslot d (List.mem_append_right _ (by rw [hg]; simp [hd]))
        have hglob : ∀ g, g < 1048576 → (μ g).blk = g ∧ (μ g).base = 0 := fun g hg => by
          rw [h.below (Nat.lt_of_lt_of_le hg hB.big)]
          exact hB.glob g hg
        have seg := Seg.upto hB.ok hB.ds i hci hst
        have hbig : 1048576 ≤ nx st i := Nat.le_trans hB.big seg.next
        -- the list behind it
        have hset : ∀ j, (listed.setIfInBounds i true).getD j false = true ↔ (listed.getD j false = true ∨ j = i) := fun j => by
          by_cases hji : j = i
          · subst hji
            simp [Array.getD_eq_getD_getElem?, show j < listed.size from by omega]
          · simp [Array.getD_eq_getD_getElem?, Array.getElem?_setIfInBounds_ne (Ne.symm hji), hji]
        have hcl' : ∀ (j : Nat) oj, (listed.setIfInBounds i true).getD j false = true → ops[j]? = some oj → ∀ e ∈ oj.after, Region.binds .any e = true → (listed.setIfInBounds i true).getD e.on false = true := fun j oj hj hoj e he hb => by
          refine (hset _).2 (.inl ?_)
          rcases (hset j).1 hj with hj | rfl
          · exact hcl j oj hj hoj e he hb
          · rw [ho] at hoj
            obtain rfl := Option.some.inj hoj
            exact hedges e he hb
        have hA' : ∀ j, j < c → (listed.setIfInBounds i true).getD j false = true := fun j hj => (hset j).2 (.inl (hA j hj))
        have hu' : unl (listed.setIfInBounds i true) ≤ fuel := by have := unl_set hun; omega
        have hT' : (fun j => (c ≤ j ∧ listed.getD j false = true) ∨ j = i) = fun j => c ≤ j ∧ (listed.setIfInBounds i true).getD j false = true := by
          funext j
          apply propext
          rw [hset]
          constructor
          · rintro (⟨h1, h2⟩ | rfl)
            · exact ⟨h1, .inl h2⟩
            · exact ⟨hci, .inr rfl⟩
          · rintro ⟨h1, h2 | h2⟩
            · exact .inl ⟨h1, h2⟩
            · exact .inr h2
        have frame : ∀ fr, OnlyR (st i).s.fr o.op.operands.toList fr → FrR μ (nx st i) fr a.tmps.size (restr a o.op.operands.toList) := fun fr hon => restr_fr (fun t ht => hslot t (looks_op ht)) hon hglob hbig
        exact ⟨o, ho, hiN, hin, hun', hci, hTi, hst, hpre, hclT, hnoi, hsel, hw, frame, hset, hcl', hA', hu', hT', hMSj, hedges⟩
      by_cases hex : ∃ k ∈ Region.ready .any ops listed, ∃ ok, ops[k]? = some ok ∧ noMem ok = true
      · -- what looks at no memory is taken first
        obtain ⟨k, hk, ok, hok1, hpure⟩ := hex
        refine (?_ : wpAny P .any ops Q (fuel + 1) listed a w).2 i hi
        obtain ⟨o, ho, hiN, hin, hun', hci, hTi, hst, hpre, hclT, hnoi, hsel, hw, frame, hset, hcl', hA', hu', hT', hMSj, hedges⟩ := facts k hk
        rw [ho] at hok1
        obtain rfl := Option.some.inj hok1
        have chk := (allOk_spec hB.ok k o (by simpa using ho)).2.1
        rw [Nat.zero_add] at chk
        have hfree : ∀ (j : Nat) oj, ops[j]? = some oj → j ≠ k → listed.getD j true = false → (∀ e ∈ oj.after, Region.binds .any e = true → e.on ≠ k) → o.apart ops oj = true := by
          intro j oj hoj hne hunj hnoe
          have hjN : j < ops.size := (Array.getElem?_eq_some_iff.1 hoj).1
          have hunj' : listed.getD j false = false := by rw [getD_tf (by omega) false true]; exact hunj
          have chkj := (allOk_spec hB.ok j oj (by simpa using hoj)).2.1
          rw [Nat.zero_add] at chkj
          have noedge : ∀ e ∈ o.after, Region.binds .any e = true → e.on = j → False := fun e he hb e1 => by
            have := hedges e he hb
            rw [e1, hunj'] at this
            cases this
          unfold Oper.apart
          rw [Bool.and_eq_true]
          constructor
          · cases hd : o.dst with
            | none => rfl
            | some d =>
              have h1 := dstOk_spec chkj k o d (by simpa using ho) (by omega) hd
              rw [Nat.zero_add] at h1
              rw [Bool.and_eq_true]
              constructor
              · have : ¬ d ∈ oj.looksAt ops := fun hl => by
                  rcases h1.2 hl with ⟨e, he, hb, e1⟩ | ⟨e, he, hb, e1⟩
                  · exact hnoe e he hb e1
                  · exact noedge e he hb e1
                simpa using this
              · simpa using h1.1
          · cases hd : oj.dst with
            | none => rfl
            | some d =>
              have h1 := dstOk_spec chk j oj d (by simpa using hoj) (by omega) hd
              rw [Nat.zero_add] at h1
              have : ¬ d ∈ o.looksAt ops := fun hl => by
                rcases h1.2 hl with ⟨e, he, hb, e1⟩ | ⟨e, he, hb, e1⟩
                · exact noedge e he hb e1
                · exact hnoe e he hb e1
              simpa using this
        have hselA : ∀ (j : Nat) (o : Oper) cs b, ops[j]? = some o → o.op ≠ .select cs b := fun j o cs b hj => (allOk_spec hB.ok j o (by simpa using hj)).2.2 cs b
        have hQ : ∀ (v : Value) ch a w, Q (.panic ch) (a.put o.dst v) w → Q (.panic ch) a w := fun v ch a w hp => absurd hp (hnQ ch _ w)
        rcases hsplit k hin with ⟨hltn, ⟨o2, hs⟩ | ⟨o2, m, vis, fr, v, m', hs⟩⟩ | ⟨o2, m, vis, fr, v, m', hs⟩
        · have e := hs.op
          rw [ho] at e
          obtain rfl := Option.some.inj e
          have hy : Yields P ops o undef a := .inr ⟨hw _ hs.wanted, rfl⟩
          refine wpAny_first ho hselA (hQ undef) fuel listed a w hfree hk hy ?_
          have := h.skip hB hci hst hTi hs.op hs.put hs.ds (.inl (.inl ⟨o, hs⟩))
          rw [hT'] at this
          exact ih _ c μc wc μ w _ (by simpa using hsz) hcN hA' hcl' hB hok this (hkeep hln (hset n) (by omega)) hu'
        · have e := hs.op
          rw [ho] at e
          obtain rfl := Option.some.inj e
          have hrep := h.rep hB hci hst hs.adds (hpre m hs.ms) big
          have hrun := hs.run
          unfold doOp at hrun
          cases hso : stepOp P fr ⟨vis, (st k).s.mem.next, big⟩ o with
          | none => rw [hso] at hrun; simp at hrun
          | some d =>
            obtain ⟨v1, e1, v', hv1, hv2⟩ := pure_ok (m := ⟨vis, (st k).s.mem.next, big⟩) (frame fr hs.only) hpure hso
            rw [hso, e1] at hrun
            simp only [Option.some.injEq, Prod.mk.injEq] at hrun
            obtain ⟨rfl, rfl⟩ := hrun
            have hy : Yields P ops o v' a := .inl ⟨hw _ hs.wanted, fun w => by rw [restr_exec hsel]; exact hv1 w⟩
            refine wpAny_first ho hselA (hQ v') fuel listed a w hfree hk hy ?_
            have := h.grow hB hci hst hTi hs hclT (hpre m hs.ms) (Ok.refl hrep) hv2
            rw [hT'] at this
            exact ih _ c μc wc μ w _ (by simpa using hsz) hcN hA' hcl' hB hok this (hkeep hln (hset n) (by omega)) hu'
        · have e := hs.op
          rw [ho] at e
          obtain rfl := Option.some.inj e
          rw [hs.heavy] at hpure
          cases hpure
      obtain ⟨o, ho, hiN, hin, hun', hci, hTi, hst, hpre, hclT, hnoi, hsel, hw, frame, hset, hcl', hA', hu', hT', hMSj, hedges⟩ := facts i hi
      -- what looks at no memory and stands ahead has come up
      have quiet : ∀ m, MS[i]? = some m → (∀ (j : Nat) oj, j < i → ops[j]? = some oj → m.testBit j = true ∨ noMem oj = true) → ∀ j, c ≤ j → j < i → (c ≤ j ∧ listed.getD j false = true) := by
        intro m hm hallB j
        induction j using Nat.strongRecOn with
        | _ j ihj =>
          intro h1 h2
          rcases hallB j ops[j] h2 (Array.getElem?_eq_getElem (by omega)) with hb | hp
          · exact hpre m hm j hb h1
          · refine ⟨h1, ?_⟩
            cases hy : listed.getD j false with
            | true => rfl
            | false =>
              exfalso
              refine hex ⟨j, mem_ready.2 ⟨by rw [getD_tf (by omega) true false]; exact hy, ops[j], Array.getElem?_eq_getElem (by omega), fun e he hb => ?_⟩, ops[j], Array.getElem?_eq_getElem (by omega), hp⟩
              have hlt : e.on < j := by
                have := (allOk_spec hB.ok j ops[j] (by simp)).1
                rw [Nat.zero_add] at this
                exact edgesOk_mem this e (by simpa using he) hb
              rcases Nat.lt_or_ge e.on c with hlc | hgc
              · exact hA e.on hlc
              · exact (ihj e.on hlt hgc (by omega)).2
      unfold wpOp
      simp only [ho]
      rcases hsplit i hin with ⟨hltn, ⟨o2, hs⟩ | ⟨o2, m, vis, fr, v, m', hs⟩⟩ | ⟨o2, m, vis, fr, v, m', hs⟩
      · have e := hs.op
        rw [ho] at e
        obtain rfl := Option.some.inj e
        rw [hw _ hs.wanted]
        simp only [Bool.false_eq_true, if_false]
        have := h.skip hB hci hst hTi hs.op hs.put hs.ds (.inl (.inl ⟨o, hs⟩))
        rw [hT'] at this
        exact ih _ c μc wc μ w _ (by simpa using hsz) hcN hA' hcl' hB hok this (hkeep hln (hset n) (by omega)) hu'
      · have e := hs.op
        rw [ho] at e
        obtain rfl := Option.some.inj e
        rw [hw _ hs.wanted]
        simp only [if_true]
        have hrep := h.rep hB hci hst hs.adds (hpre m hs.ms) big
        refine .inl (do_run hS hs.run hrep (frame fr hs.only) a _ _ (restr_exec hsel) ?_)
        rintro v' w' ⟨μ', hok', hv⟩
        have := h.grow hB hci hst hTi hs hclT (hpre m hs.ms) hok' hv
        rw [hT'] at this
        exact ih _ c μc wc μ' w' _ (by simpa using hsz) hcN hA' hcl' hB hok this (hkeep hln (hset n) (by omega)) hu'
      · have e := hs.op
        rw [ho] at e
        obtain rfl := Option.some.inj e
        rw [hw _ hs.wanted]
        simp only [if_true]
        have hrep := h.rep hB hci hst hs.adds (hpre m hs.ms) big
        have hno : ∀ j, (c ≤ j ∧ listed.getD j false = true) → j < i := fun j hj => by
          rcases Nat.lt_or_ge j i with hlt | hge
          · exact hlt
          · exfalso
            have hlt := getD_lt hj.2
            have hne : j ≠ i := fun e => by subst e; rw [hun'] at hj; exact absurd hj.2 (by simp)
            obtain ⟨mj, hmj⟩ := hMSj j ops[j] (Array.getElem?_eq_getElem (by omega))
            exact hnoi j mj hj hmj (hs.rest j mj (by omega) hmj)
        obtain ⟨hfin1, hfin2⟩ := h.finish (fun _ h => h) hB hci (quiet m hs.ms hs.all) hno hs.adds (fun j hj => bit_lt hB ho hs.ms hj)
        refine .inl (do_run hS hs.run hrep (frame fr hs.only) a _ _ (restr_exec hsel) ?_)
        rintro v' w' ⟨μ', hok', hv⟩
        have hok2 := Ok.relow (low := (st i).s.mem.low) hok'
        have hmem : (st (i + 1)).s.mem = ⟨m'.heap, m'.next, Nat.min (st i).s.mem.low m'.low⟩ := hs.mem
        rw [← hmem] at hok2
        have hnx : nx st (i + 1) = m'.next := by unfold nx; rw [hmem]
        have hup := FrR.up (m := ⟨vis, nx st i, (st i).s.mem.low⟩) hfin2 hok2
        have hF' : FrR μ' (nx st (i + 1)) (st (i + 1)).s.fr (st (i + 1)).s.size (a.put o.dst v') := by
          have hlt : ∀ d, o.dst = some d → d < a.tmps.size := fun d hd => by rw [hfin2.size]; exact put_lt hs.put d hd
          refine ⟨?_, ?_, fun t => ?_, hup.glob, hup.big⟩
          · rw [show (a.put o.dst v').defers = a.defers from by cases o.dst <;> rfl]; exact hup.defers
          · rw [hs.size, ← hfin2.size]; cases o.dst <;> simp [Act.put]
          · rcases put_get hs.put t with ⟨hd, hg⟩ | ⟨hd, hg⟩
            · rw [hg, (put_slot hlt).1 hd, hnx]; exact SlotR.some hv
            · rw [hg, (put_slot hlt).2 hd]; exact hup.get t
        have hB' : Begin ops MS st (i + 1) NoX μ' w' := ⟨hB.ok, hB.ms, hok2.rep, hs.ds, by rw [hs.nb, hnx], hup.glob, hup.big, fun _ _ _ h => h⟩
        have hSI := SI.start (P := P) (rec := rec) hB' hF'
        have hTn : (fun _ : Nat => False) = fun j => i + 1 ≤ j ∧ (listed.setIfInBounds i true).getD j false = true := by
          funext j
          apply propext
          constructor
          · intro h; exact h.elim
          · rintro ⟨h1, h2⟩
            rcases (hset j).1 h2 with h2 | rfl
            · have := hno j ⟨by omega, h2⟩
              omega
            · omega
        rw [hTn] at hSI
        have hup1 : ∀ j, j < i + 1 → (listed.setIfInBounds i true).getD j false = true := fun j hj => by
          refine (hset j).2 ?_
          by_cases hji : j = i
          · exact .inr hji
          · refine .inl ?_
            rcases Nat.lt_or_ge j c with hlt | hge
            · exact hA j hlt
            · exact (quiet m hs.ms hs.all j hge (by omega)).2
        rcases Nat.lt_or_ge i n with hltn | hgen
        · exact ih _ (i + 1) μ' w' μ' w' _ (by simpa using hsz) (by omega) hup1 hcl' hB' ((hok.trans hfin1).trans hok2) hSI (hkeep hln (hset n) (by omega)) hu'
        · obtain rfl : i = n := by omega
          refine hcont _ _ μ' w' _ (by simpa using hsz) (fun j => ⟨fun hj => ?_, hup1 j⟩) ((hok.trans hfin1).trans hok2) hF' hu'
          rcases (hset j).1 hj with hj | rfl
          · rcases Nat.lt_or_ge j c with hlt | hge
            · omega
            · have := hno j ⟨hge, hj⟩
              omega
          · omega

/-- what is run up to the last operation that writes -/
theorem traceH {out : Out} {s' : Stt} {n : Nat} : ∀ (l : List Oper) (ms : List Nat) (i nb : Nat) (ds : List Made) (s : Stt), evHard P rec ops (n + 1) l ms i nb ds s = some (out, s') → (∀ j, l[j]? = ops[i + j]?) → (∀ j, ms[j]? = MS[i + j]?) → i ≤ n →
    ∃ (st : Nat → DSt) (l2 : List Oper) (ms2 : List Nat), st i = ⟨s, nb, ds⟩ ∧ (∀ k, i ≤ k → k < n → StepR P rec ops MS k (st k) (st (k + 1))) ∧ (∃ o m vis fr v m', WriteR P rec ops MS n (st n) (st (n + 1)) o m vis fr v m') ∧
      startSoft P rec ops l2 ms2 (n + 1) (st (n + 1)).s = some (out, s') ∧ (∀ j, l2[j]? = ops[n + 1 + j]?) ∧ (∀ j, ms2[j]? = MS[n + 1 + j]?) ∧ n + 1 + l2.length = i + l.length
  | [], ms, i, nb, ds, s, h, _, _, _ => by simp [evHard] at h
  | o :: l, ms, i, nb, ds, s, h, hl, hms, hin => by
    cases ms with
    | nil => simp [evHard] at h
    | cons m ms =>
      have ho : ops[i]? = some o := by have := hl 0; simpa using this.symm
      have hm : MS[i]? = some m := by have := hms 0; simpa using this.symm
      have hl' : ∀ j, l[j]? = ops[i + 1 + j]? := fun j => by have := hl (j + 1); rw [show i + (j + 1) = i + 1 + j from by omega] at this; simpa using this
      have hms' : ∀ j, ms[j]? = MS[i + 1 + j]? := fun j => by have := hms (j + 1); rw [show i + (j + 1) = i + 1 + j from by omega] at this; simpa using this
      have fin : ∀ q : DSt, i < n → evHard P rec ops (n + 1) l ms (i + 1) q.nb q.ds q.s = some (out, s') → StepR P rec ops MS i ⟨s, nb, ds⟩ q → ∃ (st : Nat → DSt) (l2 : List Oper) (ms2 : List Nat), st i = ⟨s, nb, ds⟩ ∧ (∀ k, i ≤ k → k < n → StepR P rec ops MS k (st k) (st (k + 1))) ∧ (∃ o m vis fr v m', WriteR P rec ops MS n (st n) (st (n + 1)) o m vis fr v m') ∧
          startSoft P rec ops l2 ms2 (n + 1) (st (n + 1)).s = some (out, s') ∧ (∀ j, l2[j]? = ops[n + 1 + j]?) ∧ (∀ j, ms2[j]? = MS[n + 1 + j]?) ∧ n + 1 + l2.length = i + (o :: l).length := by
        intro q hlt hq hstep
        obtain ⟨st, l2, ms2, h0, h1, h2, h3, h4, h5, h6⟩ := traceH l ms (i + 1) q.nb q.ds q.s hq hl' hms' (by omega)
        refine ⟨fun k => if k ≤ i then ⟨s, nb, ds⟩ else st k, l2, ms2, by simp, fun k hk1 hk2 => ?_, ?_, ?_, h4, h5, by simp; omega⟩
        · by_cases hki : k = i
          · subst hki
            simp only [Nat.le_refl, if_true]
            rw [if_neg (by omega), h0]
            exact hstep
          · simp only [if_neg (show ¬ k ≤ i by omega), if_neg (show ¬ k + 1 ≤ i by omega)]
            exact h1 k (by omega) hk2
        · simp only [if_neg (show ¬ n ≤ i by omega), if_neg (show ¬ n + 1 ≤ i by omega)]
          exact h2
        · simp only [if_neg (show ¬ n + 1 ≤ i by omega)]
          exact h3
      have beqn : Nat.beq (Nat.succ i) (n + 1) = true ↔ i = n := by rw [Nat.beq_eq]; omega
      rw [evHard] at h
      cases hw : wantedE ops o s.fr with
      | none => rw [hw] at h; simp at h
      | some bw =>
      cases bw with
      | false =>
        rw [hw] at h
        simp only at h
        cases hb : Nat.beq (Nat.succ i) (n + 1) with
        | true => rw [hb] at h; simp at h
        | false =>
          rw [hb] at h
          have hne : i ≠ n := fun e => by rw [beqn.2 e] at hb; cases hb
          obtain ⟨fr', h1, hp⟩ := put_spec h
          exact fin ⟨⟨fr', s.size, s.mem⟩, nb, ds⟩ (by omega) h1 (.inl (.inl ⟨o, ho, hw, hp, rfl, rfl, rfl, rfl⟩))
      | true =>
        rw [hw] at h
        simp only at h
        obtain ⟨vis, h1, ha1, ha2⟩ := addDeltas_spec _ _ _ _ _ h
        obtain ⟨fr, h2, hon⟩ := only_spec _ _ _ _ h1
        have hon' : OnlyR s.fr o.op.operands.toList fr := fun j => ⟨fun hj => by
          rcases (hon j).1 hj with h | ⟨h, h'⟩
          · exact h
          · rw [h', h, Tr.get_leaf], fun hj => by rw [(hon j).2 hj, Tr.get_leaf]⟩
        cases hd : doOp P rec fr ⟨vis, s.mem.next, big⟩ o with
        | none => rw [hd] at h2; simp at h2
        | some vm =>
          obtain ⟨v, m'⟩ := vm
          rw [hd] at h2
          simp only at h2
          have wr : ∀ (hmask : (allBefore m ops.toList 0 i && beforeAll i ms && !noMem o) = true) (fr' : Tr Value), PutR s.fr s.size o.dst v fr' →
              WriteR P rec ops MS i ⟨s, nb, ds⟩ ⟨⟨fr', s.size, ⟨m'.heap, m'.next, Nat.min s.mem.low m'.low⟩⟩, m'.next, []⟩ o m vis fr v m' := fun hmask fr' hp => by
            rw [Bool.and_eq_true, Bool.and_eq_true] at hmask
            exact ⟨⟨ho, hm, hw, ⟨ha1, ha2⟩, hon', hd, hp, rfl⟩, fun j oj hj hoj => by
              have := allBefore_spec hmask.1.1 j oj hj (by simpa using hoj)
              rwa [Nat.zero_add] at this, by simpa using hmask.2, fun j m2 hj hm2 => by
              have := hms' (j - (i + 1))
              rw [show i + 1 + (j - (i + 1)) = j from by omega, hm2] at this
              exact beforeAll_mem hmask.1.2 m2 (List.mem_of_getElem? this), rfl, rfl, rfl⟩
          cases hb : Nat.beq (Nat.succ i) (n + 1) with
          | true =>
            rw [hb] at h2
            obtain rfl := beqn.1 hb
            simp only at h2
            split at h2
            · rename_i hmask
              rw [fNat_eq] at h2
              obtain ⟨fr', h3, hp⟩ := put_spec h2
              refine ⟨fun k => if k ≤ i then ⟨s, nb, ds⟩ else ⟨⟨fr', s.size, ⟨m'.heap, m'.next, Nat.min s.mem.low m'.low⟩⟩, m'.next, []⟩, l, ms, by simp, fun k hk1 hk2 => by omega, ⟨o, m, vis, fr, v, m', ?_⟩, ?_, hl', hms', by simp; omega⟩
              · simp only [Nat.le_refl, if_true]
                rw [if_neg (by omega)]
                exact wr hmask fr' hp
              · simp only [if_neg (show ¬ i + 1 ≤ i by omega)]
                exact h3
            · simp at h2
          | false =>
            rw [hb] at h2
            have hne : i < n := by
              rcases Nat.lt_or_ge i n with h | h
              · exact h
              · have e : i = n := by omega
                rw [beqn.2 e] at hb; cases hb
            simp only at h2
            cases hg : Nat.ble s.mem.next m'.low && Nat.ble s.mem.next m'.next with
            | true =>
              rw [hg] at h2
              rw [Bool.and_eq_true, Nat.ble_eq, Nat.ble_eq] at hg
              simp only at h2
              cases hf : flatR v with
              | true =>
                rw [hf] at h2
                simp only at h2
                obtain ⟨fr', h3, hp⟩ := put_spec h2
                exact fin ⟨⟨fr', s.size, ⟨s.mem.heap, m'.next, s.mem.low⟩⟩, nb, ds⟩ hne h3 (.inl (.inr ⟨o, m, vis, fr, v, m', ⟨⟨ho, hm, hw, ⟨ha1, ha2⟩, hon', hd, hp, rfl⟩, hg.1, hg.2, rfl, rfl, .inl ⟨hf, rfl⟩⟩⟩))
              | false =>
                rw [hf] at h2
                simp only at h2
                split at h2
                · rename_i hids
                  rw [Bool.and_eq_true] at hids
                  obtain ⟨fr', h3, hp⟩ := put_spec h2
                  exact fin ⟨⟨fr', s.size, ⟨s.mem.heap, m'.next, s.mem.low⟩⟩, nb, ⟨i, s.mem.next, m'.next, collect m'.heap (m'.next - s.mem.next) s.mem.next⟩ :: ds⟩ hne h3
                    (.inl (.inr ⟨o, m, vis, fr, v, m', ⟨⟨ho, hm, hw, ⟨ha1, ha2⟩, hon', hd, hp, rfl⟩, hg.1, hg.2, rfl, rfl, .inr ⟨_, ⟨rfl, rfl, rfl, fun b x hx => by
                      obtain ⟨h1, h2, _⟩ := collect_spec _ _ _ _ _ hx
                      exact ⟨h1, h2⟩, hids.1, hids.2⟩, rfl⟩⟩⟩))
                · simp at h2
            | false =>
              rw [hg] at h2
              simp only at h2
              split at h2
              · rename_i hmask
                rw [fNat_eq] at h2
                obtain ⟨fr', h3, hp⟩ := put_spec h2
                exact fin ⟨⟨fr', s.size, ⟨m'.heap, m'.next, Nat.min s.mem.low m'.low⟩⟩, m'.next, []⟩ hne h3 (.inr ⟨o, m, vis, fr, v, m', wr hmask fr' hp⟩)
              · simp at h2
end

theorem SI.finishF {P : Program} [ExtOk P] {rec : Req → Stt → Option (Out × Stt)} {ops : Array Oper} {MS : List Nat} {st : Nat → DSt} {c : Nat} {X T : Nat → Prop} {μc μ : Map} {wc w : World} {a : Act}
    (hB : Begin ops MS st c X μc wc) (h : SI P rec ops MS st c X T μc wc μ w a) {i : Nat} (hci : c ≤ i) (hall : ∀ j, c ≤ j → j < i → T j) (hno : ∀ j, T j → j < i) : FrR μ (nx st i) (st i).s.fr (st i).s.size a := by
  have hst : ∀ k, c ≤ k → k < i → StayR P rec ops MS k (st k) (st (k + 1)) := fun k h1 h2 => h.stay k (hall k h1 h2) k h1 (Nat.le_refl _)
  have seg := Seg.upto hB.ok hB.ds i hci hst
  refine ⟨h.defers, h.sz.trans seg.size.symm, fun t => ?_, fun g hg => ?_, Nat.le_trans hB.big seg.next⟩
  · rcases seg.fr t with ⟨j, o, h1, h2, h3, h4, h5⟩ | ⟨h1, h2⟩
    · rw [h5]
      exact (h.slotT j o t (hall j h1 h2) h3 h4).mono (next_mono i (j + 1) (by omega) h2 hst) fun _ _ => rfl
    · rw [h2]
      exact (h.slotB t fun j o hj ho => h1 j o (h.ge j hj) (hno j hj) ho).mono seg.next fun _ _ => rfl
  · rw [h.below (Nat.lt_of_lt_of_le hg hB.big)]
    exact hB.glob g hg

theorem soft_any {P : Program} [ExtOk P] {rec : Req → Stt → Option (Out × Stt)} (hS : Snd P rec) {ops : Array Oper} {s : Stt} {out : Out} {s' : Stt} (hd : drawOk ops = true) {c : Nat} {ol : List Oper} {ms : List Nat}
    (hol : ∀ j, ol[j]? = ops[c + j]?) (hms : ∀ j, ms[j]? = (pres ops.toList [])[c + j]?) (hlen : c + ol.length = ops.size) (h : startSoft P rec ops ol ms c s = some (out, s')) :
    ∀ (μ0 : Map) (m0 : Mem) (w0 : World) (μ : Map) (wc : World) (a : Act) (fuel : Nat) (listed : Array Bool), Ok μ0 m0 w0 μ s.mem wc → FrR μ s.mem.next s.fr s.size a → listed.size = ops.size → (∀ j, listed.getD j false = true ↔ j < c) → unl listed ≤ fuel →
      wpAny P .any ops (Post μ0 m0 w0 out s') fuel listed a wc := by
  intro μ0 m0 w0 μ wc a fuel listed hok' hF hlz hlt0 hlu
  have h : (hideAll (preHid P ops ol s.fr []) s.mem.heap [] fun h hb => evSoft P rec ops hb ol ms c s.mem.next [] [] ⟨s.fr, s.size, ⟨h, s.mem.next, s.mem.low⟩⟩) = some (out, s') := by
    obtain ⟨fr, size, ⟨heap, next, low⟩⟩ := s
    exact h
  have hRm := hok'.rep
  have hcN : c ≤ ops.size := by omega
  obtain ⟨hh, hb, h1, a1, a2, _, a4⟩ := hideAll_spec _ _ _ _ _ h
  replace a4 : ∀ b x, (b, x) ∈ hb → s.mem.heap.get b = some x ∧ x.own = true ∧ hh.get b = none := fun b x hx => by
    rcases a4 b x hx with h | h
    · simp at h
    · exact h
  obtain ⟨st, F, h0, hsteps, hgood, _, hFF, vis, hadds, hrest⟩ := traceS (MS := pres ops.toList []) ol ms c s.mem.next [] [] _ h1 hol hms (fun e he => by simp at he) (fun e he => by simp at he)
  simp only [hlen] at hsteps hFF hadds hrest
  replace hFF : ∀ e ∈ F, c ≤ e.i ∧ e.i < ops.size ∧ ∃ o m fr, SoftE P ops (pres ops.toList []) hb (st e.i) (st (e.i + 1)) o e m fr := fun e he => by
    rcases hFF e he with h | ⟨h1, h2, h3⟩
    · simp at h
    · exact ⟨h1, h2, h3⟩
  obtain ⟨h', low', heq, hlow, b1, b3, b4⟩ := restore_spec _ _ _ _ _ _ hrest
  simp only [Option.some.injEq, Prod.mk.injEq] at heq
  obtain ⟨rfl, rfl⟩ := heq
  have hn0 : nx st c = s.mem.next := by unfold nx; rw [h0]
  have hB : Begin ops (pres ops.toList []) st c (fun k => ∃ b x, (b, x) ∈ hb ∧ (μ b).blk = k) μ wc := by
    refine ⟨hd, rfl, ?_, by rw [h0], by unfold nx; rw [h0], hF.glob, by rw [hn0]; exact hF.big, ?_⟩
    · rw [h0]
      exact ⟨fun b x hx => hRm.lt b x (a1 b x hx), fun b x hx => hRm.cells b x (a1 b x hx), fun b x hx => hRm.fits b x (a1 b x hx), fun b x hx => hRm.inb b x (a1 b x hx), fun b x hx => hRm.es b x (a1 b x hx), fun b x hx => hRm.there b x (a1 b x hx),
        fun b x b' x' hx hx' => hRm.apart b x b' x' (a1 b x hx) (a1 b' x' hx')⟩
    · rw [h0]
      rintro b x hx ⟨b', x', hx', e⟩
      obtain ⟨g1, g2, g3⟩ := a4 b' x' hx'
      have hne : b' ≠ b := fun e => by subst e; rw [show hh.get b' = some x from hx] at g3; cases g3
      exact hRm.apart b' x' b x g1 (a1 b x hx) g2 hne e
  have hhb : ∀ b x, (b, x) ∈ hb → (μ b).blk < wc.heap.size ∧ b < nx st c ∧ x.cells.length ≤ (μ b).room := fun b x hx => by
    obtain ⟨g1, g2, _⟩ := a4 b x hx
    exact ⟨hRm.inb b x g1, by rw [hn0]; exact hRm.lt b x g1, hRm.fits b x g1 g2⟩
  have hap : ∀ b x b' x', (b, x) ∈ hb → (b', x') ∈ hb → b ≠ b' → (μ b).blk ≠ (μ b').blk := fun b x b' x' hx hx' hne => hRm.apart b x b' x' (a4 b x hx).1 (a4 b' x' hx').1 (a4 b x hx).2.1 hne
  have hSI := SI.start (P := P) (rec := rec) hB (by rw [hn0, h0]; exact hF)
  have hHI : HI st hb F (fun _ => False) μ wc μ wc := ⟨fun b x hx => hRm.there b x (a4 b x hx).1 (a4 b x hx).2.1, fun _ _ _ _ _ _ _ => rfl, fun _ _ h => h.elim⟩
  have hTn : (fun _ : Nat => False) = fun j => c ≤ j ∧ listed.getD j false = true := by
    funext j
    apply propext
    constructor
    · intro h; exact h.elim
    · rintro ⟨h1, h2⟩
      have := (hlt0 j).1 h2
      omega
  rw [hTn] at hSI hHI
  refine any_soft hS rfl hcN hB hhb hap hgood hFF (fun k h1 hk => hsteps k h1 hk) ?_ fuel listed μ wc a hlz (fun j hj => (hlt0 j).2 hj) (fun j o hj ho e he hb => ?_) hSI hHI hlu
  rotate_left
  · have h1 := (hlt0 j).1 hj
    have h2 := (allOk_spec hd j o (by simpa using ho)).1
    rw [Nat.zero_add] at h2
    have := edgesOk_mem h2 e (by simpa using he) hb
    exact (hlt0 _).2 (by omega)
  clear hSI hHI hTn
  intro T μ1 w1 a1' hall hlt hSI hHI
  have hst : ∀ k, c ≤ k → k < ops.size → StayR P rec ops (pres ops.toList []) k (st k) (st (k + 1)) := fun k h1 h2 => hSI.stay k (hall k h1 h2) k h1 (Nat.le_refl _)
  have seg := Seg.upto hB.ok hB.ds ops.size hcN hst
  have hrep := hSI.rep hB hcN hst hadds (fun j hj h1 => hall j h1 (by rw [Nat.testBit_two_pow_sub_one] at hj; simpa using hj)) low'
  have hheap : (st ops.size).s.mem.heap = hh := by rw [seg.heap, h0]
  have hmu : ∀ b, b < nx st c → μ1 b = μ b := fun b hb => hSI.below hb
  have made : ∀ e ∈ (st ops.size).ds, ∀ b x, (b, x) ∈ e.d → nx st c ≤ b ∧ x.own = true ∧ wc.heap.size ≤ (μ1 b).blk := fun e he b x hd => by
    obtain ⟨g1, g2, g3⟩ := seg.ds e he
    obtain ⟨k1, k2, _, k4, _⟩ := hSI.made e g3 (hall e.i g1 g2) b x hd
    have := next_mono (P := P) (rec := rec) (ops := ops) (MS := pres ops.toList []) (st := st) (c := c) e.i c (Nat.le_refl _) g1 fun k q1 q2 => hst k q1 (by omega)
    rw [g3.lo] at k2
    exact ⟨by omega, k1, k4⟩
  -- what is seen at the end, but for what was hidden
  have live : ∀ b y, vis.get b = some y → (s.mem.heap.get b = some y ∧ b < nx st c) ∨ (nx st c ≤ b ∧ y.own = true ∧ wc.heap.size ≤ (μ1 b).blk) := fun b y hy => by
    rcases hadds.1 b y hy with hy | ⟨e, he, _, hd⟩
    · rw [hheap] at hy
      exact .inl ⟨a1 b y hy, by rw [hn0]; exact hRm.lt b y (a1 b y hy)⟩
    · exact .inr (made e he b y hd)
  have hok1 : Ok μ s.mem wc μ1 ⟨h', (st ops.size).s.mem.next, low'⟩ w1 := by
    have hsz := hSI.size
    have hnext : nx st c ≤ nx st ops.size := seg.next
    constructor
    case rep =>
      constructor
      case lt =>
        intro b y hy
        rcases b4 b y hy with ⟨hy, _⟩ | ⟨x, cs, hx, _, _⟩
        · exact hrep.lt b y hy
        · exact Nat.lt_of_lt_of_le (hhb b x hx).2.1 hnext
      case cells =>
        intro b y hy i v hi
        rcases b4 b y hy with ⟨hy, _⟩ | ⟨x, cs, hx, hcs, rfl⟩
        · exact hrep.cells b y hy i v hi
        · obtain ⟨g1, g2, _⟩ := a4 b x hx
          rw [hmu b (hhb b x hx).2.1]
          rcases (applyS_spec b F _ _ hcs).2 i v hi with ⟨e, he, rfl, k1, k2, k3⟩ | ⟨k1, k2⟩
          · obtain ⟨v', q1, q2⟩ := hHI.new e he (hall e.i (hFF e he).1 (hFF e he).2.1) (i - e.o) v k3
            rw [show (μ e.b).base + e.o + (i - e.o) = (μ e.b).base + i from by omega] at q1
            exact ⟨v', q1, q2.mono (next_mono ops.size (e.i + 1) (Nat.le_succ_of_le (hFF e he).1) (hFF e he).2.1 hst) fun _ _ => rfl⟩
          · obtain ⟨v', q1, q2⟩ := hRm.cells b x g1 i v k1
            refine ⟨v', ?_, q2.mono (by rw [← hn0]; exact hnext) fun b hb => hmu b (by rw [hn0]; exact hb)⟩
            rw [hHI.old b x hx i v k1 fun e he _ heb => k2 e he heb]
            exact q1
      case fits =>
        intro b y hy ho
        rcases b4 b y hy with ⟨hy, _⟩ | ⟨x, cs, hx, hcs, rfl⟩
        · exact hrep.fits b y hy ho
        · rw [hmu b (hhb b x hx).2.1]
          show cs.length ≤ _
          rw [(applyS_spec b F _ _ hcs).1]
          exact (hhb b x hx).2.2
      case inb =>
        intro b y hy
        rcases b4 b y hy with ⟨hy, _⟩ | ⟨x, cs, hx, _, _⟩
        · exact hrep.inb b y hy
        · rw [hmu b (hhb b x hx).2.1]
          exact Nat.lt_of_lt_of_le (hhb b x hx).1 hsz
      case es =>
        intro b y hy
        rcases b4 b y hy with ⟨hy, _⟩ | ⟨x, cs, hx, _, rfl⟩
        · exact hrep.es b y hy
        · rw [hmu b (hhb b x hx).2.1]
          exact hRm.es b x (a4 b x hx).1
      case there =>
        intro b y hy ho
        rcases b4 b y hy with ⟨hy, _⟩ | ⟨x, cs, hx, _, rfl⟩
        · exact hrep.there b y hy ho
        · rw [hmu b (hhb b x hx).2.1]
          exact hHI.there b x hx
      case apart =>
        intro b y b' y' hy hy' ho hne
        rcases b4 b y hy with ⟨hv, _⟩ | ⟨x, cs, hx, _, rfl⟩
        · rcases b4 b' y' hy' with ⟨hv', _⟩ | ⟨x', cs', hx', _, rfl⟩
          · exact hrep.apart b y b' y' hv hv' ho hne
          · rw [hmu b' (hhb b' x' hx').2.1]
            rcases live b y hv with ⟨g1, g2⟩ | ⟨_, _, g3⟩
            · rw [hmu b g2]
              exact hRm.apart b y b' x' g1 (a4 b' x' hx').1 ho hne
            · have := (hhb b' x' hx').1
              omega
        · rw [hmu b (hhb b x hx).2.1]
          rcases b4 b' y' hy' with ⟨hv', _⟩ | ⟨x', cs', hx', _, rfl⟩
          · rcases live b' y' hv' with ⟨g1, g2⟩ | ⟨_, _, g3⟩
            · rw [hmu b' g2]
              exact hRm.apart b x b' y' (a4 b x hx).1 g1 (a4 b x hx).2.1 hne
            · have := (hhb b x hx).1
              omega
          · rw [hmu b' (hhb b' x' hx').2.1]
            exact hap b x b' x' hx hx' hne
    case next => rw [← hn0]; exact hnext
    case mu => intro b hb; exact hmu b (by rw [hn0]; exact hb)
    case mu2 =>
      intro b hb
      refine hSI.out b fun j hj ⟨_, h2⟩ => ?_
      have hjc := hSI.ge j hj
      have := next_mono (P := P) (rec := rec) (ops := ops) (MS := pres ops.toList []) (st := st) (c := c) ops.size (j + 1) (Nat.le_succ_of_le hjc) (hlt j hj) hst
      have hb' : nx st ops.size ≤ b := hb
      omega
    case low =>
      exact Nat.le_trans hlow (Nat.le_of_eq (seg.low.trans (by rw [h0])))
    case keep =>
      intro b hbl hn
      have hno : ∀ x, (b, x) ∉ hb := fun x hx => by have := b1 b x hx; have hb' : b < low' := hbl; omega
      show h'.get b = _
      rw [b3 b hno, hadds.2 b fun e he x hd => ?_, hheap]
      · cases hg : hh.get b with
        | some x => exact (a1 b x hg).symm
        | none =>
          cases hg2 : s.mem.heap.get b with
          | none => rfl
          | some x =>
            rcases a2 b x hg2 with h | h
            · rw [hg] at h; cases h
            · exact absurd h (hno x)
      · have := (made e he b x hd).1
        omega
    case old =>
      intro b y hy hn
      rcases b4 b y hy with ⟨hy, _⟩ | ⟨x, cs, hx, _, rfl⟩
      · rcases live b y hy with ⟨g1, _⟩ | ⟨g1, _⟩
        · exact ⟨y, g1, rfl⟩
        · omega
      · exact ⟨x, (a4 b x hx).1, (a4 b x hx).2.1⟩
    case new =>
      intro b y hy hn
      rcases b4 b y hy with ⟨hy, _⟩ | ⟨x, cs, hx, _, rfl⟩
      · rcases live b y hy with ⟨_, g1⟩ | ⟨_, g1, g2⟩
        · omega
        · exact ⟨g1, .inl g2⟩
      · have := (hhb b x hx).2.1
        omega
    case os => exact hSI.os
    case tape => exact hSI.tape
    case output => exact hSI.output
    case size => exact hsz
    case frame =>
      intro k hk hno
      refine hSI.same k hk ?_
      rintro ⟨b, x, hx, e⟩
      exact hno b x (a4 b x hx).1 (a4 b x hx).2.1 (b1 b x hx) e
  exact ⟨rfl, μ1, hok'.trans hok1, hSI.finishF hB hcN (fun j h1 h2 => hall j h1 h2) hlt⟩

end Go.Proofs.YtloolljoelngcaaGreat
