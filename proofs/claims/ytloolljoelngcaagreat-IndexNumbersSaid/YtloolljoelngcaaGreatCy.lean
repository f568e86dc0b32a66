/-
  A drawn region whose last operation waits for all the others: these first, in whatever order, then the last. No program in sight.
-/
import Derived.Test.YtloolljoelngcaaGreatCr
import Derived.StillTail
set_option linter.unusedVariables false
namespace Go.Proofs.YtloolljoelngcaaGreat
open Go.RowKit
noncomputable section
section
variable {P : Program} {Q Q' : Exit → Act → World → Prop}
theorem wp_anyQ {o : Oper} {a : Act} {w : World} {K : Act → World → Prop} (hN : ∀ e a w, Q e a w → e = .normal) (h : o.wp P a w K Q) : o.wp P a w K Q' := by
  unfold Oper.wp at *
  generalize (execOp a.eval o).run P w = r at *
  cases r with
  | ok n w' =>
    cases n <;> simp only [Oper.upon] at h ⊢ <;>
      first
        | exact h
        | exact Calls.mono h (fun e w'' he => by
            cases e with
            | returned v => exact he
            | panicked c => exact absurd (hN _ _ _ he) (by simp)
            | outgrown => obtain ⟨a0, w0, h0⟩ := he; exact absurd (hN _ _ _ h0) (by simp))
  | halt x w' => cases x <;> simp only [Oper.upon] at h ⊢ <;> first | exact h | exact absurd (hN _ _ _ h) (by simp)
def guardsLow : List Oper → Nat → Bool
  | [], _ => true
  | o :: l, n => (match o.guard with
    | none => true
    | some (j, _) => Nat.blt j n) && guardsLow l n
theorem guardsLow_ok {n : Nat} : ∀ {l : List Oper}, guardsLow l n = true → ∀ o ∈ l, ∀ j want, o.guard = some (j, want) → j < n
  | [], _, _, hm, _, _, _ => by cases hm
  | x :: l, h, o, hm, j, want, hg => by
    rw [guardsLow, Bool.and_eq_true] at h
    rcases List.mem_cons.1 hm with rfl | hm
    · rw [hg] at h; simpa using h.1
    · exact guardsLow_ok h.2 o hm j want hg
/-- each of the first n is waited for by a later one -/
def sinkOk (ops : Array Oper) (n : Nat) : Bool := Region.sinkB .any ops n
theorem sink_ok {ops : Array Oper} {n : Nat} (h : sinkOk ops n = true) {i : Nat} (hi : i < n) : ∃ j, i < j ∧ j ≤ n ∧ ∃ oj, ops[j]? = some oj ∧ ∃ e ∈ oj.after, Region.binds .any e = true ∧ e.on = i := by
  unfold sinkOk Region.sinkB at h
  rw [List.all_eq_true] at h
  have h1 := h i (List.mem_range.2 hi)
  rw [List.any_eq_true] at h1
  obtain ⟨j, hj, h2⟩ := h1
  simp only [Bool.and_eq_true, decide_eq_true_eq] at h2
  exact ⟨j, h2.1, by have := List.mem_range.1 hj; omega, Region.waitsFor_spec h2.2⟩
theorem push_get {ops : Array Oper} {o : Oper} {i : Nat} (hi : i < ops.size) : (ops.push o)[i]? = ops[i]? := by simp [Array.getElem?_push, Nat.ne_of_lt hi]
theorem listed_push {listed : Array Bool} {i : Nat} {d : Bool} (hi : i < listed.size) : (listed.push false).getD i d = listed.getD i d := by
  simp [Array.getElem?_push, Nat.ne_of_lt hi]
structure Closed (ops : Array Oper) (listed : Array Bool) : Prop where
  size : listed.size = ops.size
  deps : ∀ j oj, ops[j]? = some oj → listed.getD j false = true → ∀ e ∈ oj.after, Region.binds .any e = true → listed.getD e.on false = true
theorem all_of_last {ops : Array Oper} {o : Oper} {listed : Array Bool} (hs : sinkOk (ops.push o) ops.size = true) (hc : Closed ops listed) (hr : ops.size ∈ Region.ready .any (ops.push o) (listed.push false)) : ∀ k i, ops.size - i ≤ k → i < ops.size → listed.getD i false = true := by
  obtain ⟨_, o', ho', hall⟩ := mem_ready.1 hr
  intro k
  induction k with
  | zero => intro i h1 h2; omega
  | succ k ih =>
    intro i h1 h2
    obtain ⟨j, h3, h4, oj, h5, e, h6, h7, h8⟩ := sink_ok hs h2
    rcases Nat.lt_or_ge j ops.size with hj | hj
    · have := hc.deps j oj (by rw [← push_get hj]; exact h5) (ih j (by omega) hj) e h6 h7
      rw [h8] at this; exact this
    · obtain rfl : j = ops.size := by omega
      have e1 : oj = o' := Option.some.inj (h5.symm.trans ho')
      subst e1
      have := hall e h6 h7
      rw [h8, listed_push (by rw [hc.size]; exact h2)] at this
      exact this
theorem all_of_none {ops : Array Oper} {listed : Array Bool} (hc : Closed ops listed) (hb : ∀ j oj, ops[j]? = some oj → ∀ e ∈ oj.after, Region.binds .any e = true → e.on < j) (hr : Region.ready .any ops listed = []) : ∀ i, i < ops.size → listed.getD i false = true := by
  intro i
  induction i using Nat.strongRecOn with
  | _ i ih =>
    intro hi
    cases hl : listed.getD i false with
    | true => rfl
    | false =>
      have : i ∈ Region.ready .any ops listed := by
        refine mem_ready.2 ⟨getD_in (by rw [hc.size]; exact hi) hl, ops[i], Array.getElem?_eq_getElem hi, fun e he hbe => ?_⟩
        have := hb i _ (Array.getElem?_eq_getElem hi) e he hbe
        exact ih e.on this (by omega)
      rw [hr] at this; cases this
theorem getD_other {listed : Array Bool} {i : Nat} (h : listed.getD i false = true) : listed.getD i true = true := by
  rcases Nat.lt_or_ge i listed.size with h' | h'
  · simp [h'] at h ⊢; exact h
  · simp [Array.getElem?_eq_none h'] at h
theorem Closed.set {ops : Array Oper} {listed : Array Bool} (hc : Closed ops listed) {i : Nat} (hi : i ∈ Region.ready .any ops listed) : Closed ops (listed.setIfInBounds i true) := by
  obtain ⟨_, oi, hoi, hall⟩ := mem_ready.1 hi
  refine ⟨by simp [hc.size], fun j oj hj hl e he hb => ?_⟩
  have key : listed.getD e.on false = true := by
    by_cases hij : i = j
    · subst hij
      have : oj = oi := Option.some.inj (hj.symm.trans hoi)
      subst this
      exact hall e he hb
    · rw [getD_set_ne false hij] at hl
      exact hc.deps j oj hj hl e he hb
  by_cases h : i = e.on
  · have : e.on < listed.size := by
      rcases Nat.lt_or_ge e.on listed.size with h' | h'
      · exact h'
      · simp [Array.getElem?_eq_none h'] at key
    rw [← h] at this ⊢
    simp [this]
  · rw [getD_set_ne false h]; exact key
theorem wpAny_pop {ops : Array Oper} {o : Oper} (hN : ∀ e a w, Q e a w → e = .normal) (hg : guardsLow ops.toList ops.size = true) (hs : sinkOk (ops.push o) ops.size = true)
    (hb : ∀ j oj, ops[j]? = some oj → ∀ e ∈ oj.after, Region.binds .any e = true → e.on < j) (hbo : ∀ e ∈ o.after, Region.binds .any e = true → e.on < ops.size)
    (hK : ∀ a w, Q .normal a w → wpOp P (ops.push o) Q' ops.size (fun a' w' => Q' .normal a' w') a w) :
    ∀ (fuel : Nat) (listed : Array Bool) (a : Act) (w : World), Closed ops listed → wpAny P .any ops Q fuel listed a w → wpAny P .any (ops.push o) Q' (fuel + 1) (listed.push false) a w := by
  have hready : ∀ (listed : Array Bool), Closed ops listed → ∀ i, i ∈ Region.ready .any (ops.push o) (listed.push false) → i = ops.size ∨ i ∈ Region.ready .any ops listed := by
    intro listed hc i hi
    obtain ⟨h1, oi, h2, h3⟩ := mem_ready.1 hi
    have hlt := (Array.getElem?_eq_some_iff.1 h2).1
    rw [Array.size_push] at hlt
    rcases Nat.lt_or_ge i ops.size with h | h
    · rw [push_get h] at h2
      refine .inr (mem_ready.2 ⟨by rw [← listed_push (by rw [hc.size]; exact h)]; exact h1, oi, h2, fun e he hbe => ?_⟩)
      have := h3 e he hbe
      rw [listed_push (by rw [hc.size]; have := hb i oi h2 e he hbe; omega)] at this
      exact this
    · exact .inl (by omega)
  have hready2 : ∀ (listed : Array Bool), Closed ops listed → ∀ i, i ∈ Region.ready .any ops listed → i ∈ Region.ready .any (ops.push o) (listed.push false) := by
    intro listed hc i hi
    obtain ⟨h1, oi, h2, h3⟩ := mem_ready.1 hi
    have hlt := (Array.getElem?_eq_some_iff.1 h2).1
    refine mem_ready.2 ⟨by rw [listed_push (by rw [hc.size]; exact hlt)]; exact h1, oi, by rw [push_get hlt]; exact h2, fun e he hbe => ?_⟩
    rw [listed_push (by rw [hc.size]; have := hb i oi h2 e he hbe; omega)]
    exact h3 e he hbe
  have hend : ∀ (fuel : Nat) (listed : Array Bool) (a : Act) (w : World), Closed ops listed → Region.ready .any ops listed = [] → Q .normal a w → wpAny P .any (ops.push o) Q' (fuel + 1) (listed.push false) a w := by
    intro fuel listed a w hc hr hq
    have hall := all_of_none hc hb hr
    have hn : ops.size ∈ Region.ready .any (ops.push o) (listed.push false) := by
      refine mem_ready.2 ⟨?_, o, by simp, fun e he hbe => ?_⟩
      · rw [← hc.size]; simp
      · have := hbo e he hbe
        rw [listed_push (by rw [hc.size]; exact this)]
        exact hall _ this
    refine ⟨fun h0 => (by rw [h0] at hn; cases hn), fun i hi => ?_⟩
    rcases hready listed hc i hi with rfl | h
    · refine wpOp_mono (fun a' w' h => wpAny_done ?_ h fuel) (hK a w hq)
      apply List.eq_nil_iff_forall_not_mem.2
      intro j hj
      obtain ⟨h1, oj, h2, _⟩ := mem_ready.1 hj
      have hlt := (Array.getElem?_eq_some_iff.1 h2).1
      rw [Array.size_push] at hlt
      by_cases hjn : ops.size = j
      · subst hjn
        rw [← hc.size] at h1
        simp at h1
      · rw [getD_set_ne true hjn, listed_push (by rw [hc.size]; omega), getD_other (hall j (by omega))] at h1
        cases h1
    · rw [hr] at h; cases h
  intro fuel
  induction fuel with
  | zero => intro listed a w hc h; exact hend 0 listed a w hc h.1 h.2
  | succ fuel ih =>
    intro listed a w hc h
    by_cases hr : Region.ready .any ops listed = []
    · exact hend (fuel + 1) listed a w hc hr (h.1 hr)
    · refine ⟨fun h0 => ?_, fun i hi => ?_⟩
      · obtain ⟨i, hi⟩ := List.exists_mem_of_ne_nil _ hr
        have := hready2 listed hc i hi
        rw [h0] at this; cases this
      · rcases hready listed hc i hi with rfl | h1
        · exfalso
          apply hr
          apply List.eq_nil_iff_forall_not_mem.2
          intro j hj
          obtain ⟨h1, oj, h2, _⟩ := mem_ready.1 hj
          have hlt := (Array.getElem?_eq_some_iff.1 h2).1
          rw [getD_other (all_of_last hs hc hi ops.size j (by omega) hlt)] at h1
          cases h1
        · have h2 := h.2 i h1
          obtain ⟨_, oi, hoi, _⟩ := mem_ready.1 h1
          have hlt := (Array.getElem?_eq_some_iff.1 hoi).1
          have hset : (listed.push false).setIfInBounds i true = (listed.setIfInBounds i true).push false := by
            apply Array.ext'
            rw [Array.toList_setIfInBounds, Array.toList_push, Array.toList_push, Array.toList_setIfInBounds, List.set_append_left _ _ (by rw [Array.length_toList, hc.size]; exact hlt)]
          have hwant : Region.wanted oi (yielded (ops.push o) a.tmps) = Region.wanted oi (yielded ops a.tmps) := by
            unfold Region.wanted
            cases hgd : oi.guard with
            | none => rfl
            | some g =>
              obtain ⟨j, want⟩ := g
              have hj := guardsLow_ok hg oi (Array.mem_toList_iff.2 (Array.mem_of_getElem? hoi)) j want hgd
              simp only [yielded, push_get hj]
          have hmono : ∀ a' w', wpAny P .any ops Q fuel (listed.setIfInBounds i true) a' w' → wpAny P .any (ops.push o) Q' (fuel + 1) ((listed.push false).setIfInBounds i true) a' w' := fun a' w' h' => by
            rw [hset]; exact ih _ a' w' (hc.set h1) h'
          unfold wpOp at h2 ⊢
          rw [push_get hlt]
          simp only [hoi] at h2 ⊢
          rw [hwant]
          split
          · rename_i hw
            simp only [hw, if_true] at h2
            rcases h2 with h2 | ⟨_, a0, w0, h0⟩
            · exact .inl (wp_anyQ hN (Oper.wp_mono hmono h2))
            · exact absurd (hN _ _ _ h0) (by simp)
          · rename_i hw
            simp only [hw] at h2
            exact hmono _ _ (by simpa using h2)
end
theorem hard_any {P : Program} [ExtOk P] {rec : Req → Stt → Option (Out × Stt)} (hS : Snd P rec) (ops : Array Oper) (s : Stt) (out : Out) (s' : Stt) (hd : drawOk ops = true)
    (h : evDraw P rec ops ops.toList (pres ops.toList []) 0 s.mem.next [] s = some (out, s')) : ∀ μ0 m0 w0 μ w a, Ok μ0 m0 w0 μ s.mem w → FrR μ s.mem.next s.fr s.size a → wpAny P .any ops (Post μ0 m0 w0 out s') ops.size (Array.replicate ops.size false) a { w with drawn := w.drawn + 1 } := by
  intro μ0 m0 w0 μ w a hok hF
  obtain ⟨st, h0, hsteps, rfl, hN, hfin, hs'⟩ := trace (MS := pres ops.toList []) ops.toList _ 0 s.mem.next [] s h (fun j => by simp) (fun j => by simp)
  simp only [Array.length_toList, Nat.zero_add] at hsteps hfin hs'
  have hdr : Ok μ s.mem w μ s.mem { w with drawn := w.drawn + 1 } := Ok.drawn hok.rep rfl rfl rfl rfl
  have hok' := hok.trans hdr
  have hB : Begin ops (pres ops.toList []) st 0 NoX μ { w with drawn := w.drawn + 1 } := ⟨hd, rfl, by rw [h0]; exact hdr.rep, by rw [h0], by unfold nx; rw [h0], hF.glob, by unfold nx; rw [h0]; exact hF.big, fun _ _ _ h => h⟩
  have hSI := SI.start (P := P) (rec := rec) hB (by unfold nx; rw [h0]; exact hF)
  have hTn : (fun _ : Nat => False) = fun j => 0 ≤ j ∧ (Array.replicate ops.size false).getD j false = true := by
    funext j
    apply propext
    constructor
    · intro h; exact h.elim
    · rintro ⟨_, h2⟩
      rw [Array.getD_eq_getD_getElem?, Array.getElem?_replicate] at h2
      split at h2 <;> simp at h2
  rw [hTn] at hSI
  refine any_ok hS (fun k hk => hsteps k (Nat.zero_le _) hk) hfin hs' ops.size _ 0 μ _ μ _ a (by simp) (Nat.zero_le _) (fun j hj => by omega) (fun j o hj => ?_) hB (by rw [h0]; exact hok') hSI ?_
  · rw [Array.getD_eq_getD_getElem?, Array.getElem?_replicate] at hj
    split at hj <;> simp at hj
  · unfold unl
    exact Nat.le_trans (List.length_filter_le _ _) (by simp)

def splitLast : List Oper → Option (List Oper × Oper)
  | [] => none
  | [o] => some ([], o)
  | x :: l => match splitLast l with
    | some (p, o) => some (x :: p, o)
    | none => none
theorem splitLast_ok : ∀ {l p : List Oper} {o : Oper}, splitLast l = some (p, o) → l = p ++ [o]
  | [], _, _, h => by cases h
  | [x], p, o, h => by
    simp only [splitLast, Option.some.injEq, Prod.mk.injEq] at h
    obtain ⟨rfl, rfl⟩ := h
    rfl
  | x :: y :: l, p, o, h => by
    rw [splitLast] at h
    split at h
    · rename_i p0 o0 h0
      simp only [Option.some.injEq, Prod.mk.injEq] at h
      obtain ⟨rfl, rfl⟩ := h
      rw [splitLast_ok h0]; rfl
    · cases h
    · simp
def popE (P : Program) (ro : Nat) (rec : Req → Stt → Option (Out × Stt)) (ops : Array Oper) (fr : Tr Value) (n : Nat) (m : Mem) (os : Objs) : Option (Stt × Objs) := match splitLast ops.toList with
  | some (l, o) => match drawOk ⟨l⟩ && (guardsLow l l.length && (sinkOk ops l.length && edgesOk l.length o.after.toList)) with
    | true => match evDraw P rec ⟨l⟩ l (pres l []) 0 m.next [] ⟨fr, n, m⟩ with
      | some (.norm, ⟨fr1, n1, m1⟩) => match wantedE ops o fr1 with
        | some true => match objOp P ro fr1 m1 os o with
          | some eff => putEff fr1 n1 o eff
          | none => none
        | _ => none
      | _ => none
    | false => none
  | none => none
theorem popE_ok {P : Program} [ExtOk P] (hm : P.follows .mixedOrders = true) {rec : Req → Stt → Option (Out × Stt)} (hS : Snd P rec) {id : Nat} {ops : Array Oper} {ro : Nat} {M0 : Map} {W : World} {μ : Map} {m : Mem} {w : World} {os os' : Objs} {fr : Tr Value} {n : Nat} {a : Act} {s' : Stt} (h : popE P ro rec ops fr n m os = some (s', os'))
    (hT : Top W μ m w) (hi : ObjsR ro M0 os W μ m w) (hF : FrR μ m.next fr n a) :
    (Code.region id ops true).wp P (fun e a' w' => e = .normal ∧ ∃ μ', OGo ro M0 W μ m w os μ' s'.mem w' os' ∧ FrR μ' s'.mem.next s'.fr s'.size a') a w := by
  unfold popE at h
  split at h
  rotate_left
  · cases h
  rename_i l o hsp
  split at h
  rotate_left
  · cases h
  rename_i hc
  simp only [Bool.and_eq_true] at hc
  obtain ⟨c1, c2, c3, c4⟩ := hc
  split at h
  rotate_left
  · cases h
  rename_i fr1 n1 m1 hev
  split at h
  rotate_left
  · cases h
  rename_i hwe
  split at h
  rotate_left
  · cases h
  rename_i eff heff
  have hops : ops = (⟨l⟩ : Array Oper).push o := by
    apply Array.ext'
    rw [splitLast_ok hsp, Array.toList_push]
  subst hops
  have hb : ∀ j oj, (⟨l⟩ : Array Oper)[j]? = some oj → ∀ e ∈ oj.after, Region.binds .any e = true → e.on < j := fun j oj hj e he hbe => by
    have h2 := (allOk_spec c1 j oj (by simpa using hj)).1
    rw [Nat.zero_add] at h2
    exact edgesOk_mem h2 e (by simpa using he) hbe
  have hall := hard_any hS ⟨l⟩ ⟨fr, n, m⟩ .norm ⟨fr1, n1, m1⟩ c1 hev μ m w μ w a (.refl hT.rep) hF
  refine wp_region_any hm ?_
  have hrep : Array.replicate ((⟨l⟩ : Array Oper).push o).size false = (Array.replicate (⟨l⟩ : Array Oper).size false).push false := by
    rw [Array.size_push, Array.replicate_succ]
  rw [hrep, Array.size_push]
  refine wpAny_pop (Q := Post μ m w .norm ⟨fr1, n1, m1⟩) (fun e a w hp => hp.1) c2 c3 hb (fun e he hbe => edgesOk_mem c4 e (by simpa using he) hbe) ?_ _ _ _ _ ⟨by simp, fun j oj hj hl e he hbe => ?_⟩ hall
  · rintro a1 w1 ⟨_, μ1, hok, hF1⟩
    have hT1 := hT.step hok
    have hi1 := ObjsR.kept ro M0 os W hT hok hi
    have hd := objOp_ok (P := P) (o := o) hT1 hi1 hF1 heff
    have hg0 : OGo ro M0 W μ m w os μ1 m1 w1 os := ⟨hT1, hi1, hok.next, hok.mu⟩
    unfold wpOp
    have hlast : ((⟨l⟩ : Array Oper).push o)[(⟨l⟩ : Array Oper).size]? = some o := by simp
    simp only [hlast, wanted_eq (ops := (⟨l⟩ : Array Oper).push o) hF1 o true hwe, if_true]
    refine .inl ?_
    unfold Oper.wp
    cases eff with
    | val v m2 os2 =>
      obtain ⟨μ', w', v', hrun, hst, hv⟩ := hd
      simp only [putEff] at h
      split at h
      rotate_left
      · cases h
      rename_i s hput
      simp only [Option.some.injEq, Prod.mk.injEq] at h
      obtain ⟨rfl, rfl⟩ := h
      obtain ⟨fr2, e, hF2⟩ := put_ok hput (hF1.far hst.go.next hst.go.mu) hv
      simp only [Option.some.injEq] at e
      subst e
      rw [hrun]
      exact ⟨by trivial, μ', ⟨hst.go.top, hst.go.obj, Nat.le_trans hg0.next hst.go.next, fun b hb => (hst.go.mu b (Nat.lt_of_lt_of_le hb hg0.next)).trans (hg0.mu b hb)⟩, hF2⟩
    | unit m2 os2 =>
      obtain ⟨μ', w', hrun, hst⟩ := hd
      simp only [putEff] at h
      split at h
      rotate_left
      · cases h
      rename_i s hput
      simp only [Option.some.injEq, Prod.mk.injEq] at h
      obtain ⟨rfl, rfl⟩ := h
      obtain ⟨fr2, e, hF2⟩ := put_ok hput (hF1.far hst.go.next hst.go.mu) .undef
      simp only [Option.some.injEq] at e
      subst e
      rw [hrun]
      exact ⟨by trivial, μ', ⟨hst.go.top, hst.go.obj, Nat.le_trans hg0.next hst.go.next, fun b hb => (hst.go.mu b (Nat.lt_of_lt_of_le hb hg0.next)).trans (hg0.mu b hb)⟩, hF2⟩
  · rw [Array.getD_eq_getD_getElem?, Array.getElem?_replicate] at hl
    split at hl <;> simp at hl
end
end Go.Proofs.YtloolljoelngcaaGreat
