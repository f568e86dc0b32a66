/-
  A region that draws its order, each operation looked at once: what it leaves in its slot stays so; in every order all of it is there at the end. No program in sight.
-/
import Derived.Orders
import Derived.Below
import Derived.KernelRfl
import Derived.WalkKit
import Derived.WalkSpells
import Derived.Lib.Hide
import Derived.Laws.OwnMore
import Derived.Laws.Rows
import Derived.Maps.AppendAt
import Derived.Deep.AppendLies
import Derived.Deep.Draws
import Derived.RegionTactic
import Derived.OwnWalk
import Derived.Laws.CopyRow
import Derived.Test.YtajnnkapgnmoaaaGreatRows
import Derived.WalkLawsBesides
import Derived.Deep.QuietTactic
import Derived.BigQuiet
import Derived.Deep.RegionHeld3
import Derived.Laws.StructEq
import Derived.Laws.FloatArith
import Derived.Laws.Cover3
import GoSem.Extern.MathFloor
import Derived.Sort.LotA
import Derived.Sort.Lot0
set_option linter.unusedVariables false
set_option linter.unusedSimpArgs false
set_option linter.unusedVariables false
namespace Go.Proofs.YtajnnkapgnmoaaaGreat
namespace EachKit
open Go.RowKit

/-! ### what is ahead of an operation -/
def listNat : List Nat → Nat → Nat
  | [], _ => 0
  | n :: _, 0 => n
  | _ :: l, n + 1 => listNat l n
def preE (acc : List Nat) : List Edge → Nat
  | [] => 0
  | e :: l => match Region.binds .any e with
    | true => (2 ^ e.on ||| listNat acc e.on) ||| preE acc l
    | false => preE acc l
def pres : List Oper → List Nat → List Nat
  | [], acc => acc
  | o :: l, acc => pres l (acc ++ [preE acc o.after.toList])
def dirE (k : Nat) : List Edge → Bool
  | [] => false
  | e :: l => match Region.binds .any e && Nat.beq e.on k with
    | true => true
    | false => dirE k l
def edgesOk (i : Nat) : List Edge → Bool
  | [] => true
  | e :: l => match Region.binds .any e, Nat.blt e.on i with
    | true, false => false
    | _, _ => edgesOk i l
def dstOk (o : Oper) (i : Nat) (looks : List Tmp) : List Oper → Nat → Bool
  | [], _ => true
  | p :: l, k => match Nat.beq k i || match p.dst with
      | none => true
      | some d => (match o.dst with
          | some e => !(Nat.beq d e)
          | none => true) && (!(looks.contains d) || dirE k o.after.toList || dirE i p.after.toList) with
    | true => dstOk o i looks l (Nat.succ k)
    | false => false
def allOk (ops : Array Oper) : List Oper → Nat → Bool
  | [], _ => true
  | o :: l, i => match edgesOk i o.after.toList && dstOk o i (o.looksAt ops) ops.toList 0 && (match o.op with
      | .select .. => false
      | _ => true) with
    | true => allOk ops l (Nat.succ i)
    | false => false
def drawOk (ops : Array Oper) : Bool := allOk ops ops.toList 0
theorem listNat_get : ∀ (l : List Nat) (i m : Nat), l[i]? = some m → listNat l i = m
  | [], i, m, h => by simp at h
  | x :: l, 0, m, h => by simpa [listNat] using h
  | x :: l, i + 1, m, h => by rw [listNat]; exact listNat_get l i m (by simpa using h)
theorem preE_spec (acc : List Nat) : ∀ (l : List Edge) (j : Nat), (preE acc l).testBit j = true → ∃ e ∈ l, Region.binds .any e = true ∧ (j = e.on ∨ (listNat acc e.on).testBit j = true)
  | [], j, h => by simp [preE] at h
  | e :: l, j, h => by
    rw [preE] at h
    cases hb : Region.binds .any e with
    | true =>
      rw [hb] at h
      simp only [Nat.testBit_or, Bool.or_eq_true] at h
      rcases h with (h | h) | h
      · rw [Nat.testBit_two_pow] at h
        exact ⟨e, List.mem_cons_self, hb, .inl (by have := of_decide_eq_true h; omega)⟩
      · exact ⟨e, List.mem_cons_self, hb, .inr h⟩
      · obtain ⟨e', he, h'⟩ := preE_spec acc l j h
        exact ⟨e', List.mem_cons_of_mem _ he, h'⟩
    | false =>
      rw [hb] at h
      obtain ⟨e', he, h'⟩ := preE_spec acc l j h
      exact ⟨e', List.mem_cons_of_mem _ he, h'⟩
theorem pres_spec : ∀ (l : List Oper) (acc : List Nat), ∃ new, pres l acc = acc ++ new ∧ new.length = l.length ∧ ∀ (k : Nat) o, l[k]? = some o → new[k]? = some (preE (acc ++ new.take k) o.after.toList)
  | [], acc => ⟨[], by simp [pres], rfl, fun k o h => by simp at h⟩
  | o :: l, acc => by
    obtain ⟨new, h1, h2, h3⟩ := pres_spec l (acc ++ [preE acc o.after.toList])
    refine ⟨preE acc o.after.toList :: new, by rw [pres, h1]; simp, by simp [h2], fun k p hp => ?_⟩
    cases k with
    | zero => simp at hp; subst hp; simp
    | succ k =>
      have := h3 k p (by simpa using hp)
      simpa using this
theorem pres_get (ops : Array Oper) {k : Nat} {o : Oper} (h : ops[k]? = some o) :
    (pres ops.toList [])[k]? = some (preE ((pres ops.toList []).take k) o.after.toList) := by
  obtain ⟨new, h1, h2, h3⟩ := pres_spec ops.toList []
  have := h3 k o (by simpa using h)
  rw [h1]
  simpa using this
theorem dirE_mem {k : Nat} : ∀ {l : List Edge}, dirE k l = true → ∃ e ∈ l, Region.binds .any e = true ∧ e.on = k
  | [], h => by simp [dirE] at h
  | x :: l, h => by
    rw [dirE] at h
    cases hc : Region.binds .any x && Nat.beq x.on k with
    | true =>
      rw [Bool.and_eq_true, Nat.beq_eq] at hc
      exact ⟨x, List.mem_cons_self, hc.1, hc.2⟩
    | false =>
      rw [hc] at h
      obtain ⟨e, he, h'⟩ := dirE_mem h
      exact ⟨e, List.mem_cons_of_mem _ he, h'⟩
theorem edgesOk_mem {i : Nat} : ∀ {l : List Edge}, edgesOk i l = true → ∀ e ∈ l, Region.binds .any e = true → e.on < i
  | [], _, e, h, _ => by simp at h
  | x :: l, hh, e, h, hb => by
    rw [edgesOk] at hh
    rcases List.mem_cons.1 h with rfl | h
    · cases hx : Nat.blt e.on i with
      | false => rw [hb, hx] at hh; simp at hh
      | true => simpa [Nat.blt_eq] using hx
    · split at hh
      · simp at hh
      · exact edgesOk_mem hh e h hb
theorem dstOk_spec {o : Oper} {i : Nat} {looks : List Tmp} : ∀ {l : List Oper} {k : Nat}, dstOk o i looks l k = true → ∀ (j : Nat) p d, l[j]? = some p → k + j ≠ i → p.dst = some d →
    o.dst ≠ some d ∧ (d ∈ looks → (∃ e ∈ o.after, Region.binds .any e = true ∧ e.on = k + j) ∨ (∃ e ∈ p.after, Region.binds .any e = true ∧ e.on = i))
  | [], k, _, j, p, d, h, _, _ => by simp at h
  | q :: l, k, hh, j, p, d, h, hne, hd => by
    rw [dstOk] at hh
    split at hh
    · rename_i hc
      cases j with
      | zero =>
        simp at h
        subst h
        rw [Bool.or_eq_true, Nat.beq_eq] at hc
        rcases hc with hc | hc
        · omega
        · rw [hd] at hc
          simp only [Bool.and_eq_true, Bool.or_eq_true] at hc
          obtain ⟨c1, c2⟩ := hc
          refine ⟨?_, fun hl => ?_⟩
          · intro e
            rw [e] at c1
            simp at c1
          · rcases c2 with (c2 | c2) | c2
            · simp at c2; exact absurd hl c2
            · obtain ⟨e, he, h'⟩ := dirE_mem c2; exact .inl ⟨e, by simpa using he, h'⟩
            · obtain ⟨e, he, h'⟩ := dirE_mem c2; exact .inr ⟨e, by simpa using he, h'⟩
      | succ j =>
        have := dstOk_spec hh j p d (by simpa using h) (by omega) hd
        rw [show k + (j + 1) = k.succ + j from by omega]
        exact this
    · simp at hh
theorem allOk_spec {ops : Array Oper} : ∀ {l : List Oper} {k : Nat}, allOk ops l k = true → ∀ (j : Nat) o, l[j]? = some o →
    edgesOk (k + j) o.after.toList = true ∧ dstOk o (k + j) (o.looksAt ops) ops.toList 0 = true ∧ ∀ cs b, o.op ≠ .select cs b
  | [], k, _, j, o, h => by simp at h
  | q :: l, k, hh, j, o, h => by
    rw [allOk] at hh
    split at hh
    · rename_i hc
      cases j with
      | zero =>
        simp at h
        subst h
        simp only [Bool.and_eq_true] at hc
        refine ⟨hc.1.1, hc.1.2, fun cs b e => ?_⟩
        rw [e] at hc
        simp at hc
      | succ j =>
        have := allOk_spec hh j o (by simpa using h)
        rw [show k + (j + 1) = k.succ + j from by omega]
        exact this
    · simp at hh
theorem pre_closed {ops : Array Oper} (hok : drawOk ops = true) {S : Nat → Prop} (hS : ∀ j o, S j → ops[j]? = some o → ∀ e ∈ o.after, Region.binds .any e = true → S e.on) :
    ∀ (i : Nat) (o : Oper) (m : Nat), ops[i]? = some o → (pres ops.toList [])[i]? = some m → (∀ e ∈ o.after, Region.binds .any e = true → S e.on) → ∀ j, m.testBit j = true → S j ∧ j < i := by
  intro i
  induction i using Nat.strongRecOn with
  | _ i ih =>
    intro o m ho hm hpre j hj
    rw [pres_get ops ho] at hm
    obtain rfl := Option.some.inj hm
    obtain ⟨e, he, hb, h⟩ := preE_spec _ _ _ hj
    have hlt : e.on < i := by
      have := (allOk_spec hok i o (by simpa using ho)).1
      rw [Nat.zero_add] at this
      exact edgesOk_mem this e he hb
    have hSe := hpre e (by simpa using he) hb
    rcases h with rfl | h
    · exact ⟨hSe, hlt⟩
    · have hi : i < ops.size := (Array.getElem?_eq_some_iff.1 ho).1
      have hoe : ops[e.on]? = some ops[e.on] := Array.getElem?_eq_getElem (by omega)
      have hme := pres_get ops hoe
      have h2 : ((pres ops.toList []).take i)[e.on]? = some (preE ((pres ops.toList []).take e.on) ops[e.on].after.toList) := by
        rw [List.getElem?_take, if_pos hlt]; exact hme
      rw [listNat_get _ _ _ h2] at h
      obtain ⟨h3, h4⟩ := ih e.on hlt _ _ hoe hme (hS e.on _ hSe hoe) j h
      exact ⟨h3, by omega⟩
theorem getD_lt {listed : Array Bool} {j : Nat} (h : listed.getD j false = true) : j < listed.size := by
  rcases Nat.lt_or_ge j listed.size with h' | h'
  · exact h'
  · rw [Array.getD_eq_getD_getElem?, Array.getElem?_eq_none h'] at h; simp at h
theorem getD_tf {listed : Array Bool} {j : Nat} (h : j < listed.size) (b b' : Bool) : listed.getD j b = listed.getD j b' := by
  simp [Array.getD_eq_getD_getElem?, h]
def unl (listed : Array Bool) : Nat := (listed.toList.filter fun b => !b).length
theorem filter_set : ∀ (l : List Bool) (i : Nat), l[i]? = some false → ((l.set i true).filter fun b => !b).length + 1 = (l.filter fun b => !b).length
  | [], i, h => by simp at h
  | b :: l, 0, h => by simp at h; subst h; simp
  | b :: l, i + 1, h => by
    have := filter_set l i (by simpa using h)
    cases b <;> simp <;> omega
theorem unl_set {listed : Array Bool} {i : Nat} (h : listed.getD i true = false) : unl (listed.setIfInBounds i true) + 1 = unl listed := by
  have hi : listed.toList[i]? = some false := by
    rw [Array.getD_eq_getD_getElem?] at h
    rw [Array.getElem?_toList]
    cases hg : listed[i]? with
    | none => rw [hg] at h; simp at h
    | some b => rw [hg] at h; simp at h; rw [h]
  have := filter_set _ _ hi
  unfold unl
  simpa using this
theorem unl_zero {listed : Array Bool} (h : unl listed = 0) {j : Nat} (hj : j < listed.size) : listed.getD j false = true := by
  unfold unl at h
  have h0 := List.eq_nil_of_length_eq_zero h
  rw [List.filter_eq_nil_iff] at h0
  have := h0 listed[j] (by simp)
  rw [Array.getD_eq_getD_getElem?, Array.getElem?_eq_getElem hj]
  simpa using this

section
variable {P : Program} {ops : Array Oper} {Q : Exit → Act → World → Prop}
/-- the frame as it was, but for the slots that the region writes -/
structure Like (ds : List (Option Tmp)) (a0 a : Act) : Prop where
  size : a.tmps.size = a0.tmps.size
  defers : a.defers = a0.defers
  keep : ∀ t, some t ∉ ds → a.tmps.getD t undef = a0.tmps.getD t undef
theorem Like.old {ds : List (Option Tmp)} {a0 a : Act} (h : Like ds a0 a) {t : Nat} {v : Value} (hn : (ds.contains (some t)) = false) (hv : a0.tmps.getD t undef = v) : a.tmps.getD t undef = v := by
  rw [h.keep t (fun hm => by rw [List.contains_eq_mem] at hn; simp [hm] at hn)]
  exact hv
/-- the slot of operation j holds something of which R j is true -/
def Knows (ds : List (Option Tmp)) (R : Nat → Value → World → Prop) (a : Act) (w : World) (j : Nat) : Prop :=
  ∃ v, (∀ d, ds[j]? = some (some d) → a.tmps.getD d undef = v) ∧ R j v w
theorem Knows.slot {ds : List (Option Tmp)} {R : Nat → Value → World → Prop} {a : Act} {w : World} {j d : Nat} (h : Knows ds R a w j) (hd : ds[j]? = some (some d)) : ∃ v, a.tmps.getD d undef = v ∧ R j v w := by
  obtain ⟨v, h1, h2⟩ := h
  exact ⟨v, h1 d hd, h2⟩
/-- where R says what the value is -/
theorem Knows.is {ds : List (Option Tmp)} {R : Nat → Value → World → Prop} {a : Act} {w : World} {j d : Nat} {u : Value} (h : Knows ds R a w j) (hd : ds[j]? = some (some d)) (hR : ∀ v, R j v w → v = u) : a.tmps.getD d undef = u := by
  obtain ⟨v, h1, h2⟩ := h
  exact (h1 d hd).trans (hR v h2)
theorem wanted_of {o : Oper} {a : Act} {j d : Nat} {b : Bool} (hg : o.guard = some (j, b)) (hd : (ops[j]?).bind (·.dst) = some d) (hs : a.tmps.getD d undef = .bool b) : Region.wanted o (yielded ops a.tmps) = true := by
  unfold Region.wanted
  rw [hg]
  simp only
  unfold yielded
  rw [hd]
  simp only [Option.bind_some]
  rw [Array.getD_eq_getD_getElem?] at hs
  cases ht : a.tmps[d]? with
  | none => rw [ht] at hs; simp [undef] at hs
  | some u => rw [ht] at hs; simp only [Option.getD_some] at hs; rw [hs]; simp
theorem wanted_none {o : Oper} {a : Act} (hg : o.guard = none) : Region.wanted o (yielded ops a.tmps) = true := by
  unfold Region.wanted
  rw [hg]
/-- what is to be shown of one operation -/
def OpGoal (P : Program) (ops : Array Oper) (Q : Exit → Act → World → Prop) (ds : List (Option Tmp)) (R : Nat → Value → World → Prop) (a0 : Act) (w0 : World) (i : Nat) (o : Oper) (m : Nat) : Prop :=
  ∀ (a : Act) (w : World), Below w0.heap.size w0 w → Like ds a0 a → (∀ j, m.testBit j = true → Knows ds R a w j) →
    ∀ K : Act → World → Prop, (∀ v w', Below w.heap.size w w' → R i v w' → K (a.put o.dst v) w') →
      if Region.wanted o (yielded ops a.tmps) = true then o.wp P a w K Q else K (a.put o.dst undef) w
theorem OpGoal.wanted {ds : List (Option Tmp)} {R : Nat → Value → World → Prop} {a0 : Act} {w0 : World} {i m : Nat} {o : Oper} (hw : ∀ (a : Act) (w : World), Like ds a0 a → (∀ j, m.testBit j = true → Knows ds R a w j) → Region.wanted o (yielded ops a.tmps) = true)
    (h : ∀ (a : Act) (w : World), Below w0.heap.size w0 w → Like ds a0 a → (∀ j, m.testBit j = true → Knows ds R a w j) →
      ∀ K : Act → World → Prop, (∀ v w', Below w.heap.size w w' → R i v w' → K (a.put o.dst v) w') → o.wp P a w K Q) : OpGoal P ops Q ds R a0 w0 i o m := by
  intro a w h1 h2 h3 K hK
  rw [if_pos (hw a w h2 h3)]
  exact h a w h1 h2 h3 K hK
def Each (F : Nat → Oper → Nat → Prop) : List Oper → List Nat → Nat → Prop
  | o :: l, m :: ms, i => F i o m ∧ Each F l ms (i + 1)
  | _, _, _ => True
theorem Each.cons {F : Nat → Oper → Nat → Prop} {o : Oper} {l : List Oper} {m : Nat} {ms : List Nat} {i : Nat} (h : F i o m) (t : Each F l ms (i + 1)) : Each F (o :: l) (m :: ms) i := ⟨h, t⟩
theorem Each.get {F : Nat → Oper → Nat → Prop} : ∀ {l : List Oper} {ms : List Nat} {i : Nat}, Each F l ms i → ∀ (k : Nat) o m, l[k]? = some o → ms[k]? = some m → F (i + k) o m
  | [], _, _, _, k, o, m, h, _ => by simp at h
  | _ :: _, [], _, _, k, o, m, _, h => by simp at h
  | p :: l, q :: ms, i, hE, 0, o, m, h1, h2 => by
    simp at h1 h2
    subst h1 h2
    exact hE.1
  | p :: l, q :: ms, i, hE, k + 1, o, m, h1, h2 => by
    have := Each.get hE.2 k o m (by simpa using h1) (by simpa using h2)
    rwa [show i + 1 + k = i + (k + 1) from by omega] at this

theorem put_like {ds : List (Option Tmp)} {a0 a : Act} {o : Oper} {i : Nat} (hds : ops.toList.map (·.dst) = ds) (ho : ops[i]? = some o) (h : Like ds a0 a) (v : Value) : Like ds a0 (a.put o.dst v) := by
  refine ⟨?_, ?_, fun t ht => ?_⟩
  · rw [← h.size]; cases o.dst <;> simp [Act.put]
  · rw [← h.defers]; cases o.dst <;> rfl
  · rw [← h.keep t ht]
    cases hd : o.dst with
    | none => rfl
    | some d =>
      have hne : d ≠ t := fun e => ht (by
        rw [← hds, ← e, ← hd]
        exact List.mem_map.2 ⟨o, by have := Array.mem_of_getElem? ho; simpa using this, rfl⟩)
      simp [Act.put, Array.getD_eq_getD_getElem?, Array.getElem?_setIfInBounds_ne hne]
theorem ds_get {ds : List (Option Tmp)} (hds : ops.toList.map (·.dst) = ds) {i : Nat} {o : Oper} (ho : ops[i]? = some o) : ds[i]? = some o.dst := by
  rw [← hds, List.getElem?_map]
  have : ops.toList[i]? = some o := by simpa using ho
  rw [this]
  rfl

theorem any_each {ds : List (Option Tmp)} {R : Nat → Value → World → Prop} {a0 : Act} {w0 : World} (hok : drawOk ops = true) (hds : ops.toList.map (·.dst) = ds) (hsz : ∀ d, some d ∈ ds → d < a0.tmps.size)
    (hR : ∀ i v w w', Below w.heap.size w w' → R i v w → R i v w')
    (each : Each (fun i o m => OpGoal P ops Q ds R a0 w0 i o m) ops.toList (pres ops.toList []) 0)
    (fin : ∀ a w, Below w0.heap.size w0 w → Like ds a0 a → (∀ j, j < ops.size → Knows ds R a w j) → Q .normal a w) :
    ∀ (fuel : Nat) (listed : Array Bool) (a : Act) (w : World), listed.size = ops.size →
      (∀ (j : Nat) o, listed.getD j false = true → ops[j]? = some o → ∀ e ∈ o.after, Region.binds .any e = true → listed.getD e.on false = true) →
      unl listed ≤ fuel → Below w0.heap.size w0 w → Like ds a0 a → (∀ j, listed.getD j false = true → Knows ds R a w j) → wpAny P .any ops Q fuel listed a w := by
  have done : ∀ (listed : Array Bool) (a : Act) (w : World), (∀ j, j < ops.size → listed.getD j false = true) → Below w0.heap.size w0 w → Like ds a0 a → (∀ j, listed.getD j false = true → Knows ds R a w j) → Q .normal a w :=
    fun listed a w hall h1 h2 h3 => fin a w h1 h2 fun j hj => h3 j (hall j hj)
  intro fuel
  induction fuel with
  | zero =>
    intro listed a w hsz' hcl hu hb hl hk
    have hall : ∀ j, j < ops.size → listed.getD j false = true := fun j hj => unl_zero (by omega) (by omega)
    refine ⟨?_, done listed a w hall hb hl hk⟩
    cases hr : Region.ready .any ops listed with
    | nil => rfl
    | cons i l =>
      have hi : i ∈ Region.ready .any ops listed := by rw [hr]; exact List.mem_cons_self
      obtain ⟨h1, o, h2, _⟩ := mem_ready.1 hi
      have hlt : i < ops.size := (Array.getElem?_eq_some_iff.1 h2).1
      rw [getD_tf (by omega) true false, hall i hlt] at h1
      cases h1
  | succ fuel ih =>
    intro listed a w hsz' hcl hu hb hl hk
    refine ⟨fun hr => ?_, fun i hi => ?_⟩
    · have hall : ∀ j, j < ops.size → listed.getD j false = true := by
        intro j
        induction j using Nat.strongRecOn with
        | _ j ihj =>
          intro hj
          cases hx : listed.getD j false with
          | true => rfl
          | false =>
            exfalso
            have hm : j ∈ Region.ready .any ops listed := mem_ready.2 ⟨by rw [getD_tf (by omega) true false]; exact hx, ops[j], Array.getElem?_eq_getElem hj, fun e he hbd => by
              have hlt : e.on < j := by
                have := (allOk_spec hok j ops[j] (by simp)).1
                rw [Nat.zero_add] at this
                exact edgesOk_mem this e (by simpa using he) hbd
              exact ihj e.on hlt (by omega)⟩
            rw [hr] at hm
            cases hm
      exact done listed a w hall hb hl hk
    · obtain ⟨hun, o, ho, hedges⟩ := mem_ready.1 hi
      have hlt : i < ops.size := (Array.getElem?_eq_some_iff.1 ho).1
      obtain ⟨m, hm⟩ : ∃ m, (pres ops.toList [])[i]? = some m := ⟨_, pres_get ops ho⟩
      have hF := each.get i o m (by simpa using ho) hm
      rw [Nat.zero_add] at hF
      have hpre : ∀ j, m.testBit j = true → Knows ds R a w j := fun j hj =>
        hk j (pre_closed hok (S := fun j => listed.getD j false = true) hcl i o m ho hm hedges j hj).1
      have hset : ∀ j, (listed.setIfInBounds i true).getD j false = true ↔ listed.getD j false = true ∨ j = i := by
        intro j
        by_cases e : i = j
        · subst e
          simp [Array.getD_eq_getD_getElem?, show i < listed.size from by omega]
        · rw [show (listed.setIfInBounds i true).getD j false = listed.getD j false from by simp [Array.getD_eq_getD_getElem?, Array.getElem?_setIfInBounds_ne e]]
          exact ⟨.inl, fun h => h.resolve_right fun e' => e e'.symm⟩
      have next : ∀ v w', Below w.heap.size w w' → R i v w' → wpAny P .any ops Q fuel (listed.setIfInBounds i true) (a.put o.dst v) w' := by
        intro v w' hw' hv
        refine ih _ _ _ (by simpa using hsz') (fun j p hj hp e he hbd => ?_) ?_ (hb.trans (hw'.mono hb.size)) (put_like hds ho hl v) (fun j hj => ?_)
        · rcases (hset j).1 hj with hj | rfl
          · exact (hset _).2 (.inl (hcl j p hj hp e he hbd))
          · rw [ho] at hp
            obtain rfl := Option.some.inj hp
            exact (hset _).2 (.inl (hedges e he hbd))
        · have := unl_set hun
          omega
        · by_cases hji : j = i
          · subst hji
            refine ⟨v, fun d hd => ?_, hv⟩
            rw [ds_get hds ho] at hd
            obtain hd := Option.some.inj hd
            have hdlt : d < a.tmps.size := by
              rw [hl.size]
              exact hsz d (by
                rw [← hds, ← hd]
                exact List.mem_map.2 ⟨o, by have := Array.mem_of_getElem? ho; simpa using this, rfl⟩)
            rw [hd]
            simp [Act.put, Array.getD_eq_getD_getElem?, hdlt]
          · obtain ⟨u, hu1, hu2⟩ := hk j (((hset j).1 hj).resolve_right hji)
            refine ⟨u, fun d hd => ?_, hR _ _ _ _ hw' hu2⟩
            rw [← hu1 d hd]
            cases hod : o.dst with
            | none => rfl
            | some e =>
              have hne : e ≠ d := by
                rintro rfl
                have hjlt : j < ops.size := by
                  have := (List.getElem?_eq_some_iff.1 hd).1
                  rw [← hds] at this
                  simpa using this
                have hoj : ops[j]? = some ops[j] := Array.getElem?_eq_getElem hjlt
                have hdj := ds_get hds hoj
                rw [hd] at hdj
                have hdj := Option.some.inj hdj
                have hsp := (allOk_spec hok i o (by simpa using ho)).2.1
                exact (dstOk_spec hsp j ops[j] e (by simp) (by omega) hdj.symm).1 hod
              simp [Act.put, Array.getD_eq_getD_getElem?, Array.getElem?_setIfInBounds_ne hne]
      have hgo := hF a w hb hl hpre _ next
      unfold wpOp
      simp only [ho]
      split
      · rename_i hw
        rw [if_pos hw] at hgo
        exact .inl hgo
      · rename_i hw
        rw [if_neg hw] at hgo
        exact hgo

theorem region_each {ds : List (Option Tmp)} {MS : List Nat} {R : Nat → Value → World → Prop} {a : Act} {w : World} {id : Nat} (hm : P.follows .mixedOrders = true) (hok : drawOk ops = true) (hds : ops.toList.map (·.dst) = ds) (hMS : pres ops.toList [] = MS)
    (hsz : (ds.all fun | some d => Nat.blt d a.tmps.size | none => true) = true)
    (hR : ∀ i v w w', Below w.heap.size w w' → R i v w → R i v w') (G : Act → Prop) (hG : G a)
    (each : ops.toList.map (·.dst) = ds → ∀ (Q' : Exit → Act → World → Prop) (a0 : Act), G a0 → Each (fun i o m => OpGoal P ops Q' ds R a0 w i o m) ops.toList MS 0)
    (fin : ∀ a' w', Below w.heap.size w w' → Like ds a a' → (∀ j, j < ds.length → Knows ds R a' w' j) → Q .normal a' w') : (Code.region id ops true).wp P Q a w := by
  refine wp_region_any hm ?_
  refine any_each (w0 := w) hok hds (fun d hd => ?_) hR (by rw [hMS]; exact each hds Q a hG) (fun a' w' h1 h2 h3 => fin a' w' h1 h2 fun j hj => h3 j (by rw [← hds] at hj; simpa using hj)) ops.size _ a w.drew (by simp) (fun j o hj => ?_) ?_ (Below.refl _ _).drew ⟨rfl, rfl, fun _ _ => rfl⟩ (fun j hj => ?_)
  · have := List.all_eq_true.1 hsz _ hd
    simpa [Nat.blt_eq] using this
  · rw [Array.getD_eq_getD_getElem?, Array.getElem?_replicate] at hj
    split at hj <;> simp at hj
  · unfold unl
    exact Nat.le_trans (List.length_filter_le _ _) (by simp)
  · rw [Array.getD_eq_getD_getElem?, Array.getElem?_replicate] at hj
    split at hj <;> simp at hj
/-- an operation without a guard -/
theorem OpGoal.free {ds : List (Option Tmp)} {R : Nat → Value → World → Prop} {a0 : Act} {w0 : World} {i m : Nat} {o : Oper} (hg : o.guard = none)
    (h : ∀ (a : Act) (w : World), Below w0.heap.size w0 w → Like ds a0 a → (∀ j, m.testBit j = true → Knows ds R a w j) →
      ∀ K : Act → World → Prop, (∀ v w', Below w.heap.size w w' → R i v w' → K (a.put o.dst v) w') → o.wp P a w K Q) : OpGoal P ops Q ds R a0 w0 i o m :=
  .wanted (fun _ _ _ _ => wanted_none hg) h
/-- an operation whose guard says yes -/
theorem OpGoal.guarded {ds : List (Option Tmp)} {R : Nat → Value → World → Prop} {a0 : Act} {w0 : World} {i m j d : Nat} {o : Oper} (hds : ops.toList.map (·.dst) = ds) (hg : o.guard = some (j, true)) (hd : ds[j]? = some (some d)) (hb : m.testBit j = true)
    (hR : ∀ v w, R j v w → v = .bool true)
    (h : ∀ (a : Act) (w : World), Below w0.heap.size w0 w → Like ds a0 a → (∀ j, m.testBit j = true → Knows ds R a w j) →
      ∀ K : Act → World → Prop, (∀ v w', Below w.heap.size w w' → R i v w' → K (a.put o.dst v) w') → o.wp P a w K Q) : OpGoal P ops Q ds R a0 w0 i o m :=
  .wanted (fun a w _ hk => wanted_of hg (by
    rw [← hds, List.getElem?_map] at hd
    cases ho : ops.toList[j]? with
    | none => rw [ho] at hd; simp at hd
    | some p =>
      rw [ho] at hd
      have : ops[j]? = some p := by simpa using ho
      rw [this]
      simpa using hd) ((hk j hb).is hd fun v => hR v _)) h
end
end EachKit
end Go.Proofs.YtajnnkapgnmoaaaGreat
/-
  As Each, for a region whose last operations wait for all that is ahead: the first ones are looked at once each, the last ones are left. No program in sight.
-/
set_option linter.unusedVariables false
namespace Go.Proofs.YtajnnkapgnmoaaaGreat
namespace EachKit
open Go.RowKit

def allBits : Nat → Nat → Bool
  | 0, _ => true
  | L + 1, m => m.testBit L && allBits L m
def lastAll (L : Nat) : List Nat → Nat → Bool
  | [], _ => true
  | m :: l, k => (Nat.blt k L || allBits L m) && lastAll L l (Nat.succ k)
def markOk (L : Nat) : List Bool → Nat → Bool
  | [], _ => true
  | b :: l, k => (b == Nat.blt k L) && markOk L l (Nat.succ k)
theorem allBits_spec : ∀ {L m : Nat}, allBits L m = true → ∀ j, j < L → m.testBit j = true
  | 0, _, _, j, h => by omega
  | L + 1, m, h, j, hj => by
    rw [allBits, Bool.and_eq_true] at h
    rcases Nat.lt_or_ge j L with h1 | h1
    · exact allBits_spec h.2 j h1
    · obtain rfl : j = L := by omega
      exact h.1
theorem lastAll_spec {L : Nat} : ∀ {l : List Nat} {k : Nat}, lastAll L l k = true → ∀ (i : Nat) m, l[i]? = some m → L ≤ k + i → ∀ j, j < L → m.testBit j = true
  | [], k, _, i, m, h, _ => by simp at h
  | x :: l, k, hh, i, m, h, hL => by
    rw [lastAll, Bool.and_eq_true] at hh
    cases i with
    | zero =>
      simp at h
      subst h
      have h1 := hh.1
      rw [Bool.or_eq_true] at h1
      rcases h1 with h1 | h1
      · rw [Nat.blt_eq] at h1; omega
      · exact allBits_spec h1
    | succ i => exact lastAll_spec hh.2 i m (by simpa using h) (by rw [show k.succ + i = k + (i + 1) from by omega]; exact hL)
theorem markOk_spec {L : Nat} : ∀ {l : List Bool} {k : Nat}, markOk L l k = true → ∀ (i : Nat) b, l[i]? = some b → b = decide (k + i < L)
  | [], k, _, i, b, h => by simp at h
  | x :: l, k, hh, i, b, h => by
    rw [markOk, Bool.and_eq_true] at hh
    cases i with
    | zero =>
      simp at h
      subst h
      have h1 := eq_of_beq hh.1
      rw [h1]
      cases hb : Nat.blt k L with
      | true => rw [Nat.blt_eq] at hb; simp; omega
      | false =>
        have : ¬ k < L := fun h => by rw [← Nat.blt_eq] at h; rw [h] at hb; cases hb
        simp; omega
    | succ i =>
      have := markOk_spec hh.2 i b (by simpa using h)
      rw [this]
      congr 1
      apply propext
      omega
section
variable {P : Program} {ops : Array Oper} {Q : Exit → Act → World → Prop}
theorem any_first {ds : List (Option Tmp)} {R : Nat → Value → World → Prop} {a0 : Act} {w0 : World} {L F : Nat} {LL : Array Bool} (hok : drawOk ops = true) (hds : ops.toList.map (·.dst) = ds) (hsz : ∀ d, some d ∈ ds → d < a0.tmps.size)
    (hL : L < ops.size) (hlast : lastAll L (pres ops.toList []) 0 = true) (hLL : LL.size = ops.size) (hmark : markOk L LL.toList 0 = true) (hF : unl LL = F)
    (hR : ∀ i v w w', Below w.heap.size w w' → R i v w → R i v w')
    (each : Each (fun i o m => i < L → OpGoal P ops Q ds R a0 w0 i o m) ops.toList (pres ops.toList []) 0)
    (fin : ∀ a w, Below w0.heap.size w0 w → Like ds a0 a → (∀ j, j < L → Knows ds R a w j) → wpAny P .any ops Q F LL a w) :
    ∀ (fuel : Nat) (listed : Array Bool) (a : Act) (w : World), listed.size = ops.size →
      (∀ (j : Nat) o, listed.getD j false = true → ops[j]? = some o → ∀ e ∈ o.after, Region.binds .any e = true → listed.getD e.on false = true) →
      (∀ j, L ≤ j → listed.getD j false = false) →
      unl listed = fuel → Below w0.heap.size w0 w → Like ds a0 a → (∀ j, listed.getD j false = true → Knows ds R a w j) → wpAny P .any ops Q fuel listed a w := by
  have done : ∀ (listed : Array Bool) (fuel : Nat) (a : Act) (w : World), listed.size = ops.size → unl listed = fuel → (∀ j, L ≤ j → listed.getD j false = false) → (∀ j, j < L → listed.getD j false = true) → Below w0.heap.size w0 w → Like ds a0 a → (∀ j, listed.getD j false = true → Knows ds R a w j) → wpAny P .any ops Q fuel listed a w := by
    intro listed fuel a w hs hu hge hall h1 h2 h3
    have e : listed = LL := by
      refine Array.ext (by omega) fun i hi1 hi2 => ?_
      have hm := markOk_spec hmark i LL[i] (by simp)
      rw [Nat.zero_add] at hm
      rw [hm]
      have hd : listed.getD i false = listed[i] := by rw [Array.getD_eq_getD_getElem?, Array.getElem?_eq_getElem hi1]; rfl
      rw [← hd]
      by_cases hi : i < L
      · rw [hall i hi, decide_eq_true hi]
      · rw [hge i (by omega), decide_eq_false hi]
    subst e
    rw [← hu, hF]
    exact fin a w h1 h2 fun j hj => h3 j (hall j hj)
  intro fuel
  induction fuel with
  | zero =>
    intro listed a w hsz' hcl hge hu hb hl hk
    have := unl_zero hu (j := L) (by omega)
    rw [hge L (Nat.le_refl _)] at this
    cases this
  | succ fuel ih =>
    intro listed a w hsz' hcl hge hu hb hl hk
    by_cases hall : ∀ j, j < L → listed.getD j false = true
    · exact done listed _ a w hsz' hu hge hall hb hl hk
    refine ⟨fun hr => ?_, fun i hi => ?_⟩
    · exfalso
      refine hall fun j => ?_
      induction j using Nat.strongRecOn with
      | _ j ihj =>
        intro hj
        cases hx : listed.getD j false with
        | true => rfl
        | false =>
          exfalso
          have hjs : j < ops.size := by omega
          have hm : j ∈ Region.ready .any ops listed := mem_ready.2 ⟨by rw [getD_tf (by omega) true false]; exact hx, ops[j], Array.getElem?_eq_getElem hjs, fun e he hbd => by
            have hlt : e.on < j := by
              have := (allOk_spec hok j ops[j] (by simp)).1
              rw [Nat.zero_add] at this
              exact edgesOk_mem this e (by simpa using he) hbd
            exact ihj e.on hlt (by omega)⟩
          rw [hr] at hm
          cases hm
    · obtain ⟨hun, o, ho, hedges⟩ := mem_ready.1 hi
      have hlt : i < ops.size := (Array.getElem?_eq_some_iff.1 ho).1
      obtain ⟨m, hm⟩ : ∃ m, (pres ops.toList [])[i]? = some m := ⟨_, pres_get ops ho⟩
      have hcl' := pre_closed hok (S := fun j => listed.getD j false = true) hcl i o m ho hm hedges
      have hiL : i < L := by
        rcases Nat.lt_or_ge i L with h | h
        · exact h
        · exfalso
          refine hall fun j hj => (hcl' j (lastAll_spec hlast i m hm (by omega) j hj)).1
      have hF' := each.get i o m (by simpa using ho) hm
      rw [Nat.zero_add] at hF'
      have hpre : ∀ j, m.testBit j = true → Knows ds R a w j := fun j hj => hk j (hcl' j hj).1
      have hset : ∀ j, (listed.setIfInBounds i true).getD j false = true ↔ listed.getD j false = true ∨ j = i := by
        intro j
        by_cases e : i = j
        · subst e
          simp [Array.getD_eq_getD_getElem?, show i < listed.size from by omega]
        · rw [show (listed.setIfInBounds i true).getD j false = listed.getD j false from by simp [Array.getD_eq_getD_getElem?, Array.getElem?_setIfInBounds_ne e]]
          exact ⟨.inl, fun h => h.resolve_right fun e' => e e'.symm⟩
      have next : ∀ v w', Below w.heap.size w w' → R i v w' → wpAny P .any ops Q fuel (listed.setIfInBounds i true) (a.put o.dst v) w' := by
        intro v w' hw' hv
        refine ih _ _ _ (by simpa using hsz') (fun j p hj hp e he hbd => ?_) (fun j hj => ?_) ?_ (hb.trans (hw'.mono hb.size)) (put_like hds ho hl v) (fun j hj => ?_)
        · rcases (hset j).1 hj with hj | rfl
          · exact (hset _).2 (.inl (hcl j p hj hp e he hbd))
          · rw [ho] at hp
            obtain rfl := Option.some.inj hp
            exact (hset _).2 (.inl (hedges e he hbd))
        · cases hx : (listed.setIfInBounds i true).getD j false with
          | false => rfl
          | true =>
            rcases (hset j).1 hx with h | h
            · rw [hge j hj] at h; cases h
            · omega
        · have := unl_set hun
          omega
        · by_cases hji : j = i
          · subst hji
            refine ⟨v, fun d hd => ?_, hv⟩
            rw [ds_get hds ho] at hd
            obtain hd := Option.some.inj hd
            have hdlt : d < a.tmps.size := by
              rw [hl.size]
              exact hsz d (by
                rw [← hds, ← hd]
                exact List.mem_map.2 ⟨o, by have := Array.mem_of_getElem? ho; simpa using this, rfl⟩)
            rw [hd]
            simp [Act.put, Array.getD_eq_getD_getElem?, hdlt]
          · obtain ⟨u, hu1, hu2⟩ := hk j (((hset j).1 hj).resolve_right hji)
            refine ⟨u, fun d hd => ?_, hR _ _ _ _ hw' hu2⟩
            rw [← hu1 d hd]
            cases hod : o.dst with
            | none => rfl
            | some e =>
              have hne : e ≠ d := by
                rintro rfl
                have hjlt : j < ops.size := by
                  have := (List.getElem?_eq_some_iff.1 hd).1
                  rw [← hds] at this
                  simpa using this
                have hoj : ops[j]? = some ops[j] := Array.getElem?_eq_getElem hjlt
                have hdj := ds_get hds hoj
                rw [hd] at hdj
                have hdj := Option.some.inj hdj
                have hsp := (allOk_spec hok i o (by simpa using ho)).2.1
                exact (dstOk_spec hsp j ops[j] e (by simp) (by omega) hdj.symm).1 hod
              simp [Act.put, Array.getD_eq_getD_getElem?, Array.getElem?_setIfInBounds_ne hne]
      have hgo := hF' hiL a w hb hl hpre _ next
      unfold wpOp
      simp only [ho]
      split
      · rename_i hw
        rw [if_pos hw] at hgo
        exact .inl hgo
      · rename_i hw
        rw [if_neg hw] at hgo
        exact hgo

theorem region_first {ds : List (Option Tmp)} {MS : List Nat} {R : Nat → Value → World → Prop} {a : Act} {w : World} {id L F : Nat} {LL : Array Bool} (hm : P.follows .mixedOrders = true) (hok : drawOk ops = true) (hds : ops.toList.map (·.dst) = ds) (hMS : pres ops.toList [] = MS)
    (hsz : (ds.all fun | some d => Nat.blt d a.tmps.size | none => true) = true)
    (hL : Nat.blt L ops.size = true) (hlast : lastAll L MS 0 = true) (hLL : LL.size = ops.size) (hmark : markOk L LL.toList 0 = true) (hF : unl LL = F)
    (hR : ∀ i v w w', Below w.heap.size w w' → R i v w → R i v w') (G : Act → Prop) (hG : G a)
    (each : ops.toList.map (·.dst) = ds → ∀ (Q' : Exit → Act → World → Prop) (a0 : Act), G a0 → Each (fun i o m => i < L → OpGoal P ops Q' ds R a0 w i o m) ops.toList MS 0)
    (fin : ∀ a' w', Below w.heap.size w w' → Like ds a a' → (∀ j, j < L → Knows ds R a' w' j) → wpAny P .any ops Q F LL a' w') : (Code.region id ops true).wp P Q a w := by
  refine wp_region_any hm ?_
  refine any_first (w0 := w) hok hds (fun d hd => ?_) (by simpa [Nat.blt_eq] using hL) (by rw [hMS]; exact hlast) hLL hmark hF hR (by rw [hMS]; exact each hds Q a hG) fin ops.size _ a w.drew (by simp) (fun j o hj => ?_) (fun j hj => ?_) ?_ (Below.refl _ _).drew ⟨rfl, rfl, fun _ _ => rfl⟩ (fun j hj => ?_)
  · have := List.all_eq_true.1 hsz _ hd
    simpa [Nat.blt_eq] using this
  · rw [Array.getD_eq_getD_getElem?, Array.getElem?_replicate] at hj
    split at hj <;> simp at hj
  · rw [Array.getD_eq_getD_getElem?, Array.getElem?_replicate]
    split <;> simp
  · unfold unl
    simp
  · rw [Array.getD_eq_getD_getElem?, Array.getElem?_replicate] at hj
    split at hj <;> simp at hj
/-- the slots that a region writes, written anew -/
def setU (u : Nat → Value) : List (Option Tmp) → Array Value → Array Value
  | [], t => t
  | none :: l, t => setU u l t
  | some d :: l, t => setU u l (t.setIfInBounds d (u d))
theorem setU_get (s : Array Value) : ∀ (l : List (Option Tmp)) (t : Array Value), s.size = t.size → (∀ i, some i ∉ l → s.getD i undef = t.getD i undef) → setU (fun i => s.getD i undef) l t = s
  | [], t, hs, h => by
    refine Array.ext hs.symm fun i h1 h2 => ?_
    have := h i (by simp)
    unfold setU at h1 ⊢
    simp only [Array.getD_eq_getD_getElem?, Array.getElem?_eq_getElem h1, Array.getElem?_eq_getElem h2, Option.getD_some] at this
    exact this.symm
  | none :: l, t, hs, h => by
    unfold setU
    exact setU_get s l t hs fun i hi => h i (by simpa using hi)
  | some d :: l, t, hs, h => by
    unfold setU
    refine setU_get s l _ (by simpa using hs) fun i hi => ?_
    by_cases hid : d = i
    · subst hid
      by_cases hlt : d < t.size
      · simp [Array.getD_eq_getD_getElem?, hlt]
      · have h1 : s.size ≤ d := by rw [hs]; exact Nat.le_of_not_lt hlt
        have h2 : t.size ≤ d := Nat.le_of_not_lt hlt
        simp [Array.getD_eq_getD_getElem?, Array.getElem?_eq_none h1, h2]
    · rw [h i (by simp; exact ⟨fun e => hid e.symm, hi⟩)]
      simp [Array.getD_eq_getD_getElem?, Array.getElem?_setIfInBounds_ne hid]
theorem Like.form {ds : List (Option Tmp)} {a a' : Act} (h : Like ds a a') : ∃ u : Nat → Value, a' = { tmps := setU u ds a.tmps, defers := a.defers } := by
  refine ⟨fun i => a'.tmps.getD i undef, ?_⟩
  rw [setU_get a'.tmps ds a.tmps h.size h.keep, ← h.defers]
/-- a frame of n slots, slot by slot -/
theorem frame_of {tm : Array Value} {n : Nat} (h : tm.size = n) : tm = ((List.range n).map fun i => tm.getD i undef).toArray := by
  apply Array.ext
  · simp [h]
  · intro i h1 h2
    simp [Array.getD, h1]
end
end EachKit
end Go.Proofs.YtajnnkapgnmoaaaGreat
/-
  Memory: a slice that reads as a list, a block known whole, an append onto a row of the call's own (turned from the kit's extra words). No program in sight.
-/
set_option linter.unusedVariables false
set_option linter.unusedSimpArgs false
namespace Go.Proofs.YtajnnkapgnmoaaaGreat
open Go.RowKit
theorem block_of_add (a : Addr) (n : Nat) : (a.add n).block = a.block := by unfold Addr.add; split <;> rfl
theorem add_of_add (a : Addr) (i j : Nat) : (a.add i).add j = a.add (i + j) := by
  unfold Addr.add
  by_cases hi : i = 0 <;> by_cases hj : j = 0 <;> simp [hi, hj, Nat.add_assoc]

def Reads (w : World) (B size : Nat) (A : Option Addr) (n : Nat) (xs : List Value) : Prop :=
  xs.length = n * size ∧ (0 < n → ∃ ad, A = some ad ∧ ad.block < B ∧ ∀ j u, xs[j]? = some u → w.cell? (ad.add j) = some u)

section
variable {w w' : World} {B B' size n : Nat} {A : Option Addr} {xs : List Value}
theorem Reads.none_ : Reads w B size A 0 [] := ⟨by simp, fun h => absurd h (by omega)⟩
theorem Reads.at_ {k : Nat} (h : Reads w B 1 A n xs) (hk : k < n) : ∃ ad u, A = some ad ∧ ad.block < B ∧ xs[k]? = some u ∧ w.cell? (ad.add k) = some u := by
  obtain ⟨ad, e, hb, hc⟩ := h.2 (by omega)
  have hl : k < xs.length := by have := h.1; omega
  exact ⟨ad, xs[k], e, hb, List.getElem?_eq_getElem hl, hc k _ (List.getElem?_eq_getElem hl)⟩
theorem Reads.keep (h : Reads w B size A n xs) (hk : ∀ p : Addr, p.block < B → w'.cell? p = w.cell? p) : Reads w' B size A n xs :=
  ⟨h.1, fun hn => by
    obtain ⟨ad, e, hb, hc⟩ := h.2 hn
    exact ⟨ad, e, hb, fun j u hu => (hk _ (by rw [block_of_add]; exact hb)).trans (hc j u hu)⟩⟩
theorem Reads.more (h : Reads w B size A n xs) (hB : B ≤ B') : Reads w B' size A n xs :=
  ⟨h.1, fun hn => by
    obtain ⟨ad, e, hb, hc⟩ := h.2 hn
    exact ⟨ad, e, by omega, hc⟩⟩
theorem Reads.below (h : Reads w B size A n xs) (hb : Below B w w') : Reads w' B size A n xs := h.keep fun _ hp => hb.cell hp
theorem Reads.drew (h : Reads w B size A n xs) : Reads w.drew B size A n xs := h
theorem Reads.drewN (h : Reads w B size A n xs) (k : Nat) : Reads (w.drewN k) B size A n xs := h
theorem Reads.alloc (h : Reads w B size A n xs) (hB : B ≤ w.heap.size) (o : Obj) : Reads (w.alloc o) B size A n xs := h.keep fun p hp => World.cell?_alloc_lt w o p (by omega)
theorem Reads.setCell (h : Reads w B size A n xs) {p : Addr} (hB : B ≤ p.block) (u : Value) : Reads (w.setCell p u) B size A n xs :=
  h.keep fun q hq => World.cell?_setCell_other w p q u (fun e => by subst e; omega)
theorem Reads.grown (h : Reads w B size A n xs) {row : Option Nat} (hg : w.grownBy w' row) (hB : B ≤ w.heap.size) (hr : ∀ g, row = some g → B ≤ g) : Reads w' B size A n xs :=
  h.keep fun p hp => World.cell?_of_block (hg.block p.block (by omega) (fun e => by have := hr _ e.symm; omega))
theorem Reads.cut (h : Reads w B size A n xs) {k cap : Nat} (hk : k ≤ n) (hc : n ≤ cap) :
    Reads w B size (if cap = k then A else A.map (·.add (k * size))) (n - k) (xs.drop (k * size)) := by
  refine ⟨by rw [List.length_drop, h.1, Nat.sub_mul], fun hn => ?_⟩
  obtain ⟨ad, rfl, hb, hcell⟩ := h.2 (by omega)
  rw [if_neg (by omega)]
  refine ⟨ad.add (k * size), rfl, by rw [block_of_add]; exact hb, fun j u hu => ?_⟩
  rw [add_of_add]
  exact hcell _ u (by rw [← hu, List.getElem?_drop])
theorem Reads.of_own {base : Nat} {e : TypeId} {c : Nat} (h : w.ownsRow base e size (.slice A n c) n xs) : Reads w w.heap.size size A n xs := by
  refine ⟨h.1, fun hn => ?_⟩
  obtain ⟨g, cap, hv, _, hlt⟩ := h.form hn
  have hA : A = some ⟨g, 0, none⟩ := by injection hv
  subst hA
  exact ⟨_, rfl, hlt, h.cells (g := g) rfl⟩
end
def Blk (w : World) (g : Nat) (t : TypeId) (cs : Array Value) : Prop := w.heap[g]? = some (.cells cs t (0, 0))

section
variable {w w' : World} {g : Nat} {t : TypeId} {cs : Array Value}
theorem Blk.lt (h : Blk w g t cs) : g < w.heap.size := by
  rcases Nat.lt_or_ge g w.heap.size with hlt | hge
  · exact hlt
  · unfold Blk at h; rw [Array.getElem?_eq_none hge] at h; cases h
theorem Blk.cell (h : Blk w g t cs) (i : Nat) : w.cell? ⟨g, i, none⟩ = cs[i]? := cell_of_row w g i cs t (0, 0) h
theorem Blk.frozen (h : Blk w g t cs) (i : Nat) : w.frozen? ⟨g, i, none⟩ = false := by
  unfold Blk at h
  simp [World.frozen?, h]
theorem Blk.new (w : World) (t : TypeId) (cs : Array Value) : Blk (w.alloc (.cells cs t)) w.heap.size t cs := heap_alloc_new w _
theorem Blk.drew (h : Blk w g t cs) : Blk w.drew g t cs := h
theorem Blk.drewN (h : Blk w g t cs) (n : Nat) : Blk (w.drewN n) g t cs := h
theorem Blk.alloc (h : Blk w g t cs) (o : Obj) : Blk (w.alloc o) g t cs := (Below.heap_alloc w o g h.lt).trans h
theorem Blk.set_ (h : Blk w g t cs) (i : Nat) (u : Value) : Blk (w.setCell ⟨g, i, none⟩ u) g t (cs.setIfInBounds i u) := by
  unfold Blk at h ⊢
  simp [World.setCell, Array.getElem?_modify, h]
theorem Blk.far (h : Blk w g t cs) {p : Addr} (hp : g ≠ p.block) (u : Value) : Blk (w.setCell p u) g t cs := (Below.heap_setCell w p u g hp).trans h
theorem Blk.below {B : Nat} (h : Blk w g t cs) (hb : Below B w w') (hg : g < B) : Blk w' g t cs := (hb.block g hg).trans h
theorem Blk.grown {row : Option Nat} (h : Blk w g t cs) (hb : w.grownBy w' row) (hg : some g ≠ row) : Blk w' g t cs := (hb.block g h.lt hg).trans h
theorem Blk.ne_ {g' : Nat} {t' : TypeId} {cs' : Array Value} (h : Blk w g t cs) (h' : Blk w g' t' cs') (hne : t ≠ t') : g ≠ g' := by
  rintro rfl
  unfold Blk at h h'
  rw [h] at h'
  injection h' with h'
  injection h' with _ ht
  exact hne ht
theorem own_blk_ne {base : Nat} {e : TypeId} {size n : Nat} {v : Value} {xs : List Value} (h : w.ownsRow base e size v n xs) (hg : Blk w g t cs) (hne : e ≠ t) : v.ownBlock ≠ some g := by
  rcases h.2 with ⟨rfl, _⟩ | ⟨g', cap, cur, rfl, _, hh, _⟩
  · simp [Value.ownBlock]
  · intro he
    have : g' = g := by simpa [Value.ownBlock] using he
    subst this
    exact Blk.ne_ (t := e) hh hg hne rfl
end
section
variable {P : Program} (w : World)

theorem run_append_of_nil (base : Nat) (t ty e : TypeId) (i : TypeInfo) (size : Nat) (ht : P.underlying t = some (.slice e)) (hi : P.info? e = some i)
    (v : Value) (n : Nat) (xs : List Value) (hown : w.ownsRow base e size v n xs) (c : Nat) : (Builtin.append_ #[t, t] ty #[v, .slice none 0 c]).run P w = .ok v w := by
  rcases hown.2 with ⟨rfl, rfl⟩ | ⟨g, cap, cur, rfl, _, _, hnc, _⟩
  · simp [Builtin.append_, run_underlying ht, sizeOf, typeInfo, hi, Builtin.lenOf, Builtin.firstCells]
  · simp [Builtin.append_, run_underlying ht, sizeOf, typeInfo, hi, Builtin.lenOf, Builtin.firstCells, hnc, storeCells]

theorem run_append_any (base : Nat) (t ty e : TypeId) (i : TypeInfo) (z : Value) (size bytes : Nat) (ht : P.underlying t = some (.slice e)) (hi : P.info? e = some i) (hz : i.zero = some z)
    (hsize : i.size = size) (hby : i.bytes = bytes) (hzs : z.cells.size = size) (hsz : 0 < size)
    (v : Value) (n : Nat) (xs : List Value) (hown : w.ownsRow base e size v n xs)
    (B : Nat) (A : Option Addr) (m c : Nat) (news : List Value) (hr : Reads w B size A m news) (h1 : ∀ u ∈ news, u.oneCell' = true)
    (h63 : n + m ≤ maxLen) (hbytes : (n + m) * bytes ≤ 140737488355328) (hbase : base ≤ w.heap.size) :
    ∃ v' w', (Builtin.append_ #[t, t] ty #[v, .slice A m c]).run P w = .ok v' w' ∧ w'.ownsRow base e size v' (n + m) (xs ++ news) ∧ w.grownBy w' v.ownBlock ∧
      (v'.ownBlock = v.ownBlock ∨ v'.ownBlock = some w.heap.size) := by
  rcases A with _ | ad
  · have hm : m = 0 := by
      rcases Nat.eq_zero_or_pos m with h0 | h0
      · exact h0
      · obtain ⟨ad, h, _⟩ := hr.2 h0
        cases h
    subst hm
    have hn : news = [] := List.eq_nil_of_length_eq_zero (by simpa using hr.1)
    subst hn
    exact ⟨v, w, run_append_of_nil w base t ty e i size ht hi v n xs hown c, by simpa using hown, World.grownBy.refl w _, .inl rfl⟩
  · have hcells : ∀ j u, news[j]? = some u → w.cell? (ad.add j) = some u := by
      intro j u hu
      rcases Nat.eq_zero_or_pos m with h0 | h0
      · subst h0
        have hn : news = [] := List.eq_nil_of_length_eq_zero (by simpa using hr.1)
        subst hn
        simp at hu
      · obtain ⟨ad', h, _, hc⟩ := hr.2 h0
        injection h with h
        subst h
        exact hc j u hu
    obtain ⟨v', w', hrun, h2, h3, _, h5⟩ := run_append_own_at (P := P) w base t ty e i z size bytes ht hi hz hsize hby hzs hsz v n xs hown ad m c news hr.1 hcells h1 h63 hbytes hbase
    exact ⟨v', w', hrun, h2, h3, h5⟩

theorem wp_append_any {o : Oper} {a : Act} {K : Act → World → Prop} {Q : Exit → Act → World → Prop} (s x : Operand) (t : TypeId)
    (ho : o.op = .call { callee := .builtin .append, args := #[s, x], argTypes := #[t, t] })
    (base : Nat) (e : TypeId) (i : TypeInfo) (z : Value) (size bytes : Nat) (ht : P.underlying t = some (.slice e)) (hi : P.info? e = some i) (hz : i.zero = some z)
    (hsize : i.size = size) (hby : i.bytes = bytes) (hzs : z.cells.size = size) (hsz : 0 < size)
    (v : Value) (n : Nat) (xs : List Value) (hs : a.eval s = v) (hown : w.ownsRow base e size v n xs)
    (B : Nat) (A : Option Addr) (m c : Nat) (news : List Value) (hx : a.eval x = .slice A m c) (hr : Reads w B size A m news) (h1 : ∀ u ∈ news, u.oneCell' = true)
    (h63 : n + m ≤ maxLen) (hbytes : (n + m) * bytes ≤ 140737488355328) (hbase : base ≤ w.heap.size)
    (h : ∀ v' w', w'.ownsRow base e size v' (n + m) (xs ++ news) → w.grownBy w' v.ownBlock → (v'.ownBlock = v.ownBlock ∨ v'.ownBlock = some w.heap.size) → K (a.put o.dst v') w') : o.wp P a w K Q := by
  obtain ⟨v', w', hrun, h2, h3, h4⟩ := run_append_any (P := P) w base t o.type e i z size bytes ht hi hz hsize hby hzs hsz v n xs hown B A m c news hr h1 h63 hbytes hbase
  unfold Oper.wp execOp
  simp only [ho, resolve, invoke, builtin, Sem.run_bind, Sem.run_pure, Result.andThen_ok, List.map_toArray, List.map_cons, List.map_nil, hs, hx, hrun]
  exact h v' w' h2 h3 h4

theorem wpList_append_any {ops : Array Oper} {rest : List Oper} {o : Oper} {a : Act} {Q : Exit → Act → World → Prop} (hgd : o.guard = none) (s x : Operand) (t : TypeId)
    (ho : o.op = .call { callee := .builtin .append, args := #[s, x], argTypes := #[t, t] })
    (base : Nat) (e : TypeId) (i : TypeInfo) (z : Value) (size bytes : Nat) (ht : P.underlying t = some (.slice e)) (hi : P.info? e = some i) (hz : i.zero = some z)
    (hsize : i.size = size) (hby : i.bytes = bytes) (hzs : z.cells.size = size) (hsz : 0 < size)
    (v : Value) (n : Nat) (xs : List Value) (hs : a.eval s = v) (hown : w.ownsRow base e size v n xs)
    (B : Nat) (A : Option Addr) (m c : Nat) (news : List Value) (hx : a.eval x = .slice A m c) (hr : Reads w B size A m news) (h1 : ∀ u ∈ news, u.oneCell' = true)
    (h63 : n + m ≤ maxLen) (hbytes : (n + m) * bytes ≤ 140737488355328) (hbase : base ≤ w.heap.size)
    (h : ∀ v' w', w'.ownsRow base e size v' (n + m) (xs ++ news) → w.grownBy w' v.ownBlock → (v'.ownBlock = v.ownBlock ∨ v'.ownBlock = some w.heap.size) → wpList P ops Q rest (a.put o.dst v') w') : wpList P ops Q (o :: rest) a w :=
  wpList_plain hgd fun _ hK => wp_append_any w s x t ho base e i z size bytes ht hi hz hsize hby hzs hsz v n xs hs hown B A m c news hx hr h1 h63 hbytes hbase fun v' w' h2 h3 h4 => hK _ _ (h v' w' h2 h3 h4)

theorem step_append_any {ops : Array Oper} {o : Oper} {a : Act} {K : Act → World → Prop} {Q : Exit → Act → World → Prop} {E : Prop} (hgd : o.guard = none) (s x : Operand) (t : TypeId)
    (ho : o.op = .call { callee := .builtin .append, args := #[s, x], argTypes := #[t, t] })
    (base : Nat) (e : TypeId) (i : TypeInfo) (z : Value) (size bytes : Nat) (ht : P.underlying t = some (.slice e)) (hi : P.info? e = some i) (hz : i.zero = some z)
    (hsize : i.size = size) (hby : i.bytes = bytes) (hzs : z.cells.size = size) (hsz : 0 < size)
    (v : Value) (n : Nat) (xs : List Value) (hs : a.eval s = v) (hown : w.ownsRow base e size v n xs)
    (B : Nat) (A : Option Addr) (m c : Nat) (news : List Value) (hx : a.eval x = .slice A m c) (hr : Reads w B size A m news) (h1 : ∀ u ∈ news, u.oneCell' = true)
    (h63 : n + m ≤ maxLen) (hbytes : (n + m) * bytes ≤ 140737488355328) (hbase : base ≤ w.heap.size)
    (h : ∀ v' w', w'.ownsRow base e size v' (n + m) (xs ++ news) → w.grownBy w' v.ownBlock → (v'.ownBlock = v.ownBlock ∨ v'.ownBlock = some w.heap.size) → K (a.put o.dst v') w') :
    if Region.wanted o (yielded ops a.tmps) = true then Oper.wp P o a w K Q else E := by
  have hw : Region.wanted o (yielded ops a.tmps) = true := by simp [Region.wanted, hgd]
  rw [if_pos hw]
  exact wp_append_any w s x t ho base e i z size bytes ht hi hz hsize hby hzs hsz v n xs hs hown B A m c news hx hr h1 h63 hbytes hbase h
end
end Go.Proofs.YtajnnkapgnmoaaaGreat
/-
  An append onto an empty row literal: it makes a new row, what was there stays. No program in sight.
-/
set_option linter.unusedVariables false
namespace Go.Proofs.YtajnnkapgnmoaaaGreat
open Go.RowKit
section
variable {P : Program} (w : World)
/-- an empty row of no room -/
def Empty (w : World) (base : Nat) (e : TypeId) (v : Value) : Prop := ∃ g, v = .slice (some ⟨g, 0, none⟩) 0 0 ∧ base ≤ g ∧ w.heap[g]? = some (.cells #[] e (0, 0))
theorem Empty.below {w w' : World} {base : Nat} {e : TypeId} {v : Value} (h : Empty w base e v) (hb : Below w.heap.size w w') : Empty w' base e v := by
  obtain ⟨g, rfl, h1, h2⟩ := h
  exact ⟨g, rfl, h1, (hb.block g (Array.getElem?_eq_some_iff.1 h2).1).trans h2⟩
theorem Empty.own {w : World} {base : Nat} {e : TypeId} {v : Value} (h : Empty w base e v) (size : Nat) : w.ownsRow base e size v 0 [] := by
  obtain ⟨g, rfl, h1, h2⟩ := h
  exact ⟨by simp, .inr ⟨g, 0, #[], rfl, h1, h2, Nat.le_refl _, Nat.zero_le _, by simp, by simp⟩⟩
theorem run_append_empty (base : Nat) (t ty e : TypeId) (i : TypeInfo) (z : Value) (size bytes : Nat) (ht : P.underlying t = some (.slice e)) (hi : P.info? e = some i) (hz : i.zero = some z)
    (hsize : i.size = size) (hby : i.bytes = bytes) (hzs : z.cells.size = size) (hsz : 0 < size)
    (v : Value) (hown : Empty w base e v)
    (B : Nat) (A : Option Addr) (m c : Nat) (news : List Value) (hr : Reads w B size A m news) (h1 : ∀ u ∈ news, u.oneCell' = true)
    (h63 : m ≤ maxLen) (hbytes : m * bytes ≤ 140737488355328) (hbase : base ≤ w.heap.size) :
    ∃ v' w', (Builtin.append_ #[t, t] ty #[v, .slice A m c]).run P w = .ok v' w' ∧ w'.ownsRow base e size v' m news ∧ Below w.heap.size w w' := by
  obtain ⟨v', w', hrun, h2, h3, h4⟩ := run_append_any (P := P) w base t ty e i z size bytes ht hi hz hsize hby hzs hsz v 0 [] (hown.own size) B A m c news hr h1 (by omega) (by rw [Nat.zero_add]; exact hbytes) hbase
  refine ⟨v', w', hrun, by simpa using h2, ?_⟩
  obtain ⟨g, rfl, hg1, hg2⟩ := hown
  rcases A with _ | ad
  · have hm : m = 0 := by
      rcases Nat.eq_zero_or_pos m with h0 | h0
      · exact h0
      · obtain ⟨ad, h, _⟩ := hr.2 h0
        cases h
    subst hm
    have hq := run_append_of_nil (P := P) w base t ty e i size ht hi (.slice (some ⟨g, 0, none⟩) 0 0) 0 [] (Empty.own ⟨g, rfl, hg1, hg2⟩ size) c
    rw [hq] at hrun
    obtain ⟨rfl, rfl⟩ : _ ∧ w = w' := by simpa using hrun
    exact Below.refl _ _
  · rcases Nat.eq_zero_or_pos m with h0 | h0
    · subst h0
      have hn : news = [] := List.eq_nil_of_length_eq_zero (by simpa using hr.1)
      subst hn
      have hq := run_append_room (P := P) w t ty e i ht hi g 0 0 #[] hg2 ad 0 c [] (by simp) (fun j u h => by simp at h) (fun u h => by simp at h) (by omega) (by simp)
      rw [hq] at hrun
      obtain ⟨_, rfl⟩ : _ ∧ _ = w' := by simpa using hrun
      have e0 : w.setRow g (([] : List Value)).toArray = w := setRow_self w g #[] e (0, 0) hg2
      have : Below w.heap.size w (w.setRow g (([] : List Value)).toArray) := by rw [e0]; exact Below.refl _ _
      simpa using this
    · obtain ⟨ad', ha, _, hc⟩ := hr.2 h0
      obtain rfl : ad = ad' := by simpa using ha
      have hq := run_append_grow (P := P) w t ty e i z ht hi hz ⟨g, 0, none⟩ 0 0 [] (by simp) (fun j u h => by simp at h) ad m c news (by rw [hr.1, hsize]) hc (by omega) (by unfold maxLen at h63; omega) (growslice_fits (by omega) (by rw [hby]; simpa using hbytes))
      rw [hq] at hrun
      obtain ⟨_, rfl⟩ : _ ∧ _ = w' := by simpa using hrun
      exact ((Below.refl w.heap.size w).drew).alloc (Nat.le_refl _) _
theorem wp_append_empty {o : Oper} {a : Act} {K : Act → World → Prop} {Q : Exit → Act → World → Prop} (s x : Operand) (t : TypeId)
    (ho : o.op = .call { callee := .builtin .append, args := #[s, x], argTypes := #[t, t] })
    (base : Nat) (e : TypeId) (i : TypeInfo) (z : Value) (size bytes : Nat) (ht : P.underlying t = some (.slice e)) (hi : P.info? e = some i) (hz : i.zero = some z)
    (hsize : i.size = size) (hby : i.bytes = bytes) (hzs : z.cells.size = size) (hsz : 0 < size)
    (v : Value) (hs : a.eval s = v) (hown : Empty w base e v)
    (B : Nat) (A : Option Addr) (m c : Nat) (news : List Value) (hx : a.eval x = .slice A m c) (hr : Reads w B size A m news) (h1 : ∀ u ∈ news, u.oneCell' = true)
    (h63 : m ≤ maxLen) (hbytes : m * bytes ≤ 140737488355328) (hbase : base ≤ w.heap.size)
    (h : ∀ v' w', w'.ownsRow base e size v' m news → Below w.heap.size w w' → K (a.put o.dst v') w') : o.wp P a w K Q := by
  obtain ⟨v', w', hrun, h2, h3⟩ := run_append_empty (P := P) w base t o.type e i z size bytes ht hi hz hsize hby hzs hsz v hown B A m c news hr h1 h63 hbytes hbase
  unfold Oper.wp execOp
  simp only [ho, resolve, invoke, builtin, Sem.run_bind, Sem.run_pure, Result.andThen_ok, List.map_toArray, List.map_cons, List.map_nil, hs, hx, hrun]
  exact h v' w' h2 h3
/-- the second operand's type may be another one -/
theorem wpList_append_two {ops : Array Oper} {rest : List Oper} {o : Oper} {a : Act} {Q : Exit → Act → World → Prop} (hgd : o.guard = none) (s x : Operand) (t t2 e2 : TypeId) (ht2 : P.underlying t2 = some (.slice e2))
    (ho : o.op = .call { callee := .builtin .append, args := #[s, x], argTypes := #[t, t2] })
    (base : Nat) (e : TypeId) (i : TypeInfo) (z : Value) (size bytes : Nat) (ht : P.underlying t = some (.slice e)) (hi : P.info? e = some i) (hz : i.zero = some z)
    (hsize : i.size = size) (hby : i.bytes = bytes) (hzs : z.cells.size = size) (hsz : 0 < size)
    (v : Value) (n : Nat) (xs : List Value) (hs : a.eval s = v) (hown : w.ownsRow base e size v n xs)
    (B : Nat) (A : Option Addr) (m c : Nat) (news : List Value) (hx : a.eval x = .slice A m c) (hr : Reads w B size A m news) (h1 : ∀ u ∈ news, u.oneCell' = true)
    (h63 : n + m ≤ maxLen) (hbytes : (n + m) * bytes ≤ 140737488355328) (hbase : base ≤ w.heap.size)
    (h : ∀ v' w', w'.ownsRow base e size v' (n + m) (xs ++ news) → w.grownBy w' v.ownBlock → (v'.ownBlock = v.ownBlock ∨ v'.ownBlock = some w.heap.size) → wpList P ops Q rest (a.put o.dst v') w') : wpList P ops Q (o :: rest) a w :=
  wpList_plain hgd fun K hK => by
    obtain ⟨v', w', hrun, h2, h3, h4⟩ := run_append_any (P := P) w base t o.type e i z size bytes ht hi hz hsize hby hzs hsz v n xs hown B A m c news hr h1 h63 hbytes hbase
    have e0 : (Builtin.append_ #[t, t2] o.type #[v, .slice A m c]).run P w = (Builtin.append_ #[t, t] o.type #[v, .slice A m c]).run P w := by
      have hv : ∃ b n c, v = .slice b n c := by
        rcases hown.2 with ⟨rfl, _⟩ | ⟨g, cap, cur, rfl, _⟩
        · exact ⟨_, _, _, rfl⟩
        · exact ⟨_, _, _, rfl⟩
      obtain ⟨b, n', c', rfl⟩ := hv
      simp [Builtin.append_, run_underlying ht, run_underlying ht2, sizeOf, typeInfo, hi]
    have hrun2 : (Builtin.append_ #[t, t2] o.type #[v, .slice A m c]).run P w = .ok v' w' := by rw [e0]; exact hrun
    unfold Oper.wp execOp
    simp only [ho, resolve, invoke, builtin, Sem.run_bind, Sem.run_pure, Result.andThen_ok, List.map_toArray, List.map_cons, List.map_nil, hs, hx, hrun2]
    exact hK _ _ (h v' w' h2 h3 h4)
end
end Go.Proofs.YtajnnkapgnmoaaaGreat
/-
  Values, rows and columns as they lie in memory; what stays of them while the world grows. No program in sight.
-/
namespace Go.Proofs.YtajnnkapgnmoaaaGreat
open Go.RowKit

/-- a value: kind, number, text -/
structure V where
  k : Int
  n : Int
  s : ByteArray
/-- a column: name, kind -/
structure C where
  nm : ByteArray
  k : Int

def V.val (v : V) : Value := .agg #[.int .i64 v.k, .int .i64 v.n, .string v.s]
def V.okB (v : V) : Bool := (v.k == 1 && v.s.toList.isEmpty) || (v.k == 2 && (v.n == 0 && decide ((v.s.size : Int) ≤ 40)))

/-- the values l lie at block b from off on -/
def VAt (w : World) (b off : Nat) (l : List V) : Prop := ∀ i v, l[i]? = some v →
  w.cell? ⟨b, off + i * 3, none⟩ = some (.int .i64 v.k) ∧ w.cell? ⟨b, off + i * 3 + 1, none⟩ = some (.int .i64 v.n) ∧ w.cell? ⟨b, off + i * 3 + 2, none⟩ = some (.string v.s)
def CAt (w : World) (b off : Nat) (l : List C) : Prop := ∀ i c, l[i]? = some c →
  w.cell? ⟨b, off + i * 2, none⟩ = some (.string c.nm) ∧ w.cell? ⟨b, off + i * 2 + 1, none⟩ = some (.int .i64 c.k)
/-- a slice at address A holds the values l, below block B -/
def VRow (w : World) (B : Nat) (A : Option Addr) (l : List V) : Prop := l = [] ∨ ∃ b off, A = some ⟨b, off, none⟩ ∧ b < B ∧ VAt w b off l
def CRow (w : World) (B : Nat) (A : Option Addr) (l : List C) : Prop := l = [] ∨ ∃ b off, A = some ⟨b, off, none⟩ ∧ b < B ∧ CAt w b off l

section
variable {w w' : World} {B B' b off : Nat} {A : Option Addr} {l : List V} {m : List C}
theorem VAt.below (h : VAt w b off l) (hb : Below B w w') (hB : b < B) : VAt w' b off l := fun i v hv => by
  obtain ⟨h1, h2, h3⟩ := h i v hv
  exact ⟨(hb.cell hB).trans h1, (hb.cell hB).trans h2, (hb.cell hB).trans h3⟩
theorem CAt.below (h : CAt w b off m) (hb : Below B w w') (hB : b < B) : CAt w' b off m := fun i v hv => by
  obtain ⟨h1, h2⟩ := h i v hv
  exact ⟨(hb.cell hB).trans h1, (hb.cell hB).trans h2⟩
theorem VRow.below (h : VRow w B A l) (hb : Below B w w') : VRow w' B A l := by
  rcases h with h | ⟨b, off, hA, hB, h⟩
  · exact .inl h
  · exact .inr ⟨b, off, hA, hB, h.below hb hB⟩
theorem CRow.below (h : CRow w B A m) (hb : Below B w w') : CRow w' B A m := by
  rcases h with h | ⟨b, off, hA, hB, h⟩
  · exact .inl h
  · exact .inr ⟨b, off, hA, hB, h.below hb hB⟩
theorem VRow.more (h : VRow w B A l) (hB : B ≤ B') : VRow w B' A l := by
  rcases h with h | ⟨b, off, hA, hb, h⟩
  · exact .inl h
  · exact .inr ⟨b, off, hA, by omega, h⟩
theorem CRow.more (h : CRow w B A m) (hB : B ≤ B') : CRow w B' A m := by
  rcases h with h | ⟨b, off, hA, hb, h⟩
  · exact .inl h
  · exact .inr ⟨b, off, hA, by omega, h⟩
end
theorem below_drewN {B : Nat} {a w : World} (h : Below B a w) (n : Nat) : Below B a (w.drewN n) := ⟨h.os, h.tape, h.output, h.size, h.block⟩

section
variable {P : Program} {md : Region.Mode} {ops : Array Oper} {Q : Exit → Act → World → Prop}
/-- one operation of a region that draws its order, where it alone may come up -/
theorem wpAny_one {i fuel : Nat} {o : Oper} {listed : Array Bool} {a : Act} {w : World} (hr : Region.ready md ops listed = [i]) (hi : ops[i]? = some o)
    (h : ∀ K' : Act → World → Prop, (∀ a w, wpAny P md ops Q fuel (listed.setIfInBounds i true) a w → K' a w) → if Region.wanted o (yielded ops a.tmps) = true then Oper.wp P o a w K' Q else K' (a.put o.dst undef) w) :
    wpAny P md ops Q (fuel + 1) listed a w := wpAny_ready hr (by simp) (AllReady.cons hi h AllReady.nil)
/-- an operation whose guard says no, passed over -/
theorem wpAny_skip {i fuel : Nat} {o : Oper} {listed : Array Bool} {a : Act} {w : World} (hi : ops[i]? = some o)
    (hs : Region.noSelect ops = true) (hf : Region.free md ops listed i = true) (hr : (Region.ready md ops listed).contains i = true)
    (hQ : ∀ c a w, Q (.panic c) (a.put o.dst undef) w → Q (.panic c) a w) (hw : Region.wanted o (yielded ops a.tmps) = false)
    (h : wpAny P md ops Q fuel (listed.setIfInBounds i true) (a.put o.dst undef) w) : wpAny P md ops Q (fuel + 1) listed a w :=
  wpAny_take hi hs hf hr hQ (Or.inr ⟨hw, rfl⟩) h
end

/-! ### rows that the call itself has made -/
def V.cs (v : V) : List Value := [.int .i64 v.k, .int .i64 v.n, .string v.s]
def flat (l : List V) : List Value := l.flatMap V.cs
theorem flat_len (l : List V) : (flat l).length = l.length * 3 := by
  induction l with
  | nil => rfl
  | cons v l ih => show ((V.cs v) ++ flat l).length = _; simp [ih, V.cs]; omega
theorem flat_get (l : List V) : ∀ (i : Nat) (v : V), l[i]? = some v → (flat l)[i * 3]? = some (.int .i64 v.k) ∧ (flat l)[i * 3 + 1]? = some (.int .i64 v.n) ∧ (flat l)[i * 3 + 2]? = some (.string v.s) := by
  induction l with
  | nil => intro i v h; simp at h
  | cons x l ih =>
    intro i v h
    have e : flat (x :: l) = V.cs x ++ flat l := rfl
    rw [e]
    cases i with
    | zero =>
      obtain rfl : x = v := by simpa using h
      exact ⟨rfl, rfl, rfl⟩
    | succ i =>
      have := ih i v (by simpa using h)
      have hl : (V.cs x).length = 3 := rfl
      rw [List.getElem?_append_right (by omega), List.getElem?_append_right (by omega), List.getElem?_append_right (by omega), hl]
      rw [show (i + 1) * 3 - 3 = i * 3 from by omega, show (i + 1) * 3 + 1 - 3 = i * 3 + 1 from by omega, show (i + 1) * 3 + 2 - 3 = i * 3 + 2 from by omega]
      exact this
theorem flat_one (v : V) : flat [v] = V.cs v := by simp [flat]
theorem flat_append (a b : List V) : flat (a ++ b) = flat a ++ flat b := by simp [flat]
theorem flat_snoc {l : List V} {k : Nat} {v : V} (h : l[k]? = some v) : flat (l.take (k + 1)) = flat (l.take k) ++ V.cs v := by
  obtain ⟨h1, e1⟩ := List.getElem?_eq_some_iff.1 h
  rw [List.take_succ_eq_append_getElem h1, flat_append, flat_one, e1]
theorem flat_ones (l : List V) : ∀ u ∈ flat l, u.oneCell' = true := by
  intro u hu
  obtain ⟨v, _, hv⟩ := List.mem_flatMap.1 hu
  simp only [V.cs, List.mem_cons, List.not_mem_nil, or_false] at hv
  rcases hv with rfl | rfl | rfl <;> rfl

/-- what is owned is a row -/
theorem own_row {w : World} {base : Nat} {e : TypeId} {v : Value} {l : List V} (h : w.ownsRow base e 3 v l.length (flat l)) :
    ∃ A c, v = .slice A l.length c ∧ l.length ≤ c ∧ VRow w w.heap.size A l ∧ (∀ b o, A = some ⟨b, o, none⟩ → base ≤ b) := by
  obtain ⟨_, hcase⟩ := id h
  rcases hcase with ⟨rfl, h0⟩ | ⟨g, cap, cur, rfl, hg, hh, hn, hcap, hsz, htake⟩
  · have e0 : l = [] := List.eq_nil_of_length_eq_zero h0
    exact ⟨none, 0, by rw [h0], by omega, .inl e0, fun b o hb => by cases hb⟩
  · refine ⟨some ⟨g, 0, none⟩, cap, rfl, hn, .inr ⟨g, 0, rfl, ?_, ?_⟩, ?_⟩
    · rcases Nat.lt_or_ge g w.heap.size with hlt | hge
      · exact hlt
      · rw [Array.getElem?_eq_none hge] at hh; cases hh
    · intro i x hx
      obtain ⟨f1, f2, f3⟩ := flat_get l i x hx
      have hi : i < l.length := (List.getElem?_eq_some_iff.1 hx).1
      rw [Nat.zero_add, h.cellAt _ (by omega), h.cellAt _ (by omega), h.cellAt _ (by omega)]
      exact ⟨f1, f2, f3⟩
    · intro b o hb
      injection hb with hb
      injection hb with hb _
      omega
end Go.Proofs.YtajnnkapgnmoaaaGreat
/-
  Package value's contracts.
-/
namespace Go.Proofs.YtajnnkapgnmoaaaGreat
open Go.RowKit

set_option maxHeartbeats 400000 in
theorem value_right (k n : Int) (s : ByteArray) (w : World) :
    Calls Tryz.prog 102 #[.agg #[.int .i64 k, .int .i64 n, .string s]] w fun e w' =>
      e = .returned (.bool (V.okB ⟨k, n, s⟩)) ∧ w.alloc (.cells #[.int .i64 k, .int .i64 n, .string s] 49) = w' := by
  by_cases h1 : (k == 1) = true
  · have hr : V.okB ⟨k, n, s⟩ = s.toList.isEmpty := by
      have : (k == 2) = false := by simp at h1 ⊢; omega
      simp [V.okB, h1, this]
    rw [hr]
    clear hr
    go_enter Tryz.func102, Tryz.ntmps102
    go_wp2
    go_ret
    exact ⟨rfl, rfl⟩
  · have h1' : (k == 1) = false := by simpa using h1
    clear h1
    by_cases h2 : (k == 2) = true
    · by_cases h3 : n = 0
      · subst h3
        have hr : V.okB ⟨k, 0, s⟩ = decide ((s.size : Int) ≤ 40) := by simp [V.okB, h1', h2]
        rw [hr]
        clear hr
        go_enter Tryz.func102, Tryz.ntmps102
        go_wp2
        go_ret
        exact ⟨rfl, rfl⟩
      · have hr : V.okB ⟨k, n, s⟩ = false := by simp [V.okB, h1', h3]
        rw [hr]
        clear hr
        go_enter Tryz.func102, Tryz.ntmps102
        go_wp2
        go_ret
        exact ⟨rfl, rfl⟩
    · have h2' : (k == 2) = false := by simpa using h2
      clear h2
      have hr : V.okB ⟨k, n, s⟩ = false := by simp [V.okB, h1', h2']
      rw [hr]
      clear hr
      go_enter Tryz.func102, Tryz.ntmps102
      go_wp2
      go_ret
      exact ⟨rfl, rfl⟩

end Go.Proofs.YtajnnkapgnmoaaaGreat
/-
  Package row's contracts: Find, Right (and slices.IndexFunc, ContainsFunc at their closures).
-/
namespace Go.Proofs.YtajnnkapgnmoaaaGreat
open Go.RowKit

/-- the first place from k on at which p holds, or -1 -/
def idx {α : Type} (p : α → Bool) : List α → Nat → Int
  | [], _ => -1
  | x :: l, k => if p x then (k : Int) else idx p l (k + 1)
theorem idx_step {α : Type} {p : α → Bool} {l : List α} {k : Nat} {x : α} (h : l[k]? = some x) : idx p (l.drop k) k = if p x then (k : Int) else idx p (l.drop (k + 1)) (k + 1) := by
  obtain ⟨h1, e1⟩ := List.getElem?_eq_some_iff.1 h
  rw [List.drop_eq_getElem_cons h1, e1]
  rfl
theorem idx_bd {α : Type} (p : α → Bool) (l : List α) : ∀ k : Nat, -1 ≤ idx p l k ∧ idx p l k < k + l.length ∧ (idx p l k = -1 ∨ (k : Int) ≤ idx p l k) := by
  induction l with
  | nil => intro k; simp [idx]; omega
  | cons x l ih =>
    intro k
    unfold idx
    have := ih (k + 1)
    split
    · simp; omega
    · simp only [List.length_cons]; omega

def C.isB (nm : ByteArray) (c : C) : Bool := c.nm.toList == nm.toList

theorem find_closure (cn : ByteArray) (ck : Int) (nm : ByteArray) (p : Addr) (w : World) (h0 : w.cell? p = some (.string nm)) :
    Calls Tryz.prog 141 #[.agg #[.string cn, .int .i64 ck], .pointer (some p)] w fun e w' => e = .returned (.bool (C.isB nm ⟨cn, ck⟩)) ∧ w.alloc (.cells #[.string cn, .int .i64 ck] 100) = w' := by
  have hp := block_lt_of_cell h0
  go_enter Tryz.func141, Tryz.ntmps141
  go_wp2
  go_ret
  exact ⟨rfl, rfl⟩

set_option maxHeartbeats 400000 in
theorem indexFunc_col_full (b o : Nat) (n c : Nat) (l : List C) (hl : l.length = n) (hn : n ≤ 9223372036854775807) (nm : ByteArray) (pb po : Nat) (w : World) (hb : b < w.heap.size) (hL : CAt w b o l)
    (h0 : w.cell? ⟨pb, po, none⟩ = some (.string nm)) :
    Calls Tryz.prog 140 #[.slice (some ⟨b, o, none⟩) n c, .func (.func 141) #[] #[.pointer (some ⟨pb, po, none⟩)]] w fun e w' =>
      e = .returned (.int .i64 (idx (C.isB nm) l 0)) ∧ Below w.heap.size w w' := by
  have HL := Lib.hid hL
  have Hl := Lib.hid hl
  have hp := block_lt_of_cell h0
  have H0 := Lib.hid h0
  clear hL hl h0
  go_enter Tryz.func140, Tryz.ntmps140
  go_wp2_with fail
  go_loopw [8] (fun i wr => ∃ k : Nat, k ≤ n ∧ i = .int .i64 k ∧ Below w.heap.size w wr ∧ Hid (idx (C.isB nm) l 0 = idx (C.isB nm) (l.drop k) k)) (fun i _ => n - (intOf i).toNat)
  case atStart => exact ⟨0, Nat.zero_le _, rfl, Below.refl _ _, rfl⟩
  case round =>
    obtain ⟨k, hk, rfl, hbl, hz⟩ := hrel
    by_cases hlt : k < n
    · obtain ⟨cc, hc⟩ : ∃ c, l[k]? = some c := ⟨_, List.getElem?_eq_getElem (by rw [Hl.out]; exact hlt)⟩
      have hst := Lib.hid (hz.out.trans (idx_step (p := C.isB nm) hc))
      obtain ⟨c1, c2⟩ := HL.out.below hbl hb k cc hc
      clear hc hz
      obtain ⟨cn, ck⟩ := cc
      have hs := hbl.size
      have hcl := Lib.hid (find_closure cn ck nm ⟨pb, po, none⟩ wr ((hbl.cell hp).trans H0.out))
      by_cases he : C.isB nm ⟨cn, ck⟩ = true
      · rw [he] at hcl
        rw [if_pos he] at hst
        clear he
        go_wp2_with fail
        refine (hcl.out).mono ?_
        rintro e w' ⟨rfl, rfl⟩
        go_wp2_with fail
        go_ret
        exact ⟨by rw [hst.out]; rfl, hbl.alloc hs _⟩
      · have he' : C.isB nm ⟨cn, ck⟩ = false := by simpa using he
        rw [he'] at hcl
        rw [if_neg he] at hst
        clear he he'
        go_wp2_with fail
        refine (hcl.out).mono ?_
        rintro e w' ⟨rfl, rfl⟩
        go_wp2_with fail
        go_roundw
        case rel => exact ⟨k + 1, by omega, by go_num, hbl.alloc hs _, hst⟩
        case measure => simp [intOf]; omega
    · go_wp2_with fail
      go_ret
      have e : k = n := by omega
      subst e
      exact ⟨by rw [hz.out, List.drop_of_length_le (by rw [Hl.out]; omega)]; rfl, hbl⟩

theorem indexFunc_col (A : Option Addr) (c : Nat) (l : List C) (hn : l.length ≤ 9223372036854775807) (nm : ByteArray) (pb po : Nat) (w : World) (hA : CRow w w.heap.size A l)
    (h0 : w.cell? ⟨pb, po, none⟩ = some (.string nm)) :
    Calls Tryz.prog 140 #[.slice A l.length c, .func (.func 141) #[] #[.pointer (some ⟨pb, po, none⟩)]] w fun e w' =>
      e = .returned (.int .i64 (idx (C.isB nm) l 0)) ∧ Below w.heap.size w w' := by
  rcases hA with rfl | ⟨b, o, rfl, hb, hL⟩
  · clear h0
    go_enter Tryz.func140, Tryz.ntmps140
    go_wp2
    refine wp_loop_rounds 1 ?_
    rw [rounds_succ]
    go_wp2
    go_ret
    exact ⟨rfl, Below.refl _ _⟩
  · exact indexFunc_col_full b o l.length c l rfl hn nm pb po w hb hL h0

/-- Find's results: the place, or 0; whether there is one -/
def findN (l : List C) (nm : ByteArray) : Int := if 0 ≤ idx (C.isB nm) l 0 then idx (C.isB nm) l 0 else 0
def findB (l : List C) (nm : ByteArray) : Bool := decide (0 ≤ idx (C.isB nm) l 0)

set_option maxHeartbeats 400000 in
theorem find_any (A : Option Addr) (c : Nat) (l : List C) (hn : l.length ≤ 9223372036854775807) (nm : ByteArray) (w : World) (hA : CRow w w.heap.size A l) :
    Calls Tryz.prog 128 #[.slice A l.length c, .string nm] w fun e w' =>
      e = .returned (.tuple #[.int .i64 (findN l nm), .bool (findB l nm)]) ∧ Below w.heap.size w w' := by
  have hb0 : Below w.heap.size w (w.alloc (.cells #[.string nm] 9)) := (Below.refl _ _).alloc (Nat.le_refl _) _
  have hc := Lib.hid (indexFunc_col A c l hn nm w.heap.size 0 (w.alloc (.cells #[.string nm] 9)) ((hA.below hb0).more (by simp)) (by simp))
  obtain ⟨b1, b2, b3⟩ := idx_bd (C.isB nm) l 0
  unfold findN findB
  clear hA
  generalize idx (C.isB nm) l 0 = r at *
  by_cases hr : 0 ≤ r
  · rw [if_pos hr, decide_eq_true hr]
    go_enter Tryz.func128, Tryz.ntmps128
    go_wp2_with fail
    refine (hc.out).mono ?_
    rintro e w' ⟨rfl, hb⟩
    have hb2 := hb0.trans (hb.mono (by simp))
    clear hb hb0
    go_wp2_with fail
    go_ret2
    exact ⟨rfl, hb2⟩
  · obtain rfl : r = -1 := by omega
    rw [if_neg hr, decide_eq_false hr]
    clear hr b1 b2 b3
    go_enter Tryz.func128, Tryz.ntmps128
    go_wp2_with fail
    refine (hc.out).mono ?_
    rintro e w' ⟨rfl, hb⟩
    have hb2 := hb0.trans (hb.mono (by simp))
    clear hb hb0
    go_wp2_with fail
    go_ret2
    exact ⟨rfl, hb2⟩

/-! ### Right -/
end Go.Proofs.YtajnnkapgnmoaaaGreat
/-
  Package row: Right.
-/
namespace Go.Proofs.YtajnnkapgnmoaaaGreat
open Go.RowKit
theorem right_closure (k n : Int) (s : ByteArray) (w : World) :
    Calls Tryz.prog 116 #[.agg #[.int .i64 k, .int .i64 n, .string s]] w fun e w' => e = .returned (.bool (!V.okB ⟨k, n, s⟩)) ∧ Below w.heap.size w w' := by
  have hv := Lib.hid (value_right k n s)
  generalize V.okB ⟨k, n, s⟩ = q at *
  go_enter Tryz.func116, Tryz.ntmps116
  go_wp2_with fail
  refine (hv.out _).mono ?_
  rintro e w' ⟨rfl, rfl⟩
  go_wp2_with fail
  go_ret
  exact ⟨rfl, by repeat (first | exact Below.refl _ _ | refine Below.alloc ?_ (by simp) _)⟩

set_option maxHeartbeats 400000 in
theorem indexFunc_val_full (b o : Nat) (n c : Nat) (l : List V) (hl : l.length = n) (hn : n ≤ 9223372036854775807) (w : World) (hb : b < w.heap.size) (hL : VAt w b o l) :
    Calls Tryz.prog 135 #[.slice (some ⟨b, o, none⟩) n c, .func (.func 116) #[] #[]] w fun e w' =>
      e = .returned (.int .i64 (idx (fun v => !V.okB v) l 0)) ∧ Below w.heap.size w w' := by
  have HL := Lib.hid hL
  have Hl := Lib.hid hl
  clear hL hl
  go_enter Tryz.func135, Tryz.ntmps135
  go_wp2_with fail
  go_loopw [8] (fun i wr => ∃ k : Nat, k ≤ n ∧ i = .int .i64 k ∧ Below w.heap.size w wr ∧ Hid (idx (fun v => !V.okB v) l 0 = idx (fun v => !V.okB v) (l.drop k) k)) (fun i _ => n - (intOf i).toNat)
  case atStart => exact ⟨0, Nat.zero_le _, rfl, Below.refl _ _, rfl⟩
  case round =>
    obtain ⟨k, hk, rfl, hbl, hz⟩ := hrel
    by_cases hlt : k < n
    · obtain ⟨cc, hc⟩ : ∃ c, l[k]? = some c := ⟨_, List.getElem?_eq_getElem (by rw [Hl.out]; exact hlt)⟩
      have hst := Lib.hid (hz.out.trans (idx_step (p := fun v => !V.okB v) hc))
      obtain ⟨c1, c2, c3⟩ := HL.out.below hbl hb k cc hc
      clear hc hz
      obtain ⟨vk, vn, vs⟩ := cc
      have hs := hbl.size
      have hcl := Lib.hid (right_closure vk vn vs wr)
      by_cases he : V.okB ⟨vk, vn, vs⟩ = true
      · rw [he] at hcl
        have hst' : Hid (idx (fun v => !V.okB v) l 0 = idx (fun v => !V.okB v) (l.drop (k + 1)) (k + 1)) := by
          have := hst.out
          rwa [if_neg (by simp [he])] at this
        clear he hst
        go_wp2_with fail
        refine (hcl.out).mono ?_
        rintro e w' ⟨rfl, hb2⟩
        have hb3 := hbl.trans (hb2.mono hs)
        clear hb2
        go_wp2_with fail
        go_roundw
        case rel => exact ⟨k + 1, by omega, by go_num, hb3, hst'⟩
        case measure => simp [intOf]; omega
      · have he' : V.okB ⟨vk, vn, vs⟩ = false := by simpa using he
        rw [he'] at hcl
        have hst' : Hid (idx (fun v => !V.okB v) l 0 = (k : Int)) := by
          have := hst.out
          rwa [if_pos (by simp [he'])] at this
        clear he he' hst
        go_wp2_with fail
        refine (hcl.out).mono ?_
        rintro e w' ⟨rfl, hb2⟩
        have hb3 := hbl.trans (hb2.mono hs)
        clear hb2
        go_wp2_with fail
        go_ret
        exact ⟨by rw [hst'.out]; rfl, hb3⟩
    · go_wp2_with fail
      go_ret
      have e : k = n := by omega
      subst e
      exact ⟨by rw [hz.out, List.drop_of_length_le (by rw [Hl.out]; omega)]; rfl, hbl⟩

theorem indexFunc_val (A : Option Addr) (c : Nat) (l : List V) (hn : l.length ≤ 9223372036854775807) (w : World) (hA : VRow w w.heap.size A l) :
    Calls Tryz.prog 135 #[.slice A l.length c, .func (.func 116) #[] #[]] w fun e w' =>
      e = .returned (.int .i64 (idx (fun v => !V.okB v) l 0)) ∧ Below w.heap.size w w' := by
  rcases hA with rfl | ⟨b, o, rfl, hb, hL⟩
  · go_enter Tryz.func135, Tryz.ntmps135
    go_wp2
    refine wp_loop_rounds 1 ?_
    rw [rounds_succ]
    go_wp2
    go_ret
    exact ⟨rfl, Below.refl _ _⟩
  · exact indexFunc_val_full b o l.length c l rfl hn w hb hL

theorem idx_all (p : V → Bool) (l : List V) : ∀ k, decide (0 ≤ idx p l k) = l.any p := by
  induction l with
  | nil => intro k; rfl
  | cons x l ih =>
    intro k
    unfold idx
    by_cases h : p x = true
    · rw [if_pos h]; simp [h]
    · rw [if_neg h, ih]; simp [h]

theorem not_all (p : V → Bool) (l : List V) : (!(l.all p)) = l.any fun v => !p v := by
  induction l with
  | nil => rfl
  | cons x l ih => rw [List.all_cons, List.any_cons, Bool.not_and, ih]

theorem containsFunc_val (A : Option Addr) (c : Nat) (l : List V) (hn : l.length ≤ 9223372036854775807) (w : World) (hA : VRow w w.heap.size A l) :
    Calls Tryz.prog 115 #[.slice A l.length c, .func (.func 116) #[] #[]] w fun e w' =>
      e = .returned (.bool (!(l.all V.okB))) ∧ Below w.heap.size w w' := by
  have hc := Lib.hid (indexFunc_val A c l hn w hA)
  have e0 : (!(l.all V.okB)) = decide (0 ≤ idx (fun v => !V.okB v) l 0) := by
    rw [idx_all]; exact not_all V.okB l
  rw [e0]
  clear hA e0
  generalize idx (fun v => !V.okB v) l 0 = r at *
  go_enter Tryz.func115, Tryz.ntmps115
  go_wp2_with fail
  refine (hc.out).mono ?_
  rintro e w' ⟨rfl, hb⟩
  have HB := Lib.hid hb
  clear hb
  go_wp2_with fail
  go_ret
  exact ⟨rfl, HB.out⟩

def rowOk (l : List V) : Bool := (decide (0 < l.length) && decide (l.length ≤ 6)) && l.all V.okB

set_option maxHeartbeats 400000 in
theorem rowRight_any (A : Option Addr) (c : Nat) (l : List V) (hn : l.length ≤ 9223372036854775807) (w : World) (hA : VRow w w.heap.size A l) :
    Calls Tryz.prog 77 #[.slice A l.length c] w fun e w' => e = .returned (.bool (rowOk l)) ∧ Below w.heap.size w w' := by
  have hc := Lib.hid (containsFunc_val A c l hn w hA)
  clear hA
  by_cases h1 : 0 < l.length
  · by_cases h2 : l.length ≤ 6
    · have e0 : rowOk l = l.all V.okB := by simp [rowOk, h1, h2]
      rw [e0]
      generalize l.all V.okB = q at *
      generalize l.length = n at *
      have hmf : ∀ (fn : Fn) (first cap : Array Value) (w : World), (Instr.makeFunc fn first cap).run Tryz.prog w = .ok (.func fn first cap) w := fun _ _ _ _ => rfl
      go_enter Tryz.func77, Tryz.ntmps77
      go_wp2_with fail
      refine (hc.out).mono ?_
      rintro e w' ⟨rfl, hb⟩
      have HB := Lib.hid hb
      clear hb
      go_wp2_with fail
      go_ret
      exact ⟨by simp, HB.out⟩
    · have e0 : rowOk l = false := by simp [rowOk, h2]
      rw [e0]
      generalize l.length = n at *
      clear hc
      go_enter Tryz.func77, Tryz.ntmps77
      go_wp2
      go_ret
      exact ⟨rfl, Below.refl _ _⟩
  · have e0 : rowOk l = false := by simp [rowOk, h1]
    rw [e0]
    have hz : l.length = 0 := by omega
    rw [hz]
    clear hc hz h1
    go_enter Tryz.func77, Tryz.ntmps77
    go_wp2
    go_ret
    exact ⟨rfl, Below.refl _ _⟩

end Go.Proofs.YtajnnkapgnmoaaaGreat
/-
  Package value's contract: Less.
-/
namespace Go.Proofs.YtajnnkapgnmoaaaGreat
open Go.RowKit

def V.ltIn (a b : V) : Bool := if (a.k != b.k) then a.k == 1 else if (a.k == 1) then decide (a.n < b.n) else Op.bytesLess a.s.toList b.s.toList
def V.lt (a b : V) : Bool := (V.okB a && V.okB b) && V.ltIn a b

set_option maxHeartbeats 400000 in
theorem value_less (k n : Int) (s : ByteArray) (k2 n2 : Int) (s2 : ByteArray) (w : World) :
    Calls Tryz.prog 121 #[.agg #[.int .i64 k, .int .i64 n, .string s], .agg #[.int .i64 k2, .int .i64 n2, .string s2]] w fun e w' =>
      e = .returned (.bool (V.lt ⟨k, n, s⟩ ⟨k2, n2, s2⟩)) ∧ Below w.heap.size w w' := by
  have hr1 := Lib.hid (value_right k n s)
  have hr2 := Lib.hid (value_right k2 n2 s2)
  unfold V.lt
  generalize V.okB ⟨k, n, s⟩ = q at *
  generalize V.okB ⟨k2, n2, s2⟩ = q2 at *
  cases q
  · rw [Bool.false_and, Bool.false_and]
    clear hr2
    go_enter Tryz.func121, Tryz.ntmps121
    go_wp2_with fail
    refine (hr1.out _).mono ?_
    rintro e w' ⟨rfl, rfl⟩
    go_wp2_with fail
    go_ret
    exact ⟨rfl, by repeat (first | exact Below.refl _ _ | refine Below.alloc ?_ (by simp <;> omega) _)⟩
  · cases q2
    · rw [Bool.and_false, Bool.false_and]
      go_enter Tryz.func121, Tryz.ntmps121
      go_wp2_with fail
      refine (hr1.out _).mono ?_
      rintro e w' ⟨rfl, rfl⟩
      go_wp2_with fail
      refine (hr2.out _).mono ?_
      rintro e w' ⟨rfl, rfl⟩
      go_wp2_with fail
      go_ret
      exact ⟨rfl, by repeat (first | exact Below.refl _ _ | refine Below.alloc ?_ (by simp <;> omega) _)⟩
    · rw [Bool.and_self, Bool.true_and]
      by_cases h1 : (k != k2) = true
      · have e0 : V.ltIn ⟨k, n, s⟩ ⟨k2, n2, s2⟩ = (k == 1) := if_pos h1
        rw [e0]
        clear e0
        go_enter Tryz.func121, Tryz.ntmps121
        go_wp2_with fail
        refine (hr1.out _).mono ?_
        rintro e w' ⟨rfl, rfl⟩
        go_wp2_with fail
        refine (hr2.out _).mono ?_
        rintro e w' ⟨rfl, rfl⟩
        go_wp2_with fail
        go_ret
        exact ⟨rfl, by repeat (first | exact Below.refl _ _ | refine Below.alloc ?_ (by simp <;> omega) _)⟩
      · have h1' : (k != k2) = false := by simpa using h1
        by_cases h2 : (k == 1) = true
        · have e0 : V.ltIn ⟨k, n, s⟩ ⟨k2, n2, s2⟩ = decide (n < n2) := (if_neg h1).trans (if_pos h2)
          rw [e0]
          clear e0 h1
          go_enter Tryz.func121, Tryz.ntmps121
          go_wp2_with fail
          refine (hr1.out _).mono ?_
          rintro e w' ⟨rfl, rfl⟩
          go_wp2_with fail
          refine (hr2.out _).mono ?_
          rintro e w' ⟨rfl, rfl⟩
          go_wp2_with fail
          go_ret
          exact ⟨rfl, by repeat (first | exact Below.refl _ _ | refine Below.alloc ?_ (by simp <;> omega) _)⟩
        · have h2' : (k == 1) = false := by simpa using h2
          have e0 : V.ltIn ⟨k, n, s⟩ ⟨k2, n2, s2⟩ = Op.bytesLess s.toList s2.toList := (if_neg h1).trans (if_neg h2)
          rw [e0]
          clear e0 h1 h2
          go_enter Tryz.func121, Tryz.ntmps121
          go_wp2_with fail
          refine (hr1.out _).mono ?_
          rintro e w' ⟨rfl, rfl⟩
          go_wp2_with fail
          refine (hr2.out _).mono ?_
          rintro e w' ⟨rfl, rfl⟩
          go_wp2_with fail
          go_ret
          exact ⟨rfl, by repeat (first | exact Below.refl _ _ | refine Below.alloc ?_ (by simp <;> omega) _)⟩

end Go.Proofs.YtajnnkapgnmoaaaGreat
/-
  Packages value's and row's contracts: Less, Compare, Same (and slices.CompareFunc at its closure).
-/
namespace Go.Proofs.YtajnnkapgnmoaaaGreat
open Go.RowKit

def V.cmp (a b : V) : Int := if V.lt a b then -1 else if V.lt b a then 1 else 0

/-- two boxes of values, as the world grows behind them -/
theorem boxes2 (k n : Int) (s : ByteArray) (k2 n2 : Int) (s2 : ByteArray) (w w1 : World) (t1 t2 : TypeId)
    (hb : Below ((w.alloc (.cells #[.int .i64 k, .int .i64 n, .string s] t1)).alloc (.cells #[.int .i64 k2, .int .i64 n2, .string s2] t2)).heap.size ((w.alloc (.cells #[.int .i64 k, .int .i64 n, .string s] t1)).alloc (.cells #[.int .i64 k2, .int .i64 n2, .string s2] t2)) w1) :
    (w1.cell? ⟨w.heap.size, 0, none⟩ = some (.int .i64 k) ∧ w1.cell? ⟨w.heap.size, 1, none⟩ = some (.int .i64 n) ∧ w1.cell? ⟨w.heap.size, 2, none⟩ = some (.string s)) ∧
    (w1.cell? ⟨w.heap.size + 1, 0, none⟩ = some (.int .i64 k2) ∧ w1.cell? ⟨w.heap.size + 1, 1, none⟩ = some (.int .i64 n2) ∧ w1.cell? ⟨w.heap.size + 1, 2, none⟩ = some (.string s2)) ∧
    w.heap.size + 1 < w1.heap.size ∧ Below w.heap.size w w1 := by
  have hz := hb.size
  refine ⟨⟨?_, ?_, ?_⟩, ⟨?_, ?_, ?_⟩, ?_, ?_⟩
  · rw [hb.cell (by simp; omega)]; simp
  · rw [hb.cell (by simp; omega)]; simp
  · rw [hb.cell (by simp; omega)]; simp
  · rw [hb.cell (by simp)]; simp
  · rw [hb.cell (by simp)]; simp
  · rw [hb.cell (by simp)]; simp
  · simp at hz; omega
  · exact (((Below.refl _ _).alloc (Nat.le_refl _) _).alloc (by simp) _).trans (hb.mono (by simp; omega))

set_option maxHeartbeats 400000 in
theorem compare_closure (k n : Int) (s : ByteArray) (k2 n2 : Int) (s2 : ByteArray) (w : World) :
    Calls Tryz.prog 120 #[.agg #[.int .i64 k, .int .i64 n, .string s], .agg #[.int .i64 k2, .int .i64 n2, .string s2]] w fun e w' =>
      e = .returned (.int .i64 (V.cmp ⟨k, n, s⟩ ⟨k2, n2, s2⟩)) ∧ Below w.heap.size w w' := by
  have hr1 := Lib.hid (value_less k n s k2 n2 s2)
  have hr2 := Lib.hid (value_less k2 n2 s2 k n s)
  unfold V.cmp
  generalize V.lt ⟨k, n, s⟩ ⟨k2, n2, s2⟩ = q at *
  generalize V.lt ⟨k2, n2, s2⟩ ⟨k, n, s⟩ = q2 at *
  cases q
  · rw [if_neg (by simp)]
    go_enter Tryz.func120, Tryz.ntmps120
    go_wp2_with fail
    refine (hr1.out _).mono ?_
    rintro e w1 ⟨rfl, hb1⟩
    obtain ⟨⟨c1, c2, c3⟩, ⟨c4, c5, c6⟩, hs1, hb⟩ := boxes2 k n s k2 n2 s2 w w1 _ _ hb1
    have HB1 := Lib.hid hb
    have hs2 := hb.size
    clear hb1 hb
    go_wp2_with fail
    refine (hr2.out _).mono ?_
    rintro e w2 ⟨rfl, hb2⟩
    have HB2 := Lib.hid (HB1.out.trans (hb2.mono hs2))
    clear hb2
    cases q2
    · go_wp2_with fail
      go_ret
      exact ⟨rfl, HB2.out⟩
    · go_wp2_with fail
      go_ret
      exact ⟨rfl, HB2.out⟩
  · rw [if_pos rfl]
    go_enter Tryz.func120, Tryz.ntmps120
    go_wp2_with fail
    refine (hr1.out _).mono ?_
    rintro e w1 ⟨rfl, hb1⟩
    obtain ⟨_, _, _, hb⟩ := boxes2 k n s k2 n2 s2 w w1 _ _ hb1
    have HB1 := Lib.hid hb
    clear hb1 hb
    go_wp2_with fail
    go_ret
    exact ⟨rfl, HB1.out⟩

def cmpR : List V → List V → Int
  | [], [] => 0
  | [], _ :: _ => -1
  | _ :: _, [] => 1
  | x :: a, y :: b => if (V.cmp x y != 0) then V.cmp x y else cmpR a b
theorem cmpR_step {a b : List V} {k : Nat} {x y : V} (hx : a[k]? = some x) (hy : b[k]? = some y) : cmpR (a.drop k) (b.drop k) = if (V.cmp x y != 0) then V.cmp x y else cmpR (a.drop (k + 1)) (b.drop (k + 1)) := by
  obtain ⟨h1, e1⟩ := List.getElem?_eq_some_iff.1 hx
  obtain ⟨h2, e2⟩ := List.getElem?_eq_some_iff.1 hy
  rw [List.drop_eq_getElem_cons h1, List.drop_eq_getElem_cons h2, e1, e2]
  rfl
theorem cmpR_long {a b : List V} {k : Nat} {x : V} (hx : a[k]? = some x) (h : b.length ≤ k) : cmpR (a.drop k) (b.drop k) = 1 := by
  obtain ⟨h1, e1⟩ := List.getElem?_eq_some_iff.1 hx
  rw [List.drop_eq_getElem_cons h1, List.drop_of_length_le h]
  rfl
theorem cmpR_end {a b : List V} (h : a.length ≤ b.length) : cmpR (a.drop a.length) (b.drop a.length) = if a.length < b.length then -1 else 0 := by
  rw [List.drop_of_length_le (Nat.le_refl a.length)]
  by_cases h1 : a.length < b.length
  · rw [if_pos h1, List.drop_eq_getElem_cons h1]; rfl
  · rw [if_neg h1, List.drop_of_length_le (by omega)]; rfl

theorem cmpR_fin {a b : List V} {k m : Nat} (ha : a.length = k) (hb : b.length = m) (h : k ≤ m) : cmpR (a.drop k) (b.drop k) = if k < m then -1 else 0 := by
  subst ha hb
  exact cmpR_end h

set_option maxHeartbeats 1000000 in
theorem compareFunc_any (A D : Option Addr) (c d : Nat) (a b : List V) (ha : a.length ≤ 9223372036854775807) (hb : b.length ≤ 9223372036854775807) (w : World) (hA : VRow w w.heap.size A a) (hD : VRow w w.heap.size D b) :
    Calls Tryz.prog 119 #[.slice A a.length c, .slice D b.length d, .func (.func 120) #[] #[]] w fun e w' =>
      e = .returned (.int .i64 (cmpR a b)) ∧ Below w.heap.size w w' := by
  rcases hA with rfl | ⟨ab, ao, rfl, hab, hL⟩
  · clear hD
    cases b with
    | nil =>
      go_enter Tryz.func119, Tryz.ntmps119
      go_wp2
      refine wp_loop_rounds 1 ?_
      rw [rounds_succ]
      go_wp2
      go_ret
      exact ⟨rfl, Below.refl _ _⟩
    | cons y b =>
      have hp : 0 < (y :: b).length := by simp
      have e0 : cmpR [] (y :: b) = -1 := rfl
      rw [e0]
      generalize (y :: b).length = m at *
      clear e0
      go_enter Tryz.func119, Tryz.ntmps119
      go_wp2
      refine wp_loop_rounds 1 ?_
      rw [rounds_succ]
      go_wp2
      go_ret
      exact ⟨rfl, Below.refl _ _⟩
  · have HL := Lib.hid hL
    have HD := Lib.hid hD
    clear hL hD
    obtain ⟨n, hn⟩ : ∃ n, a.length = n := ⟨_, rfl⟩
    obtain ⟨m, hm⟩ : ∃ m, b.length = m := ⟨_, rfl⟩
    have Hn := Lib.hid hn
    have Hm := Lib.hid hm
    rw [hn, hm]
    rw [hn] at ha
    rw [hm] at hb
    clear hn hm
    -- where the second row is not empty it stands somewhere
    by_cases h0 : m = 0
    · subst h0
      have hb0 : b = [] := List.eq_nil_of_length_eq_zero Hm.out
      subst hb0
      obtain ⟨x, hx⟩ | hx : (∃ x, a[0]? = some x) ∨ n = 0 := by
        rcases Nat.eq_zero_or_pos n with h | h
        · exact .inr h
        · exact .inl ⟨_, List.getElem?_eq_getElem (by rw [Hn.out]; exact h)⟩
      · have hlt : 0 < n := by
          obtain ⟨h1, _⟩ := List.getElem?_eq_some_iff.1 hx
          rw [← Hn.out]; exact h1
        have e0 : Hid (cmpR a [] = 1) := Lib.hid (by
          have := cmpR_long (b := []) hx (by simp)
          simpa using this)
        obtain ⟨v1, v2, v3⟩ := HL.out 0 x hx
        simp only [Nat.zero_mul, Nat.add_zero] at v1 v2 v3
        clear hx
        obtain ⟨vk, vn, vs⟩ := x
        go_enter Tryz.func119, Tryz.ntmps119
        go_wp2_with fail
        refine wp_loop_rounds 1 ?_
        rw [rounds_succ]
        go_wp2_with fail
        go_ret
        exact ⟨by rw [e0.out]; rfl, by repeat (first | exact Below.refl _ _ | refine Below.alloc ?_ (by simp <;> omega) _)⟩
      · subst hx
        have ha0 : a = [] := List.eq_nil_of_length_eq_zero Hn.out
        subst ha0
        go_enter Tryz.func119, Tryz.ntmps119
        go_wp2
        refine wp_loop_rounds 1 ?_
        rw [rounds_succ]
        go_wp2
        go_ret
        exact ⟨rfl, Below.refl _ _⟩
    · obtain ⟨bb, bo, rfl, hbb, hR⟩ : ∃ bb bo, D = some ⟨bb, bo, none⟩ ∧ bb < w.heap.size ∧ VAt w bb bo b := by
        rcases HD.out with h | h
        · subst h; exact absurd Hm.out.symm h0
        · exact h
      have HR := Lib.hid hR
      clear hR HD h0
      go_enter Tryz.func119, Tryz.ntmps119
      go_wp2_with fail
      go_loopw [13] (fun i wr => ∃ k : Nat, k ≤ n ∧ k ≤ m ∧ i = .int .i64 k ∧ Below w.heap.size w wr ∧ Hid (cmpR a b = cmpR (a.drop k) (b.drop k))) (fun i _ => n - (intOf i).toNat)
      case atStart => exact ⟨0, Nat.zero_le _, Nat.zero_le _, rfl, Below.refl _ _, rfl⟩
      case round =>
        obtain ⟨k, hk, hkm, rfl, hbl, hz⟩ := hrel
        have hs := hbl.size
        by_cases hlt : k < n
        · obtain ⟨x, hx⟩ : ∃ x, a[k]? = some x := ⟨_, List.getElem?_eq_getElem (by rw [Hn.out]; exact hlt)⟩
          obtain ⟨v1, v2, v3⟩ := HL.out.below hbl hab k x hx
          by_cases hlm : k < m
          · obtain ⟨y, hy⟩ : ∃ y, b[k]? = some y := ⟨_, List.getElem?_eq_getElem (by rw [Hm.out]; exact hlm)⟩
            obtain ⟨u1, u2, u3⟩ := HR.out.below hbl hbb k y hy
            have hst := Lib.hid (hz.out.trans (cmpR_step hx hy))
            clear hx hy hz
            obtain ⟨vk, vn, vs⟩ := x
            obtain ⟨uk, un, us⟩ := y
            have a1 : (wr.alloc (.cells #[.int .i64 vk, .int .i64 vn, .string vs] 49)).cell? ⟨bb, bo + k * 3, none⟩ = some (.int .i64 uk) := by rw [World.cell?_alloc_lt _ _ _ (by simp; omega)]; exact u1
            have a2 : (wr.alloc (.cells #[.int .i64 vk, .int .i64 vn, .string vs] 49)).cell? ⟨bb, bo + k * 3 + 1, none⟩ = some (.int .i64 un) := by rw [World.cell?_alloc_lt _ _ _ (by simp; omega)]; exact u2
            have a3 : (wr.alloc (.cells #[.int .i64 vk, .int .i64 vn, .string vs] 49)).cell? ⟨bb, bo + k * 3 + 2, none⟩ = some (.string us) := by rw [World.cell?_alloc_lt _ _ _ (by simp; omega)]; exact u3
            have hcl := Lib.hid (compare_closure vk vn vs uk un us)
            by_cases he : (V.cmp ⟨vk, vn, vs⟩ ⟨uk, un, us⟩ != 0) = true
            · have hst' : Hid (cmpR a b = V.cmp ⟨vk, vn, vs⟩ ⟨uk, un, us⟩) := by
                have := hst.out; rwa [if_pos he] at this
              clear hst
              generalize V.cmp ⟨vk, vn, vs⟩ ⟨uk, un, us⟩ = r at *
              go_wp2_with fail
              refine (hcl.out _).mono ?_
              rintro e w2 ⟨rfl, hb2⟩
              have HB := Lib.hid (((hbl.alloc hs _).alloc (by simp; omega) _).trans (hb2.mono (by simp; omega)))
              clear hb2
              go_wp2_with fail
              go_ret
              exact ⟨by rw [hst'.out]; rfl, HB.out⟩
            · have he' : (V.cmp ⟨vk, vn, vs⟩ ⟨uk, un, us⟩ != 0) = false := by simpa using he
              have hst' : Hid (cmpR a b = cmpR (a.drop (k + 1)) (b.drop (k + 1))) := by
                have := hst.out; rwa [if_neg he] at this
              clear hst he
              generalize V.cmp ⟨vk, vn, vs⟩ ⟨uk, un, us⟩ = r at *
              go_wp2_with fail
              refine (hcl.out _).mono ?_
              rintro e w2 ⟨rfl, hb2⟩
              have hb3 := (((hbl.alloc hs _).alloc (by simp; omega) _).trans (hb2.mono (by simp; omega)))
              clear hb2
              go_wp2_with fail
              go_roundw
              case rel => exact ⟨k + 1, by omega, by omega, by go_num, hb3, hst'⟩
              case measure => simp [intOf]; omega
          · have hst : Hid (cmpR a b = 1) := hz.out.trans (cmpR_long hx (by rw [Hm.out]; omega))
            clear hx hz
            obtain ⟨vk, vn, vs⟩ := x
            go_wp2_with fail
            go_ret
            exact ⟨by rw [hst.out]; rfl, hbl.alloc hs _⟩
        · obtain rfl : k = n := by omega
          by_cases hlm : k < m
          · have hst : Hid (cmpR a b = -1) := Lib.hid (by rw [hz.out, cmpR_fin Hn.out Hm.out hkm, if_pos hlm])
            clear hz
            go_wp2_with fail
            go_ret
            exact ⟨by rw [hst.out]; rfl, hbl⟩
          · have hst : Hid (cmpR a b = 0) := Lib.hid (by rw [hz.out, cmpR_fin Hn.out Hm.out hkm, if_neg hlm])
            clear hz
            go_wp2_with fail
            go_ret
            exact ⟨by rw [hst.out]; rfl, hbl⟩

theorem compare_any (A D : Option Addr) (c d : Nat) (a b : List V) (ha : a.length ≤ 9223372036854775807) (hb : b.length ≤ 9223372036854775807) (w : World) (hA : VRow w w.heap.size A a) (hD : VRow w w.heap.size D b) :
    Calls Tryz.prog 82 #[.slice A a.length c, .slice D b.length d] w fun e w' => e = .returned (.int .i64 (cmpR a b)) ∧ Below w.heap.size w w' := by
  have h := Lib.hid (compareFunc_any A D c d a b ha hb w hA hD)
  have hmf : ∀ (fn : Fn) (first cap : Array Value) (w : World), (Instr.makeFunc fn first cap).run Tryz.prog w = .ok (.func fn first cap) w := fun _ _ _ _ => rfl
  clear hA hD
  go_enter Tryz.func82, Tryz.ntmps82
  go_wp2_with fail
  refine h.out.mono ?_
  rintro e w' ⟨rfl, hb2⟩
  have HB := Lib.hid hb2
  clear hb2
  go_wp2_with fail
  go_ret
  exact ⟨rfl, HB.out⟩

def rowLess (a b : List V) : Bool := (rowOk a && rowOk b) && decide (cmpR a b < 0)
def rowSame (a b : List V) : Bool := (rowOk a && rowOk b) && (cmpR a b == 0)

set_option maxHeartbeats 400000 in
theorem rowLess_any (A D : Option Addr) (c d : Nat) (a b : List V) (ha : a.length ≤ 9223372036854775807) (hb : b.length ≤ 9223372036854775807) (w : World) (hA : VRow w w.heap.size A a) (hD : VRow w w.heap.size D b) :
    Calls Tryz.prog 86 #[.slice A a.length c, .slice D b.length d] w fun e w' => e = .returned (.bool (rowLess a b)) ∧ Below w.heap.size w w' := by
  have h1 := Lib.hid (rowRight_any A c a ha w hA)
  have h2 : Hid (∀ w1, Below w.heap.size w w1 → Calls Tryz.prog 77 #[.slice D b.length d] w1 fun e w' => e = .returned (.bool (rowOk b)) ∧ Below w1.heap.size w1 w') :=
    Lib.hid fun w1 hb1 => rowRight_any D d b hb w1 ((hD.below hb1).more hb1.size)
  have h3 : Hid (∀ w1, Below w.heap.size w w1 → Calls Tryz.prog 82 #[.slice A a.length c, .slice D b.length d] w1 fun e w' => e = .returned (.int .i64 (cmpR a b)) ∧ Below w1.heap.size w1 w') :=
    Lib.hid fun w1 hb1 => compare_any A D c d a b ha hb w1 ((hA.below hb1).more hb1.size) ((hD.below hb1).more hb1.size)
  unfold rowLess
  clear hA hD
  generalize rowOk a = p at *
  generalize rowOk b = q at *
  generalize cmpR a b = r at *
  cases p
  · rw [Bool.false_and, Bool.false_and]
    go_enter Tryz.func86, Tryz.ntmps86
    go_wp2_with fail
    refine h1.out.mono ?_
    rintro e w1 ⟨rfl, hb1⟩
    have HB := Lib.hid hb1
    clear hb1
    go_wp2_with fail
    go_ret
    exact ⟨rfl, HB.out⟩
  · cases q
    · rw [Bool.and_false, Bool.false_and]
      go_enter Tryz.func86, Tryz.ntmps86
      go_wp2_with fail
      refine h1.out.mono ?_
      rintro e w1 ⟨rfl, hb1⟩
      have HB := Lib.hid hb1
      clear hb1
      go_wp2_with fail
      refine (h2.out _ HB.out).mono ?_
      rintro e w2 ⟨rfl, hb2⟩
      have HB2 := Lib.hid (HB.out.trans (hb2.mono HB.out.size))
      clear hb2
      go_wp2_with fail
      go_ret
      exact ⟨rfl, HB2.out⟩
    · rw [Bool.and_self, Bool.true_and]
      go_enter Tryz.func86, Tryz.ntmps86
      go_wp2_with fail
      refine h1.out.mono ?_
      rintro e w1 ⟨rfl, hb1⟩
      have HB := Lib.hid hb1
      clear hb1
      go_wp2_with fail
      refine (h2.out _ HB.out).mono ?_
      rintro e w2 ⟨rfl, hb2⟩
      have HB2 := Lib.hid (HB.out.trans (hb2.mono HB.out.size))
      clear hb2
      go_wp2_with fail
      refine (h3.out _ HB2.out).mono ?_
      rintro e w3 ⟨rfl, hb3⟩
      have HB3 := Lib.hid (HB2.out.trans (hb3.mono HB2.out.size))
      clear hb3
      go_wp2_with fail
      go_ret
      exact ⟨rfl, HB3.out⟩

set_option maxHeartbeats 400000 in
theorem rowSame_any (A D : Option Addr) (c d : Nat) (a b : List V) (ha : a.length ≤ 9223372036854775807) (hb : b.length ≤ 9223372036854775807) (w : World) (hA : VRow w w.heap.size A a) (hD : VRow w w.heap.size D b) :
    Calls Tryz.prog 44 #[.slice A a.length c, .slice D b.length d] w fun e w' => e = .returned (.bool (rowSame a b)) ∧ Below w.heap.size w w' := by
  have h1 := Lib.hid (rowRight_any A c a ha w hA)
  have h2 : Hid (∀ w1, Below w.heap.size w w1 → Calls Tryz.prog 77 #[.slice D b.length d] w1 fun e w' => e = .returned (.bool (rowOk b)) ∧ Below w1.heap.size w1 w') :=
    Lib.hid fun w1 hb1 => rowRight_any D d b hb w1 ((hD.below hb1).more hb1.size)
  have h3 : Hid (∀ w1, Below w.heap.size w w1 → Calls Tryz.prog 82 #[.slice A a.length c, .slice D b.length d] w1 fun e w' => e = .returned (.int .i64 (cmpR a b)) ∧ Below w1.heap.size w1 w') :=
    Lib.hid fun w1 hb1 => compare_any A D c d a b ha hb w1 ((hA.below hb1).more hb1.size) ((hD.below hb1).more hb1.size)
  unfold rowSame
  clear hA hD
  generalize rowOk a = p at *
  generalize rowOk b = q at *
  generalize cmpR a b = r at *
  cases p
  · rw [Bool.false_and, Bool.false_and]
    go_enter Tryz.func44, Tryz.ntmps44
    go_wp2_with fail
    refine h1.out.mono ?_
    rintro e w1 ⟨rfl, hb1⟩
    have HB := Lib.hid hb1
    clear hb1
    go_wp2_with fail
    go_ret
    exact ⟨rfl, HB.out⟩
  · cases q
    · rw [Bool.and_false, Bool.false_and]
      go_enter Tryz.func44, Tryz.ntmps44
      go_wp2_with fail
      refine h1.out.mono ?_
      rintro e w1 ⟨rfl, hb1⟩
      have HB := Lib.hid hb1
      clear hb1
      go_wp2_with fail
      refine (h2.out _ HB.out).mono ?_
      rintro e w2 ⟨rfl, hb2⟩
      have HB2 := Lib.hid (HB.out.trans (hb2.mono HB.out.size))
      clear hb2
      go_wp2_with fail
      go_ret
      exact ⟨rfl, HB2.out⟩
    · rw [Bool.and_self, Bool.true_and]
      go_enter Tryz.func44, Tryz.ntmps44
      go_wp2_with fail
      refine h1.out.mono ?_
      rintro e w1 ⟨rfl, hb1⟩
      have HB := Lib.hid hb1
      clear hb1
      go_wp2_with fail
      refine (h2.out _ HB.out).mono ?_
      rintro e w2 ⟨rfl, hb2⟩
      have HB2 := Lib.hid (HB.out.trans (hb2.mono HB.out.size))
      clear hb2
      go_wp2_with fail
      refine (h3.out _ HB2.out).mono ?_
      rintro e w3 ⟨rfl, hb3⟩
      have HB3 := Lib.hid (HB2.out.trans (hb3.mono HB2.out.size))
      clear hb3
      go_wp2_with fail
      go_ret
      exact ⟨rfl, HB3.out⟩

end Go.Proofs.YtajnnkapgnmoaaaGreat
/-
  Values held against one another by == and !=.
-/
namespace Go.Proofs.YtajnnkapgnmoaaaGreat
open Go.RowKit
@[go_sem] theorem guard_value (op : BinOp) (x y : Operand) (xs ys : Array Value) (w : World) : (eqGuard op 49 x y (.agg xs) (.agg ys)).run Tryz.prog w = .ok () w := run_eqGuard_agg w op _ x y xs ys (by kernel_rfl)
@[go_sem] theorem neq_value (xk xn yk yn : Int) (xs ys : ByteArray) (w : World) :
    (binOp .neq 49 (.agg #[.int .i64 xk, .int .i64 xn, .string xs]) (.agg #[.int .i64 yk, .int .i64 yn, .string ys])).run Tryz.prog w = .ok (.bool (!(xk == yk && (xn == yn && xs.toList == ys.toList)))) w := by
  have hS : Tryz.prog.underlying 49 = some (.struct (Tryz.prog.fieldsOf 49)) := by kernel_rfl
  have hp : Tryz.prog.stoodInHeld 49 = false := by kernel_rfl
  have u1 := Tryz.underlying3
  have u2 := Tryz.underlying2
  have u3 := Tryz.underlying9
  rw [run_neq_struct, show (10000 : Nat) = 9999 + 1 from rfl, run_equalIn_agg w 9999 _ _ _ hS hp]
  simp only [Program.fieldsOf, Tryz.underlying49]
  go_simp
  by_cases h1 : xk = yk <;> by_cases h2 : xn = yn <;> by_cases h3 : xs.toList = ys.toList <;> simp [h1, h2, h3]
def V.eqB (a b : V) : Bool := a.k == b.k && (a.n == b.n && a.s.toList == b.s.toList)
@[go_sem] theorem eql_value (xk xn yk yn : Int) (xs ys : ByteArray) (w : World) :
    (binOp .eql 49 (.agg #[.int .i64 xk, .int .i64 xn, .string xs]) (.agg #[.int .i64 yk, .int .i64 yn, .string ys])).run Tryz.prog w = .ok (.bool (xk == yk && (xn == yn && xs.toList == ys.toList))) w := by
  have hS : Tryz.prog.underlying 49 = some (.struct (Tryz.prog.fieldsOf 49)) := by kernel_rfl
  have hp : Tryz.prog.stoodInHeld 49 = false := by kernel_rfl
  have u1 := Tryz.underlying3
  have u2 := Tryz.underlying2
  have u3 := Tryz.underlying9
  rw [run_eql_struct, show (10000 : Nat) = 9999 + 1 from rfl, run_equalIn_agg w 9999 _ _ _ hS hp]
  simp only [Program.fieldsOf, Tryz.underlying49]
  go_simp
  by_cases h1 : xk = yk <;> by_cases h2 : xn = yn <;> by_cases h3 : xs.toList = ys.toList <;> simp [h1, h2, h3]
end Go.Proofs.YtajnnkapgnmoaaaGreat
/-
  Package confluencekeep's Row: rows equal.
-/
namespace Go.Proofs.YtajnnkapgnmoaaaGreat
open Go.RowKit
def eqR : List V → List V → Bool
  | [], [] => true
  | x :: a, y :: b => V.eqB x y && eqR a b
  | _, _ => false

set_option maxHeartbeats 1000000 in
theorem keepRow_full (b o c rb ro d n : Nat) (l r : List V) (hl : l.length = n) (hr : r.length = n) (hn : n ≤ 9223372036854775807) (w : World) (hb : b < w.heap.size) (hL : VAt w b o l) (hrb : rb < w.heap.size) (hR : VAt w rb ro r) :
    Calls Tryz.prog 38 #[.slice (some ⟨b, o, none⟩) n c, .slice (some ⟨rb, ro, none⟩) n d] w fun e w' => e = .returned (.bool (eqR l r)) ∧ Below w.heap.size w w' := by
  have HL := Lib.hid hL
  have HR := Lib.hid hR
  have Hl := Lib.hid hl
  have Hr := Lib.hid hr
  clear hL hR hl hr
  go_enter Tryz.func38, Tryz.ntmps38
  go_wp2_with fail
  go_loopw [5] (fun i wr => ∃ k : Nat, k ≤ n ∧ i = .int .i64 k ∧ Below w.heap.size w wr ∧ Hid (eqR l r = eqR (l.drop k) (r.drop k))) (fun i _ => n - (intOf i).toNat)
  case atStart => exact ⟨0, Nat.zero_le _, rfl, Below.refl _ _, rfl⟩
  case round =>
    obtain ⟨k, hk, rfl, hbl, hz⟩ := hrel
    have HB := Lib.hid hbl
    by_cases hlt : k < n
    · obtain ⟨x, hx⟩ : ∃ x, l[k]? = some x := ⟨_, List.getElem?_eq_getElem (by rw [Hl.out]; exact hlt)⟩
      obtain ⟨y, hy⟩ : ∃ y, r[k]? = some y := ⟨_, List.getElem?_eq_getElem (by rw [Hr.out]; exact hlt)⟩
      obtain ⟨x1, x2, x3⟩ := HL.out.below hbl hb k x hx
      obtain ⟨y1, y2, y3⟩ := HR.out.below hbl hrb k y hy
      obtain ⟨xk, xn, xs⟩ := x
      obtain ⟨yk, yn, ys⟩ := y
      have x1 : wr.cell? ⟨b, o + k * 3, none⟩ = some (.int .i64 xk) := x1
      have x2 : wr.cell? ⟨b, o + k * 3 + 1, none⟩ = some (.int .i64 xn) := x2
      have x3 : wr.cell? ⟨b, o + k * 3 + 2, none⟩ = some (.string xs) := x3
      have y1 : wr.cell? ⟨rb, ro + k * 3, none⟩ = some (.int .i64 yk) := y1
      have y2 : wr.cell? ⟨rb, ro + k * 3 + 1, none⟩ = some (.int .i64 yn) := y2
      have y3 : wr.cell? ⟨rb, ro + k * 3 + 2, none⟩ = some (.string ys) := y3
      have hi0 : (0 : Int) ≤ (k : Int) := by omega
      have hi1 : (k : Int) < (n : Int) := by omega
      have Hx := Lib.hid hx
      have Hy := Lib.hid hy
      have hd : (l.drop k) = ⟨xk, xn, xs⟩ :: l.drop (k + 1) := by
        obtain ⟨h1, h2⟩ := List.getElem?_eq_some_iff.1 Hx.out
        rw [List.drop_eq_getElem_cons h1, h2]
      have hd2 : (r.drop k) = ⟨yk, yn, ys⟩ :: r.drop (k + 1) := by
        obtain ⟨h1, h2⟩ := List.getElem?_eq_some_iff.1 Hy.out
        rw [List.drop_eq_getElem_cons h1, h2]
      have hst : Hid (eqR l r = ((xk == yk && (xn == yn && xs.toList == ys.toList)) && eqR (l.drop (k + 1)) (r.drop (k + 1)))) := Lib.hid (by rw [hz.out, hd, hd2]; rfl)
      clear hx hy hz hbl hd hd2
      by_cases he : (xk == yk && (xn == yn && xs.toList == ys.toList)) = true
      · have hst2 : Hid (eqR l r = eqR (l.drop (k + 1)) (r.drop (k + 1))) := Lib.hid (by rw [hst.out, he, Bool.true_and])
        clear hst
        have hnv : ∀ w, (binOp .neq 49 (.agg #[.int .i64 xk, .int .i64 xn, .string xs]) (.agg #[.int .i64 yk, .int .i64 yn, .string ys])).run Tryz.prog w = .ok (.bool false) w := fun w => by rw [neq_value, he]; rfl
        have hgv := fun w => guard_value .neq (.tmp 20) (.tmp 24) #[.int .i64 xk, .int .i64 xn, .string xs] #[.int .i64 yk, .int .i64 yn, .string ys] w
        go_wp2_with fail
        go_quiet (fail)
        go_wp2_with fail
        go_roundw
        case rel => exact ⟨k + 1, by omega, by go_num, ⟨HB.out.os, HB.out.tape, HB.out.output, HB.out.size, HB.out.block⟩, hst2⟩
        case measure => simp [intOf]; omega
      · have he' : (xk == yk && (xn == yn && xs.toList == ys.toList)) = false := by simpa using he
        have hst2 : Hid (eqR l r = false) := Lib.hid (by rw [hst.out, he', Bool.false_and])
        clear hst he
        have hnv : ∀ w, (binOp .neq 49 (.agg #[.int .i64 xk, .int .i64 xn, .string xs]) (.agg #[.int .i64 yk, .int .i64 yn, .string ys])).run Tryz.prog w = .ok (.bool true) w := fun w => by rw [neq_value, he']; rfl
        have hgv := fun w => guard_value .neq (.tmp 20) (.tmp 24) #[.int .i64 xk, .int .i64 xn, .string xs] #[.int .i64 yk, .int .i64 yn, .string ys] w
        go_wp2_with fail
        go_quiet (fail)
        go_wp2_with fail
        go_ret
        exact ⟨by rw [hst2.out]; rfl, HB.out.os, HB.out.tape, HB.out.output, HB.out.size, HB.out.block⟩
    · have hst : Hid (eqR l r = true) := Lib.hid (by rw [hz.out, List.drop_of_length_le (by rw [Hl.out]; omega), List.drop_of_length_le (by rw [Hr.out]; omega)]; rfl)
      clear hz hbl
      go_wp2_with fail
      go_ret
      exact ⟨by rw [hst.out]; rfl, HB.out⟩
theorem eqR_len : ∀ l r : List V, l.length ≠ r.length → eqR l r = false
  | [], [], h => absurd rfl h
  | [], _ :: _, _ => rfl
  | _ :: _, [], _ => rfl
  | x :: l, y :: r, h => by
    rw [eqR, eqR_len l r (by simpa using h), Bool.and_false]
theorem keepRow_any (A D : Option Addr) (c d : Nat) (l r : List V) (hl : l.length ≤ 9223372036854775807) (hr : r.length ≤ 9223372036854775807) (w : World) (hA : VRow w w.heap.size A l) (hD : VRow w w.heap.size D r) :
    Calls Tryz.prog 38 #[.slice A l.length c, .slice D r.length d] w fun e w' => e = .returned (.bool (eqR l r)) ∧ Below w.heap.size w w' := by
  by_cases he : l.length = r.length
  · rcases hA with rfl | ⟨b, o, rfl, hb, hL⟩
    · obtain rfl : r = [] := List.eq_nil_of_length_eq_zero he.symm
      show Calls _ _ #[.slice A 0 c, .slice D 0 d] w fun e w' => e = .returned (.bool true) ∧ _
      clear hD he hl hr
      go_enter Tryz.func38, Tryz.ntmps38
      go_wp2_with fail
      go_loopw [5] (fun i wr => i = .int .i64 0 ∧ wr = w) (fun i _ => 0)
      case atStart => exact ⟨rfl, rfl⟩
      case round =>
        obtain ⟨rfl, rfl⟩ := hrel
        go_wp2_with fail
        go_ret
        exact ⟨rfl, Below.refl _ _⟩
    · rcases hD with rfl | ⟨rb, ro, rfl, hrb, hR⟩
      · obtain rfl : l = [] := List.eq_nil_of_length_eq_zero he
        show Calls _ _ #[.slice _ 0 c, .slice D 0 d] w fun e w' => e = .returned (.bool true) ∧ _
        clear he hl hr hL
        go_enter Tryz.func38, Tryz.ntmps38
        go_wp2_with fail
        go_loopw [5] (fun i wr => i = .int .i64 0 ∧ wr = w) (fun i _ => 0)
        case atStart => exact ⟨rfl, rfl⟩
        case round =>
          obtain ⟨rfl, rfl⟩ := hrel
          go_wp2_with fail
          go_ret
          exact ⟨rfl, Below.refl _ _⟩
      · rw [← he]
        exact keepRow_full b o c rb ro d l.length l r rfl he.symm hl w hb hL hrb hR
  · have e0 := eqR_len l r he
    have hne : ((l.length : Int) != (r.length : Int)) = true := by simp; omega
    rw [e0]
    generalize l.length = n at *
    generalize r.length = m at *
    clear hA hD e0 hl hr
    go_enter Tryz.func38, Tryz.ntmps38
    go_wp2_with fail
    go_ret
    exact ⟨rfl, Below.refl _ _⟩
end Go.Proofs.YtajnnkapgnmoaaaGreat
/-
  The order's laws on values: no Go in sight.
-/
namespace Go.Proofs.YtajnnkapgnmoaaaGreat
open Go.RowKit
theorem bl_tri : ∀ x y : List UInt8, (Op.bytesLess x y = true ∧ Op.bytesLess y x = false ∧ x ≠ y) ∨ (Op.bytesLess x y = false ∧ Op.bytesLess y x = true ∧ x ≠ y) ∨ (Op.bytesLess x y = false ∧ Op.bytesLess y x = false ∧ x = y)
  | [], [] => .inr (.inr ⟨rfl, rfl, rfl⟩)
  | [], _ :: _ => .inl ⟨rfl, rfl, by simp⟩
  | _ :: _, [] => .inr (.inl ⟨rfl, rfl, by simp⟩)
  | a :: x, b :: y => by
    have h := bl_tri x y
    simp only [Op.bytesLess]
    by_cases h1 : a < b
    · left
      have h2 : ¬ b < a := by intro h; exact absurd (UInt8.lt_trans h1 h) (UInt8.lt_irrefl a)
      have h3 : ¬ b = a := by rintro rfl; exact UInt8.lt_irrefl _ h1
      simp [h1, h2, h3, Ne.symm h3]
    · by_cases h2 : b < a
      · right; left
        have h3 : ¬ a = b := by rintro rfl; exact UInt8.lt_irrefl _ h2
        simp [h1, h2, h3]
      · obtain rfl : a = b := UInt8.le_antisymm (UInt8.not_lt.1 h2) (UInt8.not_lt.1 h1)
        simp [h1]
        exact h
theorem bl_trans : ∀ x y z : List UInt8, Op.bytesLess x y = true → Op.bytesLess y z = true → Op.bytesLess x z = true
  | _, [], _, h, _ => by simp [Op.bytesLess] at h
  | _, _ :: _, [], _, h => by simp [Op.bytesLess] at h
  | [], _ :: _, _ :: _, _, _ => rfl
  | a :: x, b :: y, c :: z, h1, h2 => by
    simp only [Op.bytesLess, Bool.or_eq_true, Bool.and_eq_true, decide_eq_true_eq, beq_iff_eq] at h1 h2 ⊢
    rcases h1 with h1 | ⟨rfl, h1⟩
    · rcases h2 with h2 | ⟨rfl, h2⟩
      · exact .inl (UInt8.lt_trans h1 h2)
      · exact .inl h1
    · rcases h2 with h2 | ⟨rfl, h2⟩
      · exact .inl h2
      · exact .inr ⟨rfl, bl_trans x y z h1 h2⟩
theorem bytes_ext {a b : ByteArray} (h : a.toList = b.toList) : a = b := by
  rw [ByteArray.toList_eq, ByteArray.toList_eq] at h
  obtain ⟨⟨x⟩⟩ := a
  obtain ⟨⟨y⟩⟩ := b
  simp at h
  rw [h]
theorem ok_cases {a : V} (h : V.okB a = true) : (a.k = 1 ∧ a.s.toList = []) ∨ (a.k = 2 ∧ a.n = 0) := by
  unfold V.okB at h
  simp only [Bool.or_eq_true, Bool.and_eq_true, beq_iff_eq, List.isEmpty_iff] at h
  rcases h with ⟨h1, h2⟩ | ⟨h1, h2, _⟩
  · exact .inl ⟨h1, h2⟩
  · exact .inr ⟨h1, h2⟩
theorem V.tri {a b : V} (ha : V.okB a = true) (hb : V.okB b = true) : (V.lt a b = true ∧ V.lt b a = false ∧ a ≠ b) ∨ (V.lt a b = false ∧ V.lt b a = true ∧ a ≠ b) ∨ (V.lt a b = false ∧ V.lt b a = false ∧ a = b) := by
  obtain ⟨ak, an, az⟩ := a
  obtain ⟨bk, bn, bz⟩ := b
  unfold V.lt
  rw [ha, hb]
  unfold V.ltIn
  simp only [Bool.and_self, Bool.true_and]
  rcases ok_cases ha with ⟨h1, h2⟩ | ⟨h1, h2⟩ <;> rcases ok_cases hb with ⟨h3, h4⟩ | ⟨h3, h4⟩ <;> simp only at h1 h2 h3 h4 <;> subst h1 <;> subst h3
  · have e : az = bz := bytes_ext (h2.trans h4.symm)
    subst e
    by_cases h5 : an < bn
    · left; simp [h5]; omega
    · by_cases h6 : bn < an
      · right; left; simp [h6]; omega
      · right; right; simp; omega
  · left; simp
  · right; left; simp
  · subst h2 h4
    rcases bl_tri az.toList bz.toList with ⟨h5, h6, h7⟩ | ⟨h5, h6, h7⟩ | ⟨h5, h6, h7⟩
    · left; simp [h5, h6]; rintro rfl; exact h7 rfl
    · right; left; simp [h5, h6]; rintro rfl; exact h7 rfl
    · right; right; simp [h5, h6]; exact bytes_ext h7
theorem V.lt_trans {a b c : V} (h1 : V.lt a b = true) (h2 : V.lt b c = true) : V.lt a c = true := by
  obtain ⟨ak, an, az⟩ := a
  obtain ⟨bk, bn, bz⟩ := b
  obtain ⟨ck, cn, cz⟩ := c
  unfold V.lt at h1 h2 ⊢
  simp only [Bool.and_eq_true] at h1 h2
  obtain ⟨⟨ha, hb⟩, h1⟩ := h1
  obtain ⟨⟨_, hc⟩, h2⟩ := h2
  rw [ha, hc]
  unfold V.ltIn at h1 h2 ⊢
  simp only [Bool.and_self, Bool.true_and]
  rcases ok_cases ha with ⟨k1, _⟩ | ⟨k1, _⟩ <;> rcases ok_cases hb with ⟨k2, _⟩ | ⟨k2, _⟩ <;> rcases ok_cases hc with ⟨k3, _⟩ | ⟨k3, _⟩ <;> simp only at k1 k2 k3 <;> subst k1 <;> subst k2 <;> subst k3 <;> simp at h1 h2 ⊢
  · omega
  · exact bl_trans _ _ _ h1 h2
end Go.Proofs.YtajnnkapgnmoaaaGreat
/-
  The order's laws on values and rows: no Go in sight.
-/
namespace Go.Proofs.YtajnnkapgnmoaaaGreat
open Go.RowKit
theorem V.cmp_tri {a b : V} (ha : V.okB a = true) (hb : V.okB b = true) : (V.cmp a b = -1 ∧ V.cmp b a = 1 ∧ a ≠ b) ∨ (V.cmp a b = 1 ∧ V.cmp b a = -1 ∧ a ≠ b) ∨ (V.cmp a b = 0 ∧ V.cmp b a = 0 ∧ a = b) := by
  unfold V.cmp
  rcases V.tri ha hb with ⟨h1, h2, h3⟩ | ⟨h1, h2, h3⟩ | ⟨h1, h2, h3⟩ <;> rw [h1, h2]
  · exact .inl ⟨rfl, rfl, h3⟩
  · exact .inr (.inl ⟨rfl, rfl, h3⟩)
  · exact .inr (.inr ⟨rfl, rfl, h3⟩)
theorem cmp_neg {a b : V} (h : V.cmp a b < 0) : V.lt a b = true := by
  unfold V.cmp at h
  by_cases h1 : V.lt a b = true
  · exact h1
  · rw [if_neg h1] at h
    split at h <;> omega
theorem cmpR_tri : ∀ a b : List V, (∀ x ∈ a, V.okB x = true) → (∀ x ∈ b, V.okB x = true) → (cmpR a b = -1 ∧ cmpR b a = 1 ∧ a ≠ b) ∨ (cmpR a b = 1 ∧ cmpR b a = -1 ∧ a ≠ b) ∨ (cmpR a b = 0 ∧ cmpR b a = 0 ∧ a = b)
  | [], [], _, _ => .inr (.inr ⟨rfl, rfl, rfl⟩)
  | [], _ :: _, _, _ => .inl ⟨rfl, rfl, by simp⟩
  | _ :: _, [], _, _ => .inr (.inl ⟨rfl, rfl, by simp⟩)
  | x :: a, y :: b, ha, hb => by
    have h := cmpR_tri a b (fun z hz => ha z (List.mem_cons_of_mem _ hz)) (fun z hz => hb z (List.mem_cons_of_mem _ hz))
    rcases V.cmp_tri (ha x List.mem_cons_self) (hb y List.mem_cons_self) with ⟨h1, h2, h3⟩ | ⟨h1, h2, h3⟩ | ⟨h1, h2, h3⟩
    · left
      simp [cmpR, h1, h2, h3]
    · right; left
      simp [cmpR, h1, h2, h3]
    · subst h3
      simp only [cmpR, h1]
      simpa using h
theorem cmpR_trans : ∀ a b c : List V, (∀ x ∈ a, V.okB x = true) → (∀ x ∈ b, V.okB x = true) → (∀ x ∈ c, V.okB x = true) → cmpR a b < 0 → cmpR b c < 0 → cmpR a c < 0
  | [], [], _, _, _, _, h, _ => by simp [cmpR] at h
  | _ :: _, [], _, _, _, _, h, _ => by simp [cmpR] at h
  | _, _ :: _, [], _, _, _, _, h => by simp [cmpR] at h
  | [], _ :: _, _ :: _, _, _, _, _, _ => by simp [cmpR]
  | x :: a, y :: b, z :: c, ha, hb, hc, h1, h2 => by
    have h := cmpR_trans a b c (fun z hz => ha z (List.mem_cons_of_mem _ hz)) (fun z hz => hb z (List.mem_cons_of_mem _ hz)) (fun z hz => hc z (List.mem_cons_of_mem _ hz))
    have hx := ha x List.mem_cons_self
    have hy := hb y List.mem_cons_self
    have hz := hc z List.mem_cons_self
    rcases V.cmp_tri hx hy with ⟨a1, a2, a3⟩ | ⟨a1, a2, a3⟩ | ⟨a1, a2, a3⟩
    · rcases V.cmp_tri hy hz with ⟨b1, b2, b3⟩ | ⟨b1, b2, b3⟩ | ⟨b1, b2, b3⟩
      · have h3 := V.lt_trans (cmp_neg (by rw [a1]; decide)) (cmp_neg (by rw [b1]; decide))
        have h4 : V.cmp x z = -1 := by unfold V.cmp; rw [if_pos h3]
        simp [cmpR, h4]
      · simp [cmpR, b1] at h2
      · subst b3
        simp [cmpR, a1]
    · simp [cmpR, a1] at h1
    · subst a3
      rcases V.cmp_tri hx hz with ⟨b1, b2, b3⟩ | ⟨b1, b2, b3⟩ | ⟨b1, b2, b3⟩
      · simp [cmpR, b1]
      · simp [cmpR, b1] at h2
      · simp only [cmpR, a1, b1] at h1 h2 ⊢
        simp at h1 h2 ⊢
        exact h h1 h2
theorem cmpR_prefix : ∀ (a : List V) (n : Nat), (∀ x ∈ a, V.okB x = true) → n < a.length → cmpR (a.take n) a = -1
  | [], _, _, h => by simp at h
  | _ :: _, 0, _, _ => rfl
  | x :: a, n + 1, ha, h => by
    have h1 : V.cmp x x = 0 := by
      have hx := ha x List.mem_cons_self
      rcases V.cmp_tri hx hx with ⟨_, _, h⟩ | ⟨_, _, h⟩ | ⟨h, _, _⟩
      · exact absurd rfl h
      · exact absurd rfl h
      · exact h
    rw [List.take_succ_cons]
    simp only [cmpR, h1]
    simpa using cmpR_prefix a n (fun z hz => ha z (List.mem_cons_of_mem _ hz)) (by simpa using h)
theorem eqB_iff (a b : V) : V.eqB a b = true ↔ a = b := by
  obtain ⟨ak, an, az⟩ := a
  obtain ⟨bk, bn, bz⟩ := b
  unfold V.eqB
  simp only [Bool.and_eq_true, beq_iff_eq]
  constructor
  · rintro ⟨rfl, rfl, h⟩
    rw [bytes_ext h]
  · intro h
    injection h with h1 h2 h3
    exact ⟨h1, h2, by rw [h3]⟩
theorem eqR_iff : ∀ a b : List V, eqR a b = true ↔ a = b
  | [], [] => by simp [eqR]
  | [], _ :: _ => by simp [eqR]
  | _ :: _, [] => by simp [eqR]
  | x :: a, y :: b => by
    rw [eqR, Bool.and_eq_true, eqB_iff, eqR_iff a b]
    simp
theorem rowOk_all {a : List V} (h : rowOk a = true) : ∀ x ∈ a, V.okB x = true := by
  unfold rowOk at h
  simp only [Bool.and_eq_true, List.all_eq_true] at h
  exact h.2
theorem rowOk_take {a : List V} {n : Nat} (h : rowOk a = true) (hn : 0 < n) : rowOk (a.take n) = true := by
  unfold rowOk at h ⊢
  simp only [Bool.and_eq_true, List.all_eq_true, decide_eq_true_eq, List.length_take] at h ⊢
  exact ⟨by omega, fun x hx => h.2 x (List.mem_of_mem_take hx)⟩
theorem order_one {a b : List V} (ha : rowOk a = true) (hb : rowOk b = true) : ((rowLess a b != rowLess b a) == !eqR a b) = true ∧ (rowSame a b == eqR a b) = true := by
  unfold rowLess rowSame
  rw [ha, hb]
  rcases cmpR_tri a b (rowOk_all ha) (rowOk_all hb) with ⟨h1, h2, h3⟩ | ⟨h1, h2, h3⟩ | ⟨h1, h2, h3⟩
  · have : eqR a b = false := by
      cases h : eqR a b
      · rfl
      · exact absurd ((eqR_iff a b).1 h) h3
    rw [h1, h2, this]; decide
  · have : eqR a b = false := by
      cases h : eqR a b
      · rfl
      · exact absurd ((eqR_iff a b).1 h) h3
    rw [h1, h2, this]; decide
  · rw [h1, h2, (eqR_iff a b).2 h3]; decide
theorem order_trans {a b c : List V} (ha : rowOk a = true) (hb : rowOk b = true) (hc : rowOk c = true) (h1 : rowLess a b = true) (h2 : rowLess b c = true) : rowLess a c = true := by
  unfold rowLess at h1 h2 ⊢
  rw [ha, hb] at h1
  rw [hb, hc] at h2
  rw [ha, hc]
  simp only [Bool.and_self, Bool.true_and, decide_eq_true_eq] at h1 h2 ⊢
  exact cmpR_trans a b c (rowOk_all ha) (rowOk_all hb) (rowOk_all hc) h1 h2
theorem order_prefix {a : List V} {n : Nat} (ha : rowOk a = true) (hn : 0 < n) (hl : n < a.length) : rowLess (a.take n) a = true := by
  unfold rowLess
  rw [ha, rowOk_take ha hn, cmpR_prefix a n (rowOk_all ha) hl]
  decide
end Go.Proofs.YtajnnkapgnmoaaaGreat
/-
  Sets of rows with how often: what is in them, and that nothing else counts. No Go in sight.
-/
namespace Go.Proofs.YtajnnkapgnmoaaaGreat

/-- a row, and how often -/
abbrev It := List V × Int
def look : List It → List V → Int
  | [], _ => 0
  | x :: l, r => (if eqR x.1 r = true then x.2 else 0) + look l r
theorem look_append (a b : List It) (r : List V) : look (a ++ b) r = look a r + look b r := by
  induction a with
  | nil => simp [look]
  | cons x a ih => simp only [List.cons_append, look, ih]; omega
theorem look_perm {a b : List It} (h : a.Perm b) (r : List V) : look a r = look b r := by
  induction h with
  | nil => rfl
  | cons x _ ih => simp only [look, ih]
  | swap x y l => simp only [look]; omega
  | trans _ _ h1 h2 => exact h1.trans h2
theorem look_none {l : List It} {r : List V} (h : ∀ x ∈ l, x.1 ≠ r) : look l r = 0 := by
  induction l with
  | nil => rfl
  | cons x l ih =>
    have h1 : eqR x.1 r = false := by
      cases he : eqR x.1 r with
      | false => rfl
      | true => exact absurd ((eqR_iff _ _).1 he) (h x (by simp))
    simp only [look, h1, ih fun y hy => h y (by simp [hy])]
    simp
def vol : List It → Int
  | [] => 0
  | x :: l => (x.2.natAbs : Int) + vol l
theorem vol_nonneg (l : List It) : 0 ≤ vol l := by
  induction l with
  | nil => exact Int.le_refl _
  | cons x l ih => simp only [vol]; omega
theorem vol_append (a b : List It) : vol (a ++ b) = vol a + vol b := by
  induction a with
  | nil => simp [vol]
  | cons x a ih => simp only [List.cons_append, vol, ih]; omega
theorem vol_perm {a b : List It} (h : a.Perm b) : vol a = vol b := by
  induction h with
  | nil => rfl
  | cons x _ ih => simp only [vol, ih]
  | swap x y l => simp only [vol]; omega
  | trans _ _ h1 h2 => exact h1.trans h2
theorem look_bd (l : List It) (r : List V) : -vol l ≤ look l r ∧ look l r ≤ vol l := by
  induction l with
  | nil => simp [look, vol]
  | cons x l ih => simp only [look, vol]; split <;> omega
theorem mem_vol {l : List It} {x : It} (h : x ∈ l) : (x.2.natAbs : Int) ≤ vol l := by
  induction l with
  | nil => simp at h
  | cons y l ih =>
    simp only [vol]
    have := vol_nonneg l
    rcases List.mem_cons.1 h with rfl | h
    · omega
    · have := ih h; omega

theorem cmp_self {a : List V} (ha : rowOk a = true) : cmpR a a = 0 := by
  rcases cmpR_tri a a (rowOk_all ha) (rowOk_all ha) with h | h | h
  · exact absurd rfl h.2.2
  · exact absurd rfl h.2.2
  · exact h.1
theorem cmp_eq {a b : List V} (ha : rowOk a = true) (hb : rowOk b = true) (h : cmpR a b = 0) : a = b := by
  rcases cmpR_tri a b (rowOk_all ha) (rowOk_all hb) with h1 | h1 | h1
  · omega
  · omega
  · exact h1.2.2
theorem cmp_flip {a b : List V} (ha : rowOk a = true) (hb : rowOk b = true) : cmpR b a = - cmpR a b := by
  rcases cmpR_tri a b (rowOk_all ha) (rowOk_all hb) with h1 | h1 | h1 <;> omega
theorem cmp_ne {a b : List V} (ha : rowOk a = true) (h : cmpR a b < 0) : a ≠ b := by
  rintro rfl
  rw [cmp_self ha] at h
  omega
theorem cmp_trans {a b c : List V} (ha : rowOk a = true) (hb : rowOk b = true) (hc : rowOk c = true) (h1 : cmpR a b < 0) (h2 : cmpR b c < 0) : cmpR a c < 0 :=
  cmpR_trans a b c (rowOk_all ha) (rowOk_all hb) (rowOk_all hc) h1 h2
theorem cmp_le_trans {a b c : List V} (ha : rowOk a = true) (hb : rowOk b = true) (hc : rowOk c = true) (h1 : cmpR a b ≤ 0) (h2 : cmpR b c < 0) : cmpR a c < 0 := by
  rcases Int.lt_or_le (cmpR a b) 0 with h | h
  · exact cmp_trans ha hb hc h h2
  · have := cmp_eq ha hb (by omega); subst this; exact h2
theorem cmp_trans_le {a b c : List V} (ha : rowOk a = true) (hb : rowOk b = true) (hc : rowOk c = true) (h1 : cmpR a b < 0) (h2 : cmpR b c ≤ 0) : cmpR a c < 0 := by
  rcases Int.lt_or_le (cmpR b c) 0 with h | h
  · exact cmp_trans ha hb hc h1 h
  · have := cmp_eq hb hc (by omega); subst this; exact h1

/-- rows rise, each is right -/
structure Ord (l : List It) : Prop where
  ord : l.Pairwise fun a b => cmpR a.1 b.1 < 0
  rows : ∀ x ∈ l, rowOk x.1 = true
structure SetOk (l : List It) : Prop extends Ord l where
  nets : ∀ x ∈ l, x.2 ≠ 0
theorem Ord.nil : Ord [] := ⟨List.Pairwise.nil, fun x h => by simp at h⟩
theorem SetOk.nil : SetOk [] := ⟨Ord.nil, fun x h => by simp at h⟩
theorem Ord.tail {x : It} {l : List It} (h : Ord (x :: l)) : Ord l := ⟨(List.pairwise_cons.1 h.ord).2, fun y hy => h.rows y (by simp [hy])⟩
theorem SetOk.tail {x : It} {l : List It} (h : SetOk (x :: l)) : SetOk l := ⟨h.toOrd.tail, fun y hy => h.nets y (by simp [hy])⟩
theorem Ord.head {x : It} {l : List It} (h : Ord (x :: l)) : ∀ y ∈ l, cmpR x.1 y.1 < 0 := (List.pairwise_cons.1 h.ord).1
theorem Ord.look_head {x : It} {l : List It} (h : Ord (x :: l)) : look (x :: l) x.1 = x.2 := by
  have h1 : eqR x.1 x.1 = true := (eqR_iff _ _).2 rfl
  simp only [look, h1, if_true]
  rw [look_none fun y hy he => cmp_ne (h.rows x (by simp)) (h.head y hy) he.symm]
  omega
theorem Ord.look_low {l : List It} {r : List V} (hr : rowOk r = true) (h : ∀ y ∈ l, cmpR r y.1 < 0) : look l r = 0 := look_none fun y hy he => cmp_ne hr (h y hy) he.symm
theorem Ord.look_mem {l : List It} (h : Ord l) {x : It} (hx : x ∈ l) : look l x.1 = x.2 := by
  induction l with
  | nil => simp at hx
  | cons y l ih =>
    rcases List.mem_cons.1 hx with rfl | hx
    · exact h.look_head
    · have h1 : eqR y.1 x.1 = false := by
        cases he : eqR y.1 x.1 with
        | false => rfl
        | true => exact absurd ((eqR_iff _ _).1 he) (cmp_ne (h.rows y (by simp)) (h.head x hx))
      simp only [look, h1, ih h.tail hx]
      simp
theorem set_eq : ∀ {a b : List It}, SetOk a → SetOk b → (∀ r, look a r = look b r) → a = b
  | [], [], _, _, _ => rfl
  | [], y :: b, _, hb, h => by
    have := h y.1
    rw [hb.toOrd.look_head] at this
    exact absurd this.symm (hb.nets y (by simp))
  | x :: a, [], ha, _, h => by
    have := h x.1
    rw [ha.toOrd.look_head] at this
    exact absurd this (ha.nets x (by simp))
  | x :: a, y :: b, ha, hb, h => by
    have rx := ha.rows x (by simp)
    have ry := hb.rows y (by simp)
    have hxy : x.1 = y.1 := by
      rcases cmpR_tri x.1 y.1 (rowOk_all rx) (rowOk_all ry) with h1 | h1 | h1
      · have e := h x.1
        rw [ha.toOrd.look_head, Ord.look_low rx (l := y :: b) (by
          intro z hz
          rcases List.mem_cons.1 hz with rfl | hz
          · omega
          · exact cmp_trans rx ry (hb.rows z (by simp [hz])) (by omega) (hb.toOrd.head z hz))] at e
        exact absurd e (ha.nets x (by simp))
      · have e := h y.1
        rw [hb.toOrd.look_head, Ord.look_low ry (l := x :: a) (by
          intro z hz
          rcases List.mem_cons.1 hz with rfl | hz
          · omega
          · exact cmp_trans ry rx (ha.rows z (by simp [hz])) (by omega) (ha.toOrd.head z hz))] at e
        exact absurd e.symm (hb.nets y (by simp))
      · exact h1.2.2
    have h2 : x.2 = y.2 := by
      have e := h x.1
      rw [ha.toOrd.look_head, hxy, hb.toOrd.look_head] at e
      exact e
    have hx : x = y := Prod.ext hxy h2
    subst hx
    rw [set_eq ha.tail hb.tail fun r => by
      have := h r
      simp only [look] at this
      omega]
theorem Ord.append {a b : List It} (ha : Ord a) (hb : Ord b) (h : ∀ x ∈ a, ∀ y ∈ b, cmpR x.1 y.1 < 0) : Ord (a ++ b) :=
  ⟨List.pairwise_append.2 ⟨ha.ord, hb.ord, h⟩, fun x hx => by
    rcases List.mem_append.1 hx with hx | hx
    · exact ha.rows x hx
    · exact hb.rows x hx⟩
theorem Ord.one {x : It} (h : rowOk x.1 = true) : Ord [x] := ⟨List.pairwise_singleton _ _, fun y hy => by rw [List.mem_singleton.1 hy]; exact h⟩
theorem SetOk.snoc {a : List It} {x : It} (ha : SetOk a) (hx : rowOk x.1 = true) (h0 : x.2 ≠ 0) (h : ∀ y ∈ a, cmpR y.1 x.1 < 0) : SetOk (a ++ [x]) :=
  ⟨ha.toOrd.append (Ord.one hx) fun y hy z hz => by rw [List.mem_singleton.1 hz]; exact h y hy, fun y hy => by
    rcases List.mem_append.1 hy with hy | hy
    · exact ha.nets y hy
    · rw [List.mem_singleton.1 hy]; exact h0⟩
theorem look_one (x : It) (r : List V) : look [x] r = if eqR x.1 r = true then x.2 else 0 := by simp [look]

/-- turned round -/
def flipS (l : List It) : List It := l.map fun x => (x.1, -x.2)
theorem look_flip (l : List It) (r : List V) : look (flipS l) r = - look l r := by
  induction l with
  | nil => rfl
  | cons x l ih =>
    have e : flipS (x :: l) = (x.1, -x.2) :: flipS l := rfl
    rw [e]
    simp only [look, ih]
    split <;> omega
theorem vol_flip (l : List It) : vol (flipS l) = vol l := by
  induction l with
  | nil => rfl
  | cons x l ih =>
    have e : flipS (x :: l) = (x.1, -x.2) :: flipS l := rfl
    rw [e]
    simp only [vol, ih, Int.natAbs_neg]
theorem SetOk.flip {l : List It} (h : SetOk l) : SetOk (flipS l) :=
  ⟨⟨by unfold flipS; rw [List.pairwise_map]; exact h.ord, fun x hx => by
    obtain ⟨y, hy, rfl⟩ := List.mem_map.1 hx
    exact h.rows y hy⟩, fun x hx => by
    obtain ⟨y, hy, rfl⟩ := List.mem_map.1 hx
    have := h.nets y hy
    simp only
    omega⟩
/-- a right set's volume is no greater than that of what made it -/
theorem SetOk.vol_le : ∀ {a : List It}, Ord a → ∀ {l : List It}, (∀ r, look a r = look l r) → vol a ≤ vol l
  | [], _, l, _ => vol_nonneg l
  | x :: a, ha, l, h => by
    have split : ∀ (l : List It) (r : List V), ∃ p q : List It, (∀ y ∈ p, y.1 = r) ∧ (∀ y ∈ q, y.1 ≠ r) ∧ vol l = vol p + vol q ∧ ∀ s, look l s = look p s + look q s := by
      intro l r
      induction l with
      | nil => exact ⟨[], [], by simp, by simp, rfl, fun s => rfl⟩
      | cons y l ih =>
        obtain ⟨p, q, hp, hq, hv, hl⟩ := ih
        cases he : eqR y.1 r with
        | true =>
          refine ⟨y :: p, q, fun z hz => ?_, hq, by simp only [vol, hv]; omega, fun s => by simp only [look, hl]; omega⟩
          rcases List.mem_cons.1 hz with rfl | hz
          · exact (eqR_iff _ _).1 he
          · exact hp z hz
        | false =>
          refine ⟨p, y :: q, hp, fun z hz => ?_, by simp only [vol, hv]; omega, fun s => by simp only [look, hl]; omega⟩
          rcases List.mem_cons.1 hz with rfl | hz
          · intro h1; rw [(eqR_iff _ _).2 h1] at he; cases he
          · exact hq z hz
    obtain ⟨p, q, hp, hq, hv, hl⟩ := split l x.1
    have hx := h x.1
    rw [ha.look_head, hl, look_none hq] at hx
    have hb := look_bd p x.1
    have ih := SetOk.vol_le ha.tail (l := q) (fun r => by
      have h1 := h r
      rw [hl] at h1
      simp only [look] at h1
      cases he : eqR x.1 r with
      | true =>
        have e := (eqR_iff _ _).1 he
        subst e
        rw [look_none hq, look_none fun y hy e => cmp_ne (ha.rows x (by simp)) (ha.head y hy) e.symm]
      | false =>
        have hne : x.1 ≠ r := fun e => by rw [(eqR_iff _ _).2 e] at he; cases he
        rw [he, look_none (l := p) fun y hy e => hne ((hp y hy).symm.trans e)] at h1
        simpa using h1)
    simp only [vol]
    omega
end Go.Proofs.YtajnnkapgnmoaaaGreat
/-
  Rows that the call itself has made: appended, stored into. No program in sight.
-/
namespace Go.Proofs.YtajnnkapgnmoaaaGreat
open Go.RowKit

theorem flat_split (l : List V) (j : Nat) (u : Value) (h : (flat l)[j]? = some u) : ∃ v : V, l[j / 3]? = some v ∧ (flat l)[j / 3 * 3 + j % 3]? = some u := by
  have hj : j < (flat l).length := (List.getElem?_eq_some_iff.1 h).1
  rw [flat_len] at hj
  exact ⟨l[j / 3]'(by omega), List.getElem?_eq_getElem (by omega), by rw [show j / 3 * 3 + j % 3 = j from by omega]; exact h⟩
theorem VAt.news {w : World} {b off : Nat} {l : List V} (h : VAt w b off l) (j : Nat) (u : Value) (hu : (flat l)[j]? = some u) : w.cell? ((⟨b, off, none⟩ : Addr).add j) = some u := by
  obtain ⟨v, hv, hf⟩ := flat_split l j u hu
  obtain ⟨f1, f2, f3⟩ := flat_get l _ v hv
  obtain ⟨c1, c2, c3⟩ := h _ v hv
  have e : (⟨b, off, none⟩ : Addr).add j = ⟨b, off + (j / 3 * 3 + j % 3), none⟩ := by
    unfold Addr.add
    split
    · subst_vars; rfl
    · rw [show j / 3 * 3 + j % 3 = j from by omega]
  rw [e]
  have : j % 3 = 0 ∨ j % 3 = 1 ∨ j % 3 = 2 := by omega
  rcases this with h3 | h3 | h3 <;> rw [h3] at hf ⊢
  · rw [Nat.add_zero] at hf ⊢; rw [f1] at hf; rw [c1]; exact hf
  · rw [f2] at hf; rw [← Nat.add_assoc, c2]; exact hf
  · rw [f3] at hf; rw [← Nat.add_assoc, c3]; exact hf

/-- a row of the call's own that is not empty -/
theorem own_full {w : World} {base : Nat} {e : TypeId} {v : Value} {l : List V} {n : Nat} (h : w.ownsRow base e 3 v n (flat l)) (hl : l.length = n) (hn : 0 < n) :
    ∃ g cap, v = .slice (some ⟨g, 0, none⟩) n cap ∧ n ≤ cap ∧ base ≤ g ∧ g < w.heap.size ∧ VAt w g 0 l ∧ ∀ j, w.frozen? ⟨g, j, none⟩ = false := by
  subst hl
  obtain ⟨_, hcase⟩ := id h
  rcases hcase with ⟨_, h0⟩ | ⟨g, cap, cur, rfl, hg, hh, hc, hcap, hsz, htake⟩
  · omega
  · refine ⟨g, cap, rfl, hc, hg, ?_, ?_, fun j => h.frozenAt j⟩
    · rcases Nat.lt_or_ge g w.heap.size with hlt | hge
      · exact hlt
      · rw [Array.getElem?_eq_none hge] at hh; cases hh
    · intro i x hx
      obtain ⟨f1, f2, f3⟩ := flat_get l i x hx
      have hi : i < l.length := (List.getElem?_eq_some_iff.1 hx).1
      rw [Nat.zero_add, h.cellAt _ (by omega), h.cellAt _ (by omega), h.cellAt _ (by omega)]
      exact ⟨f1, f2, f3⟩

/-- one value stored into a row -/
theorem VAt.set3 {w : World} {b : Nat} {l : List V} (h : VAt w b 0 l) {q : Nat} {x : V} (hx : l[q]? = some x) (v : V) :
    VAt (((w.setCell ⟨b, q * 3, none⟩ (.int .i64 v.k)).setCell ⟨b, q * 3 + 1, none⟩ (.int .i64 v.n)).setCell ⟨b, q * 3 + 2, none⟩ (.string v.s)) b 0 (l.set q v) := by
  intro i y hy
  have hq : q < l.length := (List.getElem?_eq_some_iff.1 hx).1
  obtain ⟨x1, x2, x3⟩ := h q x hx
  rw [Nat.zero_add] at x1 x2 x3 ⊢
  by_cases hi : i = q
  · subst hi
    rw [List.getElem?_set_self hq] at hy
    obtain rfl : v = y := by simpa using hy
    refine ⟨?_, ?_, ?_⟩
    · rw [World.cell?_setCell_other _ _ _ _ (by simp), World.cell?_setCell_other _ _ _ _ (by simp)]
      exact World.cell?_setCell_same _ _ _ x1
    · rw [World.cell?_setCell_other _ _ _ _ (by simp)]
      exact World.cell?_setCell_same _ _ _ ((World.cell?_setCell_other _ _ _ _ (by simp)).trans x2)
    · exact World.cell?_setCell_same _ _ _ ((World.cell?_setCell_other _ _ _ _ (by simp)).trans ((World.cell?_setCell_other _ _ _ _ (by simp)).trans x3))
  · rw [List.getElem?_set_ne (by omega)] at hy
    obtain ⟨y1, y2, y3⟩ := h i y hy
    rw [Nat.zero_add] at y1 y2 y3
    refine ⟨?_, ?_, ?_⟩
    all_goals
      rw [World.cell?_setCell_other _ _ _ _ (by simp <;> omega), World.cell?_setCell_other _ _ _ _ (by simp <;> omega), World.cell?_setCell_other _ _ _ _ (by simp <;> omega)]
      assumption
end Go.Proofs.YtajnnkapgnmoaaaGreat
/-
  Plain facts on binary64 words, over the model's own Ieee core: what 'float64(n)' stands for, how two such words are ordered, that they are whole. No program in sight.
-/
namespace Go.Proofs.YtajnnkapgnmoaaaGreat
namespace Fl

theorem log2_bounds (n : Nat) (h : n ≠ 0) : 2 ^ n.log2 ≤ n ∧ n < 2 ^ (n.log2 + 1) :=
  ⟨Nat.log2_self_le h, Nat.lt_log2_self⟩

/-- the word of an integer -/
def F (n : Int) : Nat := floatOfInt .f64 n

/-- what a whole number's word reads as -/
def Reads (x : Nat) (n : Int) : Prop := ∃ k : Nat, k ≤ 1074 ∧ Ieee.double.read x = .number (decide (n < 0)) (n.natAbs * 2 ^ k) (-(k : Int))

theorem reads_F (n : Int) (h : n.natAbs < 2 ^ 53) : Reads (F n) n := by
  by_cases h0 : n.natAbs = 0
  · obtain rfl : n = 0 := by omega
    exact ⟨1074, by omega, by decide +kernel⟩
  · obtain ⟨hl1, hl2⟩ := log2_bounds _ h0
    have hL : n.natAbs.log2 ≤ 52 := by
      by_cases hc : n.natAbs.log2 ≤ 52
      · exact hc
      · exfalso
        have : 2 ^ 53 ≤ 2 ^ n.natAbs.log2 := Nat.pow_le_pow_right (by omega) (by omega)
        omega
    obtain ⟨k, hk⟩ : ∃ k, k + n.natAbs.log2 = 52 := ⟨52 - n.natAbs.log2, by omega⟩
    refine ⟨k, by omega, ?_⟩
    have hlo : 2 ^ 52 ≤ n.natAbs * 2 ^ k := by
      have := Nat.mul_le_mul_right (2 ^ k) hl1
      rw [← Nat.pow_add] at this
      rwa [show n.natAbs.log2 + k = 52 from by omega] at this
    have hhi : n.natAbs * 2 ^ k < 2 ^ 53 := by
      have := (Nat.mul_lt_mul_right (a := 2 ^ k) (Nat.two_pow_pos k)).2 hl2
      rw [← Nat.pow_add] at this
      rwa [show n.natAbs.log2 + 1 + k = 53 from by omega] at this
    generalize hm : n.natAbs * 2 ^ k = m at hlo hhi ⊢
    have hw : F n = Ieee.double.word (decide (n < 0)) ((1074 - k) * 2 ^ 52 + m) := by
      show Ieee.double.nearest (decide (n < 0)) n.natAbs 0 = _
      unfold Ieee.Format.nearest
      rw [if_neg h0]
      have hp : Ieee.double.leastPlace = -1074 := by decide +kernel
      have hf : Ieee.double.fractionBits = 52 := rfl
      have hb : Ieee.double.binade = 2 ^ 52 := rfl
      have hi : Ieee.double.infRung = 2047 * 2 ^ 52 := by decide +kernel
      simp only [hp, hf, hb, hi]
      have e1 : max ((0 : Int) + (n.natAbs.log2 : Int) - ((52 : Nat) : Int)) (-1074) = -(k : Int) := by omega
      rw [e1]
      have e2 : ((0 : Int) - -(k : Int)).toNat = k := by omega
      have e3 : (-(k : Int) - 0).toNat = 0 := by omega
      have e4 : (-(k : Int) - -1074).toNat = 1074 - k := by omega
      rw [e2, e3, e4]
      have e5 : Ieee.Toward.even.cut (decide (n < 0)) (n.natAbs <<< k) 0 = m := by
        rw [Nat.shiftLeft_eq, hm]
        unfold Ieee.Toward.cut
        simp [Nat.mod_one]
      rw [e5, Nat.min_eq_left (by omega)]
    rw [hw]
    have hs : Ieee.double.signWeight = 2 ^ 63 := by decide +kernel
    have hb : Ieee.double.binade = 2 ^ 52 := rfl
    have hi : Ieee.double.infRung = 2047 * 2 ^ 52 := by decide +kernel
    have hp : Ieee.double.leastPlace = -1074 := by decide +kernel
    generalize hr : (1074 - k) * 2 ^ 52 + m = r
    have hr1 : r < 2047 * 2 ^ 52 := by omega
    have hr2 : 2 ^ 52 ≤ r := by omega
    have hword : Ieee.double.word (decide (n < 0)) r % 2 ^ 63 = r ∧ (Ieee.double.word (decide (n < 0)) r / 2 ^ 63 % 2 == 1) = decide (n < 0) := by
      unfold Ieee.Format.word
      rw [hs]
      by_cases hn : n < 0
      · simp only [hn, decide_true, if_true]
        constructor
        · omega
        · have : (2 ^ 63 + r) / 2 ^ 63 % 2 = 1 := by omega
          rw [this]; rfl
      · simp only [hn, decide_false, Bool.false_eq_true, if_false]
        constructor
        · omega
        · have : r / 2 ^ 63 % 2 = 0 := by omega
          rw [this]; rfl
    unfold Ieee.Format.read
    rw [hs, hword.1, hword.2, hb, hi, hp]
    simp only
    rw [if_neg (by omega), if_pos hr1]
    have e6 : 2 ^ 52 + r % 2 ^ 52 = m := by omega
    have e7 : (-1074 : Int) + ((r / 2 ^ 52 - 1 : Nat) : Int) = -(k : Int) := by omega
    rw [e6, e7]

theorem signed_val (n : Int) (k j : Nat) : Ieee.signed (decide (n < 0)) (n.natAbs * 2 ^ k) j = n * 2 ^ (k + j) := by
  unfold Ieee.signed
  rw [Nat.shiftLeft_eq, Nat.mul_assoc, ← Nat.pow_add]
  have e : (((n.natAbs * 2 ^ (k + j) : Nat)) : Int) = (n.natAbs : Int) * 2 ^ (k + j) := by
    rw [Int.natCast_mul, Int.natCast_pow]; rfl
  by_cases hn : n < 0
  · simp only [hn, decide_true, if_true]
    rw [e, ← Int.neg_mul, show -(n.natAbs : Int) = n from by omega]
  · simp only [hn, decide_false, Bool.false_eq_true, if_false]
    rw [e, show (n.natAbs : Int) = n from by omega]

theorem compare_scale (a b c : Int) (h : 0 < c) : compare (a * c) (b * c) = compare a b := by
  rcases Int.lt_trichotomy a b with h1 | h1 | h1
  · rw [Int.compare_eq_lt.2 h1, Int.compare_eq_lt.2 (Int.mul_lt_mul_of_pos_right h1 h)]
  · subst h1; rw [Int.compare_eq_eq.2 rfl, Int.compare_eq_eq.2 rfl]
  · rw [Int.compare_eq_gt.2 h1, Int.compare_eq_gt.2 (Int.mul_lt_mul_of_pos_right h1 h)]

theorem order_reads {x y : Nat} {a b : Int} (hx : Reads x a) (hy : Reads y b) : Ieee.double.order x y = some (compare a b) := by
  obtain ⟨k, _, hk⟩ := hx
  obtain ⟨j, _, hj⟩ := hy
  unfold Ieee.Format.order
  rw [hk, hj]
  show some (compare (Ieee.signed _ _ (-(k : Int) - min (-(k : Int)) (-(j : Int))).toNat) (Ieee.signed _ _ (-(j : Int) - min (-(k : Int)) (-(j : Int))).toNat)) = _
  rw [signed_val, signed_val]
  have e1 : k + (-(k : Int) - min (-(k : Int)) (-(j : Int))).toNat = max k j := by omega
  have e2 : j + (-(j : Int) - min (-(k : Int)) (-(j : Int))).toNat = max k j := by omega
  rw [e1, e2, compare_scale _ _ _ (Int.pow_pos (by omega))]

theorem cut_zero_even (s : Bool) (A k : Nat) : Ieee.Toward.zero.cut s ((A * 2 ^ k) <<< 0) k = A := by
  unfold Ieee.Toward.cut
  simp only [Bool.toNat_false, Nat.add_zero, Nat.shiftLeft_eq, Nat.one_mul, Nat.pow_zero, Nat.mul_one]
  by_cases hA : A = 0
  · subst hA; simp
  · have hk : k ≤ (A * 2 ^ k).log2 := (Nat.le_log2 (by
      intro h; rcases Nat.mul_eq_zero.1 h with h | h
      · exact hA h
      · have := Nat.two_pow_pos k; omega)).2 (Nat.le_mul_of_pos_left _ (by omega))
    rw [Nat.min_eq_left (by omega), Nat.mul_div_cancel _ (Nat.two_pow_pos k)]

theorem integral_reads {x : Nat} {a : Int} (hx : Reads x a) : (Ieee.double.read x).integral .zero = .number (decide (a < 0)) a.natAbs 0 := by
  obtain ⟨k, _, hk⟩ := hx
  rw [hk]
  show Ieee.Datum.number _ (Ieee.Toward.zero.cut _ ((a.natAbs * 2 ^ k) <<< (-(k : Int)).toNat) (-(-(k : Int))).toNat) 0 = _
  have e1 : (-(k : Int)).toNat = 0 := by omega
  have e2 : (-(-(k : Int))).toNat = k := by omega
  rw [e1, e2, cut_zero_even]

theorem toInt_reads {x : Nat} {a : Int} (hx : Reads x a) : (Ieee.double.read x).toInt .zero = some a := by
  unfold Ieee.Datum.toInt
  rw [integral_reads hx]
  show some (Ieee.signed (decide (a < 0)) a.natAbs 0) = _
  have := signed_val a 0 0
  simp only [Nat.pow_zero, Nat.mul_one, Nat.add_zero, Int.pow_zero, Int.mul_one] at this
  rw [this]

/-- the word of 'trunc' of a whole number -/
theorem trunc_reads {x : Nat} {a : Int} (hx : Reads x a) : FloatKind.f64.encode ((FloatKind.f64.decode x).integral .zero) = F a := by
  show Ieee.double.write ((Ieee.double.read x).integral .zero) = _
  rw [integral_reads hx]
  rfl

theorem floatToInt_reads {x : Nat} {a : Int} (hx : Reads x a) (h1 : -9223372036854775808 ≤ a) (h2 : a ≤ 9223372036854775807) : floatToIntVal .f64 x .i64 = some a := by
  unfold floatToIntVal
  show (match (Ieee.double.read x).toInt .zero with | some n => if IntKind.min .i64 ≤ n ∧ n ≤ IntKind.max .i64 then some n else none | none => none) = _
  rw [toInt_reads hx]
  simp only
  rw [if_pos ⟨h1, h2⟩]

end Fl
end Go.Proofs.YtajnnkapgnmoaaaGreat
/-
  The contracts of package tally's functions over whole tallies: what each call gives, the world as it was.
-/
namespace Go.Proofs.YtajnnkapgnmoaaaGreat
open Go.RowKit

theorem arch_trunc {x : Nat} {a : Int} (h : Fl.Reads x a) (w : World) : (callFunc 143 #[.float .f64 x]).run Tryz.prog w = .ok (.value (.float .f64 (Fl.F a))) w := by
  rw [run_callFunc_extern (e := Extern.MathFloor.toIntegral "math.archTrunc" .zero) Tryz.func143 (by kernel_rfl) (by kernel_rfl) (by kernel_rfl) (by kernel_rfl) _ w]
  have e : (Extern.MathFloor.toIntegral "math.archTrunc" .zero #[.float .f64 x]).run Tryz.prog w = .ok (.float .f64 (Fl.F a)) w := by
    obtain ⟨k, hk, hd⟩ := h
    have ht := Fl.trunc_reads ⟨k, hk, hd⟩
    have hd' : FloatKind.f64.decode x = .number (decide (a < 0)) (a.natAbs * 2 ^ k) (-(k : Int)) := hd
    change Sem.run Tryz.prog ((match FloatKind.f64.decode x with
      | .nan s t =>
        if FloatKind.f64.format.quiet t = t then pure (.float .f64 x) else do
        let kept ← choose (.extern "math.Floor,Ceil,Trunc,RoundToEven.signallingNaN kept" 2)
        pure (.float .f64 (if kept == 1 then x else FloatKind.f64.encode (.nan s (FloatKind.f64.format.quiet t))))
      | d => pure (.float .f64 (FloatKind.f64.encode (d.integral .zero)))) : Sem Value) w = _
    rw [hd'] at ht ⊢
    simp only [ht]
    rfl
  rw [e]
  rfl

theorem trunc_any {x : Nat} {a : Int} (h : Fl.Reads x a) (w : World) :
    Calls Tryz.prog 136 #[.float .f64 x] w fun e w' => e = .returned (.float .f64 (Fl.F a)) ∧ w = w' := by
  have hd := arch_trunc h
  clear h
  go_enter Tryz.func136, Tryz.ntmps136
  go_wp2
  go_ret
  exact ⟨rfl, rfl⟩

theorem F_zero : Fl.F 0 = 0 := by decide +kernel
theorem F_most : Fl.F 1125899906842624 = 4832362400168542208 := by decide +kernel
theorem reads_zero : Fl.Reads 0 0 := by have := Fl.reads_F 0 (by omega); rwa [F_zero] at this
theorem reads_most : Fl.Reads 4832362400168542208 1125899906842624 := by have := Fl.reads_F 1125899906842624 (by omega); rwa [F_most] at this

def okPart (a : Int) : Bool := decide (0 ≤ a ∧ a ≤ 1125899906842624)

theorem order_of {x y : Nat} {a b : Int} {o : Ordering} (hx : Fl.Reads x a) (hy : Fl.Reads y b) (h : compare a b = o) : FloatKind.f64.format.order x y = some o := by
  rw [← h]; exact Fl.order_reads hx hy

set_option maxHeartbeats 400000 in
theorem whole_any {x : Nat} {a : Int} (h : Fl.Reads x a) (w : World) :
    Calls Tryz.prog 117 #[.float .f64 x] w fun e w' => e = .returned (.bool (okPart a)) ∧ w = w' := by
  rcases Int.lt_trichotomy a 0 with h0 | h0 | h0
  · have f1 := order_of h reads_zero (Int.compare_eq_lt.2 h0)
    have hr : okPart a = false := by unfold okPart; rw [decide_eq_false]; omega
    rw [hr]
    clear h h0 hr
    go_enter Tryz.func117, Tryz.ntmps117
    go_wp2
    go_ret
    exact ⟨rfl, rfl⟩
  · subst h0
    have f1 := order_of h reads_zero (Int.compare_eq_eq.2 rfl)
    have f2 := order_of (o := .lt) h reads_most (by decide)
    have f3 : FloatKind.f64.format.order x (Fl.F 0) = some .eq := order_of (o := .eq) h (Fl.reads_F 0 (by omega)) (by decide)
    have hr : okPart 0 = true := by decide
    rw [hr]
    have H := Lib.hid h
    clear h hr
    go_enter Tryz.func117, Tryz.ntmps117
    go_wp2_with (go_at_call 136; refine (trunc_any H.out _).mono ?_; rintro e w' ⟨rfl, rfl⟩)
    go_ret
    exact ⟨rfl, rfl⟩
  · have f1 := order_of h reads_zero (Int.compare_eq_gt.2 h0)
    rcases Int.lt_trichotomy a 1125899906842624 with h1 | h1 | h1
    · have f2 := order_of h reads_most (Int.compare_eq_lt.2 h1)
      have f3 : FloatKind.f64.format.order x (Fl.F a) = some .eq := order_of h (Fl.reads_F a (by omega)) (Int.compare_eq_eq.2 rfl)
      have hr : okPart a = true := by unfold okPart; rw [decide_eq_true]; omega
      rw [hr]
      have H := Lib.hid h
      clear h hr
      go_enter Tryz.func117, Tryz.ntmps117
      go_wp2_with (go_at_call 136; refine (trunc_any H.out _).mono ?_; rintro e w' ⟨rfl, rfl⟩)
      go_ret
      exact ⟨rfl, rfl⟩
    · subst h1
      have f2 := order_of h reads_most (Int.compare_eq_eq.2 rfl)
      have f3 : FloatKind.f64.format.order x (Fl.F 1125899906842624) = some .eq := order_of h (Fl.reads_F _ (by omega)) (Int.compare_eq_eq.2 rfl)
      have hr : okPart 1125899906842624 = true := by decide
      rw [hr]
      have H := Lib.hid h
      clear h hr
      go_enter Tryz.func117, Tryz.ntmps117
      go_wp2_with (go_at_call 136; refine (trunc_any H.out _).mono ?_; rintro e w' ⟨rfl, rfl⟩)
      go_ret
      exact ⟨rfl, rfl⟩
    · have f2 := order_of h reads_most (Int.compare_eq_gt.2 h1)
      have hr : okPart a = false := by unfold okPart; rw [decide_eq_false]; omega
      rw [hr]
      clear h h0 hr h1
      go_enter Tryz.func117, Tryz.ntmps117
      go_wp2
      go_ret
      exact ⟨rfl, rfl⟩

set_option maxHeartbeats 400000 in
theorem right_any {x y : Nat} {a b : Int} (hx : Fl.Reads x a) (hy : Fl.Reads y b) (w : World) :
    Calls Tryz.prog 78 #[.complex .f64 x y] w fun e w' => e = .returned (.bool (okPart a && okPart b)) ∧ w = w' := by
  have c1 := Lib.hid (whole_any hx)
  have c2 := Lib.hid (whole_any hy)
  clear hx hy
  by_cases ha : okPart a = true
  · have e : (okPart a && okPart b) = okPart b := by rw [ha]; rfl
    rw [e]
    generalize okPart b = q at *
    rw [ha] at c1
    clear e ha
    go_enter Tryz.func78, Tryz.ntmps78
    go_wp2_with fail
    refine (c1.out _).mono ?_
    rintro e w' ⟨rfl, rfl⟩
    go_wp2_with fail
    refine (c2.out _).mono ?_
    rintro e w' ⟨rfl, rfl⟩
    go_wp2_with fail
    go_ret
    exact ⟨rfl, rfl⟩
  · have ha' : okPart a = false := by simpa using ha
    have e : (okPart a && okPart b) = false := by rw [ha']; rfl
    rw [e]
    rw [ha'] at c1
    clear e ha ha'
    go_enter Tryz.func78, Tryz.ntmps78
    go_wp2_with fail
    refine (c1.out _).mono ?_
    rintro e w' ⟨rfl, rfl⟩
    go_wp2_with fail
    go_ret
    exact ⟨rfl, rfl⟩

/-- a number if it counts, else 0 -/
def sel (q : Bool) (n : Int) : Int := if q then n else 0
theorem sel_true (n : Int) : sel true n = n := rfl
theorem sel_false (n : Int) : sel false n = 0 := rfl
def okT (a b : Int) : Bool := okPart a && okPart b
theorem okT_bd {a b : Int} (h : okT a b = true) : (0 ≤ a ∧ a ≤ 1125899906842624) ∧ (0 ≤ b ∧ b ≤ 1125899906842624) := by
  unfold okT okPart at h
  simpa using h
def netT (a b : Int) : Int := sel (okT a b) (a - b)
theorem netT_bd (a b : Int) : -1125899906842624 ≤ netT a b ∧ netT a b ≤ 1125899906842624 := by
  unfold netT
  cases h : okT a b
  · simp [sel]
  · have := okT_bd h
    simp only [sel]
    simp
    omega

set_option maxHeartbeats 400000 in
theorem parts_any {x y : Nat} {a b : Int} (hx : Fl.Reads x a) (hy : Fl.Reads y b) (w : World) :
    Calls Tryz.prog 88 #[.complex .f64 x y] w fun e w' => e = .returned (.tuple #[.int .i64 (sel (okT a b) a), .int .i64 (sel (okT a b) b), .bool (okT a b)]) ∧ w = w' := by
  have c := Lib.hid (right_any hx hy)
  by_cases h : okT a b = true
  · have hb := okT_bd h
    have k1 := fun w => run_convert_float_int (P := Tryz.prog) w 101 2 .f64 .i64 x a (by kernel_rfl) Tryz.underlying2 (Fl.floatToInt_reads hx (by omega) (by omega))
    have k2 := fun w => run_convert_float_int (P := Tryz.prog) w 101 2 .f64 .i64 y b (by kernel_rfl) Tryz.underlying2 (Fl.floatToInt_reads hy (by omega) (by omega))
    rw [h, sel_true, sel_true]
    rw [show (okPart a && okPart b) = true from h] at c
    clear hx hy h hb
    go_enter Tryz.func88, Tryz.ntmps88
    go_wp2_with (go_at_call 78; refine (c.out _).mono ?_; rintro e w' ⟨rfl, rfl⟩)
    go_ret3
    exact ⟨rfl, rfl⟩
  · have h' : okT a b = false := by simpa using h
    rw [h', sel_false, sel_false]
    rw [show (okPart a && okPart b) = false from h'] at c
    clear hx hy h h'
    go_enter Tryz.func88, Tryz.ntmps88
    go_wp2_with (go_at_call 78; refine (c.out _).mono ?_; rintro e w' ⟨rfl, rfl⟩)
    go_ret3
    exact ⟨rfl, rfl⟩

theorem net_any {x y : Nat} {a b : Int} (hx : Fl.Reads x a) (hy : Fl.Reads y b) (w : World) :
    Calls Tryz.prog 47 #[.complex .f64 x y] w fun e w' => e = .returned (.int .i64 (netT a b)) ∧ w = w' := by
  have c := Lib.hid (parts_any hx hy)
  have hb : -1125899906842624 ≤ sel (okT a b) a - sel (okT a b) b ∧ sel (okT a b) a - sel (okT a b) b ≤ 1125899906842624 ∧ sel (okT a b) a - sel (okT a b) b = netT a b := by
    have := netT_bd a b
    unfold netT at *
    cases h : okT a b <;> simp [sel, h] at * <;> omega
  obtain ⟨h1, h2, h3⟩ := hb
  rw [← h3]
  clear hx hy h3
  go_enter Tryz.func47, Tryz.ntmps47
  go_wp2_with (go_at_call 88; refine (c.out _).mono ?_; rintro e w' ⟨rfl, rfl⟩)
  go_ret
  exact ⟨rfl, rfl⟩

theorem Of_any (a b : Int) (w : World) :
    Calls Tryz.prog 68 #[.int .i64 a, .int .i64 b] w fun e w' => e = .returned (.complex .f64 (Fl.F a) (Fl.F b)) ∧ w = w' := by
  go_enter Tryz.func68, Tryz.ntmps68
  go_wp2
  go_ret
  exact ⟨rfl, rfl⟩

def pos (n : Int) : Int := if 0 ≤ n then n else 0
theorem pos_bd (n : Int) : 0 ≤ pos n ∧ (0 ≤ n → pos n = n) ∧ (n ≤ 0 → pos n = 0) := by
  unfold pos; refine ⟨?_, ?_, ?_⟩ <;> intros <;> split <;> omega

set_option maxHeartbeats 400000 in
theorem of_any (n : Int) (w : World) (h1 : -4503599627370496 ≤ n) (h2 : n ≤ 4503599627370496) :
    Calls Tryz.prog 123 #[.int .i64 n] w fun e w' => e = .returned (.complex .f64 (Fl.F (pos n)) (Fl.F (pos (-n)))) ∧ w = w' := by
  obtain ⟨p0, p1, p2⟩ := pos_bd n
  obtain ⟨m0, m1, m2⟩ := pos_bd (-n)
  rcases Int.lt_trichotomy n 0 with h | h | h
  · rw [p2 (by omega), m1 (by omega)]
    clear p0 p1 p2 m0 m1 m2
    go_enter Tryz.func123, Tryz.ntmps123
    go_wp2_with (go_at_call 68; refine (Of_any _ _ _).mono ?_; rintro e w' ⟨rfl, rfl⟩)
    go_ret
    exact ⟨rfl, rfl⟩
  · subst h
    rw [p2 (by omega), m2 (by omega)]
    clear p0 p1 p2 m0 m1 m2 h1 h2
    go_enter Tryz.func123, Tryz.ntmps123
    go_wp2_with (go_at_call 68; refine (Of_any _ _ _).mono ?_; rintro e w' ⟨rfl, rfl⟩)
    go_ret
    exact ⟨rfl, rfl⟩
  · rw [p1 (by omega), m2 (by omega)]
    clear p0 p1 p2 m0 m1 m2
    go_enter Tryz.func123, Tryz.ntmps123
    go_wp2_with (go_at_call 68; refine (Of_any _ _ _).mono ?_; rintro e w' ⟨rfl, rfl⟩)
    go_ret
    exact ⟨rfl, rfl⟩

theorem reads_pos (n : Int) (h1 : -4503599627370496 ≤ n) (h2 : n ≤ 4503599627370496) : Fl.Reads (Fl.F (pos n)) (pos n) :=
  Fl.reads_F _ (by have := pos_bd n; omega)

set_option maxHeartbeats 400000 in
theorem reduce_any {x y : Nat} {a b : Int} (hx : Fl.Reads x a) (hy : Fl.Reads y b) (w : World) :
    Calls Tryz.prog 85 #[.complex .f64 x y] w fun e w' => e = .returned (.complex .f64 (Fl.F (pos (netT a b))) (Fl.F (pos (-netT a b)))) ∧ w = w' := by
  have c := Lib.hid (net_any hx hy)
  obtain ⟨h1, h2⟩ := netT_bd a b
  generalize netT a b = n at *
  clear hx hy
  go_enter Tryz.func85, Tryz.ntmps85
  go_wp2_with (first | (go_at_call 47; refine (c.out _).mono ?_; rintro e w' ⟨rfl, rfl⟩) | (go_at_call 123; refine (of_any n _ (by omega) (by omega)).mono ?_; rintro e w' ⟨rfl, rfl⟩))
  go_ret
  exact ⟨rfl, rfl⟩

def fitN (n : Int) : Bool := decide (-1125899906842624 ≤ n ∧ n ≤ 1125899906842624)

set_option maxHeartbeats 400000 in
theorem some_any (n : Int) (q : Bool) (w : World) (h1 : -4503599627370496 ≤ n) (h2 : n ≤ 4503599627370496) :
    Calls Tryz.prog 122 #[.int .i64 n, .bool q] w fun e w' =>
      e = .returned (.tuple #[.complex .f64 (Fl.F (pos (sel (q && fitN n) n))) (Fl.F (pos (-(sel (q && fitN n) n)))), .bool (q && fitN n)]) ∧ w = w' := by
  by_cases hf : fitN n = true
  · have hb : -1125899906842624 ≤ n ∧ n ≤ 1125899906842624 := by unfold fitN at hf; simpa using hf
    obtain ⟨h3, h4⟩ := hb
    rw [hf]
    clear hf
    cases q
    · rw [show (false && true) = false from rfl, sel_false, show pos 0 = 0 from rfl, show pos (-0) = 0 from rfl, F_zero]
      go_enter Tryz.func122, Tryz.ntmps122
      go_wp2
      go_ret2
      exact ⟨rfl, rfl⟩
    · rw [show (true && true) = true from rfl, sel_true]
      go_enter Tryz.func122, Tryz.ntmps122
      go_wp2_with (go_at_call 123; refine (of_any n _ (by omega) (by omega)).mono ?_; rintro e w' ⟨rfl, rfl⟩)
      go_ret2
      exact ⟨rfl, rfl⟩
  · have hf' : fitN n = false := by simpa using hf
    have hb : n < -1125899906842624 ∨ 1125899906842624 < n := by unfold fitN at hf; simp at hf; omega
    rw [hf', Bool.and_false, sel_false, show pos 0 = 0 from rfl, show pos (-0) = 0 from rfl, F_zero]
    clear hf hf'
    cases q <;> rcases hb with hb | hb
    all_goals
      go_enter Tryz.func122, Tryz.ntmps122
      go_wp2
      go_ret2
      exact ⟨rfl, rfl⟩

theorem flip_yes {x y : Nat} {a b : Int} (hx : Fl.Reads x a) (hy : Fl.Reads y b) (h : okT a b = true) (w : World) :
    Calls Tryz.prog 76 #[.complex .f64 x y] w fun e w' => e = .returned (.complex .f64 y x) ∧ w = w' := by
  have c := Lib.hid (right_any hx hy)
  rw [show (okPart a && okPart b) = true from h] at c
  clear hx hy h
  go_enter Tryz.func76, Tryz.ntmps76
  go_wp2_with (go_at_call 78; refine (c.out _).mono ?_; rintro e w' ⟨rfl, rfl⟩)
  go_ret
  exact ⟨rfl, rfl⟩

theorem flip_no {x y : Nat} {a b : Int} (hx : Fl.Reads x a) (hy : Fl.Reads y b) (h : okT a b = false) (w : World) :
    Calls Tryz.prog 76 #[.complex .f64 x y] w fun e w' => e = .returned (.complex .f64 0 0) ∧ w = w' := by
  have c := Lib.hid (right_any hx hy)
  rw [show (okPart a && okPart b) = false from h] at c
  clear hx hy h
  go_enter Tryz.func76, Tryz.ntmps76
  go_wp2_with (go_at_call 78; refine (c.out _).mono ?_; rintro e w' ⟨rfl, rfl⟩)
  go_ret
  exact ⟨rfl, rfl⟩

def addOk (a b c d : Int) : Bool := (okT a b && okT c d) && fitN (netT a b + netT c d)
def addN (a b c d : Int) : Int := sel (addOk a b c d) (netT a b + netT c d)

set_option maxHeartbeats 400000 in
theorem add_any {x y u v : Nat} {a b c d : Int} (hx : Fl.Reads x a) (hy : Fl.Reads y b) (hu : Fl.Reads u c) (hv : Fl.Reads v d) (w : World) :
    Calls Tryz.prog 83 #[.complex .f64 x y, .complex .f64 u v] w fun e w' =>
      e = .returned (.tuple #[.complex .f64 (Fl.F (pos (addN a b c d))) (Fl.F (pos (-(addN a b c d)))), .bool (addOk a b c d)]) ∧ w = w' := by
  have n1 := Lib.hid (net_any hx hy)
  have n2 := Lib.hid (net_any hu hv)
  have r1 := Lib.hid (right_any hx hy)
  have r2 := Lib.hid (right_any hu hv)
  obtain ⟨b1, b2⟩ := netT_bd a b
  obtain ⟨b3, b4⟩ := netT_bd c d
  unfold addN addOk
  change Hid (∀ w, Calls Tryz.prog 78 #[.complex .f64 x y] w fun e w' => e = .returned (.bool (okT a b)) ∧ w = w') at r1
  change Hid (∀ w, Calls Tryz.prog 78 #[.complex .f64 u v] w fun e w' => e = .returned (.bool (okT c d)) ∧ w = w') at r2
  generalize netT a b = n at *
  generalize netT c d = m at *
  generalize okT a b = p at *
  generalize okT c d = q at *
  clear hx hy hu hv
  cases p
  · rw [show (false && q && fitN (n + m)) = (false && fitN (n + m)) from rfl]
    go_enter Tryz.func83, Tryz.ntmps83
    go_wp2_with fail
    refine (n1.out _).mono ?_
    rintro e w' ⟨rfl, rfl⟩
    go_wp2_with fail
    refine (n2.out _).mono ?_
    rintro e w' ⟨rfl, rfl⟩
    go_wp2_with fail
    refine (r1.out _).mono ?_
    rintro e w' ⟨rfl, rfl⟩
    go_wp2_with fail
    refine (some_any (n + m) false _ (by omega) (by omega)).mono ?_
    rintro e w' ⟨rfl, rfl⟩
    go_wp2_with fail
    go_ret2
    exact ⟨rfl, rfl⟩
  · rw [show (true && q && fitN (n + m)) = (q && fitN (n + m)) from by rw [Bool.true_and]]
    go_enter Tryz.func83, Tryz.ntmps83
    go_wp2_with fail
    refine (n1.out _).mono ?_
    rintro e w' ⟨rfl, rfl⟩
    go_wp2_with fail
    refine (n2.out _).mono ?_
    rintro e w' ⟨rfl, rfl⟩
    go_wp2_with fail
    refine (r1.out _).mono ?_
    rintro e w' ⟨rfl, rfl⟩
    go_wp2_with fail
    refine (r2.out _).mono ?_
    rintro e w' ⟨rfl, rfl⟩
    go_wp2_with fail
    refine (some_any (n + m) q _ (by omega) (by omega)).mono ?_
    rintro e w' ⟨rfl, rfl⟩
    go_wp2_with fail
    go_ret2
    exact ⟨rfl, rfl⟩
end Go.Proofs.YtajnnkapgnmoaaaGreat
/-
  Items (a row, and how often) as they lie in memory. No program in sight.
-/
set_option linter.unusedVariables false
namespace Go.Proofs.YtajnnkapgnmoaaaGreat
open Go.RowKit

/-- an item: its row's address and capacity, its row, its net -/
structure IM where
  A : Option Addr
  c : Nat
  r : List V
  k : Int
def tal (k : Int) : Value := .complex .f64 (Fl.F (pos k)) (Fl.F (pos (-k)))
def IM.cs (x : IM) : List Value := [.slice x.A x.r.length x.c, tal x.k]
def IM.val (x : IM) : Value := .agg #[.slice x.A x.r.length x.c, tal x.k]
def IM.it (x : IM) : It := (x.r, x.k)
def its (l : List IM) : List It := l.map IM.it
def flatM (l : List IM) : List Value := l.flatMap IM.cs
theorem flatM_len (l : List IM) : (flatM l).length = l.length * 2 := by
  induction l with
  | nil => rfl
  | cons v l ih => show ((IM.cs v) ++ flatM l).length = _; simp [ih, IM.cs]; omega
theorem flatM_get (l : List IM) : ∀ (i : Nat) (v : IM), l[i]? = some v → (flatM l)[i * 2]? = some (.slice v.A v.r.length v.c) ∧ (flatM l)[i * 2 + 1]? = some (tal v.k) := by
  induction l with
  | nil => intro i v h; simp at h
  | cons x l ih =>
    intro i v h
    have e : flatM (x :: l) = IM.cs x ++ flatM l := rfl
    rw [e]
    cases i with
    | zero =>
      obtain rfl : x = v := by simpa using h
      exact ⟨rfl, rfl⟩
    | succ i =>
      have := ih i v (by simpa using h)
      have hl : (IM.cs x).length = 2 := rfl
      rw [List.getElem?_append_right (by omega), List.getElem?_append_right (by omega), hl]
      rw [show (i + 1) * 2 - 2 = i * 2 from by omega, show (i + 1) * 2 + 1 - 2 = i * 2 + 1 from by omega]
      exact this
theorem flatM_one (v : IM) : flatM [v] = IM.cs v := by simp [flatM]
theorem flatM_append (a b : List IM) : flatM (a ++ b) = flatM a ++ flatM b := by simp [flatM]
theorem flatM_ones (l : List IM) : ∀ u ∈ flatM l, u.oneCell' = true := by
  intro u hu
  obtain ⟨v, _, hv⟩ := List.mem_flatMap.1 hu
  simp only [IM.cs, List.mem_cons, List.not_mem_nil, or_false] at hv
  rcases hv with rfl | rfl <;> rfl
theorem flatM_split (l : List IM) (j : Nat) (u : Value) (h : (flatM l)[j]? = some u) : ∃ v : IM, l[j / 2]? = some v ∧ (flatM l)[j / 2 * 2 + j % 2]? = some u := by
  have hj : j < (flatM l).length := (List.getElem?_eq_some_iff.1 h).1
  rw [flatM_len] at hj
  exact ⟨l[j / 2]'(by omega), List.getElem?_eq_getElem (by omega), by rw [show j / 2 * 2 + j % 2 = j from by omega]; exact h⟩

/-- a slice at an address holds the values r, in a block of S -/
def VRowS (w : World) (S : Nat → Prop) (A : Option Addr) (r : List V) : Prop := r = [] ∨ ∃ b off, A = some ⟨b, off, none⟩ ∧ S b ∧ VAt w b off r
def IAt (w : World) (b off : Nat) (l : List IM) : Prop := ∀ i x, l[i]? = some x → w.cell? ⟨b, off + i * 2, none⟩ = some (.slice x.A x.r.length x.c) ∧ w.cell? ⟨b, off + i * 2 + 1, none⟩ = some (tal x.k)
/-- a slice at an address holds the items l; they, and their rows, lie in blocks of S -/
structure SRow (w : World) (S : Nat → Prop) (A : Option Addr) (l : List IM) : Prop where
  at_ : l = [] ∨ ∃ b off, A = some ⟨b, off, none⟩ ∧ S b ∧ IAt w b off l
  rows : ∀ x ∈ l, VRowS w S x.A x.r
section
variable {w w' : World} {S S' : Nat → Prop} {B b off : Nat} {A : Option Addr} {r : List V} {l : List IM}
theorem VAt.kept (h : VAt w b off r) (hk : w'.heap[b]? = w.heap[b]?) : VAt w' b off r := fun i v hv => by
  obtain ⟨h1, h2, h3⟩ := h i v hv
  have hc : ∀ o, w'.cell? ⟨b, o, none⟩ = w.cell? ⟨b, o, none⟩ := fun o => World.cell?_of_block hk
  exact ⟨(hc _).trans h1, (hc _).trans h2, (hc _).trans h3⟩
theorem IAt.kept (h : IAt w b off l) (hk : w'.heap[b]? = w.heap[b]?) : IAt w' b off l := fun i v hv => by
  obtain ⟨h1, h2⟩ := h i v hv
  have hc : ∀ o, w'.cell? ⟨b, o, none⟩ = w.cell? ⟨b, o, none⟩ := fun o => World.cell?_of_block hk
  exact ⟨(hc _).trans h1, (hc _).trans h2⟩
theorem VRowS.kept (h : VRowS w S A r) (hk : ∀ k, S k → w'.heap[k]? = w.heap[k]?) : VRowS w' S A r := by
  rcases h with h | ⟨b, o, hA, hS, h⟩
  · exact .inl h
  · exact .inr ⟨b, o, hA, hS, h.kept (hk b hS)⟩
theorem VRowS.mono (h : VRowS w S A r) (hS : ∀ k, S k → S' k) : VRowS w S' A r := by
  rcases h with h | ⟨b, o, hA, hb, h⟩
  · exact .inl h
  · exact .inr ⟨b, o, hA, hS b hb, h⟩
theorem VRowS.to (h : VRowS w S A r) (hS : ∀ k, S k → k < B) : VRow w B A r := by
  rcases h with h | ⟨b, o, hA, hb, h⟩
  · exact .inl h
  · exact .inr ⟨b, o, hA, hS b hb, h⟩
theorem SRow.kept (h : SRow w S A l) (hk : ∀ k, S k → w'.heap[k]? = w.heap[k]?) : SRow w' S A l :=
  ⟨by
    rcases h.at_ with h | ⟨b, o, hA, hS, h⟩
    · exact .inl h
    · exact .inr ⟨b, o, hA, hS, h.kept (hk b hS)⟩, fun x hx => (h.rows x hx).kept hk⟩
theorem SRow.mono (h : SRow w S A l) (hS : ∀ k, S k → S' k) : SRow w S' A l :=
  ⟨by
    rcases h.at_ with h | ⟨b, o, hA, hb, h⟩
    · exact .inl h
    · exact .inr ⟨b, o, hA, hS b hb, h⟩, fun x hx => (h.rows x hx).mono hS⟩
theorem SRow.below (h : SRow w S A l) (hb : Below B w w') (hS : ∀ k, S k → k < B) : SRow w' S A l := h.kept fun k hk => hb.block k (hS k hk)
theorem SRow.nil (A : Option Addr) : SRow w S A [] := ⟨.inl rfl, fun x h => by simp at h⟩
theorem SRow.get {i : Nat} {x : IM} (h : SRow w S A l) (hx : l[i]? = some x) : ∃ b off, A = some ⟨b, off, none⟩ ∧ S b ∧ w.cell? ⟨b, off + i * 2, none⟩ = some (.slice x.A x.r.length x.c) ∧ w.cell? ⟨b, off + i * 2 + 1, none⟩ = some (tal x.k) := by
  rcases h.at_ with rfl | ⟨b, off, hA, hS, h⟩
  · simp at hx
  · exact ⟨b, off, hA, hS, h i x hx⟩
theorem IAt.news (h : IAt w b off l) (j : Nat) (u : Value) (hu : (flatM l)[j]? = some u) : w.cell? ((⟨b, off, none⟩ : Addr).add j) = some u := by
  obtain ⟨v, hv, hf⟩ := flatM_split l j u hu
  obtain ⟨f1, f2⟩ := flatM_get l _ v hv
  obtain ⟨c1, c2⟩ := h _ v hv
  have e : (⟨b, off, none⟩ : Addr).add j = ⟨b, off + (j / 2 * 2 + j % 2), none⟩ := by
    unfold Addr.add
    split
    · subst_vars; rfl
    · rw [show j / 2 * 2 + j % 2 = j from by omega]
  rw [e]
  have : j % 2 = 0 ∨ j % 2 = 1 := by omega
  rcases this with h3 | h3 <;> rw [h3] at hf ⊢
  · rw [Nat.add_zero] at hf ⊢; rw [f1] at hf; rw [c1]; exact hf
  · rw [f2] at hf; rw [← Nat.add_assoc, c2]; exact hf
theorem SRow.reads (h : SRow w S A l) (hS : ∀ k, S k → k < B) : Reads w B 2 A l.length (flatM l) := by
  refine ⟨flatM_len l, fun hn => ?_⟩
  rcases h.at_ with rfl | ⟨b, off, hA, hb, h⟩
  · simp at hn
  · exact ⟨_, hA, hS b hb, h.news⟩
theorem VRow.reads (h : VRow w B A r) : Reads w B 3 A r.length (flat r) := by
  refine ⟨flat_len r, fun hn => ?_⟩
  rcases h with rfl | ⟨b, off, hA, hb, h⟩
  · simp at hn
  · exact ⟨_, hA, hb, h.news⟩
theorem ownM_below {B n : Nat} {e : TypeId} {z : Nat} {v : Value} {xs : List Value} (h : w.ownsRow B e z v n xs) (hb : Below w.heap.size w w') : w'.ownsRow B e z v n xs := by
  refine ⟨h.1, ?_⟩
  rcases h.2 with hn | ⟨g, cap, cur, rfl, hg, hgg, rest⟩
  · exact .inl hn
  · exact .inr ⟨g, cap, cur, rfl, hg, by rw [hb.block g (Array.getElem?_eq_some_iff.1 hgg).1]; exact hgg, rest⟩
/-- a block that the call has made, none of it frozen -/
def NewS (w w' : World) (k : Nat) : Prop := w.heap.size ≤ k ∧ k < w'.heap.size ∧ ∀ o, w'.frozen? ⟨k, o, none⟩ = false
theorem frozen_of_block {w w' : World} {k o : Nat} (h : w'.heap[k]? = w.heap[k]?) : w'.frozen? ⟨k, o, none⟩ = w.frozen? ⟨k, o, none⟩ := by
  simp only [World.frozen?, h]
theorem NewS.below {w w1 w2 : World} {k : Nat} (h : NewS w w1 k) (hb : Below w1.heap.size w1 w2) : NewS w w2 k :=
  ⟨h.1, Nat.lt_of_lt_of_le h.2.1 hb.size, fun o => (frozen_of_block (hb.block k h.2.1)).trans (h.2.2 o)⟩
theorem NewS.lower {w w1 w2 : World} {k : Nat} (h : NewS w1 w2 k) (hs : w.heap.size ≤ w1.heap.size) : NewS w w2 k := ⟨Nat.le_trans hs h.1, h.2⟩
/-- what is owned is a row of items -/
theorem own_items {base : Nat} {e : TypeId} {v : Value} (h : w.ownsRow base e 2 v l.length (flatM l)) (hS : ∀ g, base ≤ g → g < w.heap.size → (∀ o, w.frozen? ⟨g, o, none⟩ = false) → S g) (hr : ∀ x ∈ l, VRowS w S x.A x.r) :
    ∃ A c, v = .slice A l.length c ∧ l.length ≤ c ∧ SRow w S A l := by
  obtain ⟨_, hcase⟩ := id h
  rcases hcase with ⟨rfl, h0⟩ | ⟨g, cap, cur, rfl, hg, hh, hn, hcap, hsz, htake⟩
  · exact ⟨none, 0, by rw [h0], by omega, .inl (List.eq_nil_of_length_eq_zero h0), hr⟩
  · have hlt : g < w.heap.size := (Array.getElem?_eq_some_iff.1 hh).1
    refine ⟨some ⟨g, 0, none⟩, cap, rfl, hn, .inr ⟨g, 0, rfl, hS g hg hlt (fun o => h.frozenAt o), ?_⟩, hr⟩
    intro i x hx
    obtain ⟨f1, f2⟩ := flatM_get l i x hx
    have hi : i < l.length := (List.getElem?_eq_some_iff.1 hx).1
    rw [Nat.zero_add, h.cellAt _ (by omega), h.cellAt _ (by omega)]
    exact ⟨f1, f2⟩
/-- .. and a row of values -/
theorem own_vals {base : Nat} {e : TypeId} {v : Value} (h : w.ownsRow base e 3 v r.length (flat r)) (hS : ∀ g, base ≤ g → g < w.heap.size → (∀ o, w.frozen? ⟨g, o, none⟩ = false) → S g) :
    ∃ A c, v = .slice A r.length c ∧ r.length ≤ c ∧ VRowS w S A r := by
  rcases Nat.eq_zero_or_pos r.length with h0 | h0
  · obtain ⟨A, c, hv, hc, hr, _⟩ := own_row h
    exact ⟨A, c, hv, hc, .inl (List.eq_nil_of_length_eq_zero h0)⟩
  · obtain ⟨g, cap, hv, hc, hb, hlt, hA, hf⟩ := own_full h rfl h0
    exact ⟨_, cap, hv, hc, .inr ⟨g, 0, rfl, hS g hb hlt hf, hA⟩⟩
end
theorem its_append (a b : List IM) : its (a ++ b) = its a ++ its b := by simp [its]
theorem its_len (l : List IM) : (its l).length = l.length := by simp [its]
end Go.Proofs.YtajnnkapgnmoaaaGreat
/-
  What a slot of a region holds, as a list of facts; an append to a row of the call's own. No program in sight.
-/
set_option linter.unusedVariables false
namespace Go.Proofs.YtajnnkapgnmoaaaGreat
namespace EachKit
open Go.RowKit
inductive Fact
  | is (v : Value)
  | such (p : Value → World → Prop) (h : ∀ v w w', Below w.heap.size w w' → p v w → p v w')
def Fact.holds : Fact → Value → World → Prop
  | .is x, v, _ => v = x
  | .such p _, v, w => p v w
def holdsL (l : List Fact) (i : Nat) (v : Value) (w : World) : Prop := (l.getD i (.is undef)).holds v w
theorem holdsL_mono (l : List Fact) : ∀ i v w w', Below w.heap.size w w' → holdsL l i v w → holdsL l i v w' := by
  intro i v w w' hb h
  unfold holdsL at h ⊢
  generalize l.getD i (.is undef) = f at h ⊢
  cases f with
  | is x => exact h
  | such p hp => exact hp v w w' hb h
/-- an empty row of no room -/
def Fact.emp (base : Nat) (e : TypeId) : Fact := .such (fun v w => Empty w base e v) (fun _ _ _ hb h => h.below hb)
/-- a row of the call's own -/
def Fact.own (base : Nat) (e : TypeId) (z n : Nat) (xs : List Value) : Fact := .such (fun v w => w.ownsRow base e z v n xs) (fun _ _ _ hb h => ownM_below h hb)
/-- a struct that holds a row of values of the call's own, and something else -/
def Fact.item (base : Nat) (e : TypeId) (z n : Nat) (xs : List Value) (t : Value) : Fact := .such (fun v w => ∃ A c, v = .agg #[.slice A n c, t] ∧ w.ownsRow base e z (.slice A n c) n xs) (fun _ _ _ hb h => by
  obtain ⟨A, c, h1, h2⟩ := h
  exact ⟨A, c, h1, ownM_below h2 hb⟩)
/-- .. in a block of its own -/
def Fact.box (base : Nat) (e e2 : TypeId) (z n : Nat) (xs : List Value) (t : Value) : Fact := .such (fun v w => ∃ g A c, v = .slice (some ⟨g, 0, none⟩) 1 1 ∧ base ≤ g ∧ w.heap[g]? = some (.cells #[.slice A n c, t] e2 (0, 0)) ∧ w.ownsRow base e z (.slice A n c) n xs) (fun _ _ _ hb h => by
  obtain ⟨g, A, c, h1, h2, h3, h4⟩ := h
  exact ⟨g, A, c, h1, h2, (hb.block g (Array.getElem?_eq_some_iff.1 h3).1).trans h3, ownM_below h4 hb⟩)
/-- a block with these cells -/
def Fact.blk (base : Nat) (e : TypeId) (m : Nat) (cs : Array Value) : Fact := .such (fun v w => ∃ g, v = .slice (some ⟨g, 0, none⟩) m m ∧ base ≤ g ∧ w.heap[g]? = some (.cells cs e (0, 0))) (fun _ _ _ hb h => by
  obtain ⟨g, h1, h2, h3⟩ := h
  exact ⟨g, h1, h2, (hb.block g (Array.getElem?_eq_some_iff.1 h3).1).trans h3⟩)
theorem own_slice' {w : World} {base n z : Nat} {e : TypeId} {v : Value} {xs : List Value} (h : w.ownsRow base e z v n xs) : ∃ A c, v = .slice A n c ∧ w.ownsRow base e z (.slice A n c) n xs := by
  rcases id h.2 with ⟨rfl, rfl⟩ | ⟨g, cap, cur, rfl, _⟩
  · exact ⟨none, 0, rfl, h⟩
  · exact ⟨_, cap, rfl, h⟩
/-- the assignment of a slot that was just written -/
theorem assign_last {P : Program} {o : Oper} {a : Act} (k n : Nat) (v' : Value) {w : World} {K : Act → World → Prop} {Q : Exit → Act → World → Prop} (h : a.tmps.size = n) (hk : k < n) (ho : o.op = .assign (.tmp k)) (hK : K ((a.put (some k) v').put o.dst v') w) : o.wp P (a.put (some k) v') w K Q := by
  have e : (a.put (some k) v').eval (.tmp k) = v' := by
    simp [Act.put, Act.eval, h, hk]
  unfold Oper.wp execOp
  simp only [ho, Sem.run_pure, e]
  exact hK
section
variable {P : Program} {ops : Array Oper} {Q : Exit → Act → World → Prop}
theorem put_likeK {ds dl : List (Option Tmp)} {a0 a : Act} {o : Oper} {i L : Nat} (hds : ops.toList.map (·.dst) = ds) (hdl : ds.take L = dl) (ho : ops[i]? = some o) (hi : i < L) (h : Like dl a0 a) (v : Value) : Like dl a0 (a.put o.dst v) := by
  refine ⟨?_, ?_, fun t ht => ?_⟩
  · rw [← h.size]; cases o.dst <;> simp [Act.put]
  · rw [← h.defers]; cases o.dst <;> rfl
  · rw [← h.keep t ht]
    cases hd : o.dst with
    | none => rfl
    | some d =>
      have hne : d ≠ t := fun e => ht (by
        have h1 := ds_get hds ho
        have h2 : dl[i]? = some o.dst := by rw [← hdl, List.getElem?_take_of_lt hi, h1]
        rw [← e, ← hd]
        exact List.mem_of_getElem? h2)
      simp [Act.put, Array.getD_eq_getD_getElem?, Array.getElem?_setIfInBounds_ne hne]
theorem any_firstK {ds dl : List (Option Tmp)} {R : Nat → Value → World → Prop} {a0 : Act} {w0 : World} {L F : Nat} {LL : Array Bool} (hok : drawOk ops = true) (hds : ops.toList.map (·.dst) = ds) (hsz : ∀ d, some d ∈ ds → d < a0.tmps.size)
    (hdl : ds.take L = dl) (hL : L < ops.size) (hlast : lastAll L (pres ops.toList []) 0 = true) (hLL : LL.size = ops.size) (hmark : markOk L LL.toList 0 = true) (hF : unl LL = F)
    (hR : ∀ i v w w', Below w.heap.size w w' → R i v w → R i v w')
    (each : Each (fun i o m => i < L → OpGoal P ops Q dl R a0 w0 i o m) ops.toList (pres ops.toList []) 0)
    (fin : ∀ a w, Below w0.heap.size w0 w → Like dl a0 a → (∀ j, j < L → Knows dl R a w j) → wpAny P .any ops Q F LL a w) :
    ∀ (fuel : Nat) (listed : Array Bool) (a : Act) (w : World), listed.size = ops.size →
      (∀ (j : Nat) o, listed.getD j false = true → ops[j]? = some o → ∀ e ∈ o.after, Region.binds .any e = true → listed.getD e.on false = true) →
      (∀ j, L ≤ j → listed.getD j false = false) →
      unl listed = fuel → Below w0.heap.size w0 w → Like dl a0 a → (∀ j, listed.getD j false = true → Knows dl R a w j) → wpAny P .any ops Q fuel listed a w := by
  have done : ∀ (listed : Array Bool) (fuel : Nat) (a : Act) (w : World), listed.size = ops.size → unl listed = fuel → (∀ j, L ≤ j → listed.getD j false = false) → (∀ j, j < L → listed.getD j false = true) → Below w0.heap.size w0 w → Like dl a0 a → (∀ j, listed.getD j false = true → Knows dl R a w j) → wpAny P .any ops Q fuel listed a w := by
    intro listed fuel a w hs hu hge hall h1 h2 h3
    have e : listed = LL := by
      refine Array.ext (by omega) fun i hi1 hi2 => ?_
      have hm := markOk_spec hmark i LL[i] (by simp)
      rw [Nat.zero_add] at hm
      rw [hm]
      have hd : listed.getD i false = listed[i] := by rw [Array.getD_eq_getD_getElem?, Array.getElem?_eq_getElem hi1]; rfl
      rw [← hd]
      by_cases hi : i < L
      · rw [hall i hi, decide_eq_true hi]
      · rw [hge i (by omega), decide_eq_false hi]
    subst e
    rw [← hu, hF]
    exact fin a w h1 h2 fun j hj => h3 j (hall j hj)
  intro fuel
  induction fuel with
  | zero =>
    intro listed a w hsz' hcl hge hu hb hl hk
    have := unl_zero hu (j := L) (by omega)
    rw [hge L (Nat.le_refl _)] at this
    cases this
  | succ fuel ih =>
    intro listed a w hsz' hcl hge hu hb hl hk
    by_cases hall : ∀ j, j < L → listed.getD j false = true
    · exact done listed _ a w hsz' hu hge hall hb hl hk
    refine ⟨fun hr => ?_, fun i hi => ?_⟩
    · exfalso
      refine hall fun j => ?_
      induction j using Nat.strongRecOn with
      | _ j ihj =>
        intro hj
        cases hx : listed.getD j false with
        | true => rfl
        | false =>
          exfalso
          have hjs : j < ops.size := by omega
          have hm : j ∈ Region.ready .any ops listed := mem_ready.2 ⟨by rw [getD_tf (by omega) true false]; exact hx, ops[j], Array.getElem?_eq_getElem hjs, fun e he hbd => by
            have hlt : e.on < j := by
              have := (allOk_spec hok j ops[j] (by simp)).1
              rw [Nat.zero_add] at this
              exact edgesOk_mem this e (by simpa using he) hbd
            exact ihj e.on hlt (by omega)⟩
          rw [hr] at hm
          cases hm
    · obtain ⟨hun, o, ho, hedges⟩ := mem_ready.1 hi
      have hlt : i < ops.size := (Array.getElem?_eq_some_iff.1 ho).1
      obtain ⟨m, hm⟩ : ∃ m, (pres ops.toList [])[i]? = some m := ⟨_, pres_get ops ho⟩
      have hcl' := pre_closed hok (S := fun j => listed.getD j false = true) hcl i o m ho hm hedges
      have hiL : i < L := by
        rcases Nat.lt_or_ge i L with h | h
        · exact h
        · exfalso
          refine hall fun j hj => (hcl' j (lastAll_spec hlast i m hm (by omega) j hj)).1
      have hF' := each.get i o m (by simpa using ho) hm
      rw [Nat.zero_add] at hF'
      have hpre : ∀ j, m.testBit j = true → Knows dl R a w j := fun j hj => hk j (hcl' j hj).1
      have hset : ∀ j, (listed.setIfInBounds i true).getD j false = true ↔ listed.getD j false = true ∨ j = i := by
        intro j
        by_cases e : i = j
        · subst e
          simp [Array.getD_eq_getD_getElem?, show i < listed.size from by omega]
        · rw [show (listed.setIfInBounds i true).getD j false = listed.getD j false from by simp [Array.getD_eq_getD_getElem?, Array.getElem?_setIfInBounds_ne e]]
          exact ⟨.inl, fun h => h.resolve_right fun e' => e e'.symm⟩
      have next : ∀ v w', Below w.heap.size w w' → R i v w' → wpAny P .any ops Q fuel (listed.setIfInBounds i true) (a.put o.dst v) w' := by
        intro v w' hw' hv
        refine ih _ _ _ (by simpa using hsz') (fun j p hj hp e he hbd => ?_) (fun j hj => ?_) ?_ (hb.trans (hw'.mono hb.size)) (put_likeK hds hdl ho hiL hl v) (fun j hj => ?_)
        · rcases (hset j).1 hj with hj | rfl
          · exact (hset _).2 (.inl (hcl j p hj hp e he hbd))
          · rw [ho] at hp
            obtain rfl := Option.some.inj hp
            exact (hset _).2 (.inl (hedges e he hbd))
        · cases hx : (listed.setIfInBounds i true).getD j false with
          | false => rfl
          | true =>
            rcases (hset j).1 hx with h | h
            · rw [hge j hj] at h; cases h
            · omega
        · have := unl_set hun
          omega
        · by_cases hji : j = i
          · subst hji
            refine ⟨v, fun d hd => ?_, hv⟩
            rw [← hdl, List.getElem?_take_of_lt hiL, ds_get hds ho] at hd
            obtain hd := Option.some.inj hd
            have hdlt : d < a.tmps.size := by
              rw [hl.size]
              exact hsz d (by
                rw [← hds, ← hd]
                exact List.mem_map.2 ⟨o, by have := Array.mem_of_getElem? ho; simpa using this, rfl⟩)
            rw [hd]
            simp [Act.put, Array.getD_eq_getD_getElem?, hdlt]
          · obtain ⟨u, hu1, hu2⟩ := hk j (((hset j).1 hj).resolve_right hji)
            refine ⟨u, fun d hd => ?_, hR _ _ _ _ hw' hu2⟩
            rw [← hu1 d hd]
            cases hod : o.dst with
            | none => rfl
            | some e =>
              have hne : e ≠ d := by
                rintro rfl
                have hjL : j < L := by
                  have := (List.getElem?_eq_some_iff.1 hd).1
                  rw [← hdl, List.length_take] at this
                  omega
                have hjlt : j < ops.size := by omega
                rw [← hdl, List.getElem?_take_of_lt hjL] at hd
                have hoj : ops[j]? = some ops[j] := Array.getElem?_eq_getElem hjlt
                have hdj := ds_get hds hoj
                rw [hd] at hdj
                have hdj := Option.some.inj hdj
                have hsp := (allOk_spec hok i o (by simpa using ho)).2.1
                exact (dstOk_spec hsp j ops[j] e (by simp) (by omega) hdj.symm).1 hod
              simp [Act.put, Array.getD_eq_getD_getElem?, Array.getElem?_setIfInBounds_ne hne]
      have hgo := hF' hiL a w hb hl hpre _ next
      unfold wpOp
      simp only [ho]
      split
      · rename_i hw
        rw [if_pos hw] at hgo
        exact .inl hgo
      · rename_i hw
        rw [if_neg hw] at hgo
        exact hgo

theorem region_firstK {ds dl : List (Option Tmp)} {MS : List Nat} {R : Nat → Value → World → Prop} {a : Act} {w : World} {id L F : Nat} {LL : Array Bool} (hm : P.follows .mixedOrders = true) (hok : drawOk ops = true) (hds : ops.toList.map (·.dst) = ds) (hMS : pres ops.toList [] = MS)
    (hsz : (ds.all fun | some d => Nat.blt d a.tmps.size | none => true) = true)
    (hdl : ds.take L = dl) (hL : Nat.blt L ops.size = true) (hlast : lastAll L MS 0 = true) (hLL : LL.size = ops.size) (hmark : markOk L LL.toList 0 = true) (hF : unl LL = F)
    (hR : ∀ i v w w', Below w.heap.size w w' → R i v w → R i v w') (G : Act → Prop) (hG : G a)
    (each : ops.toList.map (·.dst) = ds → ∀ (Q' : Exit → Act → World → Prop) (a0 : Act), G a0 → Each (fun i o m => i < L → OpGoal P ops Q' dl R a0 w i o m) ops.toList MS 0)
    (fin : ∀ a' w', Below w.heap.size w w' → Like dl a a' → (∀ j, j < L → Knows dl R a' w' j) → wpAny P .any ops Q F LL a' w') : (Code.region id ops true).wp P Q a w := by
  refine wp_region_any hm ?_
  refine any_firstK (w0 := w) hok hds (fun d hd => ?_) hdl (by simpa [Nat.blt_eq] using hL) (by rw [hMS]; exact hlast) hLL hmark hF hR (by rw [hMS]; exact each hds Q a hG) fin ops.size _ a w.drew (by simp) (fun j o hj => ?_) (fun j hj => ?_) ?_ (Below.refl _ _).drew ⟨rfl, rfl, fun _ _ => rfl⟩ (fun j hj => ?_)
  · have := List.all_eq_true.1 hsz _ hd
    simpa [Nat.blt_eq] using this
  · rw [Array.getD_eq_getD_getElem?, Array.getElem?_replicate] at hj
    split at hj <;> simp at hj
  · rw [Array.getD_eq_getD_getElem?, Array.getElem?_replicate]
    split <;> simp
  · unfold unl
    simp
  · rw [Array.getD_eq_getD_getElem?, Array.getElem?_replicate] at hj
    split at hj <;> simp at hj
end
end EachKit
open Go.RowKit
/-- what stays, where something is appended to a row of the call's own -/
theorem snoc_blocks0 {w2 wo w4 w5 : World} {u v' : Value} (hown : ∀ g, u.ownBlock = some g → w2.heap.size ≤ g ∧ g < wo.heap.size)
    (hs : w2.heap.size ≤ wo.heap.size) (hb2 : Below w2.heap.size w2 wo) (hb4 : Below wo.heap.size wo w4) (hgrow : w4.grownBy w5 u.ownBlock) (hat : v'.ownBlock = u.ownBlock ∨ v'.ownBlock = some w4.heap.size) :
    (∀ g, NewS w2 wo g ∧ u.ownBlock ≠ some g → w5.heap[g]? = wo.heap[g]? ∧ NewS w2 w5 g ∧ v'.ownBlock ≠ some g) ∧ (∀ g, NewS wo w4 g → w5.heap[g]? = w4.heap[g]? ∧ NewS w2 w5 g ∧ v'.ownBlock ≠ some g) ∧ Below w2.heap.size w2 w5 := by
  have hs4 := hb4.size
  have hblk : ∀ g, g < w4.heap.size → u.ownBlock ≠ some g → w5.heap[g]? = w4.heap[g]? := fun g h1 h2 => hgrow.block g h1 (fun e => h2 e.symm)
  have hbw4 : Below w2.heap.size w2 w4 := hb2.trans (hb4.mono hs)
  have hsz5 : w4.heap.size ≤ w5.heap.size := hgrow.size
  refine ⟨fun g hg => ?_, fun g hg => ?_, hbw4.grown hgrow (by omega) (fun g hg => (hown g hg).1)⟩
  · have hk : w5.heap[g]? = wo.heap[g]? := (hblk g (by have := hg.1.2.1; omega) hg.2).trans (hb4.block g hg.1.2.1)
    refine ⟨hk, ⟨hg.1.1, by have := hg.1.2.1; omega, fun o => (frozen_of_block hk).trans (hg.1.2.2 o)⟩, ?_⟩
    rcases hat with h | h
    · rw [h]; exact hg.2
    · rw [h]; intro e; have := Option.some.inj e; have := hg.1.2.1; omega
  · have hne6 : u.ownBlock ≠ some g := fun e => by have := (hown g e).2; have := hg.1; omega
    have hk := hblk g hg.2.1 hne6
    refine ⟨hk, ⟨by have := hg.1; omega, by have := hg.2.1; omega, fun o => (frozen_of_block hk).trans (hg.2.2 o)⟩, ?_⟩
    rcases hat with h | h
    · rw [h]; exact hne6
    · rw [h]; intro e; have := Option.some.inj e; have := hg.2.1; omega
end Go.Proofs.YtajnnkapgnmoaaaGreat
/-
  As Each, for a region with one store (operation z) that may stand ahead of operations that look at no memory. No program in sight.
-/
set_option linter.unusedVariables false
namespace Go.Proofs.YtajnnkapgnmoaaaGreat
namespace EachKit
open Go.RowKit
section
variable {P : Program} {ops : Array Oper} {Q : Exit → Act → World → Prop}
/-- an operation that looks at no memory -/
def OpPure (P : Program) (ops : Array Oper) (Q : Exit → Act → World → Prop) (ds : List (Option Tmp)) (R : Nat → Value → World → Prop) (a0 : Act) (i : Nat) (o : Oper) (m : Nat) : Prop :=
  ∀ (a : Act) (w w1 : World), Like ds a0 a → (∀ j, m.testBit j = true → Knows ds R a w1 j) →
    ∀ K : Act → World → Prop, (∀ v, R i v w1 → K (a.put o.dst v) w) →
      if Region.wanted o (yielded ops a.tmps) = true then o.wp P a w K Q else K (a.put o.dst undef) w
theorem OpPure.free {ds : List (Option Tmp)} {R : Nat → Value → World → Prop} {a0 : Act} {i m : Nat} {o : Oper} (hg : o.guard = none)
    (h : ∀ (a : Act) (w w1 : World), Like ds a0 a → (∀ j, m.testBit j = true → Knows ds R a w1 j) → ∀ K : Act → World → Prop, (∀ v, R i v w1 → K (a.put o.dst v) w) → o.wp P a w K Q) : OpPure P ops Q ds R a0 i o m := by
  intro a w w1 h2 h3 K hK
  rw [if_pos (wanted_none hg)]
  exact h a w w1 h2 h3 K hK
/-- the store -/
def OpStore (P : Program) (ops : Array Oper) (Q : Exit → Act → World → Prop) (ds : List (Option Tmp)) (R : Nat → Value → World → Prop) (Zr : World → World → Prop) (a0 : Act) (w0 : World) (o : Oper) (m : Nat) : Prop :=
  ∀ (a : Act) (w : World), Below w0.heap.size w0 w → Like ds a0 a → (∀ j, m.testBit j = true → Knows ds R a w j) →
    ∀ K : Act → World → Prop, (∀ v w', Zr w w' → K (a.put o.dst v) w') →
      if Region.wanted o (yielded ops a.tmps) = true then o.wp P a w K Q else K (a.put o.dst undef) w
theorem OpStore.free {ds : List (Option Tmp)} {R : Nat → Value → World → Prop} {Zr : World → World → Prop} {a0 : Act} {w0 : World} {m : Nat} {o : Oper} (hg : o.guard = none)
    (h : ∀ (a : Act) (w : World), Below w0.heap.size w0 w → Like ds a0 a → (∀ j, m.testBit j = true → Knows ds R a w j) → ∀ K : Act → World → Prop, (∀ v w', Zr w w' → K (a.put o.dst v) w') → o.wp P a w K Q) : OpStore P ops Q ds R Zr a0 w0 o m := by
  intro a w h1 h2 h3 K hK
  rw [if_pos (wanted_none hg)]
  exact h a w h1 h2 h3 K hK
/-- what is to be shown of each -/
def GoalZ (P : Program) (ops : Array Oper) (Q : Exit → Act → World → Prop) (ds : List (Option Tmp)) (R : Nat → Value → World → Prop) (Zr : World → World → Prop) (z mz : Nat) (a0 : Act) (w0 : World) (i : Nat) (o : Oper) (m : Nat) : Prop :=
  bif Nat.beq i z then OpStore P ops Q ds R Zr a0 w0 o m else bif mz.testBit i then OpGoal P ops Q ds R a0 w0 i o m else OpPure P ops Q ds R a0 i o m
theorem GoalZ.mem {ds : List (Option Tmp)} {R : Nat → Value → World → Prop} {Zr : World → World → Prop} {z mz : Nat} {a0 : Act} {w0 : World} {i : Nat} {o : Oper} {m : Nat} (h1 : Nat.beq i z = false) (h2 : mz.testBit i = true) (h : OpGoal P ops Q ds R a0 w0 i o m) : GoalZ P ops Q ds R Zr z mz a0 w0 i o m := by
  unfold GoalZ
  rw [h1, h2]
  exact h
theorem GoalZ.pure {ds : List (Option Tmp)} {R : Nat → Value → World → Prop} {Zr : World → World → Prop} {z mz : Nat} {a0 : Act} {w0 : World} {i : Nat} {o : Oper} {m : Nat} (h1 : Nat.beq i z = false) (h2 : mz.testBit i = false) (h : OpPure P ops Q ds R a0 i o m) : GoalZ P ops Q ds R Zr z mz a0 w0 i o m := by
  unfold GoalZ
  rw [h1, h2]
  exact h
theorem GoalZ.store {ds : List (Option Tmp)} {R : Nat → Value → World → Prop} {Zr : World → World → Prop} {z mz : Nat} {a0 : Act} {w0 : World} {i : Nat} {o : Oper} {m : Nat} (h1 : Nat.beq i z = true) (h : OpStore P ops Q ds R Zr a0 w0 o m) : GoalZ P ops Q ds R Zr z mz a0 w0 i o m := by
  unfold GoalZ
  rw [h1]
  exact h
theorem put_knows {ds : List (Option Tmp)} {R : Nat → Value → World → Prop} {a0 a : Act} {w1 : World} {o : Oper} {i : Nat} {v : Value} (hok : drawOk ops = true) (hds : ops.toList.map (·.dst) = ds) (hsz : ∀ d, some d ∈ ds → d < a0.tmps.size) (hl : Like ds a0 a) (ho : ops[i]? = some o) (hv : R i v w1) {j : Nat} (hj : j ≠ i → Knows ds R a w1 j) : Knows ds R (a.put o.dst v) w1 j := by
  by_cases hji : j = i
  · subst hji
    refine ⟨v, fun d hd => ?_, hv⟩
    rw [ds_get hds ho] at hd
    obtain hd := Option.some.inj hd
    have hdlt : d < a.tmps.size := by
      rw [hl.size]
      exact hsz d (by
        rw [← hds, ← hd]
        exact List.mem_map.2 ⟨o, by have := Array.mem_of_getElem? ho; simpa using this, rfl⟩)
    rw [hd]
    simp [Act.put, Array.getD_eq_getD_getElem?, hdlt]
  · obtain ⟨u, hu1, hu2⟩ := hj hji
    refine ⟨u, fun d hd => ?_, hu2⟩
    rw [← hu1 d hd]
    cases hod : o.dst with
    | none => rfl
    | some e =>
      have hne : e ≠ d := by
        rintro rfl
        have hjlt : j < ops.size := by
          have := (List.getElem?_eq_some_iff.1 hd).1
          rw [← hds] at this
          simpa using this
        have hoj : ops[j]? = some ops[j] := Array.getElem?_eq_getElem hjlt
        have hdj := ds_get hds hoj
        rw [hd] at hdj
        have hdj := Option.some.inj hdj
        have hsp := (allOk_spec hok i o (by simpa using ho)).2.1
        exact (dstOk_spec hsp j ops[j] e (by simp) (by omega) hdj.symm).1 hod
      simp [Act.put, Array.getD_eq_getD_getElem?, Array.getElem?_setIfInBounds_ne hne]
theorem any_eachZ {ds : List (Option Tmp)} {R : Nat → Value → World → Prop} {Zr : World → World → Prop} {z mz : Nat} {a0 : Act} {w0 : World} (hok : drawOk ops = true) (hds : ops.toList.map (·.dst) = ds) (hsz : ∀ d, some d ∈ ds → d < a0.tmps.size)
    (hz : z < ops.size) (hmz : (pres ops.toList [])[z]? = some mz) (hRz : ∀ w, R z undef w) (hdz : ds[z]? = some none)
    (hR : ∀ i v w w', Below w.heap.size w w' → R i v w → R i v w')
    (each : Each (fun i o m => GoalZ P ops Q ds R Zr z mz a0 w0 i o m) ops.toList (pres ops.toList []) 0)
    (fin : ∀ a w1 w, Below w0.heap.size w0 w1 → Zr w1 w → Like ds a0 a → (∀ j, j < ops.size → Knows ds R a w1 j) → Q .normal a w) :
    ∀ (fuel : Nat) (listed : Array Bool) (a : Act) (w w1 : World), listed.size = ops.size →
      (∀ (j : Nat) o, listed.getD j false = true → ops[j]? = some o → ∀ e ∈ o.after, Region.binds .any e = true → listed.getD e.on false = true) →
      unl listed ≤ fuel → Below w0.heap.size w0 w1 → Like ds a0 a → (listed.getD z false = true → Zr w1 w) → (listed.getD z false = false → w = w1) → (∀ j, listed.getD j false = true → Knows ds R a w1 j) → wpAny P .any ops Q fuel listed a w := by
  have done : ∀ (listed : Array Bool) (a : Act) (w w1 : World), (∀ j, j < ops.size → listed.getD j false = true) → Below w0.heap.size w0 w1 → Like ds a0 a → (listed.getD z false = true → Zr w1 w) → (∀ j, listed.getD j false = true → Knows ds R a w1 j) → Q .normal a w :=
    fun listed a w w1 hall h1 h2 hz1 h3 => fin a w1 w h1 (hz1 (hall z hz)) h2 fun j hj => h3 j (hall j hj)
  intro fuel
  induction fuel with
  | zero =>
    intro listed a w w1 hsz' hcl hu hb hl hz1 hz2 hk
    have hall : ∀ j, j < ops.size → listed.getD j false = true := fun j hj => unl_zero (by omega) (by omega)
    refine ⟨?_, done listed a w w1 hall hb hl hz1 hk⟩
    cases hr : Region.ready .any ops listed with
    | nil => rfl
    | cons i l =>
      have hi : i ∈ Region.ready .any ops listed := by rw [hr]; exact List.mem_cons_self
      obtain ⟨h1, o, h2, _⟩ := mem_ready.1 hi
      have hlt : i < ops.size := (Array.getElem?_eq_some_iff.1 h2).1
      rw [getD_tf (by omega) true false, hall i hlt] at h1
      cases h1
  | succ fuel ih =>
    intro listed a w w1 hsz' hcl hu hb hl hz1 hz2 hk
    refine ⟨fun hr => ?_, fun i hi => ?_⟩
    · have hall : ∀ j, j < ops.size → listed.getD j false = true := by
        intro j
        induction j using Nat.strongRecOn with
        | _ j ihj =>
          intro hj
          cases hx : listed.getD j false with
          | true => rfl
          | false =>
            exfalso
            have hm : j ∈ Region.ready .any ops listed := mem_ready.2 ⟨by rw [getD_tf (by omega) true false]; exact hx, ops[j], Array.getElem?_eq_getElem hj, fun e he hbd => by
              have hlt : e.on < j := by
                have := (allOk_spec hok j ops[j] (by simp)).1
                rw [Nat.zero_add] at this
                exact edgesOk_mem this e (by simpa using he) hbd
              exact ihj e.on hlt (by omega)⟩
            rw [hr] at hm
            cases hm
      exact done listed a w w1 hall hb hl hz1 hk
    · obtain ⟨hun, o, ho, hedges⟩ := mem_ready.1 hi
      have hlt : i < ops.size := (Array.getElem?_eq_some_iff.1 ho).1
      obtain ⟨m, hm⟩ : ∃ m, (pres ops.toList [])[i]? = some m := ⟨_, pres_get ops ho⟩
      have hF := each.get i o m (by simpa using ho) hm
      rw [Nat.zero_add] at hF
      have hunf : listed.getD i false = false := by rw [← getD_tf (by omega) true false]; exact hun
      have hpre : ∀ j, m.testBit j = true → Knows ds R a w1 j := fun j hj =>
        hk j (pre_closed hok (S := fun j => listed.getD j false = true) hcl i o m ho hm hedges j hj).1
      have hset : ∀ j, (listed.setIfInBounds i true).getD j false = true ↔ listed.getD j false = true ∨ j = i := by
        intro j
        by_cases e : i = j
        · subst e
          simp [Array.getD_eq_getD_getElem?, show i < listed.size from by omega]
        · rw [show (listed.setIfInBounds i true).getD j false = listed.getD j false from by simp [Array.getD_eq_getD_getElem?, Array.getElem?_setIfInBounds_ne e]]
          exact ⟨.inl, fun h => h.resolve_right fun e' => e e'.symm⟩
      have hcl' : ∀ (j : Nat) p, (listed.setIfInBounds i true).getD j false = true → ops[j]? = some p → ∀ e ∈ p.after, Region.binds .any e = true → (listed.setIfInBounds i true).getD e.on false = true := fun j p hj hp e he hbd => by
        rcases (hset j).1 hj with hj | rfl
        · exact (hset _).2 (.inl (hcl j p hj hp e he hbd))
        · rw [ho] at hp
          obtain rfl := Option.some.inj hp
          exact (hset _).2 (.inl (hedges e he hbd))
      have hu' : unl (listed.setIfInBounds i true) ≤ fuel := by
        have := unl_set hun
        omega
      have hgo : wpOp P ops Q i (fun a' w' => wpAny P .any ops Q fuel (listed.setIfInBounds i true) a' w') a w := by
        have fromIf : (∀ K : Act → World → Prop, K = (fun a' w' => wpAny P .any ops Q fuel (listed.setIfInBounds i true) a' w') → if Region.wanted o (yielded ops a.tmps) = true then o.wp P a w K Q else K (a.put o.dst undef) w) → wpOp P ops Q i (fun a' w' => wpAny P .any ops Q fuel (listed.setIfInBounds i true) a' w') a w := fun hh => by
          have h1 := hh _ rfl
          unfold wpOp
          simp only [ho]
          split
          · rename_i hw
            rw [if_pos hw] at h1
            exact .inl h1
          · rename_i hw
            rw [if_neg hw] at h1
            exact h1
        refine fromIf fun K hKe => ?_
        unfold GoalZ at hF
        cases hiz : Nat.beq i z with
        | true =>
          rw [hiz] at hF
          have hiz' : i = z := Nat.eq_of_beq_eq_true hiz
          subst hiz'
          have hw := hz2 hunf
          subst hw
          refine hF a w hb hl hpre K fun v w' hZ => ?_
          rw [hKe]
          have hput : o.dst = none := by
            have := ds_get hds ho
            rw [hdz] at this
            exact (Option.some.inj this).symm
          refine ih _ _ w' w (by simpa using hsz') hcl' hu' hb (put_like hds ho hl v) (fun _ => hZ) (fun h => ?_) (fun j hj => ?_)
          · have := (hset i).2 (.inr rfl)
            rw [h] at this
            cases this
          · rw [hput]
            show Knows ds R a w j
            by_cases hji : j = i
            · subst hji
              refine ⟨undef, fun d hd => ?_, hRz _⟩
              rw [hdz] at hd
              cases hd
            · exact hk j (((hset j).1 hj).resolve_right hji)
        | false =>
          rw [hiz] at hF
          have hne : i ≠ z := fun e => by subst e; simp at hiz
          have hzz : (listed.setIfInBounds i true).getD z false = listed.getD z false := by
            simp [Array.getD_eq_getD_getElem?, Array.getElem?_setIfInBounds_ne hne]
          cases hbit : mz.testBit i with
          | true =>
            rw [hbit] at hF
            have hzun : listed.getD z false = false := by
              cases hx : listed.getD z false with
              | false => rfl
              | true =>
                exfalso
                have hoz : ops[z]? = some ops[z] := Array.getElem?_eq_getElem hz
                have := (pre_closed hok (S := fun j => listed.getD j false = true) hcl z ops[z] mz hoz hmz (fun e he hbd => hcl z ops[z] hx hoz e he hbd) i hbit).1
                rw [hunf] at this
                cases this
            have hw := hz2 hzun
            subst hw
            refine hF a w hb hl hpre K fun v w' hw' hv => ?_
            rw [hKe]
            refine ih _ _ w' w' (by simpa using hsz') hcl' hu' (hb.trans (hw'.mono hb.size)) (put_like hds ho hl v) (fun h => ?_) (fun _ => rfl) (fun j hj => ?_)
            · rw [hzz, hzun] at h; cases h
            · refine put_knows hok hds hsz hl ho hv fun hji => ?_
              obtain ⟨u, hu1, hu2⟩ := hk j (((hset j).1 hj).resolve_right hji)
              exact ⟨u, hu1, hR _ _ _ _ hw' hu2⟩
          | false =>
            rw [hbit] at hF
            refine hF a w w1 hl hpre K fun v hv => ?_
            rw [hKe]
            refine ih _ _ w w1 (by simpa using hsz') hcl' hu' hb (put_like hds ho hl v) (fun h => hz1 (by rw [← hzz]; exact h)) (fun h => hz2 (by rw [← hzz]; exact h)) (fun j hj => ?_)
            exact put_knows hok hds hsz hl ho hv fun hji => hk j (((hset j).1 hj).resolve_right hji)
      exact hgo
theorem region_eachZ {ds : List (Option Tmp)} {MS : List Nat} {R : Nat → Value → World → Prop} {Zr : World → World → Prop} {z mz : Nat} {a : Act} {w : World} {id : Nat} (hm : P.follows .mixedOrders = true) (hok : drawOk ops = true) (hds : ops.toList.map (·.dst) = ds) (hMS : pres ops.toList [] = MS)
    (hsz : (ds.all fun | some d => Nat.blt d a.tmps.size | none => true) = true)
    (hz : Nat.blt z ops.size = true) (hmz : MS[z]? = some mz) (hRz : ∀ w, R z undef w) (hdz : ds[z]? = some none)
    (hR : ∀ i v w w', Below w.heap.size w w' → R i v w → R i v w') (G : Act → Prop) (hG : G a)
    (each : ops.toList.map (·.dst) = ds → ∀ (Q' : Exit → Act → World → Prop) (a0 : Act), G a0 → Each (fun i o m => GoalZ P ops Q' ds R Zr z mz a0 w i o m) ops.toList MS 0)
    (fin : ∀ a' w1 w', Below w.heap.size w w1 → Zr w1 w' → Like ds a a' → (∀ j, j < ds.length → Knows ds R a' w1 j) → Q .normal a' w') : (Code.region id ops true).wp P Q a w := by
  refine wp_region_any hm ?_
  refine any_eachZ (w0 := w) hok hds (fun d hd => ?_) (by simpa [Nat.blt_eq] using hz) (by rw [hMS]; exact hmz) hRz hdz hR (by rw [hMS]; exact each hds Q a hG) (fun a' w1 w' h1 h2 h3 h4 => fin a' w1 w' h1 h2 h3 fun j hj => h4 j (by rw [← hds] at hj; simpa using hj)) ops.size _ a w.drew w.drew (by simp) (fun j o hj => ?_) ?_ (Below.refl _ _).drew ⟨rfl, rfl, fun _ _ => rfl⟩ (fun h => ?_) (fun _ => rfl) (fun j hj => ?_)
  · have := List.all_eq_true.1 hsz _ hd
    simpa [Nat.blt_eq] using this
  · rw [Array.getD_eq_getD_getElem?, Array.getElem?_replicate] at hj
    split at hj <;> simp at hj
  · unfold unl
    exact Nat.le_trans (List.length_filter_le _ _) (by simp)
  · rw [Array.getD_eq_getD_getElem?, Array.getElem?_replicate] at h
    split at h <;> simp at h
  · rw [Array.getD_eq_getD_getElem?, Array.getElem?_replicate] at hj
    split at hj <;> simp at hj
end
theorem Like.form2 {ds : List (Option Tmp)} {a a' : Act} (h : Like ds a a') : ∃ u : Nat → Value, a' = { tmps := setU u ds a.tmps, defers := a.defers } ∧ ∀ i, u i = a'.tmps.getD i undef := by
  refine ⟨fun i => a'.tmps.getD i undef, ?_, fun _ => rfl⟩
  rw [setU_get a'.tmps ds a.tmps h.size h.keep, ← h.defers]
end EachKit
end Go.Proofs.YtajnnkapgnmoaaaGreat
/-
  The plain theory of slices' stable merge: blocks exchanged, rotations, and why two sorted runs become one. No Go in sight.
-/
namespace Go.Proofs.YtajnnkapgnmoaaaGreat
open Go.Sort
set_option linter.unusedSectionVars false
set_option linter.unusedVariables false
variable {α : Type} [Inhabited α] {lt : α → α → Bool}

/-- n places from a on and from b on, exchanged -/
def Xch (d d' : Array α) (a b n : Nat) : Prop := d'.size = d.size ∧ ∀ k, d'[k]! = if a ≤ k ∧ k < a + n then d[k - a + b]! else if b ≤ k ∧ k < b + n then d[k - b + a]! else d[k]!
theorem Xch.zero (d : Array α) (a b : Nat) : Xch d d a b 0 := ⟨rfl, fun k => by rw [if_neg (by omega), if_neg (by omega)]⟩
theorem Xch.step {d dk : Array α} {a b n i : Nat} (h : Xch d dk a b i) (hi : i < n) (hab : a + n ≤ b) (hb : b + n ≤ d.size) : Xch d (swp dk (a + i) (b + i)) a b (i + 1) := by
  refine ⟨(size_swp _ _ _).trans h.1, fun k => ?_⟩
  have h1 : a + i < dk.size := by rw [h.1]; omega
  have h2 : b + i < dk.size := by rw [h.1]; omega
  rw [swp_get dk h1 h2]
  by_cases c1 : k = b + i
  · subst c1
    rw [if_pos rfl, h.2, if_neg (by omega), if_neg (by omega), if_neg (by omega), if_pos (by omega)]
    congr 1; omega
  · rw [if_neg c1]
    by_cases c2 : k = a + i
    · subst c2
      rw [if_pos rfl, h.2, if_neg (by omega), if_neg (by omega), if_pos (by omega)]
      congr 1; omega
    · rw [if_neg c2, h.2]
      repeat' split
      all_goals first | rfl | (exfalso; omega)
theorem Xch.perm {d dk : Array α} {a b n i lo hi : Nat} (h : PermIn lo hi d dk) (hi' : i < n) (hab : a + n ≤ b) (hb : b + n ≤ hi) (hlo : lo ≤ a) (hs : hi ≤ d.size) : PermIn lo hi d (swp dk (a + i) (b + i)) :=
  permIn_trans d dk _ lo hi h (swp_permIn dk lo hi (a + i) (b + i) (by omega) (by omega) (by omega) (by omega) (by rw [h.1]; exact hs))

/-- the parts [a, m) and [m, b) exchanged -/
def Rot (d d' : Array α) (a m b : Nat) : Prop := d'.size = d.size ∧ ∀ k, d'[k]! = if a ≤ k ∧ k < a + (b - m) then d[k - a + m]! else if a + (b - m) ≤ k ∧ k < b then d[k - (a + (b - m)) + a]! else d[k]!
theorem Rot.noneL (d : Array α) (m b : Nat) (h : m ≤ b) : Rot d d m m b := ⟨rfl, fun k => by
  repeat' split
  all_goals first | rfl | (congr 1; omega)⟩
theorem Rot.noneR (d : Array α) (a m : Nat) (h : a ≤ m) : Rot d d a m m := ⟨rfl, fun k => by
  repeat' split
  all_goals first | rfl | (congr 1; omega)⟩
/-- what is left to do, when a rotation has come so far -/
theorem Rot.more {d d2 f : Array α} {m i j : Nat} (him : i ≤ m) (hij : j < i) (hj : 0 < j) (hx : Xch d d2 (m - i) m j) (h : Rot d2 f (m - (i - j)) m (m + j)) : Rot d f (m - i) m (m + j) := by
  refine ⟨h.1.trans hx.1, fun k => ?_⟩
  rw [h.2]
  simp only [hx.2]
  repeat' split
  all_goals first | rfl | (exfalso; omega) | (congr 1; omega)
theorem Rot.less {d d2 f : Array α} {m i j : Nat} (him : i ≤ m) (hij : i < j) (hi : 0 < i) (hx : Xch d d2 (m - i) (m + j - i) i) (h : Rot d2 f (m - i) m (m + (j - i))) : Rot d f (m - i) m (m + j) := by
  refine ⟨h.1.trans hx.1, fun k => ?_⟩
  rw [h.2]
  simp only [hx.2]
  repeat' split
  all_goals first | rfl | (exfalso; omega) | (congr 1; omega)
theorem Rot.same {d d2 : Array α} {m i : Nat} (him : i ≤ m) (hx : Xch d d2 (m - i) m i) : Rot d d2 (m - i) m (m + i) := by
  refine ⟨hx.1, fun k => ?_⟩
  rw [hx.2]
  repeat' split
  all_goals first | rfl | (exfalso; omega) | (congr 1; omega)

theorem sorted_le (h : SWO lt) {a b : Nat} {d : Array α} (hs : SortedIn lt a b d) {i j : Nat} (h1 : a ≤ i) (h2 : i ≤ j) (h3 : j < b) : lt d[j]! d[i]! = false := by
  rcases Nat.eq_or_lt_of_le h2 with rfl | h4
  · exact h.irrefl _
  · exact hs i j h1 h4 h3
theorem swo_asymm (h : SWO lt) {x y : α} (h1 : lt x y = true) : lt y x = false := by
  cases h2 : lt y x with
  | false => rfl
  | true => have := h.trans x y x h1 h2; rw [h.irrefl] at this; cases this
/-- x is below what is not below y, where x is below y -/
theorem swo_nlt (h : SWO lt) {x y z : α} (h1 : lt x y = true) (h2 : lt x z = false) : lt y z = false := by
  cases h3 : lt y z with
  | false => rfl
  | true => rw [h.trans x y z h1 h3] at h2; cases h2
theorem swo_ltn (h : SWO lt) {x y z : α} (h1 : lt x y = true) (h2 : lt z y = false) : lt z x = false := by
  cases h3 : lt z x with
  | false => rfl
  | true => rw [h.trans z x y h3 h1] at h2; cases h2

/-- an element moved up: what stands where -/
def UpTo (d d' : Array α) (a k : Nat) : Prop := d'.size = d.size ∧ ∀ t, d'[t]! = if a ≤ t ∧ t < k then d[t + 1]! else if t = k then d[a]! else d[t]!
theorem UpTo.zero (d : Array α) (a : Nat) : UpTo d d a a := ⟨rfl, fun t => by
  repeat' split
  all_goals first | rfl | (exfalso; omega) | (congr 1)⟩
theorem UpTo.step {d dk : Array α} {a k : Nat} (h : UpTo d dk a k) (hak : a ≤ k) (hk : k + 1 < d.size) : UpTo d (swp dk k (k + 1)) a (k + 1) := by
  refine ⟨(size_swp _ _ _).trans h.1, fun t => ?_⟩
  have h1 : k < dk.size := by rw [h.1]; omega
  have h2 : k + 1 < dk.size := by rw [h.1]; omega
  rw [swp_get dk h1 h2, h.2, h.2, h.2]
  repeat' split
  all_goals first | rfl | (exfalso; omega) | (congr 1; omega) | (subst_vars; rfl)
def DownTo (d d' : Array α) (m k : Nat) : Prop := d'.size = d.size ∧ ∀ t, d'[t]! = if k < t ∧ t ≤ m then d[t - 1]! else if t = k then d[m]! else d[t]!
theorem DownTo.zero (d : Array α) (m : Nat) : DownTo d d m m := ⟨rfl, fun t => by
  repeat' split
  all_goals first | rfl | (exfalso; omega) | (congr 1)⟩
theorem DownTo.step {d dk : Array α} {m k : Nat} (h : DownTo d dk m (k + 1)) (hkm : k + 1 ≤ m) (hm : m < d.size) : DownTo d (swp dk (k + 1) k) m k := by
  refine ⟨(size_swp _ _ _).trans h.1, fun t => ?_⟩
  have h1 : k < dk.size := by rw [h.1]; omega
  have h2 : k + 1 < dk.size := by rw [h.1]; omega
  rw [swp_get dk h2 h1, h.2, h.2, h.2]
  repeat' split
  all_goals first | rfl | (exfalso; omega) | (congr 1; omega) | (subst_vars; rfl)

theorem up_sorted (h : SWO lt) {d d' : Array α} {a b i : Nat} (hu : UpTo d d' a (i - 1)) (hai : a + 1 ≤ i) (hib : i ≤ b) (hs : SortedIn lt (a + 1) b d)
    (h1 : i = a + 1 ∨ lt d[i - 1]! d[a]! = true) (h2 : i = b ∨ lt d[i]! d[a]! = false) : SortedIn lt a b d' := by
  intro p q hp hpq hq
  rw [hu.2, hu.2]
  by_cases c1 : q < i - 1
  · rw [if_pos (by omega), if_pos (by omega)]
    exact hs _ _ (by omega) (by omega) (by omega)
  · by_cases c2 : q = i - 1
    · rw [if_neg (by omega), if_pos c2, if_pos (by omega)]
      have h1 := h1.resolve_left (by omega)
      exact swo_nlt h h1 (sorted_le h hs (by omega) (by omega) (by omega))
    · rw [if_neg (by omega), if_neg c2]
      by_cases c3 : p < i - 1
      · rw [if_pos (by omega)]
        exact hs _ _ (by omega) (by omega) (by omega)
      · by_cases c4 : p = i - 1
        · rw [if_neg (by omega), if_pos c4]
          have h2 := h2.resolve_left (by omega)
          exact h.ntrans _ _ _ (sorted_le h hs (by omega) (show i ≤ q by omega) (by omega)) h2
        · rw [if_neg (by omega), if_neg c4]
          exact hs _ _ (by omega) (by omega) (by omega)
theorem down_sorted (h : SWO lt) {d d' : Array α} {a m i : Nat} (hu : DownTo d d' m i) (hai : a ≤ i) (him : i ≤ m) (hs : SortedIn lt a m d)
    (h1 : i = a ∨ lt d[m]! d[i - 1]! = false) (h2 : i = m ∨ lt d[m]! d[i]! = true) : SortedIn lt a (m + 1) d' := by
  intro p q hp hpq hq
  rw [hu.2, hu.2]
  by_cases c1 : q < i
  · rw [if_neg (by omega), if_neg (by omega), if_neg (by omega), if_neg (by omega)]
    exact hs _ _ (by omega) (by omega) (by omega)
  · by_cases c2 : q = i
    · rw [if_neg (by omega), if_pos c2, if_neg (by omega), if_neg (by omega)]
      have h1 := h1.resolve_left (by omega)
      exact h.ntrans _ _ _ h1 (sorted_le h hs (by omega) (by omega) (by omega))
    · rw [if_pos (show i < q ∧ q ≤ m by omega)]
      by_cases c3 : p < i
      · rw [if_neg (by omega), if_neg (by omega)]
        exact hs _ _ (by omega) (by omega) (by omega)
      · by_cases c4 : p = i
        · rw [if_neg (by omega), if_pos c4]
          have h2 := h2.resolve_left (by omega)
          exact swo_ltn h h2 (sorted_le h hs (by omega) (by omega) (by omega))
        · rw [if_pos (by omega)]
          exact hs _ _ (by omega) (by omega) (by omega)

/-- behind the rotation: four sorted runs, those ahead of mid not above those behind -/
theorem rot_runs (h : SWO lt) {d dr : Array α} {a m b mid start e lo hi : Nat} (hr : Rot d dr start m e) (ham : a ≤ m) (hmb : m ≤ b)
    (h0 : a ≤ start) (hsm : start ≤ m) (hme : m ≤ e) (heb : e ≤ b) (hse : start + e = mid + m) (hl : a ≤ lo) (hlo : lo = a ∨ lo + b = mid + m) (hhi : hi = m ∨ hi = mid)
    (s1 : SortedIn lt a m d) (s2 : SortedIn lt m b d) (c1 : start = lo ∨ lt d[e]! d[start - 1]! = false) (c2 : start = hi ∨ lt d[e - 1]! d[start]! = true) :
    SortedIn lt a start dr ∧ SortedIn lt start mid dr ∧ SortedIn lt mid e dr ∧ SortedIn lt e b dr ∧ ∀ x y, a ≤ x → x < mid → mid ≤ y → y < b → lt dr[y]! dr[x]! = false := by
  have hmid : start + (e - m) = mid := by omega
  have g1 : ∀ k, k < start → dr[k]! = d[k]! := fun k hk => by rw [hr.2, if_neg (by omega), if_neg (by omega)]
  have g2 : ∀ k, start ≤ k → k < mid → dr[k]! = d[k - start + m]! := fun k h1 h2 => by rw [hr.2, if_pos (by omega)]
  have g3 : ∀ k, mid ≤ k → k < e → dr[k]! = d[k - mid + start]! := fun k h1 h2 => by rw [hr.2, if_neg (by omega), if_pos (by omega), hmid]
  have g4 : ∀ k, e ≤ k → dr[k]! = d[k]! := fun k hk => by rw [hr.2, if_neg (by omega), if_neg (by omega)]
  refine ⟨?_, ?_, ?_, ?_, ?_⟩
  · intro p q hp hpq hq
    rw [g1 _ hq, g1 _ (by omega)]
    exact s1 _ _ hp hpq (by omega)
  · intro p q hp hpq hq
    rw [g2 q (by omega) hq, g2 p hp (by omega)]
    exact s2 _ _ (by omega) (by omega) (by omega)
  · intro p q hp hpq hq
    rw [g3 q (by omega) hq, g3 p hp (by omega)]
    exact s1 _ _ (by omega) (by omega) (by omega)
  · intro p q hp hpq hq
    rw [g4 q (by omega), g4 p hp]
    exact s2 _ _ (by omega) (by omega) hq
  · intro x y hx hxm hmy hyb
    by_cases cx : x < start
    · rw [g1 x cx]
      by_cases cy : y < e
      · rw [g3 y hmy cy]
        exact sorted_le h s1 hx (by omega) (by omega)
      · rw [g4 y (by omega)]
        have c1 := c1.resolve_left (by omega)
        exact h.ntrans _ _ _ (sorted_le h s2 hme (show e ≤ y by omega) hyb) (h.ntrans _ _ _ c1 (sorted_le h s1 hx (by omega) (by omega)))
    · rw [g2 x (by omega) hxm]
      by_cases cy : y < e
      · rw [g3 y hmy cy]
        have c2 := c2.resolve_left (by omega)
        exact h.ntrans _ _ _ (sorted_le h s1 h0 (show start ≤ y - mid + start by omega) (by omega)) (swo_nlt h c2 (sorted_le h s2 (show m ≤ x - start + m by omega) (show x - start + m ≤ e - 1 by omega) (by omega)))
      · rw [g4 y (by omega)]
        exact sorted_le h s2 (by omega) (by omega) hyb

/-- both halves sorted, and none of the first above one of the second -/
theorem join_sorted {d d1 d2 : Array α} {a b mid : Nat} (ham : a ≤ mid) (hmb : mid ≤ b) (hb : b ≤ d.size) (p1 : PermIn a mid d d1) (p2 : PermIn mid b d1 d2)
    (s1 : SortedIn lt a mid d1) (s2 : SortedIn lt mid b d2) (hx : ∀ x y, a ≤ x → x < mid → mid ≤ y → y < b → lt d[y]! d[x]! = false) : SortedIn lt a b d2 := by
  have e1 : ∀ x, x < mid → d2[x]! = d1[x]! := fun x hx => p2.2.1 x (.inl hx)
  have e2 : ∀ y, mid ≤ y → d1[y]! = d[y]! := fun y hy => p1.2.1 y (.inr hy)
  have f1 : ∀ x, a ≤ x → x < mid → ∀ y, mid ≤ y → y < b → lt d1[y]! d1[x]! = false := permIn_all d d1 a mid (fun z => ∀ y, mid ≤ y → y < b → lt d1[y]! z = false) (by omega) p1 (fun i h1 h2 y h3 h4 => by rw [e2 y h3]; exact hx i y h1 h2 h3 h4)
  have f2 : ∀ x, a ≤ x → x < mid → ∀ y, mid ≤ y → y < b → lt d2[y]! d1[x]! = false := fun x h1 h2 => permIn_all d1 d2 mid b (fun z => lt z d1[x]! = false) (by rw [p1.1]; exact hb) p2 (fun i h3 h4 => f1 x h1 h2 i h3 h4)
  intro p q hp hpq hq
  by_cases c1 : q < mid
  · rw [e1 q c1, e1 p (by omega)]
    exact s1 p q hp hpq c1
  · by_cases c2 : p < mid
    · rw [e1 p c2]
      exact f2 p hp c2 q (by omega) hq
    · exact s2 p q (by omega) hpq hq

/-- what a merge does -/
def Sym (lt : α → α → Bool) (a m b : Nat) (d d' : Array α) : Prop := PermIn a b d d' ∧ (SortedIn lt a m d → SortedIn lt m b d → SortedIn lt a b d')
theorem sym_join (h : SWO lt) {d dr d1 d2 : Array α} {a m b mid start e lo hi : Nat} (hr : Rot d dr start m e) (hp : PermIn a b d dr) (ham : a ≤ m) (hmb : m ≤ b) (hb : b ≤ d.size)
    (h0 : a ≤ start) (hsm : start ≤ m) (hme : m ≤ e) (heb : e ≤ b) (hse : start + e = mid + m) (hl : a ≤ lo) (hlo : lo = a ∨ lo + b = mid + m) (hhi : hi = m ∨ hi = mid)
    (c1 : start = lo ∨ lt d[e]! d[start - 1]! = false) (c2 : start = hi ∨ lt d[e - 1]! d[start]! = true)
    (k1 : Sym lt a start mid dr d1 ∨ ((start = a ∨ start = mid) ∧ d1 = dr)) (k2 : Sym lt mid e b d1 d2 ∨ ((e = mid ∨ e = b) ∧ d2 = d1)) : Sym lt a m b d d2 := by
  have hmid : mid ≤ b := by omega
  have p1 : PermIn a mid dr d1 := by
    rcases k1 with k | ⟨_, rfl⟩
    · exact k.1
    · exact permIn_refl _ _ _
  have p2 : PermIn mid b d1 d2 := by
    rcases k2 with k | ⟨_, rfl⟩
    · exact k.1
    · exact permIn_refl _ _ _
  have hz : b ≤ dr.size := by rw [hr.1]; exact hb
  refine ⟨permIn_trans d dr d2 a b hp (permIn_trans dr d1 d2 a b (permIn_mono dr d1 a mid a b (Nat.le_refl _) hmid hz p1) (permIn_mono d1 d2 mid b a b (by omega) (Nat.le_refl _) (by rw [p1.1]; exact hz) p2)), fun s1 s2 => ?_⟩
  obtain ⟨r1, r2, r3, r4, r5⟩ := rot_runs h hr ham hmb h0 hsm hme heb hse hl hlo hhi s1 s2 c1 c2
  have g : ∀ y, mid ≤ y → d1[y]! = dr[y]! := fun y hy => p1.2.1 y (.inr hy)
  have t1 : SortedIn lt a mid d1 := by
    rcases k1 with k | ⟨hk, rfl⟩
    · exact k.2 r1 r2
    · rcases hk with hk | hk
      · rw [hk] at r2; exact r2
      · rw [hk] at r1; exact r1
  have r3' : SortedIn lt mid e d1 := fun i j h1 h2 h3 => by rw [g i h1, g j (by omega)]; exact r3 i j h1 h2 h3
  have r4' : SortedIn lt e b d1 := fun i j h1 h2 h3 => by rw [g i (by omega), g j (by omega)]; exact r4 i j h1 h2 h3
  have t2 : SortedIn lt mid b d2 := by
    rcases k2 with k | ⟨hk, rfl⟩
    · exact k.2 r3' r4'
    · rcases hk with hk | hk
      · rw [hk] at r4'; exact r4'
      · rw [hk] at r3'; exact r3'
  exact join_sorted (by omega) hmid hz p1 p2 t1 t2 r5

/-- every run of s places is sorted -/
def Runs (lt : α → α → Bool) (s n : Nat) (d : Array α) : Prop := ∀ q, q * s < n → SortedIn lt (q * s) (min (q * s + s) n) d
/-- .. those of 2 * s places ahead of a, and those of s behind -/
def Half (lt : α → α → Bool) (s n t : Nat) (d : Array α) : Prop := (∀ q, q < t → SortedIn lt (q * (2 * s)) (q * (2 * s) + 2 * s) d) ∧ ∀ q, 2 * t ≤ q → q * s < n → SortedIn lt (q * s) (min (q * s + s) n) d
theorem Half.zero {s n : Nat} {d : Array α} (h : Runs lt s n d) : Half lt s n 0 d := ⟨fun q hq => by omega, fun q _ hq => h q hq⟩
theorem Half.step {s n t : Nat} {d d' : Array α} (hs : 0 < s) (h : Half lt s n t d) (hn : t * (2 * s) + 2 * s ≤ n) (hz : n ≤ d.size) (hm : Sym lt (t * (2 * s)) (t * (2 * s) + s) (t * (2 * s) + 2 * s) d d') : Half lt s n (t + 1) d' := by
  have e2 : ∀ q, (2 * q) * s = q * (2 * s) := fun q => by rw [Nat.mul_comm 2 q, Nat.mul_assoc]
  refine ⟨fun q hq => ?_, fun q hq hqn => ?_⟩
  · rcases Nat.lt_or_ge q t with h1 | h1
    · have hle : q * (2 * s) + 2 * s ≤ t * (2 * s) := by
        have := Nat.mul_le_mul_right (2 * s) (show q + 1 ≤ t from h1)
        rwa [Nat.add_mul, Nat.one_mul] at this
      intro i j hi hij hj
      rw [hm.1.2.1 i (.inl (by omega)), hm.1.2.1 j (.inl (by omega))]
      exact h.1 q h1 i j hi hij hj
    · obtain rfl : q = t := by omega
      refine hm.2 ?_ ?_
      · have := h.2 (2 * q) (Nat.le_refl _) (by rw [e2]; omega)
        rw [e2, Nat.min_eq_left (by omega)] at this
        exact this
      · have := h.2 (2 * q + 1) (by omega) (by rw [Nat.add_mul, e2]; omega)
        rw [Nat.add_mul, e2, Nat.one_mul, Nat.min_eq_left (by omega)] at this
        rw [show q * (2 * s) + s + s = q * (2 * s) + 2 * s by omega] at this
        exact this
  · have hge : t * (2 * s) + 2 * s ≤ q * s := by
      have := Nat.mul_le_mul_right s (show 2 * t + 2 ≤ q by omega)
      rw [Nat.add_mul, e2] at this
      exact this
    intro i j hi hij hj
    rw [hm.1.2.1 i (.inr (by omega)), hm.1.2.1 j (.inr (by omega))]
    exact h.2 q (by omega) hqn i j hi hij hj
/-- the last, shorter pair -/
theorem Half.last {s n t : Nat} {d d' : Array α} (hs : 0 < s) (h : Half lt s n t d) (hn : n < t * (2 * s) + 2 * s) (hz : n ≤ d.size)
    (hm : (t * (2 * s) + s < n ∧ Sym lt (t * (2 * s)) (t * (2 * s) + s) n d d') ∨ (n ≤ t * (2 * s) + s ∧ d' = d)) : Runs lt (2 * s) n d' := by
  have e2 : ∀ q, (2 * q) * s = q * (2 * s) := fun q => by rw [Nat.mul_comm 2 q, Nat.mul_assoc]
  intro q hq
  rcases Nat.lt_or_ge q t with h1 | h1
  · have hle : q * (2 * s) + 2 * s ≤ t * (2 * s) := by
      have := Nat.mul_le_mul_right (2 * s) (show q + 1 ≤ t from h1)
      rwa [Nat.add_mul, Nat.one_mul] at this
    have ho := h.1 q h1
    rcases hm with ⟨h2, hm⟩ | ⟨_, rfl⟩
    · intro i j hi hij hj
      have : min (q * (2 * s) + 2 * s) n ≤ q * (2 * s) + 2 * s := Nat.min_le_left _ _
      rw [hm.1.2.1 i (.inl (by omega)), hm.1.2.1 j (.inl (by omega))]
      exact ho i j hi hij (by omega)
    · intro i j hi hij hj
      have : min (q * (2 * s) + 2 * s) n ≤ q * (2 * s) + 2 * s := Nat.min_le_left _ _
      exact ho i j hi hij (by omega)
  · have hqt : q = t := by
      rcases Nat.lt_or_ge t q with h2 | h2
      · have := Nat.mul_le_mul_right (2 * s) (show t + 1 ≤ q from h2)
        rw [Nat.add_mul, Nat.one_mul] at this
        omega
      · omega
    subst hqt
    rw [Nat.min_eq_right (by omega)]
    rcases hm with ⟨h2, hm⟩ | ⟨h2, rfl⟩
    · refine hm.2 ?_ ?_
      · have := h.2 (2 * q) (Nat.le_refl _) (by rw [e2]; omega)
        rw [e2, Nat.min_eq_left (by omega)] at this
        exact this
      · have := h.2 (2 * q + 1) (by omega) (by rw [Nat.add_mul, e2]; omega)
        rw [Nat.add_mul, e2, Nat.one_mul, Nat.min_eq_right (by omega)] at this
        exact this
    · have := h.2 (2 * q) (Nat.le_refl _) (by rw [e2]; exact hq)
      rw [e2, Nat.min_eq_right (by omega)] at this
      exact this
theorem Runs.whole {s n : Nat} {d : Array α} (h : Runs lt s n d) (hn : n ≤ s) : SortedIn lt 0 n d := by
  rcases Nat.eq_zero_or_pos n with rfl | h0
  · intro i j _ _ hj; omega
  · have := h 0 (by rw [Nat.zero_mul]; exact h0)
    rw [Nat.zero_mul, Nat.zero_add, Nat.min_eq_right hn] at this
    exact this
/-- the insertion sorts: runs of s ahead of t * s -/
def First (lt : α → α → Bool) (s t : Nat) (d : Array α) : Prop := ∀ q, q < t → SortedIn lt (q * s) (q * s + s) d
theorem First.step {s t : Nat} {d d' : Array α} (h : First lt s t d) (hp : PermIn (t * s) (t * s + s) d d') (hs : SortedIn lt (t * s) (t * s + s) d') : First lt s (t + 1) d' := by
  intro q hq
  rcases Nat.lt_or_ge q t with h1 | h1
  · have hle : q * s + s ≤ t * s := by
      have := Nat.mul_le_mul_right s (show q + 1 ≤ t from h1)
      rwa [Nat.add_mul, Nat.one_mul] at this
    intro i j hi hij hj
    rw [hp.2.1 i (.inl (by omega)), hp.2.1 j (.inl (by omega))]
    exact h q h1 i j hi hij hj
  · obtain rfl : q = t := by omega
    exact hs
theorem First.last {s n t : Nat} {d d' : Array α} (h : First lt s t d) (hn : n < t * s + s) (hp : PermIn (t * s) n d d') (hs : SortedIn lt (t * s) n d') : Runs lt s n d' := by
  intro q hq
  rcases Nat.lt_or_ge q t with h1 | h1
  · have hle : q * s + s ≤ t * s := by
      have := Nat.mul_le_mul_right s (show q + 1 ≤ t from h1)
      rwa [Nat.add_mul, Nat.one_mul] at this
    intro i j hi hij hj
    have : min (q * s + s) n ≤ q * s + s := Nat.min_le_left _ _
    rw [hp.2.1 i (.inl (by omega)), hp.2.1 j (.inl (by omega))]
    exact h q h1 i j hi hij (by omega)
  · have hqt : q = t := by
      rcases Nat.lt_or_ge t q with h2 | h2
      · have := Nat.mul_le_mul_right s (show t + 1 ≤ q from h2)
        rw [Nat.add_mul, Nat.one_mul] at this
        omega
      · omega
    subst hqt
    rw [Nat.min_eq_right (by omega)]
    exact hs
end Go.Proofs.YtajnnkapgnmoaaaGreat
