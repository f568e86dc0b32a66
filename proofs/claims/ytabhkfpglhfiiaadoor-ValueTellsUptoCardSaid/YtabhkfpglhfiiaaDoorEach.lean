/-
  A region that draws its order, each operation looked at once: what it leaves in its slot stays so; in every order all of it is there at the end. No program in sight.
-/
import Derived.Orders
import Derived.Below
import Derived.KernelRfl
set_option linter.unusedVariables false
namespace Go.Proofs.YtabhkfpglhfiiaaDoor
namespace EachKit
open Go.RowKit

/-! ### what is ahead of an operation -/
def listNat : List Nat → Nat → Nat
  | [], _ => 0
  | n :: _, 0 => n
  | _ :: l, n + 1 => listNat l n
def preE (acc : List Nat) : List Edge → Nat
  | [] => 0
  | e :: l => match Region.binds .any e with
    | true => (2 ^ e.on ||| listNat acc e.on) ||| preE acc l
    | false => preE acc l
def pres : List Oper → List Nat → List Nat
  | [], acc => acc
  | o :: l, acc => pres l (acc ++ [preE acc o.after.toList])
def dirE (k : Nat) : List Edge → Bool
  | [] => false
  | e :: l => match Region.binds .any e && Nat.beq e.on k with
    | true => true
    | false => dirE k l
def edgesOk (i : Nat) : List Edge → Bool
  | [] => true
  | e :: l => match Region.binds .any e, Nat.blt e.on i with
    | true, false => false
    | _, _ => edgesOk i l
def dstOk (o : Oper) (i : Nat) (looks : List Tmp) : List Oper → Nat → Bool
  | [], _ => true
  | p :: l, k => match Nat.beq k i || match p.dst with
      | none => true
      | some d => (match o.dst with
          | some e => !(Nat.beq d e)
          | none => true) && (!(looks.contains d) || dirE k o.after.toList || dirE i p.after.toList) with
    | true => dstOk o i looks l (Nat.succ k)
    | false => false
def allOk (ops : Array Oper) : List Oper → Nat → Bool
  | [], _ => true
  | o :: l, i => match edgesOk i o.after.toList && dstOk o i (o.looksAt ops) ops.toList 0 && (match o.op with
      | .select .. => false
      | _ => true) with
    | true => allOk ops l (Nat.succ i)
    | false => false
def drawOk (ops : Array Oper) : Bool := allOk ops ops.toList 0
theorem listNat_get : ∀ (l : List Nat) (i m : Nat), l[i]? = some m → listNat l i = m
  | [], i, m, h => by simp at h
  | x :: l, 0, m, h => by simpa [listNat] using h
  | x :: l, i + 1, m, h => by rw [listNat]; exact listNat_get l i m (by simpa using h)
theorem preE_spec (acc : List Nat) : ∀ (l : List Edge) (j : Nat), (preE acc l).testBit j = true → ∃ e ∈ l, Region.binds .any e = true ∧ (j = e.on ∨ (listNat acc e.on).testBit j = true)
  | [], j, h => by simp [preE] at h
  | e :: l, j, h => by
    rw [preE] at h
    cases hb : Region.binds .any e with
    | true =>
      rw [hb] at h
      simp only [Nat.testBit_or, Bool.or_eq_true] at h
      rcases h with (h | h) | h
      · rw [Nat.testBit_two_pow] at h
        exact ⟨e, List.mem_cons_self, hb, .inl (by have := of_decide_eq_true h; omega)⟩
      · exact ⟨e, List.mem_cons_self, hb, .inr h⟩
      · obtain ⟨e', he, h'⟩ := preE_spec acc l j h
        exact ⟨e', List.mem_cons_of_mem _ he, h'⟩
    | false =>
      rw [hb] at h
      obtain ⟨e', he, h'⟩ := preE_spec acc l j h
      exact ⟨e', List.mem_cons_of_mem _ he, h'⟩
theorem pres_spec : ∀ (l : List Oper) (acc : List Nat), ∃ new, pres l acc = acc ++ new ∧ new.length = l.length ∧ ∀ (k : Nat) o, l[k]? = some o → new[k]? = some (preE (acc ++ new.take k) o.after.toList)
  | [], acc => ⟨[], by simp [pres], rfl, fun k o h => by simp at h⟩
  | o :: l, acc => by
    obtain ⟨new, h1, h2, h3⟩ := pres_spec l (acc ++ [preE acc o.after.toList])
    refine ⟨preE acc o.after.toList :: new, by rw [pres, h1]; simp, by simp [h2], fun k p hp => ?_⟩
    cases k with
    | zero => simp at hp; subst hp; simp
    | succ k =>
      have := h3 k p (by simpa using hp)
      simpa using this
theorem pres_get (ops : Array Oper) {k : Nat} {o : Oper} (h : ops[k]? = some o) :
    (pres ops.toList [])[k]? = some (preE ((pres ops.toList []).take k) o.after.toList) := by
  obtain ⟨new, h1, h2, h3⟩ := pres_spec ops.toList []
  have := h3 k o (by simpa using h)
  rw [h1]
  simpa using this
theorem dirE_mem {k : Nat} : ∀ {l : List Edge}, dirE k l = true → ∃ e ∈ l, Region.binds .any e = true ∧ e.on = k
  | [], h => by simp [dirE] at h
  | x :: l, h => by
    rw [dirE] at h
    cases hc : Region.binds .any x && Nat.beq x.on k with
    | true =>
      rw [Bool.and_eq_true, Nat.beq_eq] at hc
      exact ⟨x, List.mem_cons_self, hc.1, hc.2⟩
    | false =>
      rw [hc] at h
      obtain ⟨e, he, h'⟩ := dirE_mem h
      exact ⟨e, List.mem_cons_of_mem _ he, h'⟩
theorem edgesOk_mem {i : Nat} : ∀ {l : List Edge}, edgesOk i l = true → ∀ e ∈ l, Region.binds .any e = true → e.on < i
  | [], _, e, h, _ => by simp at h
  | x :: l, hh, e, h, hb => by
    rw [edgesOk] at hh
    rcases List.mem_cons.1 h with rfl | h
    · cases hx : Nat.blt e.on i with
      | false => rw [hb, hx] at hh; simp at hh
      | true => simpa [Nat.blt_eq] using hx
    · split at hh
      · simp at hh
      · exact edgesOk_mem hh e h hb
theorem dstOk_spec {o : Oper} {i : Nat} {looks : List Tmp} : ∀ {l : List Oper} {k : Nat}, dstOk o i looks l k = true → ∀ (j : Nat) p d, l[j]? = some p → k + j ≠ i → p.dst = some d →
    o.dst ≠ some d ∧ (d ∈ looks → (∃ e ∈ o.after, Region.binds .any e = true ∧ e.on = k + j) ∨ (∃ e ∈ p.after, Region.binds .any e = true ∧ e.on = i))
  | [], k, _, j, p, d, h, _, _ => by simp at h
  | q :: l, k, hh, j, p, d, h, hne, hd => by
    rw [dstOk] at hh
    split at hh
    · rename_i hc
      cases j with
      | zero =>
        simp at h
        subst h
        rw [Bool.or_eq_true, Nat.beq_eq] at hc
        rcases hc with hc | hc
        · omega
        · rw [hd] at hc
          simp only [Bool.and_eq_true, Bool.or_eq_true] at hc
          obtain ⟨c1, c2⟩ := hc
          refine ⟨?_, fun hl => ?_⟩
          · intro e
            rw [e] at c1
            simp at c1
          · rcases c2 with (c2 | c2) | c2
            · simp at c2; exact absurd hl c2
            · obtain ⟨e, he, h'⟩ := dirE_mem c2; exact .inl ⟨e, by simpa using he, h'⟩
            · obtain ⟨e, he, h'⟩ := dirE_mem c2; exact .inr ⟨e, by simpa using he, h'⟩
      | succ j =>
        have := dstOk_spec hh j p d (by simpa using h) (by omega) hd
        rw [show k + (j + 1) = k.succ + j from by omega]
        exact this
    · simp at hh
theorem allOk_spec {ops : Array Oper} : ∀ {l : List Oper} {k : Nat}, allOk ops l k = true → ∀ (j : Nat) o, l[j]? = some o →
    edgesOk (k + j) o.after.toList = true ∧ dstOk o (k + j) (o.looksAt ops) ops.toList 0 = true ∧ ∀ cs b, o.op ≠ .select cs b
  | [], k, _, j, o, h => by simp at h
  | q :: l, k, hh, j, o, h => by
    rw [allOk] at hh
    split at hh
    · rename_i hc
      cases j with
      | zero =>
        simp at h
        subst h
        simp only [Bool.and_eq_true] at hc
        refine ⟨hc.1.1, hc.1.2, fun cs b e => ?_⟩
        rw [e] at hc
        simp at hc
      | succ j =>
        have := allOk_spec hh j o (by simpa using h)
        rw [show k + (j + 1) = k.succ + j from by omega]
        exact this
    · simp at hh
theorem pre_closed {ops : Array Oper} (hok : drawOk ops = true) {S : Nat → Prop} (hS : ∀ j o, S j → ops[j]? = some o → ∀ e ∈ o.after, Region.binds .any e = true → S e.on) :
    ∀ (i : Nat) (o : Oper) (m : Nat), ops[i]? = some o → (pres ops.toList [])[i]? = some m → (∀ e ∈ o.after, Region.binds .any e = true → S e.on) → ∀ j, m.testBit j = true → S j ∧ j < i := by
  intro i
  induction i using Nat.strongRecOn with
  | _ i ih =>
    intro o m ho hm hpre j hj
    rw [pres_get ops ho] at hm
    obtain rfl := Option.some.inj hm
    obtain ⟨e, he, hb, h⟩ := preE_spec _ _ _ hj
    have hlt : e.on < i := by
      have := (allOk_spec hok i o (by simpa using ho)).1
      rw [Nat.zero_add] at this
      exact edgesOk_mem this e he hb
    have hSe := hpre e (by simpa using he) hb
    rcases h with rfl | h
    · exact ⟨hSe, hlt⟩
    · have hi : i < ops.size := (Array.getElem?_eq_some_iff.1 ho).1
      have hoe : ops[e.on]? = some ops[e.on] := Array.getElem?_eq_getElem (by omega)
      have hme := pres_get ops hoe
      have h2 : ((pres ops.toList []).take i)[e.on]? = some (preE ((pres ops.toList []).take e.on) ops[e.on].after.toList) := by
        rw [List.getElem?_take, if_pos hlt]; exact hme
      rw [listNat_get _ _ _ h2] at h
      obtain ⟨h3, h4⟩ := ih e.on hlt _ _ hoe hme (hS e.on _ hSe hoe) j h
      exact ⟨h3, by omega⟩
theorem getD_lt {listed : Array Bool} {j : Nat} (h : listed.getD j false = true) : j < listed.size := by
  rcases Nat.lt_or_ge j listed.size with h' | h'
  · exact h'
  · rw [Array.getD_eq_getD_getElem?, Array.getElem?_eq_none h'] at h; simp at h
theorem getD_tf {listed : Array Bool} {j : Nat} (h : j < listed.size) (b b' : Bool) : listed.getD j b = listed.getD j b' := by
  simp [Array.getD_eq_getD_getElem?, h]
def unl (listed : Array Bool) : Nat := (listed.toList.filter fun b => !b).length
theorem filter_set : ∀ (l : List Bool) (i : Nat), l[i]? = some false → ((l.set i true).filter fun b => !b).length + 1 = (l.filter fun b => !b).length
  | [], i, h => by simp at h
  | b :: l, 0, h => by simp at h; subst h; simp
  | b :: l, i + 1, h => by
    have := filter_set l i (by simpa using h)
    cases b <;> simp <;> omega
theorem unl_set {listed : Array Bool} {i : Nat} (h : listed.getD i true = false) : unl (listed.setIfInBounds i true) + 1 = unl listed := by
  have hi : listed.toList[i]? = some false := by
    rw [Array.getD_eq_getD_getElem?] at h
    rw [Array.getElem?_toList]
    cases hg : listed[i]? with
    | none => rw [hg] at h; simp at h
    | some b => rw [hg] at h; simp at h; rw [h]
  have := filter_set _ _ hi
  unfold unl
  simpa using this
theorem unl_zero {listed : Array Bool} (h : unl listed = 0) {j : Nat} (hj : j < listed.size) : listed.getD j false = true := by
  unfold unl at h
  have h0 := List.eq_nil_of_length_eq_zero h
  rw [List.filter_eq_nil_iff] at h0
  have := h0 listed[j] (by simp)
  rw [Array.getD_eq_getD_getElem?, Array.getElem?_eq_getElem hj]
  simpa using this

section
variable {P : Program} {ops : Array Oper} {Q : Exit → Act → World → Prop}
/-- the frame as it was, but for the slots that the region writes -/
structure Like (ds : List (Option Tmp)) (a0 a : Act) : Prop where
  size : a.tmps.size = a0.tmps.size
  defers : a.defers = a0.defers
  keep : ∀ t, some t ∉ ds → a.tmps.getD t undef = a0.tmps.getD t undef
theorem Like.old {ds : List (Option Tmp)} {a0 a : Act} (h : Like ds a0 a) {t : Nat} {v : Value} (hn : (ds.contains (some t)) = false) (hv : a0.tmps.getD t undef = v) : a.tmps.getD t undef = v := by
  rw [h.keep t (fun hm => by rw [List.contains_eq_mem] at hn; simp [hm] at hn)]
  exact hv
/-- the slot of operation j holds something of which R j is true -/
def Knows (ds : List (Option Tmp)) (R : Nat → Value → World → Prop) (a : Act) (w : World) (j : Nat) : Prop :=
  ∃ v, (∀ d, ds[j]? = some (some d) → a.tmps.getD d undef = v) ∧ R j v w
theorem Knows.slot {ds : List (Option Tmp)} {R : Nat → Value → World → Prop} {a : Act} {w : World} {j d : Nat} (h : Knows ds R a w j) (hd : ds[j]? = some (some d)) : ∃ v, a.tmps.getD d undef = v ∧ R j v w := by
  obtain ⟨v, h1, h2⟩ := h
  exact ⟨v, h1 d hd, h2⟩
/-- where R says what the value is -/
theorem Knows.is {ds : List (Option Tmp)} {R : Nat → Value → World → Prop} {a : Act} {w : World} {j d : Nat} {u : Value} (h : Knows ds R a w j) (hd : ds[j]? = some (some d)) (hR : ∀ v, R j v w → v = u) : a.tmps.getD d undef = u := by
  obtain ⟨v, h1, h2⟩ := h
  exact (h1 d hd).trans (hR v h2)
theorem wanted_of {o : Oper} {a : Act} {j d : Nat} {b : Bool} (hg : o.guard = some (j, b)) (hd : (ops[j]?).bind (·.dst) = some d) (hs : a.tmps.getD d undef = .bool b) : Region.wanted o (yielded ops a.tmps) = true := by
  unfold Region.wanted
  rw [hg]
  simp only
  unfold yielded
  rw [hd]
  simp only [Option.bind_some]
  rw [Array.getD_eq_getD_getElem?] at hs
  cases ht : a.tmps[d]? with
  | none => rw [ht] at hs; simp [undef] at hs
  | some u => rw [ht] at hs; simp only [Option.getD_some] at hs; rw [hs]; simp
theorem wanted_none {o : Oper} {a : Act} (hg : o.guard = none) : Region.wanted o (yielded ops a.tmps) = true := by
  unfold Region.wanted
  rw [hg]
/-- what is to be shown of one operation -/
def OpGoal (P : Program) (ops : Array Oper) (Q : Exit → Act → World → Prop) (ds : List (Option Tmp)) (R : Nat → Value → World → Prop) (a0 : Act) (w0 : World) (i : Nat) (o : Oper) (m : Nat) : Prop :=
  ∀ (a : Act) (w : World), Below w0.heap.size w0 w → Like ds a0 a → (∀ j, m.testBit j = true → Knows ds R a w j) →
    ∀ K : Act → World → Prop, (∀ v w', Below w.heap.size w w' → R i v w' → K (a.put o.dst v) w') →
      if Region.wanted o (yielded ops a.tmps) = true then o.wp P a w K Q else K (a.put o.dst undef) w
theorem OpGoal.wanted {ds : List (Option Tmp)} {R : Nat → Value → World → Prop} {a0 : Act} {w0 : World} {i m : Nat} {o : Oper} (hw : ∀ (a : Act) (w : World), Like ds a0 a → (∀ j, m.testBit j = true → Knows ds R a w j) → Region.wanted o (yielded ops a.tmps) = true)
    (h : ∀ (a : Act) (w : World), Below w0.heap.size w0 w → Like ds a0 a → (∀ j, m.testBit j = true → Knows ds R a w j) →
      ∀ K : Act → World → Prop, (∀ v w', Below w.heap.size w w' → R i v w' → K (a.put o.dst v) w') → o.wp P a w K Q) : OpGoal P ops Q ds R a0 w0 i o m := by
  intro a w h1 h2 h3 K hK
  rw [if_pos (hw a w h2 h3)]
  exact h a w h1 h2 h3 K hK
def Each (F : Nat → Oper → Nat → Prop) : List Oper → List Nat → Nat → Prop
  | o :: l, m :: ms, i => F i o m ∧ Each F l ms (i + 1)
  | _, _, _ => True
theorem Each.cons {F : Nat → Oper → Nat → Prop} {o : Oper} {l : List Oper} {m : Nat} {ms : List Nat} {i : Nat} (h : F i o m) (t : Each F l ms (i + 1)) : Each F (o :: l) (m :: ms) i := ⟨h, t⟩
theorem Each.get {F : Nat → Oper → Nat → Prop} : ∀ {l : List Oper} {ms : List Nat} {i : Nat}, Each F l ms i → ∀ (k : Nat) o m, l[k]? = some o → ms[k]? = some m → F (i + k) o m
  | [], _, _, _, k, o, m, h, _ => by simp at h
  | _ :: _, [], _, _, k, o, m, _, h => by simp at h
  | p :: l, q :: ms, i, hE, 0, o, m, h1, h2 => by
    simp at h1 h2
    subst h1 h2
    exact hE.1
  | p :: l, q :: ms, i, hE, k + 1, o, m, h1, h2 => by
    have := Each.get hE.2 k o m (by simpa using h1) (by simpa using h2)
    rwa [show i + 1 + k = i + (k + 1) from by omega] at this

theorem put_like {ds : List (Option Tmp)} {a0 a : Act} {o : Oper} {i : Nat} (hds : ops.toList.map (·.dst) = ds) (ho : ops[i]? = some o) (h : Like ds a0 a) (v : Value) : Like ds a0 (a.put o.dst v) := by
  refine ⟨?_, ?_, fun t ht => ?_⟩
  · rw [← h.size]; cases o.dst <;> simp [Act.put]
  · rw [← h.defers]; cases o.dst <;> rfl
  · rw [← h.keep t ht]
    cases hd : o.dst with
    | none => rfl
    | some d =>
      have hne : d ≠ t := fun e => ht (by
        rw [← hds, ← e, ← hd]
        exact List.mem_map.2 ⟨o, by have := Array.mem_of_getElem? ho; simpa using this, rfl⟩)
      simp [Act.put, Array.getD_eq_getD_getElem?, Array.getElem?_setIfInBounds_ne hne]
theorem ds_get {ds : List (Option Tmp)} (hds : ops.toList.map (·.dst) = ds) {i : Nat} {o : Oper} (ho : ops[i]? = some o) : ds[i]? = some o.dst := by
  rw [← hds, List.getElem?_map]
  have : ops.toList[i]? = some o := by simpa using ho
  rw [this]
  rfl

theorem any_each {ds : List (Option Tmp)} {R : Nat → Value → World → Prop} {a0 : Act} {w0 : World} (hok : drawOk ops = true) (hds : ops.toList.map (·.dst) = ds) (hsz : ∀ d, some d ∈ ds → d < a0.tmps.size)
    (hR : ∀ i v w w', Below w.heap.size w w' → R i v w → R i v w')
    (each : Each (fun i o m => OpGoal P ops Q ds R a0 w0 i o m) ops.toList (pres ops.toList []) 0)
    (fin : ∀ a w, Below w0.heap.size w0 w → Like ds a0 a → (∀ j, j < ops.size → Knows ds R a w j) → Q .normal a w) :
    ∀ (fuel : Nat) (listed : Array Bool) (a : Act) (w : World), listed.size = ops.size →
      (∀ (j : Nat) o, listed.getD j false = true → ops[j]? = some o → ∀ e ∈ o.after, Region.binds .any e = true → listed.getD e.on false = true) →
      unl listed ≤ fuel → Below w0.heap.size w0 w → Like ds a0 a → (∀ j, listed.getD j false = true → Knows ds R a w j) → wpAny P .any ops Q fuel listed a w := by
  have done : ∀ (listed : Array Bool) (a : Act) (w : World), (∀ j, j < ops.size → listed.getD j false = true) → Below w0.heap.size w0 w → Like ds a0 a → (∀ j, listed.getD j false = true → Knows ds R a w j) → Q .normal a w :=
    fun listed a w hall h1 h2 h3 => fin a w h1 h2 fun j hj => h3 j (hall j hj)
  intro fuel
  induction fuel with
  | zero =>
    intro listed a w hsz' hcl hu hb hl hk
    have hall : ∀ j, j < ops.size → listed.getD j false = true := fun j hj => unl_zero (by omega) (by omega)
    refine ⟨?_, done listed a w hall hb hl hk⟩
    cases hr : Region.ready .any ops listed with
    | nil => rfl
    | cons i l =>
      have hi : i ∈ Region.ready .any ops listed := by rw [hr]; exact List.mem_cons_self
      obtain ⟨h1, o, h2, _⟩ := mem_ready.1 hi
      have hlt : i < ops.size := (Array.getElem?_eq_some_iff.1 h2).1
      rw [getD_tf (by omega) true false, hall i hlt] at h1
      cases h1
  | succ fuel ih =>
    intro listed a w hsz' hcl hu hb hl hk
    refine ⟨fun hr => ?_, fun i hi => ?_⟩
    · have hall : ∀ j, j < ops.size → listed.getD j false = true := by
        intro j
        induction j using Nat.strongRecOn with
        | _ j ihj =>
          intro hj
          cases hx : listed.getD j false with
          | true => rfl
          | false =>
            exfalso
            have hm : j ∈ Region.ready .any ops listed := mem_ready.2 ⟨by rw [getD_tf (by omega) true false]; exact hx, ops[j], Array.getElem?_eq_getElem hj, fun e he hbd => by
              have hlt : e.on < j := by
                have := (allOk_spec hok j ops[j] (by simp)).1
                rw [Nat.zero_add] at this
                exact edgesOk_mem this e (by simpa using he) hbd
              exact ihj e.on hlt (by omega)⟩
            rw [hr] at hm
            cases hm
      exact done listed a w hall hb hl hk
    · obtain ⟨hun, o, ho, hedges⟩ := mem_ready.1 hi
      have hlt : i < ops.size := (Array.getElem?_eq_some_iff.1 ho).1
      obtain ⟨m, hm⟩ : ∃ m, (pres ops.toList [])[i]? = some m := ⟨_, pres_get ops ho⟩
      have hF := each.get i o m (by simpa using ho) hm
      rw [Nat.zero_add] at hF
      have hpre : ∀ j, m.testBit j = true → Knows ds R a w j := fun j hj =>
        hk j (pre_closed hok (S := fun j => listed.getD j false = true) hcl i o m ho hm hedges j hj).1
      have hset : ∀ j, (listed.setIfInBounds i true).getD j false = true ↔ listed.getD j false = true ∨ j = i := by
        intro j
        by_cases e : i = j
        · subst e
          simp [Array.getD_eq_getD_getElem?, show i < listed.size from by omega]
        · rw [show (listed.setIfInBounds i true).getD j false = listed.getD j false from by simp [Array.getD_eq_getD_getElem?, Array.getElem?_setIfInBounds_ne e]]
          exact ⟨.inl, fun h => h.resolve_right fun e' => e e'.symm⟩
      have next : ∀ v w', Below w.heap.size w w' → R i v w' → wpAny P .any ops Q fuel (listed.setIfInBounds i true) (a.put o.dst v) w' := by
        intro v w' hw' hv
        refine ih _ _ _ (by simpa using hsz') (fun j p hj hp e he hbd => ?_) ?_ (hb.trans (hw'.mono hb.size)) (put_like hds ho hl v) (fun j hj => ?_)
        · rcases (hset j).1 hj with hj | rfl
          · exact (hset _).2 (.inl (hcl j p hj hp e he hbd))
          · rw [ho] at hp
            obtain rfl := Option.some.inj hp
            exact (hset _).2 (.inl (hedges e he hbd))
        · have := unl_set hun
          omega
        · by_cases hji : j = i
          · subst hji
            refine ⟨v, fun d hd => ?_, hv⟩
            rw [ds_get hds ho] at hd
            obtain hd := Option.some.inj hd
            have hdlt : d < a.tmps.size := by
              rw [hl.size]
              exact hsz d (by
                rw [← hds, ← hd]
                exact List.mem_map.2 ⟨o, by have := Array.mem_of_getElem? ho; simpa using this, rfl⟩)
            rw [hd]
            simp [Act.put, Array.getD_eq_getD_getElem?, hdlt]
          · obtain ⟨u, hu1, hu2⟩ := hk j (((hset j).1 hj).resolve_right hji)
            refine ⟨u, fun d hd => ?_, hR _ _ _ _ hw' hu2⟩
            rw [← hu1 d hd]
            cases hod : o.dst with
            | none => rfl
            | some e =>
              have hne : e ≠ d := by
                rintro rfl
                have hjlt : j < ops.size := by
                  have := (List.getElem?_eq_some_iff.1 hd).1
                  rw [← hds] at this
                  simpa using this
                have hoj : ops[j]? = some ops[j] := Array.getElem?_eq_getElem hjlt
                have hdj := ds_get hds hoj
                rw [hd] at hdj
                have hdj := Option.some.inj hdj
                have hsp := (allOk_spec hok i o (by simpa using ho)).2.1
                exact (dstOk_spec hsp j ops[j] e (by simp) (by omega) hdj.symm).1 hod
              simp [Act.put, Array.getD_eq_getD_getElem?, Array.getElem?_setIfInBounds_ne hne]
      have hgo := hF a w hb hl hpre _ next
      unfold wpOp
      simp only [ho]
      split
      · rename_i hw
        rw [if_pos hw] at hgo
        exact .inl hgo
      · rename_i hw
        rw [if_neg hw] at hgo
        exact hgo

theorem region_each {ds : List (Option Tmp)} {MS : List Nat} {R : Nat → Value → World → Prop} {a : Act} {w : World} {id : Nat} (hm : P.follows .mixedOrders = true) (hok : drawOk ops = true) (hds : ops.toList.map (·.dst) = ds) (hMS : pres ops.toList [] = MS)
    (hsz : (ds.all fun | some d => Nat.blt d a.tmps.size | none => true) = true)
    (hR : ∀ i v w w', Below w.heap.size w w' → R i v w → R i v w') (G : Act → Prop) (hG : G a)
    (each : ops.toList.map (·.dst) = ds → ∀ (Q' : Exit → Act → World → Prop) (a0 : Act), G a0 → Each (fun i o m => OpGoal P ops Q' ds R a0 w i o m) ops.toList MS 0)
    (fin : ∀ a' w', Below w.heap.size w w' → Like ds a a' → (∀ j, j < ds.length → Knows ds R a' w' j) → Q .normal a' w') : (Code.region id ops true).wp P Q a w := by
  refine wp_region_any hm ?_
  refine any_each (w0 := w) hok hds (fun d hd => ?_) hR (by rw [hMS]; exact each hds Q a hG) (fun a' w' h1 h2 h3 => fin a' w' h1 h2 fun j hj => h3 j (by rw [← hds] at hj; simpa using hj)) ops.size _ a w.drew (by simp) (fun j o hj => ?_) ?_ (Below.refl _ _).drew ⟨rfl, rfl, fun _ _ => rfl⟩ (fun j hj => ?_)
  · have := List.all_eq_true.1 hsz _ hd
    simpa [Nat.blt_eq] using this
  · rw [Array.getD_eq_getD_getElem?, Array.getElem?_replicate] at hj
    split at hj <;> simp at hj
  · unfold unl
    exact Nat.le_trans (List.length_filter_le _ _) (by simp)
  · rw [Array.getD_eq_getD_getElem?, Array.getElem?_replicate] at hj
    split at hj <;> simp at hj
/-- an operation without a guard -/
theorem OpGoal.free {ds : List (Option Tmp)} {R : Nat → Value → World → Prop} {a0 : Act} {w0 : World} {i m : Nat} {o : Oper} (hg : o.guard = none)
    (h : ∀ (a : Act) (w : World), Below w0.heap.size w0 w → Like ds a0 a → (∀ j, m.testBit j = true → Knows ds R a w j) →
      ∀ K : Act → World → Prop, (∀ v w', Below w.heap.size w w' → R i v w' → K (a.put o.dst v) w') → o.wp P a w K Q) : OpGoal P ops Q ds R a0 w0 i o m :=
  .wanted (fun _ _ _ _ => wanted_none hg) h
/-- an operation whose guard says yes -/
theorem OpGoal.guarded {ds : List (Option Tmp)} {R : Nat → Value → World → Prop} {a0 : Act} {w0 : World} {i m j d : Nat} {o : Oper} (hds : ops.toList.map (·.dst) = ds) (hg : o.guard = some (j, true)) (hd : ds[j]? = some (some d)) (hb : m.testBit j = true)
    (hR : ∀ v w, R j v w → v = .bool true)
    (h : ∀ (a : Act) (w : World), Below w0.heap.size w0 w → Like ds a0 a → (∀ j, m.testBit j = true → Knows ds R a w j) →
      ∀ K : Act → World → Prop, (∀ v w', Below w.heap.size w w' → R i v w' → K (a.put o.dst v) w') → o.wp P a w K Q) : OpGoal P ops Q ds R a0 w0 i o m :=
  .wanted (fun a w _ hk => wanted_of hg (by
    rw [← hds, List.getElem?_map] at hd
    cases ho : ops.toList[j]? with
    | none => rw [ho] at hd; simp at hd
    | some p =>
      rw [ho] at hd
      have : ops[j]? = some p := by simpa using ho
      rw [this]
      simpa using hd) ((hk j hb).is hd fun v => hR v _)) h
end
end EachKit
end Go.Proofs.YtabhkfpglhfiiaaDoor
