/-
  A call that was run by itself: what it asks of the memory, what it gives; its new blocks beside the caller's. No program in sight.
-/
import Derived.Test.YtloolljoelngcaaGreatCq
set_option linter.unusedVariables false
namespace Go.Proofs.YtloolljoelngcaaGreat
open Go.RowKit
noncomputable section
variable {ro : Nat} {M0 : Map}

/-- a call: its function, arguments, the blocks and maps that it reads; what it gives, and the new blocks that this leads to -/
structure Ent where
  f : FuncId
  q : Nat
  args : List Value
  blocks : List (Nat × EvBlk)
  next : Nat
  os : Objs
  v : Value
  news : List (Nat × EvBlk)
  next' : Nat
/-- the blocks lie there (whosever they are); the call may only read them -/
def blocksRo (h : Tr EvBlk) : List (Nat × EvBlk) → Bool
  | [] => true
  | (b, x) :: l => match h.get b with
    | some y => match Nat.beq y.es x.es && (!x.own && eqL 12 y.cells x.cells) with
      | true => blocksRo h l
      | false => false
    | none => false
theorem blocksRo_get {h : Tr EvBlk} : ∀ {l : List (Nat × EvBlk)}, blocksRo h l = true → ∀ b x, (b, x) ∈ l → x.own = false ∧ ∃ y, h.get b = some y ∧ y.es = x.es ∧ y.cells = x.cells
  | [], _, b, x, hm => by cases hm
  | (b0, x0) :: l, hh, b, x, hm => by
    rw [blocksRo] at hh
    split at hh
    rotate_left
    · cases hh
    rename_i y hy
    split at hh
    rotate_left
    · cases hh
    rename_i hc
    simp only [Bool.and_eq_true, Bool.not_eq_true', Nat.beq_eq] at hc
    rcases List.mem_cons.1 hm with h1 | h1
    · cases h1
      exact ⟨hc.2.1, y, hy, hc.1, eqL_eq _ _ _ hc.2.2⟩
    · exact blocksRo_get hh b x h1
def newOnly (n : Nat) : List (Nat × EvBlk) → Bool
  | [] => true
  | (b, x) :: l => Nat.ble n b && (x.own && newOnly n l)
theorem newOnly_ok {n : Nat} : ∀ {l : List (Nat × EvBlk)}, newOnly n l = true → ∀ b x, (b, x) ∈ l → n ≤ b ∧ x.own = true
  | [], _, _, _, hm => by cases hm
  | (b0, x0) :: l, h, b, x, hm => by
    rw [newOnly, Bool.and_eq_true, Bool.and_eq_true, Nat.ble_eq] at h
    rcases List.mem_cons.1 hm with h1 | h1
    · cases h1; exact ⟨h.1, h.2.1⟩
    · exact newOnly_ok h.2.2 b x h1
/-- what the new blocks are in the world -/
structure NewAt (μ : Map) (e : Ent) (w w' : World) : Prop where
  lt : ∀ b x, (b, x) ∈ e.news → b < e.next'
  cells : ∀ b x, (b, x) ∈ e.news → ∀ (i : Nat) v, x.cells[i]? = some v → ∃ v', w'.cell? ⟨(μ b).blk, (μ b).base + i, none⟩ = some v' ∧ VR μ e.next' v v'
  fits : ∀ b x, (b, x) ∈ e.news → x.cells.length ≤ (μ b).room
  inb : ∀ b x, (b, x) ∈ e.news → (μ b).blk < w'.heap.size
  es : ∀ b x, (b, x) ∈ e.news → (μ b).es = x.es
  there : ∀ b x, (b, x) ∈ e.news → FreeRow w' (μ b).blk ((μ b).base + (μ b).room)
  apart : ∀ b x b' x', (b, x) ∈ e.news → (b', x') ∈ e.news → b ≠ b' → (μ b).blk ≠ (μ b').blk
  high : ∀ b x, (b, x) ∈ e.news → w.heap.size ≤ (μ b).blk
def CallRes (P : Program) (e : Ent) : Prop := ∀ (W : World) (μ : Map) (m : Mem) (w : World), Top W μ m w → (∀ i o, (i, o) ∈ e.os → i < m.next ∧ ObjR μ m.next w i o) → (∀ i o j p, (i, o) ∈ e.os → (j, p) ∈ e.os → i ≠ j → (μ i).blk ≠ (μ j).blk) →
  blocksRo m.heap e.blocks = true → m.next ≤ e.next → (∀ g, g < 1048576 → (μ g).blk = g ∧ (μ g).base = 0) → 1048576 ≤ m.next → ∀ args', VRs μ m.next e.args args' →
  Calls P e.f ⟨args'⟩ w fun x w' => ∃ v' μ', x = .returned v' ∧ (∀ b, b < m.next → μ' b = μ b) ∧ VR μ' e.next' e.v v' ∧ Below w.heap.size w w' ∧ NewAt μ' e w w'
/-- the call's blocks beside the caller's -/
theorem merge_ok {W : World} {μ μ' : Map} {hp h2 : Tr EvBlk} {nx low : Nat} {w w' : World} {os : Objs} {e : Ent} (hT : Top W μ ⟨hp, nx, low⟩ w) (hi : ObjsR ro M0 os W μ ⟨hp, nx, low⟩ w) (hmu : ∀ b, b < nx → μ' b = μ b) (hB : Below w.heap.size w w') (hN : NewAt μ' e w w')
    (hnx : nx ≤ e.next) (hne : e.next ≤ e.next') (hget : ∀ b x, h2.get b = some x → hp.get b = some x ∨ (b, x) ∈ e.news) :
    OGo ro M0 W μ ⟨hp, nx, low⟩ w os μ' ⟨h2, e.next', low⟩ w' os := by
  have hst : Wst w w' := ⟨hB.os, hB.tape, hB.output, hB.size, fun k c t f hk => by rw [hB.block k (Array.getElem?_eq_some_iff.1 hk).1]; exact hk⟩
  have hn : nx ≤ e.next' := Nat.le_trans hnx hne
  have hR : Rep μ' ⟨hp, e.next', low⟩ w' := hT.rep.wst hst rfl hn hmu
  have hcase : ∀ b x, h2.get b = some x → (hp.get b = some x ∧ b < nx) ∨ (b, x) ∈ e.news := fun b x hx => by
    rcases hget b x hx with h | h
    · exact .inl ⟨h, hT.rep.lt b x h⟩
    · exact .inr h
  have hold : ∀ b x, hp.get b = some x → (μ' b).blk < w.heap.size := fun b x hx => by rw [hmu b (hT.rep.lt b x hx)]; exact hT.rep.inb b x hx
  have hR3 : Rep μ' ⟨h2, e.next', low⟩ w' := by
    refine ⟨fun b x hx => ?_, fun b x hx => ?_, fun b x hx ho => ?_, fun b x hx => ?_, fun b x hx => ?_, fun b x hx ho => ?_, fun b x b' x' hx hx' ho hne => ?_⟩ <;> rcases hcase b x hx with ⟨h1, _⟩ | h1
    · exact hR.lt b x h1
    · exact hN.lt b x h1
    · exact hR.cells b x h1
    · exact hN.cells b x h1
    · exact hR.fits b x h1 ho
    · exact hN.fits b x h1
    · exact hR.inb b x h1
    · exact hN.inb b x h1
    · exact hR.es b x h1
    · exact hN.es b x h1
    · exact hR.there b x h1 ho
    · exact hN.there b x h1
    · rcases hcase b' x' hx' with ⟨h2', _⟩ | h2'
      · exact hR.apart b x b' x' h1 h2' ho hne
      · have := hold b x h1
        have := hN.high b' x' h2'
        omega
    · rcases hcase b' x' hx' with ⟨h2', _⟩ | h2'
      · have := hold b' x' h2'
        have := hN.high b x h1
        omega
      · exact hN.apart b x b' x' h1 h2' hne
  refine ⟨⟨hR3, hT.below.trans ⟨hB.os, hB.tape, hB.output, hB.size, fun j hj => hB.block j (Nat.lt_of_lt_of_le hj hT.below.size)⟩, fun b x hx ho => ?_⟩, ⟨fun i o h => Nat.lt_of_lt_of_le (hi.lt i o h) hn, fun i o h => (hi.rel i o h).mono hn hmu (hi.lt i o h) (hB.block _ (hi.rel i o h).inb), fun i o h hr => by rw [hmu i (hi.lt i o h)]; exact hi.new i o h hr, fun i o j p h h' hne => by rw [hmu i (hi.lt i o h), hmu j (hi.lt j p h')]; exact hi.two i o j p h h' hne, hi.farS hn hmu⟩, hn, hmu⟩
  rcases hcase b x hx with ⟨h1, hlt⟩ | h1
  · rw [hmu b hlt]; exact hT.own b x h1 ho
  · have := hN.high b x h1
    have := hT.below.size
    omega

/-! ### what is written down of maps -/
def entsEq : List EntE → List EntE → Bool
  | [], [] => true
  | a :: l, b :: r => match strEq a.key b.key && (eqV 12 a.val b.val && Nat.beq a.born b.born) with
    | true => entsEq l r
    | false => false
  | _, _ => false
def natsEq : List Nat → List Nat → Bool
  | [], [] => true
  | a :: l, b :: r => match Nat.beq a b with
    | true => natsEq l r
    | false => false
  | _, _ => false
def objEq : ObjE → ObjE → Bool
  | .map es c, .map fs d => entsEq es fs && Nat.beq c d
  | .iter m a b c, .iter n d e f => Nat.beq m n && (Nat.beq a d && (natsEq b e && Nat.beq c f))
  | _, _ => false
/-- those that are written down are there (others are forgotten) -/
def objsIn (os : Objs) : Objs → Bool
  | [] => true
  | (i, o) :: l => match getO i os with
    | some p => match objEq p o with
      | true => objsIn os l
      | false => false
    | none => false
theorem entsEq_eq : ∀ {l r : List EntE}, entsEq l r = true → l = r
  | [], [], _ => rfl
  | ⟨k, v, n⟩ :: l, ⟨k', v', n'⟩ :: r, h => by
    rw [entsEq] at h
    split at h
    rotate_left
    · cases h
    rename_i hc
    simp only [Bool.and_eq_true, Nat.beq_eq, strEq_eq, beq_iff_eq] at hc
    obtain ⟨rfl, h2, rfl⟩ := hc
    rw [eqV_eq _ _ _ h2, entsEq_eq h]
  | [], _ :: _, h => by simp [entsEq] at h
  | _ :: _, [], h => by simp [entsEq] at h
theorem natsEq_eq : ∀ {l r : List Nat}, natsEq l r = true → l = r
  | [], [], _ => rfl
  | a :: l, b :: r, h => by
    rw [natsEq] at h
    split at h
    rotate_left
    · cases h
    rename_i hc
    rw [Nat.eq_of_beq_eq_true hc, natsEq_eq h]
  | [], _ :: _, h => by simp [natsEq] at h
  | _ :: _, [], h => by simp [natsEq] at h
theorem objEq_eq {a b : ObjE} (h : objEq a b = true) : a = b := by
  unfold objEq at h
  split at h
  · rw [Bool.and_eq_true, Nat.beq_eq] at h
    rw [entsEq_eq h.1, h.2]
  · simp only [Bool.and_eq_true, Nat.beq_eq] at h
    obtain ⟨rfl, rfl, h3, rfl⟩ := h
    rw [natsEq_eq h3]
  · cases h
theorem objsIn_mem {os : Objs} : ∀ {l : Objs}, objsIn os l = true → ∀ i o, (i, o) ∈ l → (i, o) ∈ os
  | [], _, _, _, h => by cases h
  | (j, p) :: l, h, i, o, hm => by
    rw [objsIn] at h
    split at h
    rotate_left
    · cases h
    rename_i q hg
    split at h
    rotate_left
    · cases h
    rename_i he
    rcases List.mem_cons.1 hm with hm | hm
    · cases hm
      rw [← objEq_eq he]
      exact getO_mem hg
    · exact objsIn_mem h i o hm

/-! ### what a run is told: a call that gives true, and calls that were run by themselves -/
structure Env where
  known : Option FuncId
  tab : List Ent
def findEnt (h : Tr EvBlk) (nx : Nat) (os : Objs) (f : FuncId) (args : List Value) : List Ent → Option Ent
  | [] => none
  | e :: l => match Nat.beq e.f f && (eqL 12 args e.args && (Nat.ble nx e.next && (blocksRo h e.blocks && objsIn os e.os))) with
    | true => some e
    | false => findEnt h nx os f args l
theorem findEnt_ok {h : Tr EvBlk} {nx : Nat} {os : Objs} {f : FuncId} {args : List Value} {e : Ent} : ∀ {l : List Ent}, findEnt h nx os f args l = some e → e ∈ l ∧ e.f = f ∧ args = e.args ∧ nx ≤ e.next ∧ blocksRo h e.blocks = true ∧ ∀ i o, (i, o) ∈ e.os → (i, o) ∈ os
  | [], hf => by cases hf
  | x :: l, hf => by
    rw [findEnt] at hf
    split at hf
    · rename_i hc
      obtain rfl := Option.some.inj hf
      simp only [Bool.and_eq_true, Nat.beq_eq, Nat.ble_eq] at hc
      exact ⟨List.mem_cons_self, hc.1, eqL_eq _ _ _ hc.2.1, hc.2.2.1, hc.2.2.2.1, objsIn_mem hc.2.2.2.2⟩
    · obtain ⟨h1, h2⟩ := findEnt_ok hf
      exact ⟨List.mem_cons_of_mem _ h1, h2⟩
/-- a call without arguments that gives true and turns nothing -/
def KnownIs (P : Program) (K : Option FuncId) : Prop := ∀ g, K = some g → ∀ W, Calls P g #[] W fun e w' => e = .returned (.bool true) ∧ Below W.heap.size W w'
structure EnvOk (P : Program) (E : Env) : Prop where
  known : KnownIs P E.known
  tab : ∀ e, e ∈ E.tab → CallRes P e
end
end Go.Proofs.YtloolljoelngcaaGreat
