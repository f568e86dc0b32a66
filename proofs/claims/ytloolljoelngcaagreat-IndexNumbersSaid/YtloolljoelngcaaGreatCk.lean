/-
  A closed call in pieces: the evaluator runs a stretch of the code from a state that is written down to another one that is written down; between them memory that nobody needs is given up. No program in sight.
-/
import Derived.Test.YtloolljoelngcaaGreatEvP
set_option linter.unusedVariables false
namespace Go.Proofs.YtloolljoelngcaaGreat
open Go.RowKit
noncomputable section

/-! ### states that are written down -/
structure Snap where
  slots : List (Nat × Value)
  size : Nat
  blocks : List (Nat × EvBlk)
  next : Nat
def loadF {β : Type} : List (Nat × Value) → Tr Value → (Tr Value → Option β) → Option β
  | [], t, k => k t
  | (n, v) :: l, t, k => t.upd deep n (some v) fun t => loadF l t k
def loadS {β : Type} (n : Snap) (k : Stt → Option β) : Option β :=
  match n with
  | ⟨slots, size, blocks, next⟩ => loadF slots .leaf fun fr => addDelta .leaf blocks fun h => k ⟨fr, size, ⟨h, next, big⟩⟩

def slotsEq (fr : Tr Value) : List (Nat × Value) → Bool
  | [] => true
  | (i, v) :: l => match fr.get i with
    | some u => match eqV 12 u v with
      | true => slotsEq fr l
      | false => false
    | none => false
def blocksIn (h : Tr EvBlk) : List (Nat × EvBlk) → Bool
  | [] => true
  | (b, x) :: l => match h.get b with
    | some y => match Nat.beq y.es x.es && (match x.own, y.own with
        | true, true => true
        | false, false => true
        | _, _ => false) && eqL 12 y.cells x.cells with
      | true => blocksIn h l
      | false => false
    | none => false
def covers (s : Stt) (n : Snap) : Bool :=
  match s, n with
  | ⟨fr, size, heap, next, _⟩, ⟨slots, size', blocks, next'⟩ => Nat.beq size size' && slotsEq fr slots && blocksIn heap blocks && Nat.ble next next'

theorem slotsEq_get {fr : Tr Value} : ∀ {l : List (Nat × Value)}, slotsEq fr l = true → ∀ t v, (t, v) ∈ l → fr.get t = some v
  | [], _, t, v, e => by simp at e
  | (i, u) :: l, h, t, v, e => by
    rw [slotsEq] at h
    split at h
    · rename_i x hg
      split at h
      · rename_i hx
        rcases List.mem_cons.1 e with e | e
        · obtain ⟨rfl, rfl⟩ := Prod.mk.inj e
          rw [hg, eqV_eq _ _ _ hx]
        · exact slotsEq_get h t v e
      · simp at h
    · simp at h
theorem blocksIn_get {h : Tr EvBlk} : ∀ {l : List (Nat × EvBlk)}, blocksIn h l = true → ∀ b x, (b, x) ∈ l → h.get b = some x
  | [], _, b, x, e => by simp at e
  | (b', x') :: l, hh, b, x, e => by
    rw [blocksIn] at hh
    cases hg : h.get b' with
    | none => rw [hg] at hh; simp at hh
    | some y =>
      rw [hg] at hh
      simp only at hh
      split at hh
      · rename_i hc
        simp only [Bool.and_eq_true, Nat.beq_eq] at hc
        obtain ⟨⟨c1, c2⟩, c3⟩ := hc
        rcases List.mem_cons.1 e with e | e
        · obtain ⟨rfl, rfl⟩ := Prod.mk.inj e
          rw [hg]
          obtain ⟨es, own, cells⟩ := x
          obtain ⟨es', own', cells'⟩ := y
          simp only at c1 c2 c3
          rw [c1, eqL_eq _ _ _ c3]
          cases own <;> cases own' <;> simp_all
        · exact blocksIn_get hh b x e
      · simp at hh

/-! ### where the code stands -/
inductive Dir where
  | opens
  | tt
  | ff
  | run
  | runE (id : Nat)
def nav1 (d : Dir) (k : List Item) : Option (List Item) :=
  match k with
  | [] => none
  | i :: k => match d with
    | .opens => match i with
      | .code c => match c with
        | .seq x y => some (.code x :: .code y :: k)
        | .block id c => some (.code c :: .inBlock id :: k)
        | .loop c => some (.code c :: .inLoop c :: k)
        | _ => none
      | .inLoop c => some (.code c :: .inLoop c :: k)
      | .inBlock _ => some k
      | _ => none
    | .tt => match i with
      | .code (.cond _ x _) => some (.code x :: k)
      | _ => none
    | .ff => match i with
      | .code (.cond _ _ y) => some (.code y :: k)
      | _ => none
    | .run => match i with
      | .code _ => some k
      | _ => none
    | .runE id => match i with
      | .code _ => exitTo id k
      | _ => none
def navs : List Dir → List Item → Option (List Item)
  | [], k => some k
  | d :: l, k => match nav1 d k with
    | some k => navs l k
    | none => none
def step1 (P : Program) (fuel : Nat) (d : Dir) (k : List Item) (s : Stt) : Option Stt :=
  match d with
  | .opens => some s
  | .tt => match k with
    | .code (.cond c _ _) :: _ => match opd s.fr c with
      | some (.bool true) => some s
      | _ => none
    | _ => none
  | .ff => match k with
    | .code (.cond c _ _) :: _ => match opd s.fr c with
      | some (.bool false) => some s
      | _ => none
    | _ => none
  | .run => match k with
    | .code c :: _ => match ev P fuel (.code c) s with
      | some (.norm, s) => some s
      | _ => none
    | _ => none
  | .runE id => match k with
    | .code c :: _ => match ev P fuel (.code c) s with
      | some (.exit i, s) => match Nat.beq i id with
        | true => some s
        | false => none
      | _ => none
    | _ => none
def steps (P : Program) (fuel : Nat) : List Dir → List Item → Stt → Option Stt
  | [], _, s => some s
  | d :: l, k, s => match step1 P fuel d k s with
    | some s => match nav1 d k with
      | some k => steps P fuel l k s
      | none => none
    | none => none

/-! ### what is reached -/
structure Top (W : World) (μ : Map) (m : Mem) (w : World) : Prop where
  rep : Rep μ m w
  below : Below W.heap.size W w
  own : ∀ b x, m.heap.get b = some x → x.own = true → W.heap.size ≤ (μ b).blk
theorem Top.step {W : World} {μ μ' : Map} {m m' : Mem} {w w' : World} (h : Top W μ m w) (k : Ok μ m w μ' m' w') : Top W μ' m' w' where
  rep := k.rep
  below := h.below.trans ⟨k.os, k.tape, k.output, k.size, fun j hj => k.frame j (Nat.lt_of_lt_of_le hj h.below.size) fun b x hx ho _ e => by
    have := h.own b x hx ho
    omega⟩
  own b x hx ho := by
    rcases Nat.lt_or_ge b m.next with hb | hb
    · obtain ⟨y, hy, e⟩ := k.old b x hx hb
      rw [k.mu b hb]
      exact h.own b y hy (e.trans ho)
    · rcases (k.new b x hx hb).2 with h1 | ⟨b0, x0, g1, g2, _, g4⟩
      · exact Nat.le_trans h.below.size h1
      · rw [g4]
        exact h.own b0 x0 g1 g2
def Holds (W : World) (s : Stt) (μ : Map) (w : World) (a : Act) : Prop := Top W μ s.mem w ∧ FrR μ s.mem.next s.fr s.size a
def Gl (P : Program) (Q : Exit → Act → World → Prop) (b : Frame) (k : List Item) (cs : List Frame) (m : Machine) : Prop := ∃ e a' w', Q e a' w' ∧ Arrives P m b k cs e a' w'
theorem Gl.of_steps {P : Program} [ExtOk P] {Q : Exit → Act → World → Prop} {b : Frame} {k : List Item} {cs : List Frame} {m m' : Machine} (h : Steps P m m') (g : Gl P Q b k cs m') : Gl P Q b k cs m := by
  obtain ⟨e, a, w, hq, har⟩ := g
  exact ⟨e, a, w, hq, .of_steps h har⟩
def SafeS (P : Program) (W : World) (Q : Exit → Act → World → Prop) (todo : List Item) (s : Stt) : Prop :=
  ∀ (b : Frame) (k : List Item) (cs : List Frame) (μ : Map) (w : World) (a : Act), Holds W s μ w a → Gl P Q b k cs (lone (b.at a (todo ++ k)) cs w)

theorem exitTo_append {id : Nat} {k' : List Item} (k2 : List Item) : ∀ {k : List Item}, exitTo id k = some k' → exitTo id (k ++ k2) = some (k' ++ k2)
  | [], h => by simp [exitTo] at h
  | i :: k, h => by
    cases i with
    | inBlock j =>
      by_cases hj : (j == id) = true
      · simp [exitTo, hj] at h ⊢; rw [h]
      · simp [exitTo, hj] at h ⊢; exact exitTo_append k2 h
    | _ => simp [exitTo] at h ⊢; exact exitTo_append k2 h

theorem step1_ok {P : Program} [ExtOk P] (hm : P.follows .mixedOrders = true) {fuel : Nat} {d : Dir} {todo todo' : List Item} {s s' : Stt} {W : World} {Q : Exit → Act → World → Prop} (h : step1 P fuel d todo s = some s') (hn : nav1 d todo = some todo') (g : SafeS P W Q todo' s') : SafeS P W Q todo s := by
  intro b k cs μ w a hH
  unfold nav1 at hn
  split at hn
  · simp at hn
  rename_i i k0
  split at hn
  · simp only [step1, Option.some.injEq] at h
    subst h
    split at hn
    · split at hn
      · simp only [Option.some.injEq] at hn; subst hn; exact (g b k cs μ w a hH).of_steps (.one step_seq)
      · simp only [Option.some.injEq] at hn; subst hn; exact (g b k cs μ w a hH).of_steps (.one step_block)
      · simp only [Option.some.injEq] at hn; subst hn; exact (g b k cs μ w a hH).of_steps (.one step_loop)
      · simp at hn
    · simp only [Option.some.injEq] at hn; subst hn; exact (g b k cs μ w a hH).of_steps (.one step_inLoop)
    · simp only [Option.some.injEq] at hn; subst hn; exact (g b k cs μ w a hH).of_steps (.one step_inBlock)
    · simp at hn
  · split at hn
    · rename_i c x y
      simp only [Option.some.injEq] at hn
      subst hn
      simp only [step1] at h
      split at h
      · rename_i hc
        simp only [Option.some.injEq] at h
        subst h
        exact (g b k cs μ w a hH).of_steps (.one (step_cond (t := true) (opd_ok hH.2 hc).bool_inv))
      · simp at h
    · simp at hn
  · split at hn
    · rename_i c x y
      simp only [Option.some.injEq] at hn
      subst hn
      simp only [step1] at h
      split at h
      · rename_i hc
        simp only [Option.some.injEq] at h
        subst h
        exact (g b k cs μ w a hH).of_steps (.one (step_cond (t := false) (opd_ok hH.2 hc).bool_inv))
      · simp at h
    · simp at hn
  · split at hn
    · rename_i c
      simp only [Option.some.injEq] at hn
      subst hn
      simp only [step1] at h
      split at h
      · rename_i s1 hev
        simp only [Option.some.injEq] at h
        subst h
        obtain ⟨e, a1, w1, ⟨he, μ1, hok, hF⟩, harr⟩ := ev_ok hm fuel _ _ _ _ hev μ s.mem w μ w a (.refl hH.1.rep) hH.2 b (k0 ++ k) cs
        obtain rfl : e = .normal := he
        exact (g b k cs μ1 w1 a1 ⟨hH.1.step hok, hF⟩).of_steps harr
      · simp at h
    · simp at hn
  · rename_i id
    split at hn
    · rename_i c
      simp only [step1] at h
      split at h
      · rename_i j s1 hev
        cases hb : Nat.beq j id with
        | false => rw [hb] at h; simp at h
        | true =>
          rw [hb] at h
          obtain rfl : j = id := Nat.eq_of_beq_eq_true hb
          simp only [Option.some.injEq] at h
          subst h
          obtain ⟨e, a1, w1, ⟨he, μ1, hok, hF⟩, harr⟩ := ev_ok hm fuel _ _ _ _ hev μ s.mem w μ w a (.refl hH.1.rep) hH.2 b (k0 ++ k) cs
          obtain rfl : e = .exit j := he
          exact (g b k cs μ1 w1 a1 ⟨hH.1.step hok, hF⟩).of_steps (harr _ (exitTo_append k hn))
      · simp at h
    · simp at hn

theorem steps_ok {P : Program} [ExtOk P] (hm : P.follows .mixedOrders = true) {fuel : Nat} {W : World} {Q : Exit → Act → World → Prop} : ∀ {ds : List Dir} {todo todo' : List Item} {s s' : Stt}, steps P fuel ds todo s = some s' → navs ds todo = some todo' → SafeS P W Q todo' s' → SafeS P W Q todo s
  | [], todo, todo', s, s', h, hn, g => by
    simp only [steps, Option.some.injEq] at h
    simp only [navs, Option.some.injEq] at hn
    subst h hn
    exact g
  | d :: ds, todo, todo', s, s', h, hn, g => by
    rw [steps] at h
    rw [navs] at hn
    cases h1 : step1 P fuel d todo s with
    | none => rw [h1] at h; simp at h
    | some s1 =>
      cases h2 : nav1 d todo with
      | none => rw [h2] at hn; simp at hn
      | some k1 =>
        rw [h1, h2] at h
        rw [h2] at hn
        exact step1_ok hm h1 h2 (steps_ok hm h hn g)

/-! ### from state to state -/
def Loads (n : Snap) (s : Stt) : Prop := (∀ t v, s.fr.get t = some v → (t, v) ∈ n.slots) ∧ s.size = n.size ∧ (∀ b x, s.mem.heap.get b = some x → (b, x) ∈ n.blocks) ∧ s.mem.next = n.next
theorem addDelta_some {β : Type} : ∀ (l : Delta) (h : Tr EvBlk) (k : Tr EvBlk → Option β) (r : β), addDelta h l k = some r →
    ∃ h', k h' = some r ∧ ∀ b x, h'.get b = some x → h.get b = some x ∨ (b, x) ∈ l
  | [], h, k, r, e => ⟨h, e, fun _ _ hx => .inl hx⟩
  | (g, y) :: l, h, k, r, e => by
    rw [addDelta] at e
    obtain ⟨h1, e1, g1⟩ := Tr.upd_spec _ _ _ _ _ _ e
    obtain ⟨h2, e2, g2⟩ := addDelta_some l h1 k r e1
    refine ⟨h2, e2, fun b x hx => ?_⟩
    rcases g2 b x hx with hx | hx
    · rw [g1] at hx
      split at hx
      · rename_i hb
        subst hb
        obtain rfl := Option.some.inj hx
        exact .inr List.mem_cons_self
      · exact .inl hx
    · exact .inr (List.mem_cons_of_mem _ hx)
theorem loadF_some {β : Type} : ∀ (l : List (Nat × Value)) (h : Tr Value) (k : Tr Value → Option β) (r : β), loadF l h k = some r →
    ∃ h', k h' = some r ∧ ∀ b x, h'.get b = some x → h.get b = some x ∨ (b, x) ∈ l
  | [], h, k, r, e => ⟨h, e, fun _ _ hx => .inl hx⟩
  | (g, y) :: l, h, k, r, e => by
    rw [loadF] at e
    obtain ⟨h1, e1, g1⟩ := Tr.upd_spec _ _ _ _ _ _ e
    obtain ⟨h2, e2, g2⟩ := loadF_some l h1 k r e1
    refine ⟨h2, e2, fun b x hx => ?_⟩
    rcases g2 b x hx with hx | hx
    · rw [g1] at hx
      split at hx
      · rename_i hb
        subst hb
        obtain rfl := Option.some.inj hx
        exact .inr List.mem_cons_self
      · exact .inl hx
    · exact .inr (List.mem_cons_of_mem _ hx)
theorem loadS_spec {β : Type} {n : Snap} {k : Stt → Option β} {r : β} (h : loadS n k = some r) : ∃ s, k s = some r ∧ Loads n s := by
  obtain ⟨slots, size, blocks, next⟩ := n
  unfold loadS at h
  simp only at h
  obtain ⟨fr, h1, g1⟩ := loadF_some _ _ _ _ h
  obtain ⟨hp, h2, g2⟩ := addDelta_some _ _ _ _ h1
  refine ⟨_, h2, fun t v hv => ?_, rfl, fun b x hx => ?_, rfl⟩
  · rcases g1 t v hv with h | h
    · rw [Tr.get_leaf] at h; cases h
    · exact h
  · rcases g2 b x hx with h | h
    · rw [Tr.get_leaf] at h; cases h
    · exact h
theorem holds_covers {W : World} {s s' : Stt} {n : Snap} {μ : Map} {w : World} {a : Act} (h : Holds W s μ w a) (hc : covers s n = true) (hl : Loads n s') : Holds W s' μ w a := by
  obtain ⟨fr, size, heap, next, low⟩ := s
  obtain ⟨slots, size', blocks, next'⟩ := n
  simp only [covers, Bool.and_eq_true, Nat.beq_eq, Nat.ble_eq] at hc
  obtain ⟨⟨⟨c1, c2⟩, c3⟩, c4⟩ := hc
  obtain ⟨l1, l2, l3, l4⟩ := hl
  obtain ⟨⟨hR, hB, hO⟩, hF⟩ := h
  simp only at l1 l2 l3 l4 hR hO hF
  have hb : ∀ b x, s'.mem.heap.get b = some x → heap.get b = some x := fun b x hx => blocksIn_get c3 b x (l3 b x hx)
  have hnx : next ≤ s'.mem.next := by omega
  refine ⟨⟨⟨fun b x hx => Nat.lt_of_lt_of_le (hR.lt b x (hb b x hx)) hnx, fun b x hx i v hv => ?_, fun b x hx => hR.fits b x (hb b x hx), fun b x hx => hR.inb b x (hb b x hx), fun b x hx => hR.es b x (hb b x hx), fun b x hx => hR.there b x (hb b x hx), fun b x b' x' hx hx' => hR.apart b x b' x' (hb b x hx) (hb b' x' hx')⟩, hB, fun b x hx => hO b x (hb b x hx)⟩, ⟨hF.defers, hF.size.trans (c1.trans l2.symm), fun t => ?_, hF.glob, Nat.le_trans hF.big hnx⟩⟩
  · obtain ⟨v', e, hv'⟩ := hR.cells b x (hb b x hx) i v hv
    exact ⟨v', e, hv'.mono hnx fun _ _ => rfl⟩
  · intro v hv
    exact (hF.get t v (slotsEq_get c2 t v (l1 t v hv))).mono hnx fun _ _ => rfl

def chunk (P : Program) (fuel : Nat) (ds : List Dir) (todo : Option (List Item)) (n n' : Snap) : Bool :=
  match todo with
  | none => false
  | some k => match loadS n fun s => match steps P fuel ds k s with
      | some s' => match covers s' n' with
        | true => some ()
        | false => none
      | none => none with
    | some _ => true
    | none => false
def thenNavs (ds : List Dir) (todo : Option (List Item)) : Option (List Item) := match todo with
  | none => none
  | some k => navs ds k

/-- the states as sets of facts: what holds of all that a state says -/
def HoldsN (W : World) (n : Snap) (μ : Map) (w : World) (a : Act) : Prop := ∀ s, Loads n s → Holds W s μ w a
def SafeW (P : Program) (W : World) (Q : Exit → Act → World → Prop) (todo : Option (List Item)) (n : Snap) : Prop :=
  ∀ todo', todo = some todo' → ∀ (b : Frame) (k : List Item) (cs : List Frame) (μ : Map) (w : World) (a : Act), HoldsN W n μ w a → Gl P Q b k cs (lone (b.at a (todo' ++ k)) cs w)

theorem chunk_ok {P : Program} [ExtOk P] (hm : P.follows .mixedOrders = true) {fuel : Nat} {W : World} {Q : Exit → Act → World → Prop} {ds : List Dir} {todo : Option (List Item)} {n n' : Snap} (h : chunk P fuel ds todo n n' = true)
    (g : SafeW P W Q (thenNavs ds todo) n') : SafeW P W Q todo n := by
  intro k hk b kk cs μ w a hH
  subst hk
  unfold chunk at h
  simp only at h
  split at h
  rotate_left
  · simp at h
  rename_i u hu
  obtain ⟨s, h1, hl⟩ := loadS_spec hu
  split at h1
  rotate_left
  · simp at h1
  rename_i s' hs
  split at h1
  rotate_left
  · simp at h1
  rename_i hc
  cases hn : navs ds k with
  | none =>
    exact absurd hs (by
      intro hs
      have : ∀ (ds : List Dir) (k : List Item) (s s' : Stt), steps P fuel ds k s = some s' → navs ds k ≠ none := by
        intro ds
        induction ds with
        | nil => intro k s s' _; simp [navs]
        | cons d ds ih =>
          intro k s s' h
          rw [steps] at h
          rw [navs]
          cases h1 : step1 P fuel d k s with
          | none => rw [h1] at h; simp at h
          | some s1 =>
            rw [h1] at h
            cases h2 : nav1 d k with
            | none => rw [h2] at h; simp at h
            | some k1 => rw [h2] at h; exact ih _ _ _ h
      exact this _ _ _ _ hs hn)
  | some k' =>
    refine steps_ok hm hs hn (fun b kk cs μ w a hH' => ?_) b kk cs μ w a (hH s hl)
    exact g k' hn b kk cs μ w a fun s2 hl2 => holds_covers hH' hc hl2

/-- the end: the function's result -/
def lastC (P : Program) (fuel : Nat) (rs : List ResultVar) (todo : Option (List Item)) (n : Snap) (v : Value) : Bool :=
  match todo with
  | some (.code c :: _) => match loadS n fun s => match ev P fuel (.code c) s with
      | some (.ret, s) => match resVals P s rs with
        | some [u] => match flat1 u && eqV 2 u v with
          | true => some ()
          | false => none
        | _ => none
      | _ => none with
    | some _ => true
    | none => false
  | _ => false
def Ends (P : Program) (W : World) (fn : Func) (v : Value) (e : Exit) (a : Act) (w : World) : Prop := e = .ret ∧ a.defers = [] ∧ (results fn a.tmps).run P w = .ok v w ∧ Below W.heap.size W w
theorem last_ok {P : Program} [ExtOk P] (hm : P.follows .mixedOrders = true) {fuel : Nat} {W : World} {fn : Func} {todo : Option (List Item)} {n : Snap} {v : Value} (h : lastC P fuel fn.results.toList todo n v = true) : SafeW P W (Ends P W fn v) todo n := by
  intro k hk b kk cs μ w a hH
  subst hk
  unfold lastC at h
  split at h
  rotate_left
  · simp at h
  rename_i c k0 hk
  obtain rfl := Option.some.inj hk
  split at h
  rotate_left
  · simp at h
  rename_i u hu
  obtain ⟨s, h1, hl⟩ := loadS_spec hu
  split at h1
  rotate_left
  · simp at h1
  rename_i s1 hev
  split at h1
  rotate_left
  · simp at h1
  rename_i u2 hres
  split at h1
  rotate_left
  · simp at h1
  rename_i hc
  rw [Bool.and_eq_true] at hc
  obtain rfl := eqV_eq _ _ _ hc.2
  have hHs := hH s hl
  obtain ⟨e, a1, w1, ⟨he, μ1, hok, hF⟩, harr⟩ := ev_ok hm fuel _ _ _ _ hev μ s.mem w μ w a (.refl hHs.1.rep) hHs.2 b (k0 ++ kk) cs
  obtain rfl : e = .ret := he
  obtain ⟨l', hrun, hvl⟩ := res_ok (P := P) hok.rep hF _ _ hres
  refine ⟨.ret, a1, w1, ⟨rfl, hF.defers, ?_, (hHs.1.step hok).below⟩, harr⟩
  rw [results_eq, Array.mapM_eq_mapM_toList]
  cases hvl with
  | cons h1 h2 =>
    cases h2
    obtain rfl := h1.same1 hc.1
    simp only [Sem.run_bind, Sem.run_map, hrun, Result.andThen_ok, Sem.run_pure]
    rfl

def tabBlocks : List (Nat × List Value) → List (Nat × EvBlk)
  | [] => []
  | (g, cs) :: l => (g, ⟨0, false, cs⟩) :: tabBlocks l
def tabsOk : List (Nat × List Value) → Bool
  | [] => true
  | (g, cs) :: l => match Nat.blt g 1048576 && tabOk g cs with
    | true => tabsOk l
    | false => false
theorem tabBlocks_mem : ∀ {l : List (Nat × List Value)}, tabsOk l = true → ∀ b x, (b, x) ∈ tabBlocks l → b < 1048576 ∧ x.own = false ∧ x.es = 0 ∧ tabOk b x.cells = true ∧ (b, x.cells) ∈ l
  | [], _, b, x, h => by simp [tabBlocks] at h
  | (g, cs) :: l, hh, b, x, h => by
    rw [tabsOk] at hh
    split at hh
    · rename_i hc
      rw [Bool.and_eq_true, Nat.blt_eq] at hc
      rw [tabBlocks] at h
      rcases List.mem_cons.1 h with h | h
      · obtain ⟨rfl, rfl⟩ := Prod.mk.inj h
        exact ⟨hc.1, rfl, rfl, hc.2, List.mem_cons_self⟩
      · obtain ⟨q1, q2, q3, q4, q5⟩ := tabBlocks_mem hh b x h
        exact ⟨q1, q2, q3, q4, List.mem_cons_of_mem _ q5⟩
    · simp at hh
def startT (fn : Func) (tabs : List (Nat × List Value)) : Snap := ⟨[], fn.ntmps, tabBlocks tabs, 1048576⟩
def start (fn : Func) : Snap := startT fn []
theorem tabs_ok {P : Program} [ExtOk P] {f : FuncId} {fn : Func} {c : Code} {v : Value} {tabs : List (Nat × List Value)} (hf : P.funcs[f]? = some fn) (hb : fn.body = some c) (W : World) (htab : tabsOk tabs = true) (hw : TabsAt W tabs)
    (h : SafeW P W (Ends P W fn v) (some [.code c]) (startT fn tabs)) :
    Calls P f #[] W fun e w' => e = .returned v ∧ Below W.heap.size W w' := by
  refine calls_of_wp hf hb ?_
  intro b k cs
  have hH : HoldsN W (startT fn tabs) (symMap W) W { tmps := (#[] : Array Value) ++ Array.replicate (fn.ntmps - (#[] : Array Value).size) undef, defers := [] } := by
    rintro s ⟨l1, l2, l3, l4⟩
    have live : ∀ b x, s.mem.heap.get b = some x → b < 1048576 ∧ x.own = false ∧ x.es = 0 ∧ tabOk b x.cells = true ∧ (b, x.cells) ∈ tabs := fun b x hx => tabBlocks_mem htab b x (l3 b x hx)
    have hnx : s.mem.next = 1048576 := l4
    have own : ∀ b x, s.mem.heap.get b = some x → x.own = true → False := fun b x hx ho => by rw [(live b x hx).2.1] at ho; cases ho
    refine ⟨⟨⟨fun b x hx => by rw [hnx]; exact (live b x hx).1, fun b x hx i u hu => ?_, fun b x hx ho => (own b x hx ho).elim, fun b x hx => (hw b x.cells (live b x hx).2.2.2.2).1, fun b x hx => (live b x hx).2.2.1.symm, fun b x hx ho => (own b x hx ho).elim, fun b x b' x' hx _ ho => (own b x hx ho).elim⟩, Below.refl _ _, fun b x hx ho => (own b x hx ho).elim⟩, ⟨rfl, ?_, fun t => ?_, fun g _ => ⟨rfl, rfl⟩, by rw [hnx]; exact Nat.le_refl _⟩⟩
    · obtain ⟨q0, _, _, q1, q2⟩ := live b x hx
      obtain ⟨v', e1, e2⟩ := tab_cell hw q2 q0 q1 (nx := s.mem.next) (by rw [hnx]; exact Nat.le_refl _) hu
      refine ⟨v', ?_, e2⟩
      show W.cell? ⟨b, 0 + i, none⟩ = _
      rw [Nat.zero_add]
      exact e1
    · simp [l2, startT]
    · intro v hv
      have := l1 t v hv
      simp [startT] at this
  obtain ⟨e, a', w', ⟨rfl, hd, hr, hB⟩, harr⟩ := h [.code c] rfl b k cs _ W _ hH
  exact ⟨.ret, a', w', ⟨hd, v, hr, rfl, hB⟩, harr⟩
theorem closed_ok {P : Program} [ExtOk P] {f : FuncId} {fn : Func} {c : Code} {v : Value} (hf : P.funcs[f]? = some fn) (hb : fn.body = some c) (W : World) (h : SafeW P W (Ends P W fn v) (some [.code c]) (start fn)) :
    Calls P f #[] W fun e w' => e = .returned v ∧ Below W.heap.size W w' :=
  tabs_ok hf hb W rfl (tabsAt_none W) h
end
end Go.Proofs.YtloolljoelngcaaGreat
