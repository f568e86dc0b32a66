/-
  A closed call in pieces that begin and end at whatever depth: the frames that wait are written down, too. No program in sight.
-/
import Derived.Test.YtloolljoelngcaaGreatCk
set_option linter.unusedVariables false
namespace Go.Proofs.YtloolljoelngcaaGreat
open Go.RowKit
noncomputable section

/-! ### frames that wait -/
structure SttM where
  frs : List (Tr Value × Nat)
  mem : Mem
abbrev Pos := List (FuncId × List Item)
inductive DirM where
  | one (d : Dir)
  | reg
  | ops (n : Nat)
  | endr
  | enter (g : FuncId)
  | leave
def navM (P : Program) (d : DirM) (ps : Pos) : Option Pos :=
  match ps with
  | [] => none
  | (f, k) :: rest => match d with
    | .one d => match nav1 d k with
      | some k => some ((f, k) :: rest)
      | none => none
    | .reg => match k with
      | .code (.region _ ops false) :: k => some ((f, .inRegion ops (List.range ops.size) :: k) :: rest)
      | _ => none
    | .ops n => match k with
      | .inRegion ops l :: k => some ((f, .inRegion ops (l.drop n) :: k) :: rest)
      | _ => none
    | .endr => match k with
      | .inRegion _ [] :: k => some ((f, k) :: rest)
      | _ => none
    | .enter g => match k with
      | .inRegion ops (i :: l) :: k0 => match P.funcs[g]? with
        | some fn => match fn.body with
          | some c => some ((g, [.code c]) :: (f, .inRegion ops (i :: l) :: k0) :: rest)
          | none => none
        | none => none
      | _ => none
    | .leave => match rest with
      | (f2, .inRegion ops (_ :: l) :: k2) :: rest2 => some ((f2, .inRegion ops l :: k2) :: rest2)
      | _ => none
def opsAt (ops : Array Oper) : List Nat → Option (List Oper)
  | [] => some []
  | i :: l => match ops[i]? with
    | some o => match opsAt ops l with
      | some r => some (o :: r)
      | none => none
    | none => none
/-- what stands at the end of a function -/
def retM (P : Program) (fuel : Nat) (k : List Item) (s : Stt) : Option Stt :=
  match k with
  | [] => some s
  | .code c :: k => match ev P fuel (.code c) s with
    | some (.ret, s) => some s
    | some (.norm, s) => match k with
      | [] => some s
      | _ => none
    | _ => none
  | _ => none
def stepM (P : Program) (fuel : Nat) (d : DirM) (ps : Pos) (s : SttM) : Option SttM :=
  match ps, s with
  | (f, k) :: rest, ⟨(fr, n) :: frs, mem⟩ => match d with
    | .one d => match step1 P fuel d k ⟨fr, n, mem⟩ with
      | some ⟨fr, n, mem⟩ => some ⟨(fr, n) :: frs, mem⟩
      | none => none
    | .reg => some ⟨(fr, n) :: frs, mem⟩
    | .endr => some ⟨(fr, n) :: frs, mem⟩
    | .ops q => match k with
      | .inRegion ops l :: _ => match opsAt ops (l.take q) with
        | some os => match evOps P (ev P fuel) ops os ⟨fr, n, mem⟩ with
          | some (.norm, ⟨fr, n, mem⟩) => some ⟨(fr, n) :: frs, mem⟩
          | _ => none
        | none => none
      | _ => none
    | .enter g => match k with
      | .inRegion ops (i :: _) :: _ => match ops[i]? with
        | some o => match wantedE ops o fr with
          | some true => match stepOp P fr mem o with
            | some (.call f args mem) => match Nat.beq f g with
              | true => match P.funcs[g]? with
                | some fn => fillFr args 0 .leaf fun t => fNat (Nat.max fn.ntmps (len args 0)) fun q => some ⟨(t, q) :: (fr, n) :: frs, mem⟩
                | none => none
              | false => none
            | _ => none
          | _ => none
        | none => none
      | _ => none
    | .leave => match P.funcs[f]? with
      | some fn => match retM P fuel k ⟨fr, n, mem⟩ with
        | some s1 => match resVals P s1 fn.results.toList with
          | some l => match rest, frs with
            | (_, .inRegion ops (i :: _) :: _) :: _, (fr2, n2) :: frs2 => match Stt.put ⟨fr2, n2, s1.mem⟩ ((ops[i]?).bind (·.dst)) (tupled l) s1.mem some with
              | some ⟨fr, n, mem⟩ => some ⟨(fr, n) :: frs2, mem⟩
              | none => none
            | _, _ => none
          | none => none
        | none => none
      | none => none
  | _, _ => none
def navsM (P : Program) : List DirM → Pos → Option Pos
  | [], k => some k
  | d :: l, k => match navM P d k with
    | some k => navsM P l k
    | none => none
def stepsM (P : Program) (fuel : Nat) : List DirM → Pos → SttM → Option SttM
  | [], _, s => some s
  | d :: l, k, s => match stepM P fuel d k s with
    | some s => match navM P d k with
      | some k => stepsM P fuel l k s
      | none => none
    | none => none

inductive FramesR (μ : Map) (nx : Nat) (b : Frame) (k : List Item) (cs : List Frame) : List (Tr Value × Nat) → Pos → List Frame → Prop
  | last {fr : Tr Value} {n : Nat} {a : Act} {f : FuncId} {todo : List Item} : FrR μ nx fr n a → FramesR μ nx b k cs [(fr, n)] [(f, todo)] (b.at a (todo ++ k) :: cs)
  | more {fr : Tr Value} {n : Nat} {a : Act} {f : FuncId} {todo : List Item} {b' : Frame} {frs : List (Tr Value × Nat)} {ps : Pos} {fs : List Frame} : FrR μ nx fr n a → b'.fn = f → b'.kind = .normal →
      FramesR μ nx b k cs frs ps fs → FramesR μ nx b k cs ((fr, n) :: frs) ((f, todo) :: ps) (b'.at a todo :: fs)
theorem FramesR.inv {μ : Map} {nx : Nat} {b : Frame} {k : List Item} {cs : List Frame} {fr : Tr Value} {n : Nat} {frs : List (Tr Value × Nat)} {f : FuncId} {todo : List Item} {ps : Pos} {F : Frame} {fs : List Frame} (h : FramesR μ nx b k cs ((fr, n) :: frs) ((f, todo) :: ps) (F :: fs)) :
    (∃ a : Act, frs = [] ∧ ps = [] ∧ FrR μ nx fr n a ∧ F = b.at a (todo ++ k) ∧ fs = cs) ∨ ∃ (a : Act) (b' : Frame), F = b'.at a todo ∧ FrR μ nx fr n a ∧ b'.fn = f ∧ b'.kind = .normal ∧ FramesR μ nx b k cs frs ps fs := by
  generalize hf : (fr, n) :: frs = l1 at h
  generalize hp : (f, todo) :: ps = l2 at h
  generalize hg : F :: fs = l3 at h
  cases h with
  | last hF =>
    simp only [List.cons.injEq, Prod.mk.injEq] at hf hp hg
    obtain ⟨⟨rfl, rfl⟩, rfl⟩ := hf
    obtain ⟨⟨rfl, rfl⟩, rfl⟩ := hp
    exact .inl ⟨_, rfl, rfl, hF, hg.1, hg.2⟩
  | more hF h1 h2 t =>
    simp only [List.cons.injEq, Prod.mk.injEq] at hf hp hg
    obtain ⟨⟨rfl, rfl⟩, rfl⟩ := hf
    obtain ⟨⟨rfl, rfl⟩, rfl⟩ := hp
    obtain ⟨rfl, rfl⟩ := hg
    exact .inr ⟨_, _, rfl, hF, h1, h2, t⟩
theorem FramesR.up {μ μ' : Map} {m m' : Mem} {w w' : World} {b : Frame} {k : List Item} {cs : List Frame} (h : Ok μ m w μ' m' w') : ∀ {frs : List (Tr Value × Nat)} {ps : Pos} {fs : List Frame}, FramesR μ m.next b k cs frs ps fs → FramesR μ' m'.next b k cs frs ps fs
  | _, _, _, .last hF => .last (hF.up h)
  | _, _, _, .more hF h1 h2 t => .more (hF.up h) h1 h2 (t.up h)
def SafeM (P : Program) (W : World) (Q : Exit → Act → World → Prop) (ps : Pos) (s : SttM) : Prop :=
  ∀ (b : Frame) (k : List Item) (cs : List Frame) (μ : Map) (w : World) (F : Frame) (fs : List Frame), Top W μ s.mem w → FramesR μ s.mem.next b k cs s.frs ps (F :: fs) → Gl P Q b k cs (lone F fs w)

/-- one direction within a frame -/
theorem step1_steps {P : Program} [ExtOk P] (hm : P.follows .mixedOrders = true) {fuel : Nat} {d : Dir} {todo todo' : List Item} {s s' : Stt} (h : step1 P fuel d todo s = some s') (hn : nav1 d todo = some todo')
    (b : Frame) (k : List Item) (cs : List Frame) (μ : Map) (w : World) (a : Act) (hR : Rep μ s.mem w) (hF : FrR μ s.mem.next s.fr s.size a) :
    ∃ μ' w' a', Ok μ s.mem w μ' s'.mem w' ∧ FrR μ' s'.mem.next s'.fr s'.size a' ∧ Steps P (lone (b.at a (todo ++ k)) cs w) (lone (b.at a' (todo' ++ k)) cs w') := by
  unfold nav1 at hn
  split at hn
  · simp at hn
  rename_i i k0
  split at hn
  · simp only [step1, Option.some.injEq] at h
    subst h
    refine ⟨μ, w, a, .refl hR, hF, ?_⟩
    split at hn
    · split at hn
      · simp only [Option.some.injEq] at hn; subst hn; exact .one step_seq
      · simp only [Option.some.injEq] at hn; subst hn; exact .one step_block
      · simp only [Option.some.injEq] at hn; subst hn; exact .one step_loop
      · simp at hn
    · simp only [Option.some.injEq] at hn; subst hn; exact .one step_inLoop
    · simp only [Option.some.injEq] at hn; subst hn; exact .one step_inBlock
    · simp at hn
  · split at hn
    · rename_i c x y
      simp only [Option.some.injEq] at hn
      subst hn
      simp only [step1] at h
      split at h
      · rename_i hc
        simp only [Option.some.injEq] at h
        subst h
        exact ⟨μ, w, a, .refl hR, hF, .one (step_cond (t := true) (opd_ok hF hc).bool_inv)⟩
      · simp at h
    · simp at hn
  · split at hn
    · rename_i c x y
      simp only [Option.some.injEq] at hn
      subst hn
      simp only [step1] at h
      split at h
      · rename_i hc
        simp only [Option.some.injEq] at h
        subst h
        exact ⟨μ, w, a, .refl hR, hF, .one (step_cond (t := false) (opd_ok hF hc).bool_inv)⟩
      · simp at h
    · simp at hn
  · split at hn
    · rename_i c
      simp only [Option.some.injEq] at hn
      subst hn
      simp only [step1] at h
      split at h
      · rename_i s1 hev
        simp only [Option.some.injEq] at h
        subst h
        obtain ⟨e, a1, w1, ⟨he, μ1, hok, hF1⟩, harr⟩ := ev_ok hm fuel _ _ _ _ hev μ s.mem w μ w a (.refl hR) hF b (k0 ++ k) cs
        obtain rfl : e = .normal := he
        exact ⟨μ1, w1, a1, hok, hF1, harr⟩
      · simp at h
    · simp at hn
  · rename_i id
    split at hn
    · rename_i c
      simp only [step1] at h
      split at h
      · rename_i j s1 hev
        cases hb : Nat.beq j id with
        | false => rw [hb] at h; simp at h
        | true =>
          rw [hb] at h
          obtain rfl : j = id := Nat.eq_of_beq_eq_true hb
          simp only [Option.some.injEq] at h
          subst h
          obtain ⟨e, a1, w1, ⟨he, μ1, hok, hF1⟩, harr⟩ := ev_ok hm fuel _ _ _ _ hev μ s.mem w μ w a (.refl hR) hF b (k0 ++ k) cs
          obtain rfl : e = .exit j := he
          exact ⟨μ1, w1, a1, hok, hF1, harr _ (exitTo_append k hn)⟩
      · simp at h
    · simp at hn

/-- operations of a region in the order of its text, up to some place -/
theorem wp_part {P : Program} {ops : Array Oper} {Q : Exit → Act → World → Prop} (hQ : ∀ e a w, Q e a w → e = .normal) (l2 : List Nat) (l : List Nat) :
    ∀ (a : Act) (w : World), wpOps P ops Q l a w → ∀ (b : Frame) (k : List Item) (cs : List Frame),
      ∃ a' w', Q .normal a' w' ∧ Steps P (lone (b.at a (.inRegion ops (l ++ l2) :: k)) cs w) (lone (b.at a' (.inRegion ops l2 :: k)) cs w') := by
  induction l with
  | nil => exact fun a w h b k cs => ⟨a, w, h, .refl _ _⟩
  | cons i rest ih =>
    intro a w h b k cs
    rw [List.cons_append]
    simp only [wpOps] at h
    cases ho : ops[i]? with
    | none =>
      simp only [ho] at h
      obtain ⟨a', w', hq, harr⟩ := ih a w h b k cs
      have hs := step_op_skip (P := P) (b := b) (a := a) (k := k) (cs := cs) (w := w) (ops := ops) (i := i) (rest := rest ++ l2) (by simp [ho])
      simp only [ho, Option.bind_none, Act.put] at hs
      exact ⟨a', w', hq, .head hs harr⟩
    | some o =>
      simp only [ho] at h
      by_cases hw : Region.wanted o (yielded ops a.tmps) = true
      · simp only [hw, if_true] at h
        rcases h with h | ⟨_, a₀, w₀, hq⟩
        case inr => exact absurd (hQ _ _ _ hq) (by simp)
        simp only [Oper.wp, Oper.upon] at h
        have hg := stepG_op (P := P) (b := b) (k := k) (cs := cs) (w := w) (rest := rest ++ l2) ho hw
        have hfin : ∀ v, (b.at a (.inRegion ops (i :: (rest ++ l2)) :: k)).finish v = b.at (a.put o.dst v) (.inRegion ops (rest ++ l2) :: k) := by
          intro v; rw [Frame.finish_at, ho]; rfl
        split at h
        · rename_i v w' hr
          obtain ⟨a', w'', hq, harr⟩ := ih _ _ h b k cs
          refine ⟨a', w'', hq, .head (step_lone_go ?_) harr⟩
          rw [hg, ← hfin]; simp [stepG.apply, hr]
        · rename_i w' hr
          obtain ⟨a', w'', hq, harr⟩ := ih _ _ h b k cs
          refine ⟨a', w'', hq, .head (step_lone_go ?_) harr⟩
          rw [hg, ← hfin]; simp [stepG.apply, hr]
        · rename_i d w' hr
          obtain ⟨a', w'', hq, harr⟩ := ih _ _ h b k cs
          refine ⟨a', w'', hq, .head (step_lone_go ?_) harr⟩
          have : ({ b.at a (.inRegion ops (i :: (rest ++ l2)) :: k) with defers := d :: a.defers } : Frame).finish undef =
              b.at ({ a with defers := d :: a.defers }.put o.dst undef) (.inRegion ops (rest ++ l2) :: k) := by
            have := Frame.finish_at b { a with defers := d :: a.defers } ops i (rest ++ l2) k undef
            rw [ho] at this; exact this
          rw [hg]; simp only [stepG.apply, Sem.runT_eq, hr, GStep.bare_after]
          exact congrArg (fun fr => GStep.go { frame := fr, callers := cs, status := .running, dying := none } w') this
        · rename_i f args w' hr
          obtain ⟨e, w'', fr, hR, hsteps, _, hleave⟩ := h (b.at a (.inRegion ops (i :: (rest ++ l2)) :: k) :: cs)
          have henter : step P (lone (b.at a (.inRegion ops (i :: (rest ++ l2)) :: k)) cs w) =
              .next (lone (Frame.enter P f args .normal) (b.at a (.inRegion ops (i :: (rest ++ l2)) :: k) :: cs) w') :=
            step_lone_go (by rw [hg]; simp [stepG.apply, hr, Frame.at])
          cases e with
          | returned v =>
            obtain ⟨a', w₃, hq, harr⟩ := ih _ _ hR b k cs
            refine ⟨a', w₃, hq, .head henter (Steps.trans hsteps (.head ?_ harr))⟩
            rw [← hfin]; exact step_leave_returned hleave
          | panicked chain => exact absurd (hQ _ _ _ hR) (by simp)
          | outgrown =>
            obtain ⟨a₀, w₀, hq⟩ := hR
            exact absurd (hQ _ _ _ hq) (by simp)
        · rename_i row args w' hr
          obtain ⟨v, w'', hR, hsteps⟩ := h (b.at a (.inRegion ops (i :: (rest ++ l2)) :: k)) cs
          have henter : step P (lone (b.at a (.inRegion ops (i :: (rest ++ l2)) :: k)) cs w) =
              .next (lone (Frame.ofRow P row args .normal) (b.at a (.inRegion ops (i :: (rest ++ l2)) :: k) :: cs) w') :=
            step_lone_go (by rw [hg]; simp [stepG.apply, hr, Frame.at])
          obtain ⟨a', w₃, hq, harr⟩ := ih _ _ hR b k cs
          refine ⟨a', w₃, hq, .head henter (Steps.trans hsteps ?_)⟩
          rw [hfin]; exact harr
        · exact absurd (hQ _ _ _ h) (by simp)
        · exact h.elim
      · simp only [hw, if_false, Bool.false_eq_true] at h
        obtain ⟨a', w', hq, harr⟩ := ih _ _ h b k cs
        have hs := step_op_skip (P := P) (b := b) (a := a) (k := k) (cs := cs) (w := w) (ops := ops) (i := i) (rest := rest ++ l2)
          (by simp [ho]; simpa using hw)
        simp only [ho, Option.bind_some] at hs
        exact ⟨a', w', hq, .head hs harr⟩

theorem opsAt_ok {P : Program} [ExtOk P] {rec : Req → Stt → Option (Out × Stt)} (hS : Snd P rec) {ops : Array Oper} {μ0 : Map} {m0 : Mem} {w0 : World} {out : Out} {s' : Stt} : ∀ (idx : List Nat) (os : List Oper) (s : Stt) (μ : Map) (w : World) (a : Act), opsAt ops idx = some os →
    evOps P rec ops os s = some (out, s') → Ok μ0 m0 w0 μ s.mem w → FrR μ s.mem.next s.fr s.size a → wpOps P ops (Post μ0 m0 w0 out s') idx a w
  | [], os, s, μ, w, a, hi, h, hok, hF => by
    simp only [opsAt, Option.some.injEq] at hi
    subst hi
    simp [evOps] at h
    obtain ⟨rfl, rfl⟩ := h
    exact ⟨rfl, μ, hok, hF⟩
  | i :: idx, os, s, μ, w, a, hi, h, hok, hF => by
    rw [opsAt] at hi
    cases ho : ops[i]? with
    | none => rw [ho] at hi; simp at hi
    | some o =>
    rw [ho] at hi
    simp only at hi
    cases hr : opsAt ops idx with
    | none => rw [hr] at hi; simp at hi
    | some l =>
    rw [hr] at hi
    simp only [Option.some.injEq] at hi
    subst hi
    rw [evOps_cons] at h
    simp only [wpOps, ho]
    have hw := wanted_eq (ops := ops) hF o
    cases hwe : wantedE ops o s.fr with
    | none => rw [hwe] at h; simp at h
    | some bw =>
    cases bw with
    | false =>
      rw [hwe] at h
      rw [hw false hwe]
      simp only [Bool.false_eq_true, if_false] at h ⊢
      obtain ⟨fr', h', hF'⟩ := put_ok h hF .undef
      exact opsAt_ok hS idx l _ μ w _ hr h' hok hF'
    | true =>
      rw [hwe] at h
      rw [hw true hwe]
      simp only [if_true] at h ⊢
      cases hdo : doOp P rec s.fr s.mem o with
      | none => rw [hdo] at h; simp at h
      | some vm =>
        obtain ⟨v, m1⟩ := vm
        rw [hdo] at h
        simp only at h
        refine .inl (do_ok hS hdo hok.rep hF fun v' w' μ' hok' hv => ?_)
        obtain ⟨fr', h', hF'⟩ := put_ok h (hF.up hok') hv
        exact opsAt_ok hS idx l _ μ' w' _ hr h' (hok.trans hok') hF'

/-- what a function gives, as its results are read -/
theorem resM {P : Program} {μ : Map} {s : Stt} {w : World} {a : Act} {fn : Func} {l : List Value} (hR : Rep μ s.mem w) (hF : FrR μ s.mem.next s.fr s.size a) (hl : resVals P s fn.results.toList = some l) :
    ∃ v', (results fn a.tmps).run P w = .ok v' w ∧ VR μ s.mem.next (tupled l) v' := by
  obtain ⟨l', hrun, hvl⟩ := res_ok (P := P) hR hF _ _ hl
  refine ⟨if h : (⟨l'⟩ : Array Value).size = 1 then (⟨l'⟩ : Array Value)[0] else .tuple ⟨l'⟩, ?_, ?_⟩
  · rw [results_eq, Array.mapM_eq_mapM_toList]
    simp only [Sem.run_bind, Sem.run_map, hrun, Result.andThen_ok, Sem.run_pure]
  · cases hvl with
    | nil => simp; exact .tuple .nil
    | cons h1 h2 => cases h2 with
      | nil => simp; exact h1
      | cons h2 h3 => simp; exact .tuple (.cons h1 (.cons h2 h3))

/-- up to where a function is left -/
theorem retM_steps {P : Program} [ExtOk P] (hm : P.follows .mixedOrders = true) {fuel : Nat} {k : List Item} {s s1 : Stt} (h : retM P fuel k s = some s1) (b : Frame) (cs : List Frame) (μ : Map) (w : World) (a : Act) (hR : Rep μ s.mem w) (hF : FrR μ s.mem.next s.fr s.size a) :
    ∃ μ' w' a' todo, Ok μ s.mem w μ' s1.mem w' ∧ FrR μ' s1.mem.next s1.fr s1.size a' ∧ Steps P (lone (b.at a k) cs w) (lone { b.at a' todo with mode := .returning } cs w') := by
  unfold retM at h
  split at h
  · obtain rfl := Option.some.inj h
    exact ⟨μ, w, a, [], .refl hR, hF, .one step_end⟩
  · rename_i c k
    split at h
    · rename_i s2 hev
      obtain rfl := Option.some.inj h
      obtain ⟨e, a1, w1, ⟨he, μ1, hok, hF1⟩, harr⟩ := ev_ok hm fuel _ _ _ _ hev μ s.mem w μ w a (.refl hR) hF b k cs
      obtain rfl : e = .ret := he
      obtain ⟨todo, hs⟩ := harr
      exact ⟨μ1, w1, a1, todo, hok, hF1, hs⟩
    · rename_i s2 hev
      split at h
      · obtain rfl := Option.some.inj h
        obtain ⟨e, a1, w1, ⟨he, μ1, hok, hF1⟩, harr⟩ := ev_ok hm fuel _ _ _ _ hev μ s.mem w μ w a (.refl hR) hF b [] cs
        obtain rfl : e = .normal := he
        exact ⟨μ1, w1, a1, [], hok, hF1, Steps.trans harr (.one step_end)⟩
      · simp at h
    · simp at h
  · simp at h

/-- the frame that a call begins with -/
theorem fillFr_frame {μ : Map} {nx : Nat} {args args' : List Value} {fn : Func} {t : Tr Value} (hget : ∀ i, t.get i = if 0 ≤ i ∧ i < 0 + args.length then args[i - 0]? else Tr.leaf.get i) (hargs : VRs μ nx args args')
    (hg : ∀ g, g < 1048576 → (μ g).blk = g ∧ (μ g).base = 0) (hb : 1048576 ≤ nx) : FrR μ nx t (Nat.max fn.ntmps (len args 0)) { tmps := (⟨args'⟩ : Array Value) ++ Array.replicate (fn.ntmps - (⟨args'⟩ : Array Value).size) undef, defers := [] } := by
  have hal := hargs.length
  refine ⟨rfl, ?_, fun i => ?_, hg, hb⟩
  · have : Nat.max fn.ntmps (len args 0) = max fn.ntmps (len args 0) := rfl
    rw [len_eq, this] at *
    simp [hal]
    omega
  · rw [hget]
    by_cases hi : i < args.length
    · rw [if_pos (by omega), Nat.sub_zero]
      obtain ⟨v', e, hv⟩ := hargs.get i args[i] (List.getElem?_eq_getElem hi)
      rw [List.getElem?_eq_getElem hi]
      have : ((⟨args'⟩ : Array Value) ++ Array.replicate (fn.ntmps - (⟨args'⟩ : Array Value).size) undef).getD i undef = v' := by
        rw [Array.getD_eq_getD_getElem?, Array.getElem?_append_left (by simp; omega)]
        simp [e]
      rw [this]
      intro u e
      obtain rfl := Option.some.inj e
      exact hv
    · rw [if_neg (by omega), Tr.get_leaf]
      have : ((⟨args'⟩ : Array Value) ++ Array.replicate (fn.ntmps - (⟨args'⟩ : Array Value).size) undef).getD i undef = undef := by
        rw [Array.getD_eq_getD_getElem?, Array.getElem?_append_right (by simp; omega)]
        rw [Array.getElem?_replicate]
        split <;> rfl
      rw [this]
      exact SlotR.none

theorem Gl.after {P : Program} [ExtOk P] {Q : Exit → Act → World → Prop} {b : Frame} {k : List Item} {cs : List Frame} {m m' : Machine} (h : Steps P m m') (g : Gl P Q b k cs m') : Gl P Q b k cs m := g.of_steps h

/-- within the frame on top: whatever it does, the others wait -/
theorem top_ok {P : Program} [ExtOk P] {W : World} {Q : Exit → Act → World → Prop} {f : FuncId} {todo todo' : List Item} {rest : Pos} {fr fr' : Tr Value} {n n' : Nat} {frs : List (Tr Value × Nat)} {mem mem' : Mem}
    (h : ∀ (b : Frame) (k : List Item) (cs : List Frame) (μ : Map) (w : World) (a : Act), Rep μ mem w → FrR μ mem.next fr n a → ∃ μ' w' a', Ok μ mem w μ' mem' w' ∧ FrR μ' mem'.next fr' n' a' ∧ Steps P (lone (b.at a (todo ++ k)) cs w) (lone (b.at a' (todo' ++ k)) cs w'))
    (g : SafeM P W Q ((f, todo') :: rest) ⟨(fr', n') :: frs, mem'⟩) : SafeM P W Q ((f, todo) :: rest) ⟨(fr, n) :: frs, mem⟩ := by
  intro b k cs μ w F fs hT hFs
  rcases FramesR.inv hFs with ⟨a, rfl, rfl, hF, rfl, rfl⟩ | ⟨a, b', rfl, hF, h1, h2, t⟩
  · obtain ⟨μ', w', a', hok, hF', hs⟩ := h b k fs μ w a hT.rep hF
    exact (g b k fs μ' w' _ _ (hT.step hok) (.last hF')).of_steps hs
  · obtain ⟨μ', w', a', hok, hF', hs⟩ := h b' [] fs μ w a hT.rep hF
    rw [List.append_nil, List.append_nil] at hs
    exact (g b k cs μ' w' _ _ (hT.step hok) (.more hF' h1 h2 (t.up hok))).of_steps hs

theorem stepM_ok {P : Program} [ExtOk P] (hm : P.follows .mixedOrders = true) {fuel : Nat} {W : World} {Q : Exit → Act → World → Prop} {d : DirM} {ps ps' : Pos} {s s' : SttM} (h : stepM P fuel d ps s = some s') (hn : navM P d ps = some ps') (g : SafeM P W Q ps' s') : SafeM P W Q ps s := by
  unfold stepM at h
  split at h
  rotate_left
  · simp at h
  rename_i f todo rest fr n frs mem
  cases d with
  | one d =>
    simp only [navM] at h hn
    split at h
    rotate_left
    · simp at h
    rename_i fr' n' mem' hs
    simp only [Option.some.injEq] at h
    subst h
    split at hn
    rotate_left
    · simp at hn
    rename_i todo' hn1
    simp only [Option.some.injEq] at hn
    subst hn
    exact top_ok (fun b k cs μ w a hR hF => step1_steps hm hs hn1 b k cs μ w a hR hF) g
  | reg =>
    simp only [navM] at h hn
    simp only [Option.some.injEq] at h
    subst h
    split at hn
    rotate_left
    · simp at hn
    simp only [Option.some.injEq] at hn
    subst hn
    exact top_ok (fun b k cs μ w a hR hF => ⟨μ, w, a, .refl hR, hF, .one step_region⟩) g
  | endr =>
    simp only [navM] at h hn
    simp only [Option.some.injEq] at h
    subst h
    split at hn
    rotate_left
    · simp at hn
    simp only [Option.some.injEq] at hn
    subst hn
    exact top_ok (fun b k cs μ w a hR hF => ⟨μ, w, a, .refl hR, hF, .one step_region_end⟩) g
  | ops q =>
    simp only [navM] at h hn
    split at hn
    rotate_left
    · simp at hn
    rename_i ops l k0
    simp only [Option.some.injEq] at hn
    subst hn
    simp only at h
    split at h
    rotate_left
    · simp at h
    rename_i os hos
    split at h
    rotate_left
    · simp at h
    rename_i fr' n' mem' hev
    simp only [Option.some.injEq] at h
    subst h
    refine top_ok (fun b k cs μ w a hR hF => ?_) g
    have hw := opsAt_ok (ev_ok hm fuel) _ _ ⟨fr, n, mem⟩ μ w a hos hev (.refl hR) hF
    obtain ⟨a', w', ⟨_, μ', hok, hF'⟩, hs⟩ := wp_part (fun e a w hp => hp.1) (l.drop q) (l.take q) a w hw b (k0 ++ k) cs
    rw [List.take_append_drop] at hs
    exact ⟨μ', w', a', hok, hF', hs⟩
  | enter g0 =>
    simp only [navM] at h hn
    split at hn
    rotate_left
    · simp at hn
    rename_i ops i l k0
    simp only at h
    split at hn
    rotate_left
    · simp at hn
    rename_i fn hfn
    split at hn
    rotate_left
    · simp at hn
    rename_i c hbody
    simp only [Option.some.injEq] at hn
    subst hn
    split at h
    rotate_left
    · simp at h
    rename_i o ho
    split at h
    rotate_left
    · simp at h
    rename_i hwe
    split at h
    rotate_left
    · simp at h
    rename_i f2 args mem2 hso
    split at h
    rotate_left
    · simp at h
    rename_i hfg
    obtain rfl : f2 = g0 := Nat.eq_of_beq_eq_true hfg
    rw [hfn] at h
    simp only at h
    obtain ⟨t, h1, hget⟩ := fillFr_spec _ _ _ _ _ h
    rw [fNat_eq] at h1
    simp only [Option.some.injEq] at h1
    subst h1
    intro b k cs μ w F fs hT hFs
    -- the machine's step into the function, from whatever frame
    have into : ∀ (b1 : Frame) (k1 : List Item) (cs1 : List Frame) (a : Act), FrR μ mem.next fr n a → ∃ args', VRs μ mem.next args args' ∧ mem2 = mem ∧
        Steps P (lone (b1.at a (.inRegion ops (i :: l) :: k1)) cs1 w) (lone (({ (default : Frame) with fn := f2, kind := .normal } : Frame).at { tmps := (⟨args'⟩ : Array Value) ++ Array.replicate (fn.ntmps - (⟨args'⟩ : Array Value).size) undef, defers := [] } [.code c]) (b1.at a (.inRegion ops (i :: l) :: k1) :: cs1) w) := fun b1 k1 cs1 a hF => by
      have hd := step_ok (P := P) (w := w) (a := a) (n := n) hT.rep hF hso
      obtain ⟨args', hrun, hv, e⟩ := hd
      have hw := wanted_eq (ops := ops) hF o true hwe
      have hg := stepG_op (P := P) (b := b1) (k := k1) (cs := cs1) (w := w) (rest := l) ho hw
      refine ⟨args', hv, e, .one ?_⟩
      have henter : Frame.enter P f2 ⟨args'⟩ .normal = ({ (default : Frame) with fn := f2, kind := .normal } : Frame).at { tmps := (⟨args'⟩ : Array Value) ++ Array.replicate (fn.ntmps - (⟨args'⟩ : Array Value).size) undef, defers := [] } [.code c] := by
        simp [Frame.enter, Frame.at, hfn, hbody]
      rw [← henter]
      exact step_lone_go (by rw [hg]; simp [stepG.apply, hrun, Frame.at])
    rcases FramesR.inv hFs with ⟨a, rfl, rfl, hF, rfl, rfl⟩ | ⟨a, b', rfl, hF, h1, h2, t2⟩
    · obtain ⟨args', hv, rfl, hs⟩ := into b (k0 ++ k) fs a hF
      exact (g b k fs μ w _ _ hT (.more (b' := { (default : Frame) with fn := f2, kind := .normal }) (fillFr_frame hget hv hF.glob hF.big) rfl rfl (.last hF))).of_steps hs
    · obtain ⟨args', hv, rfl, hs⟩ := into b' k0 fs a hF
      exact (g b k cs μ w _ _ hT (.more (b' := { (default : Frame) with fn := f2, kind := .normal }) (fillFr_frame hget hv hF.glob hF.big) rfl rfl (.more hF h1 h2 t2))).of_steps hs
  | leave =>
    simp only [navM] at h hn
    split at h
    rotate_left
    · simp at h
    rename_i fn hfn
    split at h
    rotate_left
    · simp at h
    rename_i s1 hret
    split at h
    rotate_left
    · simp at h
    rename_i l hl
    split at h
    rotate_left
    · simp at h
    rename_i f2 ops i idx k2 rest2 fr2 n2 frs2
    simp only [Option.some.injEq] at hn
    subst hn
    intro b k cs μ w F fs hT hFs
    rcases FramesR.inv hFs with ⟨a, h1, h2, hF, rfl, rfl⟩ | ⟨a, b', rfl, hF, h1, h2, t2⟩
    · cases h2
    obtain ⟨μ1, w1, a1, todo1, hok, hF1, hs⟩ := retM_steps hm hret b' fs μ w a hT.rep hF
    obtain ⟨v', hres, hv'⟩ := resM (P := P) hok.rep hF1 hl
    have hT1 := hT.step hok
    cases fs with
    | nil => cases t2
    | cons F2 fs2 =>
    have leave : step P (lone { b'.at a1 todo1 with mode := .returning } (F2 :: fs2) w1) = .next (lone (F2.finish v') fs2 w1) :=
      step_leave_returned ⟨rfl, hF1.defers, h2, fn, by show P.funcs[b'.fn]? = some fn; rw [h1]; exact hfn, hres⟩
    have t3 := t2.up hok
    split at h
    rotate_left
    · simp at h
    rename_i fr3 n3 mem3 hput
    simp only [Option.some.injEq] at h
    subst h
    rcases FramesR.inv t3 with ⟨a2, rfl, rfl, hF2, rfl, rfl⟩ | ⟨a2, b2, rfl, hF2, g1, g2, t4⟩
    · obtain ⟨fr', e, hF3⟩ := put_ok hput hF2 hv'
      simp only [Option.some.injEq, Stt.mk.injEq] at e
      obtain ⟨rfl, rfl, rfl⟩ := e
      refine (g b k fs2 μ1 w1 _ _ hT1 (.last hF3)).of_steps (Steps.trans hs (.one ?_))
      rw [leave, List.cons_append, Frame.finish_at]
      rfl
    · obtain ⟨fr', e, hF3⟩ := put_ok hput hF2 hv'
      simp only [Option.some.injEq, Stt.mk.injEq] at e
      obtain ⟨rfl, rfl, rfl⟩ := e
      refine (g b k cs μ1 w1 _ _ hT1 (.more hF3 g1 g2 t4)).of_steps (Steps.trans hs (.one ?_))
      rw [leave, Frame.finish_at]
theorem stepsM_ok {P : Program} [ExtOk P] (hm : P.follows .mixedOrders = true) {fuel : Nat} {W : World} {Q : Exit → Act → World → Prop} : ∀ {ds : List DirM} {ps ps' : Pos} {s s' : SttM}, stepsM P fuel ds ps s = some s' → navsM P ds ps = some ps' → SafeM P W Q ps' s' → SafeM P W Q ps s
  | [], ps, ps', s, s', h, hn, g => by
    simp only [stepsM, Option.some.injEq] at h
    simp only [navsM, Option.some.injEq] at hn
    subst h hn
    exact g
  | d :: ds, ps, ps', s, s', h, hn, g => by
    rw [stepsM] at h
    rw [navsM] at hn
    cases h1 : stepM P fuel d ps s with
    | none => rw [h1] at h; simp at h
    | some s1 =>
      cases h2 : navM P d ps with
      | none => rw [h2] at hn; simp at hn
      | some k1 =>
        rw [h1, h2] at h
        rw [h2] at hn
        exact stepM_ok hm h1 h2 (stepsM_ok hm h hn g)

/-! ### states that are written down -/
structure SnapM where
  frames : List (List (Nat × Value) × Nat)
  blocks : List (Nat × EvBlk)
  next : Nat
def loadFs {β : Type} : List (List (Nat × Value) × Nat) → (List (Tr Value × Nat) → Option β) → Option β
  | [], k => k []
  | (sl, n) :: l, k => loadF sl .leaf fun fr => loadFs l fun r => k ((fr, n) :: r)
def loadM {β : Type} (n : SnapM) (k : SttM → Option β) : Option β :=
  match n with
  | ⟨frames, blocks, next⟩ => loadFs frames fun frs => addDelta .leaf blocks fun h => k ⟨frs, ⟨h, next, big⟩⟩
def framesEq : List (Tr Value × Nat) → List (List (Nat × Value) × Nat) → Bool
  | [], [] => true
  | (fr, n) :: l, (sl, m) :: r => match Nat.beq n m && slotsEq fr sl with
    | true => framesEq l r
    | false => false
  | _, _ => false
def coversM (s : SttM) (n : SnapM) : Bool :=
  match s, n with
  | ⟨frs, heap, next, _⟩, ⟨frames, blocks, next'⟩ => framesEq frs frames && blocksIn heap blocks && Nat.ble next next'
inductive LoadFs : List (List (Nat × Value) × Nat) → List (Tr Value × Nat) → Prop
  | nil : LoadFs [] []
  | cons {sl : List (Nat × Value)} {n : Nat} {fr : Tr Value} {l : List (List (Nat × Value) × Nat)} {r : List (Tr Value × Nat)} : (∀ t v, fr.get t = some v → (t, v) ∈ sl) → LoadFs l r → LoadFs ((sl, n) :: l) ((fr, n) :: r)
theorem loadFs_spec {β : Type} : ∀ (l : List (List (Nat × Value) × Nat)) (k : List (Tr Value × Nat) → Option β) (r : β), loadFs l k = some r → ∃ frs, k frs = some r ∧ LoadFs l frs
  | [], k, r, h => ⟨[], h, .nil⟩
  | (sl, n) :: l, k, r, h => by
    rw [loadFs] at h
    obtain ⟨fr, h1, g1⟩ := loadF_some _ _ _ _ h
    obtain ⟨frs, h2, g2⟩ := loadFs_spec l _ r h1
    refine ⟨(fr, n) :: frs, h2, .cons (fun t v hv => ?_) g2⟩
    rcases g1 t v hv with h | h
    · rw [Tr.get_leaf] at h; cases h
    · exact h
def LoadsM (n : SnapM) (s : SttM) : Prop := LoadFs n.frames s.frs ∧ (∀ b x, s.mem.heap.get b = some x → (b, x) ∈ n.blocks) ∧ s.mem.next = n.next
theorem loadM_spec {β : Type} {n : SnapM} {k : SttM → Option β} {r : β} (h : loadM n k = some r) : ∃ s, k s = some r ∧ LoadsM n s := by
  obtain ⟨frames, blocks, next⟩ := n
  unfold loadM at h
  simp only at h
  obtain ⟨frs, h1, g1⟩ := loadFs_spec _ _ _ h
  obtain ⟨hp, h2, g2⟩ := addDelta_some _ _ _ _ h1
  refine ⟨_, h2, g1, fun b x hx => ?_, rfl⟩
  rcases g2 b x hx with h | h
  · rw [Tr.get_leaf] at h; cases h
  · exact h
theorem frames_weak {μ : Map} {nx nx' : Nat} (hn : nx ≤ nx') {b : Frame} {k : List Item} {cs : List Frame} : ∀ {frs frs' : List (Tr Value × Nat)} {frames : List (List (Nat × Value) × Nat)} {ps : Pos} {fs : List Frame}, framesEq frs frames = true → LoadFs frames frs' → FramesR μ nx b k cs frs ps fs → FramesR μ nx' b k cs frs' ps fs := by
  have one : ∀ {fr fr' : Tr Value} {n : Nat} {sl : List (Nat × Value)} {a : Act}, slotsEq fr sl = true → (∀ t v, fr'.get t = some v → (t, v) ∈ sl) → FrR μ nx fr n a → FrR μ nx' fr' n a := fun hs hl hF =>
    ⟨hF.defers, hF.size, fun t v hv => (hF.get t v (slotsEq_get hs t v (hl t v hv))).mono hn fun _ _ => rfl, hF.glob, Nat.le_trans hF.big hn⟩
  intro frs frs' frames ps fs he hl hR
  induction hR generalizing frs' frames with
  | last hF =>
    cases hl with
    | nil => simp [framesEq] at he
    | cons h1 h2 =>
      rw [framesEq] at he
      split at he
      rotate_left
      · cases he
      rename_i hc
      rw [Bool.and_eq_true, Nat.beq_eq] at hc
      obtain ⟨rfl, hs⟩ := hc
      cases h2 with
      | nil => exact .last (one hs h1 hF)
      | cons _ _ => simp [framesEq] at he
  | more hF g1 g2 t ih =>
    cases hl with
    | nil => simp [framesEq] at he
    | cons h1 h2 =>
      rw [framesEq] at he
      split at he
      rotate_left
      · cases he
      rename_i hc
      rw [Bool.and_eq_true, Nat.beq_eq] at hc
      obtain ⟨rfl, hs⟩ := hc
      exact .more (one hs h1 hF) g1 g2 (ih he h2)
theorem SafeM.weak {P : Program} {W : World} {Q : Exit → Act → World → Prop} {ps : Pos} {s s0 : SttM} {n : SnapM} (hc : coversM s n = true) (hl : LoadsM n s0) (g : SafeM P W Q ps s0) : SafeM P W Q ps s := by
  obtain ⟨frs, heap, next, low⟩ := s
  obtain ⟨frames, blocks, next'⟩ := n
  simp only [coversM, Bool.and_eq_true, Nat.ble_eq] at hc
  obtain ⟨⟨c1, c3⟩, c4⟩ := hc
  obtain ⟨l1, l3, l4⟩ := hl
  simp only at l1 l3 l4
  have hb : ∀ b x, s0.mem.heap.get b = some x → heap.get b = some x := fun b x hx => blocksIn_get c3 b x (l3 b x hx)
  have hnx : next ≤ s0.mem.next := by omega
  intro b k cs μ w F fs hT hFs
  obtain ⟨hR, hB, hO⟩ := hT
  simp only at hR hO hFs
  refine g b k cs μ w F fs ⟨⟨fun b x hx => Nat.lt_of_lt_of_le (hR.lt b x (hb b x hx)) hnx, fun b x hx i v hv => ?_, fun b x hx => hR.fits b x (hb b x hx), fun b x hx => hR.inb b x (hb b x hx), fun b x hx => hR.es b x (hb b x hx), fun b x hx => hR.there b x (hb b x hx), fun b x b' x' hx hx' => hR.apart b x b' x' (hb b x hx) (hb b' x' hx')⟩, hB, fun b x hx => hO b x (hb b x hx)⟩ (frames_weak hnx c1 l1 hFs)
  obtain ⟨v', e, hv'⟩ := hR.cells b x (hb b x hx) i v hv
  exact ⟨v', e, hv'.mono hnx fun _ _ => rfl⟩

def chunkM (P : Program) (fuel : Nat) (ds : List DirM) (ps : Option Pos) (n n' : SnapM) : Bool :=
  match ps with
  | none => false
  | some k => match loadM n fun s => match stepsM P fuel ds k s with
      | some s' => match navsM P ds k with
        | some _ => match coversM s' n' with
          | true => some ()
          | false => none
        | none => none
      | none => none with
    | some _ => true
    | none => false
def thenNavsM (P : Program) (ds : List DirM) (ps : Option Pos) : Option Pos := match ps with
  | none => none
  | some k => navsM P ds k
def SafeN (P : Program) (W : World) (Q : Exit → Act → World → Prop) (ps : Option Pos) (n : SnapM) : Prop :=
  ∀ ps', ps = some ps' → ∀ s, coversM s n = true → SafeM P W Q ps' s
theorem chunkM_ok {P : Program} [ExtOk P] (hm : P.follows .mixedOrders = true) {fuel : Nat} {W : World} {Q : Exit → Act → World → Prop} {ds : List DirM} {ps : Option Pos} {n n' : SnapM} (h : chunkM P fuel ds ps n n' = true)
    (g : SafeN P W Q (thenNavsM P ds ps) n') : SafeN P W Q ps n := by
  intro k hk s hc
  subst hk
  unfold chunkM at h
  simp only at h
  split at h
  rotate_left
  · simp at h
  rename_i u hu
  obtain ⟨s0, h1, hl⟩ := loadM_spec hu
  split at h1
  rotate_left
  · simp at h1
  rename_i s' hs
  split at h1
  rotate_left
  · simp at h1
  rename_i k' hn
  split at h1
  rotate_left
  · simp at h1
  rename_i hc'
  exact SafeM.weak hc hl (stepsM_ok hm hs hn (g k' hn s' hc'))

/-- the end: the function's result -/
def lastM (P : Program) (fuel : Nat) (rs : List ResultVar) (ps : Option Pos) (n : SnapM) (v : Value) : Bool :=
  match ps with
  | some [(_, .code c :: _)] => match loadM n fun s => match s with
      | ⟨[(fr, q)], mem⟩ => match ev P fuel (.code c) ⟨fr, q, mem⟩ with
        | some (.ret, s) => match resVals P s rs with
          | some [u] => match flat1 u && eqV 2 u v with
            | true => some ()
            | false => none
          | _ => none
        | _ => none
      | _ => none with
    | some _ => true
    | none => false
  | _ => false
theorem lastM_ok {P : Program} [ExtOk P] (hm : P.follows .mixedOrders = true) {fuel : Nat} {W : World} {fn : Func} {ps : Option Pos} {n : SnapM} {v : Value} (h : lastM P fuel fn.results.toList ps n v = true) : SafeN P W (Ends P W fn v) ps n := by
  intro k hk s hc
  subst hk
  unfold lastM at h
  split at h
  rotate_left
  · simp at h
  rename_i f c k0 hk
  obtain rfl := Option.some.inj hk
  split at h
  rotate_left
  · simp at h
  rename_i u hu
  obtain ⟨s0, h1, hl⟩ := loadM_spec hu
  split at h1
  rotate_left
  · simp at h1
  rename_i fr q mem
  split at h1
  rotate_left
  · simp at h1
  rename_i s1 hev
  split at h1
  rotate_left
  · simp at h1
  rename_i u2 hres
  split at h1
  rotate_left
  · simp at h1
  rename_i hc2
  rw [Bool.and_eq_true] at hc2
  obtain rfl := eqV_eq _ _ _ hc2.2
  refine SafeM.weak hc hl ?_
  intro b kk cs μ w F fs hT hFs
  rcases FramesR.inv hFs with ⟨a, _, _, hF, rfl, rfl⟩ | ⟨a, b', rfl, hF, g1, g2, t⟩
  rotate_left
  · cases t
  obtain ⟨e, a1, w1, ⟨he, μ1, hok, hF1⟩, harr⟩ := ev_ok hm fuel _ _ _ _ hev μ mem w μ w a (.refl hT.rep) hF b (k0 ++ kk) fs
  obtain rfl : e = .ret := he
  obtain ⟨l', hrun, hvl⟩ := res_ok (P := P) hok.rep hF1 _ _ hres
  refine ⟨.ret, a1, w1, ⟨rfl, hF1.defers, ?_, (hT.step hok).below⟩, harr⟩
  rw [results_eq, Array.mapM_eq_mapM_toList]
  cases hvl with
  | cons h1 h2 =>
    cases h2
    obtain rfl := h1.same1 hc2.1
    simp only [Sem.run_bind, Sem.run_map, hrun, Result.andThen_ok, Sem.run_pure]
    rfl
def ofSnap (n : Snap) : SnapM := ⟨[(n.slots, n.size)], n.blocks, n.next⟩
def startsM (n : Snap) : Bool := match loadS n fun s => match coversM ⟨[(s.fr, s.size)], s.mem⟩ (ofSnap n) with
    | true => some ()
    | false => none with
  | some _ => true
  | none => false
/-- the beginning -/
theorem startM_ok {P : Program} {W : World} {Q : Exit → Act → World → Prop} {f : FuncId} {todo : List Item} {n : Snap} (h : startsM n = true) (g : SafeN P W Q (some [(f, todo)]) (ofSnap n)) : SafeW P W Q (some todo) n := by
  intro k hk b kk cs μ w a hH
  obtain rfl := Option.some.inj hk
  unfold startsM at h
  split at h
  rotate_left
  · simp at h
  rename_i u hu
  obtain ⟨s, h1, hl⟩ := loadS_spec hu
  split at h1
  rotate_left
  · simp at h1
  rename_i hc
  have hHs := hH s hl
  exact g _ rfl _ hc b kk cs μ w _ _ hHs.1 (.last hHs.2)
end
end Go.Proofs.YtloolljoelngcaaGreat
