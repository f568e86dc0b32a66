/-
  A closed call in pieces, with maps: the directions. No program in sight.
-/
import Derived.Test.YtloolljoelngcaaGreatCo2
set_option linter.unusedVariables false
namespace Go.Proofs.YtloolljoelngcaaGreat
open Go.RowKit
noncomputable section
theorem objOp_ok {P : Program} {W : World} {μ : Map} {m : Mem} {w : World} {os : Objs} {o : Oper} {a : Act} {fr : Tr Value} {n : Nat} (hT : Top W μ m w) (hi : ObjsR os W μ m w) (hF : FrR μ m.next fr n a) {eff : EffO} (h : objOp P fr m os o = some eff) : DidO P W μ m w os o a eff := by
  unfold objOp at h
  split at h
  · rename_i t r ho
    split at h
    · exact makeO_ok hT hi ho h
    · cases h
  · rename_i t x k ok ho; exact lookO_ok hT hi hF ho h
  · rename_i t x k v ho; exact putO_ok hT hi hF ho h
  · rename_i t x ho; exact rangeO_ok hT hi hF ho h
  · rename_i x s ho
    split at h
    · exact nextO_ok hT hi hF ho h
    · cases h
  · rename_i x ho; exact entryO_ok hT hi hF ho h
  · rename_i c ho
    split at h
    · rename_i b hc
      split at h
      · split at h
        · rename_i x k t tk h1 h2
          exact dropO_ok hT hi hF ho hc h1 h2 h
        · cases h
      · cases h
    · cases h
  · cases h

/-- what an operation on a map makes of the frame on top -/
def putEff (fr : Tr Value) (n : Nat) (o : Oper) : EffO → Option (Stt × Objs)
  | .val v m os => match Stt.put ⟨fr, n, m⟩ o.dst v m some with
    | some s => some (s, os)
    | none => none
  | .unit m os => match Stt.put ⟨fr, n, m⟩ o.dst undef m some with
    | some s => some (s, os)
    | none => none
def mopE (P : Program) (ops : Array Oper) (o : Oper) (fr : Tr Value) (n : Nat) (m : Mem) (os : Objs) : Option (Stt × Objs) := match wantedE ops o fr with
  | some true => match objOp P fr m os o with
    | some eff => putEff fr n o eff
    | none => none
  | _ => none
theorem mopE_ok {P : Program} [ExtOk P] {W : World} {μ : Map} {m m' : Mem} {w : World} {os os' : Objs} {ops : Array Oper} {i : Nat} {o : Oper} {a : Act} {fr fr' : Tr Value} {n n' : Nat} (hT : Top W μ m w) (hi : ObjsR os W μ m w) (hF : FrR μ m.next fr n a)
    (ho : ops[i]? = some o) (h : mopE P ops o fr n m os = some (⟨fr', n', m'⟩, os')) (l : List Nat) (b : Frame) (k : List Item) (cs : List Frame) :
    ∃ μ' w' a', OStep W μ m w os μ' m' w' os' ∧ FrR μ' m'.next fr' n' a' ∧ Steps P (lone (b.at a (.inRegion ops (i :: l) :: k)) cs w) (lone (b.at a' (.inRegion ops l :: k)) cs w') := by
  unfold mopE at h
  split at h
  rotate_left
  · cases h
  rename_i hwe
  have hw := wanted_eq (ops := ops) hF o true hwe
  split at h
  rotate_left
  · cases h
  rename_i eff he
  have hd := objOp_ok (o := o) hT hi hF he
  have go : ∀ v' w', ((execOp a.eval o).run P w = .ok (.value v') w' ∨ ((execOp a.eval o).run P w = .ok .skip w' ∧ v' = undef)) → Steps P (lone (b.at a (.inRegion ops (i :: l) :: k)) cs w) (lone (b.at (a.put o.dst v') (.inRegion ops l :: k)) cs w') := by
    intro v' w' hrun
    have hwp : wpOps P ops (fun e a' w1 => e = .normal ∧ a' = a.put o.dst v' ∧ w1 = w') [i] a w := by
      simp only [wpOps, ho, hw, if_true]
      refine .inl ?_
      unfold Oper.wp
      rcases hrun with hrun | ⟨hrun, rfl⟩ <;> rw [hrun] <;> first | exact ⟨rfl, rfl, rfl⟩ | exact ⟨trivial, rfl, rfl⟩
    obtain ⟨a1, w1, ⟨_, rfl, rfl⟩, hs⟩ := wp_part (fun e a w hp => hp.1) l [i] a w hwp b k cs
    exact hs
  cases eff with
  | val v m1 os1 =>
    obtain ⟨μ', w', v', hrun, hst, hv⟩ := hd
    simp only [putEff] at h
    split at h
    rotate_left
    · cases h
    rename_i s hput
    simp only [Option.some.injEq, Prod.mk.injEq] at h
    obtain ⟨rfl, rfl⟩ := h
    obtain ⟨fr2, e, hF2⟩ := put_ok hput (hF.far hst.go.next hst.go.mu) hv
    simp only [Option.some.injEq, Stt.mk.injEq] at e
    obtain ⟨rfl, rfl, rfl⟩ := e
    exact ⟨μ', w', _, hst, hF2, go v' w' (.inl hrun)⟩
  | unit m1 os1 =>
    obtain ⟨μ', w', hrun, hst⟩ := hd
    simp only [putEff] at h
    split at h
    rotate_left
    · cases h
    rename_i s hput
    simp only [Option.some.injEq, Prod.mk.injEq] at h
    obtain ⟨rfl, rfl⟩ := h
    obtain ⟨fr2, e, hF2⟩ := put_ok hput (hF.far hst.go.next hst.go.mu) .undef
    simp only [Option.some.injEq, Stt.mk.injEq] at e
    obtain ⟨rfl, rfl, rfl⟩ := e
    exact ⟨μ', w', _, hst, hF2, go undef w' (.inr ⟨hrun, rfl⟩)⟩
end
end Go.Proofs.YtloolljoelngcaaGreat
