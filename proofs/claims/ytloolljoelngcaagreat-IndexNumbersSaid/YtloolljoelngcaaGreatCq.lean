/-
  A closed call in pieces, with maps: the directions. No program in sight.
-/
import Derived.Test.YtloolljoelngcaaGreatCo2
set_option linter.unusedVariables false
namespace Go.Proofs.YtloolljoelngcaaGreat
open Go.RowKit
noncomputable section
variable {ro : Nat} {M0 : Map}
theorem objOp_ok {P : Program} {W : World} {μ : Map} {m : Mem} {w : World} {os : Objs} {o : Oper} {a : Act} {fr : Tr Value} {n : Nat} (hT : Top W μ m w) (hi : ObjsR ro M0 os W μ m w) (hF : FrR μ m.next fr n a) {eff : EffO} (h : objOp P ro fr m os o = some eff) : DidO ro M0 P W μ m w os o a eff := by
  unfold objOp at h
  split at h
  · rename_i t r ho
    split at h
    · exact makeO_ok hT hi ho h
    · cases h
  · rename_i t x k ok ho; exact lookO_ok hT hi hF ho h
  · rename_i t x k v ho; exact putO_ok hT hi hF ho h
  · rename_i t x ho; exact rangeO_ok hT hi hF ho h
  · rename_i x s ho
    split at h
    · exact nextO_ok hT hi hF ho h
    · cases h
  · rename_i x ho; exact entryO_ok hT hi hF ho h
  · rename_i c ho
    split at h
    · rename_i b hc
      split at h
      · split at h
        · rename_i x k t tk h1 h2
          exact dropO_ok hT hi hF ho hc h1 h2 h
        · cases h
      · cases h
    · cases h
  · cases h

/-- what an operation on a map makes of the frame on top -/
def putEff (fr : Tr Value) (n : Nat) (o : Oper) : EffO → Option (Stt × Objs)
  | .val v m os => match Stt.put ⟨fr, n, m⟩ o.dst v m some with
    | some s => some (s, os)
    | none => none
  | .unit m os => match Stt.put ⟨fr, n, m⟩ o.dst undef m some with
    | some s => some (s, os)
    | none => none
def mopE (P : Program) (ro : Nat) (ops : Array Oper) (o : Oper) (fr : Tr Value) (n : Nat) (m : Mem) (os : Objs) : Option (Stt × Objs) := match wantedE ops o fr with
  | some true => match objOp P ro fr m os o with
    | some eff => putEff fr n o eff
    | none => none
  | _ => none
/-- an operation whose effect is known is a step of the machine -/
theorem eff_ok {P : Program} [ExtOk P] {W : World} {μ : Map} {m m' : Mem} {w : World} {os os' : Objs} {ops : Array Oper} {i : Nat} {o : Oper} {a : Act} {fr fr' : Tr Value} {n n' : Nat} (hF : FrR μ m.next fr n a)
    (ho : ops[i]? = some o) (hw : Region.wanted o (yielded ops a.tmps) = true) {eff : EffO} (hd : DidO ro M0 P W μ m w os o a eff) (h : putEff fr n o eff = some (⟨fr', n', m'⟩, os')) (l : List Nat) (b : Frame) (k : List Item) (cs : List Frame) :
    ∃ μ' w' a', OStep ro M0 W μ m w os μ' m' w' os' ∧ FrR μ' m'.next fr' n' a' ∧ Steps P (lone (b.at a (.inRegion ops (i :: l) :: k)) cs w) (lone (b.at a' (.inRegion ops l :: k)) cs w') := by
  have go : ∀ v' w', ((execOp a.eval o).run P w = .ok (.value v') w' ∨ ((execOp a.eval o).run P w = .ok .skip w' ∧ v' = undef)) → Steps P (lone (b.at a (.inRegion ops (i :: l) :: k)) cs w) (lone (b.at (a.put o.dst v') (.inRegion ops l :: k)) cs w') := by
    intro v' w' hrun
    have hwp : wpOps P ops (fun e a' w1 => e = .normal ∧ a' = a.put o.dst v' ∧ w1 = w') [i] a w := by
      simp only [wpOps, ho, hw, if_true]
      refine .inl ?_
      unfold Oper.wp
      rcases hrun with hrun | ⟨hrun, rfl⟩ <;> rw [hrun] <;> first | exact ⟨rfl, rfl, rfl⟩ | exact ⟨trivial, rfl, rfl⟩
    obtain ⟨a1, w1, ⟨_, rfl, rfl⟩, hs⟩ := wp_part (fun e a w hp => hp.1) l [i] a w hwp b k cs
    exact hs
  cases eff with
  | val v m1 os1 =>
    obtain ⟨μ', w', v', hrun, hst, hv⟩ := hd
    simp only [putEff] at h
    split at h
    rotate_left
    · cases h
    rename_i s hput
    simp only [Option.some.injEq, Prod.mk.injEq] at h
    obtain ⟨rfl, rfl⟩ := h
    obtain ⟨fr2, e, hF2⟩ := put_ok hput (hF.far hst.go.next hst.go.mu) hv
    simp only [Option.some.injEq, Stt.mk.injEq] at e
    obtain ⟨rfl, rfl, rfl⟩ := e
    exact ⟨μ', w', _, hst, hF2, go v' w' (.inl hrun)⟩
  | unit m1 os1 =>
    obtain ⟨μ', w', hrun, hst⟩ := hd
    simp only [putEff] at h
    split at h
    rotate_left
    · cases h
    rename_i s hput
    simp only [Option.some.injEq, Prod.mk.injEq] at h
    obtain ⟨rfl, rfl⟩ := h
    obtain ⟨fr2, e, hF2⟩ := put_ok hput (hF.far hst.go.next hst.go.mu) .undef
    simp only [Option.some.injEq, Stt.mk.injEq] at e
    obtain ⟨rfl, rfl, rfl⟩ := e
    exact ⟨μ', w', _, hst, hF2, go undef w' (.inr ⟨hrun, rfl⟩)⟩
theorem mopE_ok {P : Program} [ExtOk P] {W : World} {μ : Map} {m m' : Mem} {w : World} {os os' : Objs} {ops : Array Oper} {i : Nat} {o : Oper} {a : Act} {fr fr' : Tr Value} {n n' : Nat} (hT : Top W μ m w) (hi : ObjsR ro M0 os W μ m w) (hF : FrR μ m.next fr n a)
    (ho : ops[i]? = some o) (h : mopE P ro ops o fr n m os = some (⟨fr', n', m'⟩, os')) (l : List Nat) (b : Frame) (k : List Item) (cs : List Frame) :
    ∃ μ' w' a', OStep ro M0 W μ m w os μ' m' w' os' ∧ FrR μ' m'.next fr' n' a' ∧ Steps P (lone (b.at a (.inRegion ops (i :: l) :: k)) cs w) (lone (b.at a' (.inRegion ops l :: k)) cs w') := by
  unfold mopE at h
  split at h
  rotate_left
  · cases h
  rename_i hwe
  split at h
  rotate_left
  · cases h
  rename_i eff he
  exact eff_ok hF ho (wanted_eq (ops := ops) hF o true hwe) (objOp_ok (o := o) hT hi hF he) h l b k cs

/-! ### `next` with two entries left: either may come -/
def nextTwo (ro : Nat) (fr : Tr Value) (m : Mem) (os : Objs) (o : Oper) : Option (EffO × EffO) := match o.op with
  | .next x s => match s with
    | true => none
    | false => match iterAt fr os x with
      | some (i, mi, since, seen, st, es, c) => match allOld since es && (Nat.ble since st && Nat.ble ro i) with
        | true => match leftE seen es with
          | [e1, e2] => some (.val (.tuple ⟨[.bool true, .string ⟨⟨e1.key⟩⟩, e1.val]⟩) m (setO i (.iter mi since (seen ++ [e1.born]) c) os), .val (.tuple ⟨[.bool true, .string ⟨⟨e2.key⟩⟩, e2.val]⟩) m (setO i (.iter mi since (seen ++ [e2.born]) c) os))
          | _ => none
        | false => none
      | none => none
  | _ => none
theorem nextTwo_ok {P : Program} {W : World} {μ : Map} {m : Mem} {w : World} {os : Objs} {o : Oper} {a : Act} {fr : Tr Value} {n : Nat} (hT : Top W μ m w) (hi : ObjsR ro M0 os W μ m w) (hF : FrR μ m.next fr n a) {f1 f2 : EffO} (h : nextTwo ro fr m os o = some (f1, f2)) :
    DidO ro M0 P W μ m w os o a f1 ∨ DidO ro M0 P W μ m w os o a f2 := by
  unfold nextTwo at h
  split at h
  rotate_left
  · cases h
  rename_i x s ho
  split at h
  · cases h
  split at h
  rotate_left
  · cases h
  rename_i i mi since seen st es c hx
  obtain ⟨hin, hev, hsym, hmi, hr, es', hb, hes⟩ := iterAt_ok hi hF hx
  split at h
  rotate_left
  · cases h
  rename_i hold
  rw [Bool.and_eq_true, Bool.and_eq_true, Nat.ble_eq, Nat.ble_eq] at hold
  have hrun : ∀ v' w', (Instr.next (.pointer (some ⟨(μ i).blk, 0, none⟩)) false o.type).run P w = .ok v' w' → (execOp a.eval o).run P w = .ok (.value v') w' := fun v' w' hr => by
    unfold execOp; rw [ho]; simp [hev, hr, Result.andThen]
  have hleft := hes.left (seen := seen)
  have hL : (leftOf es' ⟨seen⟩).toList = es'.toList.filter fun x => !(⟨seen⟩ : Array Nat).contains x.born := by unfold leftOf; rw [Array.toList_filter]
  rw [← hL] at hleft
  have hlt := (Array.getElem?_eq_some_iff.1 hr).1
  split at h
  rotate_left
  · cases h
  rename_i e1 e2 hE
  rw [hE] at hleft
  simp only [Option.some.injEq, Prod.mk.injEq] at h
  obtain ⟨rfl, rfl⟩ := h
  have two : ∃ y1 y2, (leftOf es' ⟨seen⟩).toList = [y1, y2] ∧ (y1.key = .string ⟨⟨e1.key⟩⟩ ∧ VR μ m.next e1.val y1.val ∧ y1.born = e1.born) ∧ (y2.key = .string ⟨⟨e2.key⟩⟩ ∧ VR μ m.next e2.val y2.val ∧ y2.born = e2.born) := by
    cases hq : (leftOf es' ⟨seen⟩).toList with
    | nil => rw [hq] at hleft; exact hleft.elim
    | cons y1 l =>
      rw [hq] at hleft
      cases l with
      | nil => exact hleft.2.elim
      | cons y2 l => cases l with
        | nil => exact ⟨y1, y2, rfl, hleft.1, hleft.2.1⟩
        | cons z l => exact hleft.2.2.elim
  obtain ⟨y1, y2, hq, q1, q2⟩ := two
  rcases run_next_at w o.type _ _ since st ⟨seen⟩ es' c hr hb (hes.old hold.1) hold.2.1 with ⟨h0, _⟩ | ⟨y, h1, w1, hw1, h2⟩
  · rw [← Array.length_toList, hq] at h0; cases h0
  · have fin : ∀ e : EntE, (y.key = .string ⟨⟨e.key⟩⟩ ∧ VR μ m.next e.val y.val ∧ y.born = e.born) → DidO ro M0 P W μ m w os o a (.val (.tuple ⟨[.bool true, .string ⟨⟨e.key⟩⟩, e.val]⟩) m (setO i (.iter mi since (seen ++ [e.born]) c) os)) := by
      rintro e ⟨g1, g2, g3⟩
      refine ⟨μ, _, _, hrun _ _ h2, .set hT hi hin hold.2.2 (o := .mapIter (some (μ mi).blk) since (Array.push ⟨seen⟩ y.born) c) ?_ ?_ ?_ ?_ ⟨hsym, hmi, ?_⟩, .tuple (.cons (.flat rfl) (.cons (by rw [g1]; exact .flat rfl) (.cons g2 .nil)))⟩
      · rcases hw1 with rfl | rfl <;> rfl
      · rcases hw1 with rfl | rfl <;> rfl
      · rcases hw1 with rfl | rfl <;> rfl
      · rcases hw1 with rfl | rfl <;> rfl
      · have : (ChangeMaps.setBlock w1 (μ i).blk (.mapIter (some (μ mi).blk) since (Array.push ⟨seen⟩ y.born) c)).heap = w.heap.setIfInBounds (μ i).blk (.mapIter (some (μ mi).blk) since (Array.push ⟨seen⟩ y.born) c) := by rcases hw1 with rfl | rfl <;> rfl
        rw [this, g3]
        simp [hlt]
    rw [hq] at h1
    rcases List.mem_cons.1 h1 with rfl | h1
    · exact .inl (fin e1 q1)
    · rw [List.mem_singleton] at h1
      subst h1
      exact .inr (fin e2 q2)
end
end Go.Proofs.YtloolljoelngcaaGreat
