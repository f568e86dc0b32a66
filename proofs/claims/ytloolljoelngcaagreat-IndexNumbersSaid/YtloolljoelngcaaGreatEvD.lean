/-
  The evaluator's operations beside the model's, more of them.
-/
import Derived.Test.YtloolljoelngcaaGreatEvC
set_option linter.unusedVariables false
namespace Go.Proofs.YtloolljoelngcaaGreat
open Go.RowKit
section
variable {P : Program} {μ : Map} {m : Mem} {w : World} {fr : Tr Value} {n : Nat} {a : Act} {o : Oper}

/-- what a plain value's relation leaves open, of each form -/
theorem VR.agg_inv {nx : Nat} {cs : List Value} {u : Value} (h : VR μ nx (.agg ⟨cs⟩) u) : ∃ cs', u = .agg ⟨cs'⟩ ∧ VRs μ nx cs cs' := by
  cases h with
  | flat hf => simp [flat1] at hf
  | agg h => exact ⟨_, rfl, h⟩
theorem VR.tuple_inv {nx : Nat} {cs : List Value} {u : Value} (h : VR μ nx (.tuple ⟨cs⟩) u) : ∃ cs', u = .tuple ⟨cs'⟩ ∧ VRs μ nx cs cs' := by
  cases h with
  | flat hf => simp [flat1] at hf
  | tuple h => exact ⟨_, rfl, h⟩
theorem VR.ptr_inv {nx : Nat} {p : Addr} {u : Value} (h : VR μ nx (.pointer (some p)) u) : ∃ b f, p = ⟨b, f, none⟩ ∧ b < nx ∧ u = .pointer (some ⟨(μ b).blk, (μ b).base + f, none⟩) := by
  cases h with
  | flat hf => simp [flat1] at hf
  | ptr h => exact ⟨_, _, rfl, h, rfl⟩
theorem VR.int_inv {nx : Nat} {k : IntKind} {z : Int} {u : Value} (h : VR μ nx (.int k z) u) : u = .int k z := h.same1 rfl
theorem VR.str_inv {nx : Nat} {s : ByteArray} {u : Value} (h : VR μ nx (.string s) u) : u = .string s := h.same1 rfl
theorem VR.bool_inv {nx : Nat} {s : Bool} {u : Value} (h : VR μ nx (.bool s) u) : u = .bool s := h.same1 rfl
theorem asN_inv {v : Value} {k : Nat} (h : asN v = some k) : ∃ i, v = .int i (k : Int) := by
  cases v with
  | int i z =>
    cases z with
    | ofNat q => simp [asN] at h; subst h; exact ⟨i, rfl⟩
    | negSucc q => simp [asN] at h
  | _ => simp [asN] at h

theorem part_ok {nx : Nat} {t : TypeId} {cs cs' : List Value} {f : Nat} {v : Value} (hv : VRs μ nx cs cs') (h : partOf P t cs f = some v) :
    ∃ v', (∀ w : World, (part t ⟨cs'⟩ f).run P w = .ok v' w) ∧ VR μ nx v v' := by
  unfold partOf at h
  cases hu : P.underlying t with
  | none => rw [hu] at h; simp at h
  | some d =>
    rw [hu] at h
    simp only at h
    have hagg : ∀ w : World, (isAgg t).run P w = .ok (isAggD d) w := fun w => run_isAgg hu
    cases hd : isAggD d with
    | true =>
      rw [hd] at h hagg
      simp only at h
      cases hz : szOf P t with
      | none => rw [hz] at h; simp at h
      | some z =>
        rw [hz] at h
        simp only at h
        cases ht : takeN z (dropN f cs) with
        | none => rw [ht] at h; simp at h
        | some l =>
          rw [ht] at h
          simp at h
          subst h
          rw [dropN_eq] at ht
          obtain ⟨rfl, hl⟩ := takeN_eq _ _ _ ht
          refine ⟨.agg ⟨(cs'.drop f).take z⟩, fun w => ?_, .agg ((hv.drop f).take z)⟩
          simp [part, hagg, run_sizeOf hz] <;> (apply Array.ext'; simp [List.take_drop, Nat.add_comm])
    | false =>
      rw [hd] at h hagg
      simp only at h
      rw [nth_eq] at h
      obtain ⟨v', e, hv'⟩ := hv.get f v h
      exact ⟨v', fun w => by simp [part, hagg, e], hv'⟩
theorem did_field {t : TypeId} {x : Operand} {f : Nat} (ho : o.op = .field t x f) (hF : FrR μ m.next fr n a) {cs : List Value} {fields : Array Field} {g : Field} {v : Value}
    (h : opd fr x = some (.agg ⟨cs⟩)) (hu : P.underlying t = some (.struct fields)) (hg : fields[f]? = some g) (hp : partOf P g.type cs g.offset = some v) : PDid P μ m.next o a v := by
  obtain ⟨cs', e, hv⟩ := (opd_ok hF h).agg_inv
  obtain ⟨v', hrun, hv'⟩ := part_ok (P := P) hv hp
  exact pdid (fun w => by simp [execOp, ho, Instr.field, run_under hu, hg, e, asAgg, hrun]) hv'
theorem did_index {t e : TypeId} {x y : Operand} (ho : o.op = .index t x y) (hF : FrR μ m.next fr n a) {cs : List Value} {u v : Value} {k i z : Nat}
    (h : opd fr x = some (.agg ⟨cs⟩)) (hi : opd fr y = some u) (hu : P.underlying t = some (.array k e)) (hin : asN u = some i) (hz : szOf P e = some z) (hlt : i < k) (hp : partOf P e cs (i * z) = some v) : PDid P μ m.next o a v := by
  obtain ⟨cs', e1, hv⟩ := (opd_ok hF h).agg_inv
  obtain ⟨ik, rfl⟩ := asN_inv hin
  have e2 := (opd_ok hF hi).int_inv
  obtain ⟨v', hrun, hv'⟩ := part_ok (P := P) hv hp
  exact pdid (fun w => by simp [execOp, ho, Instr.index, run_under hu, e1, e2, asIntOf, run_sizeOf hz, hlt, hrun]) hv'
theorem did_indexStr {t : TypeId} {x y : Operand} (ho : o.op = .index t x y) (hF : FrR μ m.next fr n a) {s : List UInt8} {u : Value} {b : UInt8} {i : Nat}
    (h : opd fr x = some (.string ⟨⟨s⟩⟩)) (hi : opd fr y = some u) (hu : P.underlying t = some .string) (hin : asN u = some i) (hb : nthB i s = some b) : PDid P μ m.next o a (.int .u8 (.ofNat b.toNat)) := by
  have e1 := (opd_ok hF h).str_inv
  obtain ⟨ik, rfl⟩ := asN_inv hin
  have e2 := (opd_ok hF hi).int_inv
  rw [nthB_eq] at hb
  refine pdid (v' := .int .u8 b.toNat) (fun w => ?_) (.flat rfl)
  have hg : (⟨⟨s⟩⟩ : ByteArray)[i]? = some b := by
    obtain ⟨hl, e⟩ := List.getElem?_eq_some_iff.1 hb
    have hl' : i < (⟨⟨s⟩⟩ : ByteArray).size := hl
    rw [getElem?_pos (⟨⟨s⟩⟩ : ByteArray) i hl']
    exact congrArg some e
  simp [execOp, ho, Instr.index, run_under hu, e1, e2, asIntOf, hg]
theorem did_fieldAddr {s : TypeId} {x : Operand} {f : Nat} (ho : o.op = .fieldAddr s x f) (hF : FrR μ m.next fr n a) {p : Addr} {fields : Array Field} {g : Field} {z : Nat}
    (h : opd fr x = some (.pointer (some p))) (hu : P.underlying s = some (.struct fields)) (hg : fields[f]? = some g) (hz : szOf P g.type = some (z + 1)) : PDid P μ m.next o a (.pointer (some (addTo p g.offset))) := by
  obtain ⟨b, q, rfl, hb, e⟩ := (opd_ok hF h).ptr_inv
  rw [addTo_none]
  have := VR.ptr (μ := μ) (nx := m.next) (b := b) (o := q + g.offset) hb
  refine pdid (fun w => ?_) this
  simp [execOp, ho, Instr.fieldAt, run_under hu, hg, e, Instr.sureAddr, fieldPlace, run_sizeOf hz, add_none, Nat.add_assoc]
theorem did_indexAddrP {t e : TypeId} {x y : Operand} (ho : o.op = .indexAddr t x y) (hF : FrR μ m.next fr n a) {p : Addr} {u : Value} {k i z : Nat}
    (h : opd fr x = some (.pointer (some p))) (hi : opd fr y = some u) (hu : P.underlying t = some (.array k e)) (hin : asN u = some i) (hz : szOf P e = some z) (hlt : i < k) : PDid P μ m.next o a (.pointer (some (addTo p (i * z)))) := by
  obtain ⟨b, q, rfl, hb, e1⟩ := (opd_ok hF h).ptr_inv
  obtain ⟨ik, rfl⟩ := asN_inv hin
  have e2 := (opd_ok hF hi).int_inv
  rw [addTo_none]
  have := VR.ptr (μ := μ) (nx := m.next) (b := b) (o := q + i * z) hb
  refine pdid (fun w => ?_) this
  simp [execOp, ho, Instr.indexAt, run_under hu, e1, e2, asIntOf, Instr.sureAddr, run_sizeOf hz, hlt, add_none, Nat.add_assoc]
theorem did_indexAddrS {t e : TypeId} {x y : Operand} (ho : o.op = .indexAddr t x y) (hF : FrR μ m.next fr n a) {p : Addr} {u : Value} {k c i z : Nat}
    (h : opd fr x = some (.slice (some p) k c)) (hi : opd fr y = some u) (hu : P.underlying t = some (.slice e)) (hin : asN u = some i) (hz : szOf P e = some z) (hlt : i < k) : PDid P μ m.next o a (.pointer (some (addTo p (i * z)))) := by
  obtain ⟨ik, rfl⟩ := asN_inv hin
  have e2 := (opd_ok hF hi).int_inv
  have hx := opd_ok hF h
  generalize he : a.eval x = v at hx
  cases hx with
  | flat hf => simp [flat1] at hf
  | nowhere => omega
  | slice hb hc =>
    rename_i b q
    rw [addTo_none]
    refine pdid (fun w => ?_) (VR.ptr (μ := μ) (nx := m.next) (b := b) (o := q + i * z) hb)
    simp [execOp, ho, Instr.indexAt, run_under hu, he, e2, asIntOf, run_sizeOf hz, hlt, add_none, Nat.add_assoc]
  | sliceAny hb hc hr =>
    rename_i b q _
    rw [addTo_none]
    refine pdid (fun w => ?_) (VR.ptr (μ := μ) (nx := m.next) (b := b) (o := q + i * z) hb)
    simp [execOp, ho, Instr.indexAt, run_under hu, he, e2, asIntOf, run_sizeOf hz, hlt, add_none, Nat.add_assoc]
theorem did_extract {x : Operand} {i : Nat} (ho : o.op = .extract x i) (hF : FrR μ m.next fr n a) {l : List Value} {v : Value} (h : opd fr x = some (.tuple ⟨l⟩)) (hv : nth i l = some v) : PDid P μ m.next o a v := by
  obtain ⟨l', e, hl⟩ := (opd_ok hF h).tuple_inv
  rw [nth_eq] at hv
  obtain ⟨v', e', hv'⟩ := hl.get i v hv
  exact pdid (fun w => by simp [execOp, ho, Instr.extract, e, e']) hv'
theorem did_makeFunc {f : FuncId} {first captured : Array Operand} (ho : o.op = .makeFunc (.func f) first captured) (hF : FrR μ m.next fr n a) {p q : List Value} (h1 : opds fr first.toList = some p) (h2 : opds fr captured.toList = some q) :
    PDid P μ m.next o a (.func (.func f) ⟨p⟩ ⟨q⟩) := by
  refine pdid (v' := .func (.func f) ⟨first.toList.map a.eval⟩ ⟨captured.toList.map a.eval⟩) (fun w => ?_) (.func (opds_ok hF h1) (opds_ok hF h2))
  simp [execOp, ho, Instr.makeFunc]
  exact ⟨by apply Array.ext'; simp, by apply Array.ext'; simp⟩

theorem did_binInt {op : BinOp} {t yt : TypeId} {x y : Operand} (ho : o.op = .binOp op t x y yt) (hF : FrR μ m.next fr n a) {k k2 : IntKind} {p q : Int} {v : Value}
    (h1 : opd fr x = some (.int k p)) (h2 : opd fr y = some (.int k2 q)) (h : pureRun P (Go.binOp op t (.int k p) (.int k2 q)) = some v) (hf : flatV v = true) : PDid P μ m.next o a v := by
  have e1 := (opd_ok hF h1).int_inv
  have e2 := (opd_ok hF h2).int_inv
  have hg : ∀ w : World, (eqGuard op t x y (.int k p) (.int k2 q)).run P w = .ok () w := fun w => by
    unfold eqGuard
    split <;> simp
  exact pdid (fun w => by simp [execOp, ho, e1, e2, hg, pureRun_run P _ _ h w]) (.of_flatV hf)
theorem VR.slice_inv {nx : Nat} {p : Option Addr} {k c : Nat} {u : Value} (h : VR μ nx (.slice p k c) u) : ∃ p' c', u = .slice p' k c' ∧ p'.isNone = p.isNone := by
  cases h with
  | flat hf => exact ⟨_, _, rfl, rfl⟩
  | slice _ _ => exact ⟨_, _, rfl, rfl⟩
  | sliceAny _ _ _ => exact ⟨_, _, rfl, rfl⟩
  | nowhere => exact ⟨_, _, rfl, rfl⟩
theorem VR.pointer_inv {nx : Nat} {p : Option Addr} {u : Value} (h : VR μ nx (.pointer p) u) : ∃ p', u = .pointer p' ∧ p'.isNone = p.isNone := by
  cases h with
  | flat hf => exact ⟨_, rfl, rfl⟩
  | ptr _ => exact ⟨_, rfl, rfl⟩
theorem VR.iface_inv {nx : Nat} {t : TypeId} {v u : Value} (h : VR μ nx (.iface t v) u) : ∃ v', u = .iface t v' := by
  cases h with
  | flat hf => exact ⟨_, rfl⟩
  | iface h => exact ⟨_, rfl⟩
theorem VR.func_inv {nx : Nat} {f : Fn} {p q : Array Value} {u : Value} (h : VR μ nx (.func f p q) u) : ∃ f' p' q', u = .func f' p' q' := by
  cases h with
  | flat hf => exact ⟨_, _, _, rfl⟩
  | func _ _ => exact ⟨_, _, _, rfl⟩
theorem equal_10000 (t : TypeId) (u v : Value) : Op.equal t u v = Op.equalIn (9999 + 1) t u v := rfl
theorem eq_slice {t e : TypeId} (hd : P.underlying t = some (.slice e)) (p p' : Option Addr) (k c k' c' : Nat) (h : p = none ∨ p' = none) : (Op.equal t (.slice p k c) (.slice p' k' c')).run P w = .ok (p.isNone && p'.isNone) w := by
  rw [equal_10000, Op.equalIn]
  rcases h with rfl | rfl
  · simp [run_under hd]
  · cases p <;> simp [run_under hd]
theorem eq_ptr {t e : TypeId} (hd : P.underlying t = some (.pointer e)) (p p' : Option Addr) (h : p = none ∨ p' = none) : (Op.equal t (.pointer p) (.pointer p')).run P w = .ok (p.isNone && p'.isNone) w := by
  rw [equal_10000, Op.equalIn]
  rcases h with rfl | rfl
  · simp [run_under hd]
  · cases p <;> simp [run_under hd]
theorem none_of {p : Option Addr} (h : p.isNone = true) : p = none := by simpa using h
theorem nilEq_run {nx : Nat} {t : TypeId} {d : TypeDesc} {u v u' v' : Value} {q : Bool} (hd : P.underlying t = some d) (h : nilEq d u v = some q) (hu : VR μ nx u u') (hv : VR μ nx v v') :
    (Op.equal t u' v').run P w = .ok q w ∧ ∀ x y, (eqGuard .eql t x y u' v').run P w = .ok () w ∧ (eqGuard .neq t x y u' v').run P w = .ok () w ∧
      Go.binOp .eql t u' v' = (do pure (.bool (← Op.equal t u' v'))) ∧ Go.binOp .neq t u' v' = (do pure (.bool (!(← Op.equal t u' v')))) := by
  unfold nilEq at h
  split at h
  · split at h
    · obtain ⟨p1, c1, rfl, e1⟩ := hu.slice_inv
      obtain ⟨p2, c2, rfl, e2⟩ := hv.slice_inv
      obtain rfl := none_of e1
      simp only [Option.some.injEq] at h
      subst h
      exact ⟨by rw [eq_slice hd _ _ _ _ _ _ (.inl rfl), e2]; rfl, fun x y => ⟨by simp [eqGuard], by simp [eqGuard], rfl, rfl⟩⟩
    · obtain ⟨p1, c1, rfl, e1⟩ := hu.slice_inv
      obtain ⟨p2, c2, rfl, e2⟩ := hv.slice_inv
      obtain rfl := none_of e2
      simp only [Option.some.injEq] at h
      subst h
      rename_i hno
      have e3 : p1.isNone = false := by
        rw [e1]
        cases hp : Option.isNone _ with
        | false => rfl
        | true => obtain rfl := none_of hp; first | exact (hno rfl).elim | exact (hno _ rfl).elim | simp at hno
      exact ⟨by rw [eq_slice hd _ _ _ _ _ _ (.inr rfl), e3]; rfl, fun x y => ⟨by simp [eqGuard], by simp [eqGuard], rfl, rfl⟩⟩
    · simp at h
  · split at h
    · obtain ⟨p1, rfl, e1⟩ := hu.pointer_inv
      obtain ⟨p2, rfl, e2⟩ := hv.pointer_inv
      obtain rfl := none_of e1
      simp only [Option.some.injEq] at h
      subst h
      exact ⟨by rw [eq_ptr hd _ _ (.inl rfl), e2]; rfl, fun x y => ⟨by simp [eqGuard], by simp [eqGuard], rfl, rfl⟩⟩
    · obtain ⟨p1, rfl, e1⟩ := hu.pointer_inv
      obtain ⟨p2, rfl, e2⟩ := hv.pointer_inv
      obtain rfl := none_of e2
      simp only [Option.some.injEq] at h
      subst h
      rename_i hno
      have e3 : p1.isNone = false := by
        rw [e1]
        cases hp : Option.isNone _ with
        | false => rfl
        | true => obtain rfl := none_of hp; first | exact (hno rfl).elim | exact (hno _ rfl).elim | simp at hno
      exact ⟨by rw [eq_ptr hd _ _ (.inr rfl), e3]; rfl, fun x y => ⟨by simp [eqGuard], by simp [eqGuard], rfl, rfl⟩⟩
    · simp at h
  · split at h
    · have e1 := hu.same1 rfl
      subst e1
      obtain ⟨v', rfl⟩ := hv.iface_inv
      simp only [Option.some.injEq] at h
      subst h
      exact ⟨by rw [equal_10000, Op.equalIn]; simp [run_under hd], fun x y => ⟨by simp [eqGuard], by simp [eqGuard], rfl, rfl⟩⟩
    · have e1 := hv.same1 rfl
      subst e1
      obtain ⟨v', rfl⟩ := hu.iface_inv
      simp only [Option.some.injEq] at h
      subst h
      exact ⟨by rw [equal_10000, Op.equalIn]; simp [run_under hd], fun x y => ⟨by simp [eqGuard], by simp [eqGuard], rfl, rfl⟩⟩
    · simp at h
  · split at h
    · have e1 := hu.same1 rfl
      have e2 := hv.same1 rfl
      subst e1 e2
      simp only [Option.some.injEq] at h
      subst h
      exact ⟨by rw [equal_10000, Op.equalIn]; simp [run_under hd], fun x y => ⟨by simp [eqGuard], by simp [eqGuard], rfl, rfl⟩⟩
    · have e1 := hu.same1 rfl
      subst e1
      obtain ⟨f', p', q', rfl⟩ := hv.func_inv
      simp only [Option.some.injEq] at h
      subst h
      exact ⟨by rw [equal_10000, Op.equalIn]; simp [run_under hd], fun x y => ⟨by simp [eqGuard], by simp [eqGuard], rfl, rfl⟩⟩
    · have e1 := hv.same1 rfl
      subst e1
      obtain ⟨f', p', q', rfl⟩ := hu.func_inv
      simp only [Option.some.injEq] at h
      subst h
      exact ⟨by rw [equal_10000, Op.equalIn]; simp [run_under hd], fun x y => ⟨by simp [eqGuard], by simp [eqGuard], rfl, rfl⟩⟩
    · simp at h
  · simp at h
end
end Go.Proofs.YtloolljoelngcaaGreat
