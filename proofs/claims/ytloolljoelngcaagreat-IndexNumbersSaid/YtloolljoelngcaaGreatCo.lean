/-
  What the operations on maps do, beside the evaluator's memory; each of them as a step of the machine. No program in sight.
-/
import Derived.Test.YtloolljoelngcaaGreatCn
import Derived.ChangeMaps5
set_option linter.unusedVariables false
namespace Go.Proofs.YtloolljoelngcaaGreat
open Go.RowKit
noncomputable section
variable {ro : Nat} {M0 : Map}

section
variable {P : Program} {w : World} {t kt e : TypeId} {r clock : Nat} {es : Array MapEntry} {s : ByteArray}
theorem run_look {j : Nat} {v : Value} (ok : Bool) (hm : P.underlying t = some (.map kt e)) (hk : P.underlying kt = some .string) (hb : w.heap[r]? = some (.map es clock)) (hf : Instr.findNow .string (.string s) es.toList 0 = some (some (j, v))) :
    (Instr.lookup t (.map (some r)) (.string s) ok).run P w = .ok (if ok then .tuple #[v, .bool true] else v) w := by
  have hc : (Instr.checkKey es.isEmpty 10000 kt (.string s)).run P w = .ok () w := MapKept.run_checkKey (k := .string s) hk (by simp [MapKept.IsKey]) _ 9999
  simp [Instr.lookup, run_underlying hm, MapKept.run_getObj_map hb, hc, MapKept.run_findKey hk hf, Result.andThen]
theorem run_lookNone {z : Value} (ok : Bool) (hm : P.underlying t = some (.map kt e)) (hk : P.underlying kt = some .string) (hb : w.heap[r]? = some (.map es clock)) (hf : Instr.findNow .string (.string s) es.toList 0 = some none) (hz : (zeroValue e).run P w = .ok z w) :
    (Instr.lookup t (.map (some r)) (.string s) ok).run P w = .ok (if ok then .tuple #[z, .bool false] else z) w := by
  have hc : (Instr.checkKey es.isEmpty 10000 kt (.string s)).run P w = .ok () w := MapKept.run_checkKey (k := .string s) hk (by simp [MapKept.IsKey]) _ 9999
  simp [Instr.lookup, run_underlying hm, MapKept.run_getObj_map hb, hc, MapKept.run_findKey hk hf, hz, Result.andThen]
theorem run_put {val : Value} (hm : P.underlying t = some (.map kt e)) (hk : P.underlying kt = some .string) (hb : w.heap[r]? = some (.map es clock)) (hf : Instr.findNow .string (.string s) es.toList 0 = some none) :
    (Instr.mapUpdate t (.map (some r)) (.string s) val).run P w = .ok () { w with heap := w.heap.setIfInBounds r (.map (es.push { key := .string s, val := val, born := clock }) (clock + 1)) } := by
  have hc : (Instr.checkKey false 10000 kt (.string s)).run P w = .ok () w := MapKept.run_checkKey (k := .string s) hk (by simp [MapKept.IsKey]) false 9999
  simp [Instr.mapUpdate, run_underlying hm, MapKept.run_getObj_map hb, hc, MapKept.run_findKey hk hf, MapKept.run_setObj_map _ hb, Result.andThen]
theorem run_turn {val v : Value} {j : Nat} {x : MapEntry} (hm : P.underlying t = some (.map kt e)) (hk : P.underlying kt = some .string) (hb : w.heap[r]? = some (.map es clock)) (hf : Instr.findNow .string (.string s) es.toList 0 = some (some (j, v))) (hx : es.toList[j]? = some x) (hkey : x.key = .string s) :
    (Instr.mapUpdate t (.map (some r)) (.string s) val).run P w = .ok () { w with heap := w.heap.setIfInBounds r (.map (es.modify j fun y => { y with key := .string s, val := val }) clock) } := by
  have hc : (Instr.checkKey false 10000 kt (.string s)).run P w = .ok () w := MapKept.run_checkKey (k := .string s) hk (by simp [MapKept.IsKey]) false 9999
  have hj : es[j]? = some x := by simpa using hx
  have hst : (Instr.keyThatStays (.string s) (.string s)).run P w = .ok (.string s) w := MapKept.run_keyThatStays (d := .string) (by simp [MapKept.IsKey])
  simp [Instr.mapUpdate, run_underlying hm, MapKept.run_getObj_map hb, hc, MapKept.run_findKey hk hf, hj, hkey, hst, MapKept.run_setObj_map _ hb, Result.andThen]
theorem run_drop {v : Value} {j : Nat} {ty : TypeId} {tk : TypeId} (hm : P.underlying t = some (.map kt e)) (hk : P.underlying kt = some .string) (hb : w.heap[r]? = some (.map es clock)) (hf : Instr.findNow .string (.string s) es.toList 0 = some (some (j, v))) :
    (Builtin.delete_ #[t, tk] ty #[.map (some r), .string s]).run P w = .ok (.tuple #[]) { w with heap := w.heap.setIfInBounds r (.map (es.eraseIdxIfInBounds j) clock) } := by
  have hc : (Instr.checkKey es.isEmpty 10000 kt (.string s)).run P w = .ok () w := MapKept.run_checkKey (k := .string s) hk (by simp [MapKept.IsKey]) _ 9999
  simp [Builtin.delete_, run_underlying hm, MapKept.run_getObj_map hb, hc, MapKept.run_findKey hk hf, MapKept.run_setObj_map _ hb, Result.andThen]
theorem run_dropNone {ty : TypeId} {tk : TypeId} (hm : P.underlying t = some (.map kt e)) (hk : P.underlying kt = some .string) (hb : w.heap[r]? = some (.map es clock)) (hf : Instr.findNow .string (.string s) es.toList 0 = some none) :
    (Builtin.delete_ #[t, tk] ty #[.map (some r), .string s]).run P w = .ok (.tuple #[]) { w with heap := w.heap.setIfInBounds r (.map es clock) } := by
  have hc : (Instr.checkKey es.isEmpty 10000 kt (.string s)).run P w = .ok () w := MapKept.run_checkKey (k := .string s) hk (by simp [MapKept.IsKey]) _ 9999
  simp [Builtin.delete_, run_underlying hm, MapKept.run_getObj_map hb, hc, MapKept.run_findKey hk hf, MapKept.run_setObj_map _ hb, Result.andThen]
end
theorem VR.tok_inv {μ : Map} {nx : Nat} {i : Nat} {v' : Value} (h : VR μ nx (.chan (some i)) v') : v' = (μ i).sym := by
  cases h with
  | flat hf => simp [flat1] at hf
  | tok _ _ => rfl

/-! ### the operations -/
inductive EffO where
  | val (v : Value) (m : Mem) (os : Objs)
  | unit (m : Mem) (os : Objs)
def okTup (ok : Bool) (v : Value) (b : Bool) : Value := match ok with
  | true => .tuple ⟨[v, .bool b]⟩
  | false => v
def mapAt (fr : Tr Value) (os : Objs) (x : Operand) : Option (Nat × List EntE × Nat) := match opd fr x with
  | some (.chan (some i)) => match getO i os with
    | some (.map es c) => some (i, es, c)
    | _ => none
  | _ => none
def iterAt (fr : Tr Value) (os : Objs) (x : Operand) : Option (Nat × Nat × Nat × List Nat × Nat × List EntE × Nat) := match opd fr x with
  | some (.chan (some i)) => match getO i os with
    | some (.iter mi since seen st) => match getO mi os with
      | some (.map es c) => some (i, mi, since, seen, st, es, c)
      | _ => none
    | _ => none
  | _ => none
def strAt (fr : Tr Value) (x : Operand) : Option (List UInt8) := match opd fr x with
  | some (.string ⟨⟨l⟩⟩) => some l
  | _ => none
def leftE (seen : List Nat) : List EntE → List EntE
  | [] => []
  | e :: l => match seen.contains e.born with
    | true => leftE seen l
    | false => e :: leftE seen l
def allOld (since : Nat) : List EntE → Bool
  | [] => true
  | e :: l => Nat.blt e.born since && allOld since l
def unsnoc : List Nat → Option (List Nat × Nat)
  | [] => none
  | x :: l => match unsnoc l with
    | none => some ([], x)
    | some (p, y) => some (x :: p, y)
def findB (b : Nat) : List EntE → Option EntE
  | [] => none
  | e :: l => match Nat.beq e.born b with
    | true => some e
    | false => findB b l
def freshB : List EntE → Bool
  | [] => true
  | e :: l => (match findB e.born l with
    | none => true
    | some _ => false) && freshB l
def newO (m : Mem) (oe : ObjE) (os : Objs) : Option EffO := match m with
  | ⟨h, n, l⟩ => fNat (n + 1) fun n' => some (.val (.chan (some n)) ⟨h, n', l⟩ ((n, oe) :: os))
section
variable (P : Program)
def keyT (t : TypeId) : Option TypeId := match P.underlying t with
  | some (.map kt e) => match P.underlying kt with
    | some .string => some e
    | _ => none
  | _ => none
def zeroE (e : TypeId) : Option Value := match pureRun P (zeroValue e) with
  | some z => match flatV z with
    | true => some z
    | false => none
  | none => none
def lookO (fr : Tr Value) (m : Mem) (os : Objs) (t : TypeId) (x k : Operand) (ok : Bool) : Option EffO := match keyT P t with
  | some e => match mapAt fr os x with
    | some (i, es, c) => match strAt fr k with
      | some s => match findI s es 0 with
        | some (_, v) => some (.val (okTup ok v true) m os)
        | none => match zeroE P e with
          | some z => some (.val (okTup ok z false) m os)
          | none => none
      | none => none
    | none => none
  | none => none
def putO (ro : Nat) (fr : Tr Value) (m : Mem) (os : Objs) (t : TypeId) (x k v : Operand) : Option EffO := match keyT P t with
  | some e => match mapAt fr os x with
    | some (i, es, c) => match strAt fr k with
      | some s => match opd fr v with
        | some u => match Nat.ble ro i with
          | true => match findI s es 0 with
            | some (j, _) => some (.unit m (setO i (.map (modE s u j es) c) os))
            | none => fNat (c + 1) fun c' => some (.unit m (setO i (.map (joinE es ⟨s, u, c⟩) c') os))
          | false => none
        | none => none
      | none => none
    | none => none
  | none => none
def dropO (ro : Nat) (fr : Tr Value) (m : Mem) (os : Objs) (t : TypeId) (x k : Operand) : Option EffO := match keyT P t with
  | some e => match mapAt fr os x with
    | some (i, es, c) => match strAt fr k with
      | some s => match Nat.ble ro i with
        | true => match findI s es 0 with
          | some (j, _) => some (.val undef m (setO i (.map (dropE j es) c) os))
          | none => some (.val undef m (setO i (.map es c) os))
        | false => none
      | none => none
    | none => none
  | none => none
def rangeO (fr : Tr Value) (m : Mem) (os : Objs) (t : TypeId) (x : Operand) : Option EffO := match keyT P t with
  | some e => match mapAt fr os x with
    | some (i, es, c) => newO m (.iter i c [] c) os
    | none => none
  | none => none
def nextO (ro : Nat) (fr : Tr Value) (m : Mem) (os : Objs) (x : Operand) : Option EffO := match iterAt fr os x with
  | some (i, mi, since, seen, st, es, c) => match allOld since es && (Nat.ble since st && Nat.ble ro i) with
    | true => match leftE seen es with
      | [] => some (.val (.tuple ⟨[.bool false]⟩) m os)
      | [e] => some (.val (.tuple ⟨[.bool true, .string ⟨⟨e.key⟩⟩, e.val]⟩) m (setO i (.iter mi since (seen ++ [e.born]) c) os))
      | _ => none
    | false => none
  | none => none
def entryO (fr : Tr Value) (m : Mem) (os : Objs) (x : Operand) : Option EffO := match iterAt fr os x with
  | some (i, mi, since, seen, st, es, c) => match Nat.beq st c && freshB es with
    | true => match unsnoc seen with
      | some (p, b) => match findB b es with
        | some e => some (.val (.tuple ⟨[.string ⟨⟨e.key⟩⟩, e.val]⟩) m os)
        | none => none
      | none => none
    | false => none
  | none => none
def objOp (ro : Nat) (fr : Tr Value) (m : Mem) (os : Objs) (o : Oper) : Option EffO := match o.op with
  | .makeMap t r => match r with
    | none => newO m (.map [] 0) os
    | some _ => none
  | .lookup t x k ok => lookO P fr m os t x k ok
  | .mapUpdate t x k v => putO P ro fr m os t x k v
  | .range t x => rangeO P fr m os t x
  | .next x s => match s with
    | false => nextO ro fr m os x
    | true => none
  | .entry x => entryO fr m os x
  | .call c => match c.callee with
    | .builtin b => match b with
      | .delete => match c.args.toList, c.argTypes.toList with
        | [x, k], [t, _] => dropO P ro fr m os t x k
        | _, _ => none
      | _ => none
    | _ => none
  | _ => none
end
def DidO (ro : Nat) (M0 : Map) (P : Program) (W : World) (μ : Map) (m : Mem) (w : World) (os : Objs) (o : Oper) (a : Act) : EffO → Prop
  | .val v m' os' => ∃ μ' w' v', (execOp a.eval o).run P w = .ok (.value v') w' ∧ OStep ro M0 W μ m w os μ' m' w' os' ∧ VR μ' m'.next v v'
  | .unit m' os' => ∃ μ' w', (execOp a.eval o).run P w = .ok .skip w' ∧ OStep ro M0 W μ m w os μ' m' w' os'
section
variable {P : Program} {W : World} {μ : Map} {m : Mem} {w : World} {os : Objs} {o : Oper} {a : Act} {fr : Tr Value} {n : Nat}
theorem keyT_ok {t e : TypeId} (h : keyT P t = some e) : ∃ kt, P.underlying t = some (.map kt e) ∧ P.underlying kt = some .string := by
  unfold keyT at h
  split at h
  · rename_i kt e' hu
    split at h
    · rename_i hk
      obtain rfl := Option.some.inj h
      exact ⟨kt, hu, hk⟩
    · cases h
  · cases h
theorem zeroE_ok {e : TypeId} {z : Value} (h : zeroE P e = some z) : (∀ w, (zeroValue e).run P w = .ok z w) ∧ VR μ m.next z z := by
  unfold zeroE at h
  split at h
  · rename_i z' hp
    split at h
    · rename_i hf
      obtain rfl := Option.some.inj h
      exact ⟨pureRun_run P _ _ hp, .of_flatV hf⟩
    · cases h
  · cases h
theorem strAt_ok (hF : FrR μ m.next fr n a) {x : Operand} {s : List UInt8} (h : strAt fr x = some s) : a.eval x = .string ⟨⟨s⟩⟩ := by
  unfold strAt at h
  split at h
  · rename_i l ho
    obtain rfl := Option.some.inj h
    exact (opd_ok hF ho).str_inv
  · cases h
theorem mapAt_ok (hi : ObjsR ro M0 os W μ m w) (hF : FrR μ m.next fr n a) {x : Operand} {i c : Nat} {es : List EntE} (h : mapAt fr os x = some (i, es, c)) :
    (i, .map es c) ∈ os ∧ a.eval x = .map (some (μ i).blk) ∧ ∃ es' : Array MapEntry, w.heap[(μ i).blk]? = some (.map es' c) ∧ EntsR μ m.next es es'.toList := by
  unfold mapAt at h
  split at h
  · rename_i j ho
    split at h
    · rename_i es0 c0 hg
      simp only [Option.some.injEq, Prod.mk.injEq] at h
      obtain ⟨rfl, rfl, rfl⟩ := h
      have hm := getO_mem hg
      obtain ⟨h1, h2⟩ := hi.rel _ _ hm
      exact ⟨hm, (opd_ok hF ho).tok_inv.trans h1, h2⟩
    · cases h
  · cases h
theorem iterAt_ok (hi : ObjsR ro M0 os W μ m w) (hF : FrR μ m.next fr n a) {x : Operand} {i mi since st c : Nat} {seen : List Nat} {es : List EntE} (h : iterAt fr os x = some (i, mi, since, seen, st, es, c)) :
    (i, .iter mi since seen st) ∈ os ∧ a.eval x = .pointer (some ⟨(μ i).blk, 0, none⟩) ∧ (μ i).sym = .pointer (some ⟨(μ i).blk, 0, none⟩) ∧ mi < m.next ∧ w.heap[(μ i).blk]? = some (.mapIter (some (μ mi).blk) since ⟨seen⟩ st) ∧
      ∃ es' : Array MapEntry, w.heap[(μ mi).blk]? = some (.map es' c) ∧ EntsR μ m.next es es'.toList := by
  unfold iterAt at h
  split at h
  · rename_i j ho
    split at h
    · rename_i a1 a2 a3 a4 hg
      split at h
      · rename_i es0 c0 hg2
        simp only [Option.some.injEq, Prod.mk.injEq] at h
        obtain ⟨rfl, rfl, rfl, rfl, rfl, rfl, rfl⟩ := h
        have hm := getO_mem hg
        obtain ⟨h1, h2, h3⟩ := hi.rel _ _ hm
        exact ⟨hm, (opd_ok hF ho).tok_inv.trans h1, h1, h2, h3, (hi.rel _ _ (getO_mem hg2)).2⟩
      · cases h
    · cases h
  · cases h
theorem newO_ok (hT : Top W μ m w) (hi : ObjsR ro M0 os W μ m w) {ob : Obj} {oe : ObjE} {sym : Value} {eff : EffO} (h : newO m oe os = some eff) (hs : Go.Proofs.YtloolljoelngcaaGreat.oneC sym = true)
    (hr : ObjR (newL μ m w sym) (m.next + 1) (w.alloc ob) m.next oe) (hrun : (execOp a.eval o).run P w = .ok (.value sym) (w.alloc ob)) : DidO ro M0 P W μ m w os o a eff := by
  obtain ⟨hp, nx, low⟩ := m
  simp only [newO, fNat_eq, Option.some.injEq] at h
  subst h
  have hsym : (newL μ ⟨hp, nx, low⟩ w sym nx).sym = sym := by unfold newL; rw [if_pos rfl]
  refine ⟨_, _, sym, hrun, .new hT hi ob sym hr, ?_⟩
  have := VR.tok (μ := newL μ ⟨hp, nx, low⟩ w sym) (nx := nx + 1) (i := nx) (Nat.lt_succ_self _) (by rw [hsym]; exact hs)
  rw [hsym] at this
  exact this
end
end
end Go.Proofs.YtloolljoelngcaaGreat
