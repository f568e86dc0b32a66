/-
  The evaluator's append and copy beside the model's.
-/
import Derived.Test.YtloolljoelngcaaGreatEvF
set_option linter.unusedVariables false
namespace Go.Proofs.YtloolljoelngcaaGreat
open Go.RowKit
section
variable {P : Program} {μ : Map} {m : Mem} {w : World} {fr : Tr Value} {n : Nat} {a : Act} {o : Oper}

theorem Rep.same {w' : World} (h : Rep μ m w) (hw : w'.heap = w.heap) : Rep μ m w' := by
  have hc : ∀ p, w'.cell? p = w.cell? p := fun p => by unfold World.cell?; rw [hw]
  exact ⟨h.lt, fun b x hx i v hv => by rw [hc]; exact h.cells b x hx i v hv, h.fits, fun b x hx => by rw [hw]; exact h.inb b x hx, h.es, fun b x hx ho => (h.there b x hx ho).at (by rw [hw]), h.apart⟩
theorem Ok.drawn {w' : World} (h : Rep μ m w) (hw : w'.heap = w.heap) (h1 : w'.os = w.os) (h2 : w'.tape = w.tape) (h3 : w'.output = w.output) : Ok μ m w μ m w' :=
  ⟨h.same hw, Nat.le_refl _, fun _ _ => rfl, fun _ _ => rfl, Nat.le_refl _, fun _ _ _ => rfl, fun b x' hx _ => ⟨x', hx, rfl⟩, fun b x' hx hb => absurd (h.lt b x' hx) (by omega), h1, h2, h3, by rw [hw]; exact Nat.le_refl _, fun _ _ _ => by rw [hw]⟩

/-! ### what is appended or copied -/
theorem bytes_first (z : Nat) (s : List UInt8) : (Builtin.firstCells z s.length (.string ⟨⟨s⟩⟩) : Sem (Array Value)).run P w = .ok ⟨bytesV s⟩ w := by
  have e : ((⟨⟨s⟩⟩ : ByteArray).extract 0 s.length) = ⟨⟨s⟩⟩ := by
    apply ByteArray.ext
    rw [ByteArray.data_extract]
    apply Array.ext'
    rw [Array.toList_extract]
    simp
  simp [Builtin.firstCells, e, bytesV_eq]
theorem src_run (hR : Rep μ m w) {z k : Nat} {x x' : Value} {new : List Value} (h : srcCells m z x = some (k, new)) (hv : VR μ m.next x x') :
    ∃ new', VRs μ m.next new new' ∧ (∀ w : World, (Builtin.lenOf x').run P w = .ok k w) ∧ (∀ w2 : World, w2.heap = w.heap → (Builtin.firstCells z k x').run P w2 = .ok ⟨new'⟩ w2) ∧
      ((∃ p c, x' = .slice p k c ∧ new.length = k * z) ∨ (∃ s, x' = .string s ∧ new.length = k)) := by
  unfold srcCells at h
  split at h
  · simp at h
    obtain ⟨rfl, rfl⟩ := h
    obtain ⟨p', c', rfl, e1⟩ := hv.slice_inv
    obtain rfl := none_of e1
    cases hv with
    | flat hf =>
      simp [flat1] at hf
      obtain ⟨rfl, rfl⟩ := hf
      exact ⟨[], .nil, fun w => rfl, fun w2 _ => rfl, .inl ⟨none, _, rfl, by simp⟩⟩
  · rename_i q k0 c0
    cases hr : rdCells m q (k0 * z) with
    | none => rw [hr] at h; simp at h
    | some l =>
      rw [hr] at h
      simp at h
      obtain ⟨rfl, rfl⟩ := h
      have rd : ∀ b f, q = ⟨b, f, none⟩ → ∃ l', VRs μ m.next l l' ∧ l.length = k0 * z ∧ ∀ w2 : World, w2.heap = w.heap → (loadCells ⟨(μ b).blk, (μ b).base + f, none⟩ (k0 * z)).run P w2 = .ok ⟨l'⟩ w2 := by
        rintro b f rfl
        exact rd_all (P := P) hR hr
      cases hv with
      | flat hf => simp [flat1] at hf
      | slice hb hc =>
        obtain ⟨l', h1, h2, h3⟩ := rd _ _ rfl
        exact ⟨l', h1, fun w => rfl, h3, .inl ⟨_, _, rfl, h2⟩⟩
      | sliceAny hb hc hr' =>
        obtain ⟨l', h1, h2, h3⟩ := rd _ _ rfl
        exact ⟨l', h1, fun w => rfl, h3, .inl ⟨_, _, rfl, h2⟩⟩
      | nowhere =>
        simp [rdCells] at hr
        subst hr
        exact ⟨[], .nil, fun w => rfl, fun w2 _ => by simp [Builtin.firstCells, loadCells, loadCellsFrom], .inl ⟨_, _, rfl, by simp⟩⟩
  · rename_i s
    simp at h
    obtain ⟨rfl, rfl⟩ := h
    obtain rfl := hv.str_inv
    refine ⟨bytesV s, .of_flats (by rw [bytesV_eq]; intro v hv; obtain ⟨b, _, rfl⟩ := List.mem_map.1 hv; rfl), fun w => by rw [len_eq]; rfl, fun w2 _ => by rw [len_eq, Nat.add_zero]; exact bytes_first z s, .inr ⟨_, rfl, by rw [len_eq, bytesV_eq]; simp⟩⟩
  · simp at h

theorem grow_bound (need c : Nat) (h : c < need) : Builtin.nextslicecap need c ≤ 2 * need + 1000 := by
  unfold Builtin.nextslicecap
  split
  · omega
  · split
    · omega
    · have key : ∀ (r d : Nat), d ≤ 2 * need + 1000 → (d < need ∨ d ≤ 2 * need + 1000) → Builtin.growBy need r d ≤ 2 * need + 1000 := by
        intro r
        induction r with
        | zero => intro d h _; exact h
        | succ r ih =>
          intro d h1 _
          rw [Builtin.growBy]
          split
          · exact h1
          · exact ih _ (by omega) (.inr (by omega))
      exact key 4 c (by omega) (.inl h)

theorem zero_run {e : TypeId} {zero : List Value} (hz : zeroOf P e = some zero) : ∃ v : Value, (∀ w : World, (zeroValue e).run P w = .ok v w) ∧ v.cells.toList = zero := by
  unfold zeroOf at hz
  cases hi : P.info? e with
  | none => rw [hi] at hz; simp at hz
  | some i =>
    rw [hi] at hz
    simp only at hz
    cases hz' : i.zero with
    | none => rw [hz'] at hz; simp at hz
    | some v =>
      rw [hz'] at hz
      simp at hz
      exact ⟨v, fun w => by simp [zeroValue, typeInfo, hi, hz'], hz⟩
theorem zeros_run {e : TypeId} {zv : Value} {zero : List Value} {z : Nat} (hzv : ∀ w : World, (zeroValue e).run P w = .ok zv w) (hzc : zv.cells.toList = zero) (hzl : zero.length = z) (k : Nat) (w : World) :
    (if k * z = 0 then (pure #[] : Sem (Array Value)) else do pure (Builtin.zeroCells (← zeroValue e).cells k)).run P w = .ok ⟨repN k zero⟩ w := by
  split
  · rename_i h0
    have e1 : repN k zero = [] := List.eq_nil_of_length_eq_zero (by rw [repN_length, hzl, h0])
    rw [e1]
    rfl
  · simp only [Sem.run_bind, hzv, Result.andThen_ok, Sem.run_pure]
    unfold Builtin.zeroCells
    have hzs : zv.cells.size = z := by rw [← hzl, ← hzc]; simp
    have := zeros_eq zv.cells k z hzs
    rw [hzs] at this ⊢
    rw [this, hzc]
/-- 'append' where there is no room: a new array -/
theorem grow_run {t t2 ty e : TypeId} {d2 : TypeDesc} {p : Option Addr} {n c k z by_ : Nat} {zero old' new' : List Value} {x' : Value} (hu : P.underlying t = some (.slice e)) (hu2 : P.underlying t2 = some d2) (hd2 : ∀ i, d2 ≠ .int i)
    (hs : szOf P e = some z) (hz : zeroOf P e = some zero) (hb : (P.info? e).map (·.bytes) = some by_) (hzl : zero.length = z) (hpos : 0 < by_) (hbig : (2 * (n + k) + 1000) * by_ ≤ 281474976710656) (hc : c < n + k)
    (hlen : ∀ w : World, (Builtin.lenOf x').run P w = .ok k w) (hnew : ∀ w2 : World, w2.heap = w.heap → (Builtin.firstCells z k x').run P w2 = .ok ⟨new'⟩ w2)
    (hold : ∀ w2 : World, w2.heap = w.heap → (Builtin.firstCells z n (.slice p n c)).run P w2 = .ok ⟨old'⟩ w2) :
    ∃ C rest, n + k ≤ C ∧ rest.length = (C - (n + k)) * z ∧ (Builtin.append_ #[t, t2] ty #[.slice p n c, x']).run P w =
      .ok (.slice (some ⟨w.heap.size, 0, none⟩) (n + k) C) { w with drawn := w.drawn + 1, heap := w.heap.push (.cells ⟨old' ++ new' ++ rest⟩ e) } := by
  obtain ⟨zv, hzv, hzc⟩ : ∃ v : Value, (∀ w : World, (zeroValue e).run P w = .ok v w) ∧ v.cells.toList = zero := by
    unfold zeroOf at hz
    cases hi : P.info? e with
    | none => rw [hi] at hz; simp at hz
    | some i =>
      rw [hi] at hz
      simp only at hz
      cases hz' : i.zero with
      | none => rw [hz'] at hz; simp at hz
      | some v =>
        rw [hz'] at hz
        simp at hz
        exact ⟨v, fun w => by simp [zeroValue, typeInfo, hi, hz'], hz⟩
  cases hi : P.info? e with
  | none => rw [hi] at hb; simp at hb
  | some i =>
    rw [hi] at hb
    simp at hb
    let w1 : World := { w with drawn := w.drawn + 1 }
    let C := (Question.appendCap (n + k) c e).cut (w.tape w.drawn (.appendCap (n + k) c e))
    have hC : n + k ≤ C := Nat.le_add_right _ _
    have hzs : zv.cells.size = z := by rw [← hzl, ← hzc]; simp
    refine ⟨C, (Builtin.zeroCells zv.cells (C - (n + k))).toList, hC, by simp [Builtin.zeroCells, hzs], ?_⟩
    have hti : ∀ w : World, (typeInfo e).run P w = .ok i w := fun w => by simp [typeInfo, hi]
    have hnb := grow_bound (n + k) c hc
    have hle : Builtin.nextslicecap (n + k) c * i.bytes ≤ 281474976710656 := by
      rw [hb]
      exact Nat.le_trans (Nat.mul_le_mul_right _ hnb) hbig
    have hne : n + k ≤ 281474976710656 := by
      have : (n + k) * 1 ≤ (2 * (n + k) + 1000) * by_ := Nat.mul_le_mul (by omega) hpos
      omega
    have h64 : IntKind.i64.max = 9223372036854775807 := by decide
    have ho1 := hold w1 rfl
    have hn1 := hnew w1 rfl
    have hch : (choose (.appendCap (n + k) c e)).run P w = .ok C w1 := by rw [run_choose]; rfl
    simp only [Builtin.append_, List.getElem?_toArray, List.getElem?_cons_zero, List.getElem?_cons_succ, Sem.run_bind, run_under hu, run_under hu2, Result.andThen_ok, run_sizeOf hs, Sem.run_pure, Bool.false_eq_true, if_false, hlen, Bool.not_false, if_true]
    rw [if_neg (by omega)]
    simp only [Sem.run_bind, hti, Result.andThen_ok]
    rw [if_neg (by rw [h64, hb]; simp; omega)]
    simp only [Sem.run_bind, hti, Result.andThen_ok]
    rw [if_neg (by simpa using hle)]
    simp only [Sem.run_bind, hti, Result.andThen_ok, hch, run_askRoom, ho1, hn1, hzv, newRow, run_newObj, Sem.run_pure, Array.append_assoc]
    congr 2
    show w.heap.push _ = _
    congr 2
    apply Array.ext'
    simp

/-- the same of zeros, as many as a number says -/
theorem grow_run0 {t t2 ty e : TypeId} {ik ik2 : IntKind} {p : Option Addr} {n c k z by_ : Nat} {zero old' : List Value} (hu : P.underlying t = some (.slice e)) (hu2 : P.underlying t2 = some (.int ik))
    (hs : szOf P e = some z) (hz : zeroOf P e = some zero) (hb : (P.info? e).map (·.bytes) = some by_) (hzl : zero.length = z) (hpos : 0 < by_) (hbig : (2 * (n + k) + 1000) * by_ ≤ 281474976710656) (hc : c < n + k)
    (hold : ∀ w2 : World, w2.heap = w.heap → (Builtin.firstCells z n (.slice p n c)).run P w2 = .ok ⟨old'⟩ w2) :
    ∃ C rest, n + k ≤ C ∧ rest.length = (C - (n + k)) * z ∧ (Builtin.append_ #[t, t2] ty #[.slice p n c, .int ik2 (k : Nat)]).run P w =
      .ok (.slice (some ⟨w.heap.size, 0, none⟩) (n + k) C) { w with drawn := w.drawn + 1, heap := w.heap.push (.cells ⟨old' ++ repN k zero ++ rest⟩ e) } := by
  obtain ⟨zv, hzv, hzc⟩ := zero_run (P := P) hz
  cases hi : P.info? e with
  | none => rw [hi] at hb; simp at hb
  | some i =>
    rw [hi] at hb
    simp at hb
    let w1 : World := { w with drawn := w.drawn + 1 }
    let C := (Question.appendCap (n + k) c e).cut (w.tape w.drawn (.appendCap (n + k) c e))
    have hC : n + k ≤ C := Nat.le_add_right _ _
    have hzs : zv.cells.size = z := by rw [← hzl, ← hzc]; simp
    refine ⟨C, (Builtin.zeroCells zv.cells (C - (n + k))).toList, hC, by simp [Builtin.zeroCells, hzs], ?_⟩
    have hti : ∀ w : World, (typeInfo e).run P w = .ok i w := fun w => by simp [typeInfo, hi]
    have hnb := grow_bound (n + k) c hc
    have hle : Builtin.nextslicecap (n + k) c * i.bytes ≤ 281474976710656 := by
      rw [hb]
      exact Nat.le_trans (Nat.mul_le_mul_right _ hnb) hbig
    have hne : n + k ≤ 281474976710656 := by
      have : (n + k) * 1 ≤ (2 * (n + k) + 1000) * by_ := Nat.mul_le_mul (by omega) hpos
      omega
    have hkb : k * i.bytes ≤ 281474976710656 := by
      rw [hb]
      exact Nat.le_trans (Nat.mul_le_mul_right _ (by omega)) hbig
    have h64 : IntKind.i64.max = 9223372036854775807 := by decide
    have hwr : IntKind.i64.wrap (k : Nat) = (k : Nat) := wrap_nat (by omega)
    have ho1 := hold w1 rfl
    have hch : (choose (.appendCap (n + k) c e)).run P w = .ok C w1 := by rw [run_choose]; rfl
    have hz1 : ∀ w : World, (if k * z = 0 then (pure #[] : Sem (Array Value)) else do pure (Builtin.zeroCells (← zeroValue e).cells k)).run P w = .ok ⟨repN k zero⟩ w := zeros_run (P := P) hzv hzc hzl k
    simp only [Builtin.append_, List.getElem?_toArray, List.getElem?_cons_zero, List.getElem?_cons_succ, Sem.run_bind, run_under hu, run_under hu2, Result.andThen_ok, run_sizeOf hs, Sem.run_pure, if_true, asInt, asIntOf, hwr]
    rw [if_neg (by omega)]
    simp only [Sem.run_bind, hti, Result.andThen_ok]
    rw [if_neg (by have : ((k : Int) * (i.bytes : Int)) = ((k * i.bytes : Nat) : Int) := by simp
                   rw [this]
                   have : ((2 : Int) ^ 48) = ((281474976710656 : Nat) : Int) := by decide
                   rw [this]
                   omega)]
    simp only [Sem.run_bind, Result.andThen_ok, Sem.run_pure, Int.toNat_natCast]
    rw [if_neg (by omega)]
    simp only [Sem.run_bind, hti, Result.andThen_ok]
    rw [if_neg (by rw [h64, hb]; simp; omega)]
    simp only [Sem.run_bind, hti, Result.andThen_ok]
    rw [if_neg (by simpa using hle)]
    simp only [Bool.not_true, Bool.false_eq_true, if_false, Sem.run_bind, hti, Result.andThen_ok, hch, run_askRoom, ho1, hz1, hzv, newRow, run_newObj, Sem.run_pure, Array.append_assoc]
    congr 2
    show w.heap.push _ = _
    congr 2
    apply Array.ext'
    simp
def Stored (P : Program) (p : Option Addr) (off : Nat) (l : List Value) (w w' : World) : Prop := match p with
  | some a => (storeCells (a.add off) l).run P w = .ok () w'
  | none => w' = w
theorem fit_run {t t2 ty e : TypeId} {d2 : TypeDesc} {p : Option Addr} {n c k z : Nat} {new' : List Value} {x' : Value} {w' : World} (hu : P.underlying t = some (.slice e)) (hu2 : P.underlying t2 = some d2) (hd2 : ∀ i, d2 ≠ .int i)
    (hs : szOf P e = some z) (hc : n + k ≤ c) (hlen : ∀ w : World, (Builtin.lenOf x').run P w = .ok k w) (hnew : ∀ w2 : World, w2.heap = w.heap → (Builtin.firstCells z k x').run P w2 = .ok ⟨new'⟩ w2)
    (hst : Stored P p (n * z) new' w w') :
    (Builtin.append_ #[t, t2] ty #[.slice p n c, x']).run P w = .ok (.slice p (n + k) c) w' := by
  have hn1 := hnew w rfl
  simp only [Builtin.append_, List.getElem?_toArray, List.getElem?_cons_zero, List.getElem?_cons_succ, Sem.run_bind, run_under hu, run_under hu2, Result.andThen_ok, run_sizeOf hs, Sem.run_pure, Bool.false_eq_true, if_false, hlen, Bool.not_false, if_true]
  rw [if_pos hc]
  simp only [Sem.run_bind, hn1, Result.andThen_ok]
  cases p with
  | none => simp only [Stored] at hst; subst hst; simp
  | some a => simp only [Stored] at hst; simp [hst]

theorem fit_run0 {t t2 ty e : TypeId} {ik ik2 : IntKind} {p : Option Addr} {n c k z by_ : Nat} {zero : List Value} {w' : World} (hu : P.underlying t = some (.slice e)) (hu2 : P.underlying t2 = some (.int ik))
    (hs : szOf P e = some z) (hz : zeroOf P e = some zero) (hb : (P.info? e).map (·.bytes) = some by_) (hzl : zero.length = z) (hk : k ≤ 9223372036854775807) (hkb : k * by_ ≤ 281474976710656) (hc : n + k ≤ c)
    (hst : Stored P p (n * z) (repN k zero) w w') :
    (Builtin.append_ #[t, t2] ty #[.slice p n c, .int ik2 (k : Nat)]).run P w = .ok (.slice p (n + k) c) w' := by
  obtain ⟨zv, hzv, hzc⟩ := zero_run (P := P) hz
  cases hi : P.info? e with
  | none => rw [hi] at hb; simp at hb
  | some i =>
    rw [hi] at hb
    simp at hb
    have hti : ∀ w : World, (typeInfo e).run P w = .ok i w := fun w => by simp [typeInfo, hi]
    have hwr : IntKind.i64.wrap (k : Nat) = (k : Nat) := wrap_nat hk
    have hz1 : ∀ w : World, (if k * z = 0 then (pure #[] : Sem (Array Value)) else do pure (Builtin.zeroCells (← zeroValue e).cells k)).run P w = .ok ⟨repN k zero⟩ w := zeros_run (P := P) hzv hzc hzl k
    have hkb' : k * i.bytes ≤ 281474976710656 := by rw [hb]; exact hkb
    simp only [Builtin.append_, List.getElem?_toArray, List.getElem?_cons_zero, List.getElem?_cons_succ, Sem.run_bind, run_under hu, run_under hu2, Result.andThen_ok, run_sizeOf hs, Sem.run_pure, if_true, asInt, asIntOf, hwr]
    rw [if_neg (by omega)]
    simp only [Sem.run_bind, hti, Result.andThen_ok]
    rw [if_neg (by have : ((k : Int) * (i.bytes : Int)) = ((k * i.bytes : Nat) : Int) := by simp
                   rw [this]
                   have : ((2 : Int) ^ 48) = ((281474976710656 : Nat) : Int) := by decide
                   rw [this]
                   omega)]
    simp only [Sem.run_bind, Result.andThen_ok, Sem.run_pure, Int.toNat_natCast]
    rw [if_pos hc]
    simp only [Bool.not_true, Bool.false_eq_true, if_false, Sem.run_bind, hz1, Result.andThen_ok]
    cases p with
    | none => simp only [Stored] at hst; subst hst; simp
    | some a => simp only [Stored] at hst; simp [hst]

/-- what append does with what is handed in, wherever it goes -/
structure AppSem (P : Program) (t t2 ty e : TypeId) (z by_ k : Nat) (new' : List Value) (x' : Value) (w : World) : Prop where
  fit : ∀ (p : Option Addr) (n c : Nat) (w' : World), (2 * (n + k) + 1000) * by_ ≤ 281474976710656 → 0 < by_ → n + k ≤ c → Stored P p (n * z) new' w w' → (Builtin.append_ #[t, t2] ty #[.slice p n c, x']).run P w = .ok (.slice p (n + k) c) w'
  grow : ∀ (p : Option Addr) (n c : Nat) (old' : List Value), (2 * (n + k) + 1000) * by_ ≤ 281474976710656 → 0 < by_ → c < n + k → (∀ w2 : World, w2.heap = w.heap → (Builtin.firstCells z n (.slice p n c)).run P w2 = .ok ⟨old'⟩ w2) →
    ∃ C rest, n + k ≤ C ∧ rest.length = (C - (n + k)) * z ∧ (Builtin.append_ #[t, t2] ty #[.slice p n c, x']).run P w =
      .ok (.slice (some ⟨w.heap.size, 0, none⟩) (n + k) C) { w with drawn := w.drawn + 1, heap := w.heap.push (.cells ⟨old' ++ new' ++ rest⟩ e) }
  none_ : k = 0 → ∀ (p : Option Addr) (n c : Nat), n ≤ c → (Builtin.append_ #[t, t2] ty #[.slice p n c, x']).run P w = .ok (.slice p n c) w

theorem builtin_run {c : Call} {b : Builtin} (ho : o.op = .call c) (hb : c.callee = .builtin b) : (execOp a.eval o).run P w = (Go.builtin b c.argTypes o.type (c.args.map fun | .const _ => true | _ => false) (c.args.map a.eval)).run P w := by
  simp [execOp, ho, resolve, hb, invoke]
  rfl
theorem args_eq {xs : Array Operand} {l : List Value} (h : xs.toList.map a.eval = l) : xs.map a.eval = ⟨l⟩ := by
  apply Array.ext'
  simp [h]
theorem pair_eq {l : List Value} {u v : Value} {nx : Nat} (h : VRs μ nx [u, v] l) : ∃ u' v', l = [u', v'] ∧ VR μ nx u u' ∧ VR μ nx v v' := by
  cases h with
  | cons h1 h2 => cases h2 with
    | cons h2 h3 => cases h3; exact ⟨_, _, rfl, h1, h2⟩

/-- a new array, at whatever world has w's heap -/
theorem did_grow {c : Call} (ho : o.op = .call c) (hb : c.callee = .builtin .append) {t t2 e : TypeId} {n cp k z by_ : Nat} {old new new' : List Value} {base : Option Addr} {x' : Value} {m0 m1 : Mem} {d : Did}
    (hA : AppSem P t t2 o.type e z by_ k new' x' w) (hpos : 0 < by_)
    (hbig : (2 * (n + k) + 1000) * by_ ≤ 281474976710656) (hc : cp < n + k) (hat : c.argTypes = #[t, t2]) (hargs : c.args.map a.eval = #[.slice base n cp, x'])
    (hok : Ok μ m0 w μ m1 w) (hv : VRs μ m1.next new new') (hnl : new.length = k * z)
    {old' : List Value} (hvo : VRs μ m1.next old old') (hol : old.length = n * z) (hold : ∀ w2 : World, w2.heap = w.heap → (Builtin.firstCells z n (.slice base n cp)).run P w2 = .ok ⟨old'⟩ w2)
    (hd : (newBlk m1 z (joinV old new) fun a m => fNat (n + k) fun q => some (.val (.slice (some a) q anyCap) m)) = some d) : DidOk P μ m0 w o a d := by
  obtain ⟨C, rest, hC, hrest, hrun⟩ := hA.grow base n cp old' hbig hpos hc hold
  obtain ⟨μ', m', hk, hok2, hn, hμ⟩ := newBlk_ok (w' := { w with drawn := w.drawn + 1, heap := w.heap.push (.cells ⟨old' ++ new' ++ rest⟩ e) }) (vs := old' ++ new') (ex := rest) (t := e) (lo := 0) (hi := 0) hok.rep hd
    (by rw [joinV_eq]; exact hvo.append hv) rfl (.inl rfl) rfl rfl rfl
  rw [fNat_eq] at hk
  simp only [Option.some.injEq] at hk
  subst hk
  refine ⟨μ', _, .slice (some ⟨w.heap.size, 0, none⟩) (n + k) C, ?_, hok.trans hok2, ?_⟩
  · rw [builtin_run ho hb, hargs, hat]
    simp only [Go.builtin, Sem.run_bind, hrun, Result.andThen_ok, Sem.run_pure]
  · have l1 := hv.length
    have l2 := hvo.length
    have e1 : n * z + (k * z + (C - (n + k)) * z) = C * z := by
      rw [← Nat.add_mul, ← Nat.add_mul]
      congr 1
      omega
    have := VR.sliceAny (μ := μ') (nx := m'.next) (b := m1.next) (o := 0) (n := n + k) (c := C) (by omega) hC (by rw [hμ]; simp [l1, l2, hnl, hol, hrest]; omega)
    rw [hμ] at this
    exact this
theorem did_body {c : Call} (ho : o.op = .call c) (hb : c.callee = .builtin .append) (hR : Rep μ m w) {t t2 e : TypeId} {z by_ k k0 cap cap' : Nat} {zero new new' : List Value} {base base' : Option Addr} {x' : Value}
    (hA : AppSem P t t2 o.type e z by_ k new' x' w) (hat' : c.argTypes = #[t, t2]) (harr : c.args.map a.eval = #[.slice base' k0 cap', x']) (hvs : VR μ m.next (.slice base k0 cap) (.slice base' k0 cap')) (hbn : base = none → base' = none)
    (hv : VRs μ m.next new new') {d : Did} (hd : appendBody m z by_ zero base k0 cap k new = some d) : DidOk P μ m w o a d := by
  unfold appendBody at hd
  split at hd
  · -- nothing is appended
    simp only [Option.some.injEq] at hd
    subst hd
    have hle : k0 ≤ cap' := by
      cases hvs with
      | flat hf => cases base <;> simp_all [flat1]
      | slice _ h => exact h.1
      | sliceAny _ h _ => exact h
      | nowhere => exact Nat.zero_le _
    refine did_val hR ?_ hvs
    rw [builtin_run ho hb, harr, hat']
    simp only [Go.builtin, Sem.run_bind, hA.none_ rfl base' k0 cap' hle, Result.andThen_ok, Sem.run_pure]
  · rename_i _ k
    split at hd
    rotate_left
    · simp at hd
    rename_i hcond
    simp only [Bool.and_eq_true, Nat.ble_eq, Nat.blt_eq, Nat.beq_eq, len_eq, Nat.add_zero] at hcond
    obtain ⟨⟨⟨⟨c1, c2⟩, c3⟩, c4⟩, c5⟩ := hcond
    have fit : ∀ {w' : World}, k0 + k.succ ≤ cap' → Stored P base' (k0 * z) new' w w' → (execOp a.eval o).run P w = .ok (.value (.slice base' (k0 + k.succ) cap')) w' := fun h1 h2 => by
      rw [builtin_run ho hb, harr, hat']
      simp only [Go.builtin, Sem.run_bind, hA.fit _ _ _ _ c1 c2 h1 h2, Result.andThen_ok, Sem.run_pure]
    have hl := hv.length
    unfold appendCore at hd
    have nocells : ∀ (w2 : World), w2.heap = w.heap → (Builtin.firstCells z 0 (.slice none 0 0)).run P w2 = .ok ⟨[]⟩ w2 := fun _ _ => rfl
    split at hd
    · -- nothing is there yet
      obtain rfl := hbn rfl
      cases hvs with
      | flat hf =>
        simp [flat1] at hf
        obtain ⟨rfl, rfl⟩ := hf
        exact did_grow (old := []) (old' := []) (new' := new') ho hb hA c2 c1 (by omega) hat' harr (.refl hR) hv c5 .nil (by simp) nocells hd
    · rename_i p
      cases hcap : Nat.beq cap anyCap with
      | false =>
        rw [hcap] at hd
        simp only at hd
        cases hble : Nat.ble (k0 + k.succ) cap with
        | true =>
          -- room, surely
          rw [hble] at hd
          rw [Nat.ble_eq] at hble
          simp only at hd
          cases hvs with
          | flat hf => simp [flat1] at hf
          | nowhere => simp at hcap
          | sliceAny _ _ _ => simp at hcap
          | slice hb0 hc0 =>
            rename_i b f
            rw [addTo_none] at hd
            obtain ⟨m', w', hk, hok, _, hrun, _⟩ := wr_ok (P := P) hR hd hv
            rw [fNat_eq] at hk
            simp only [Option.some.injEq] at hk
            subst hk
            refine ⟨μ, w', _, fit (w' := w') hble (by show (storeCells _ _).run P w = _; rw [add_none, Nat.add_assoc]; exact hrun), hok, ?_⟩
            exact .slice (Nat.lt_of_lt_of_le hb0 hok.next) ⟨hble, hc0.2⟩
        | false =>
          -- no room, surely
          rw [hble] at hd
          simp only at hd
          have hlt : cap < k0 + k.succ := by
            have : ¬ (k0 + k.succ ≤ cap) := by rw [← Nat.ble_eq, hble]; simp
            omega
          split at hd
          rotate_left
          · simp at hd
          rename_i old hrd
          cases hvs with
          | flat hf => simp [flat1] at hf
          | nowhere => simp at hcap
          | sliceAny _ _ _ => simp at hcap
          | slice hb0 hc0 =>
            rename_i b f
            obtain ⟨old', h1, h2, h3⟩ := rd_all (P := P) hR hrd
            exact did_grow (old := old) (old' := old') (new' := new') ho hb hA c2 c1 hlt hat' harr (.refl hR) hv c5 h1 h2 h3 hd
      | true =>
        -- perhaps
        rw [hcap] at hd
        simp only at hd
        obtain rfl : cap = anyCap := by simpa using hcap
        split at hd
        rotate_left
        · simp at hd
        rename_i x0 hx0
        split at hd
        rotate_left
        · simp at hd
        rename_i hown
        simp only [Bool.and_eq_true, Nat.beq_eq, Nat.blt_eq] at hown
        split at hd
        · -- room, surely: so much lies there
          rename_i hin
          simp only [Bool.and_eq_true, Nat.blt_eq, Nat.ble_eq, len_eq, Nat.add_zero] at hin
          cases hvs with
          | flat hf => simp [flat1] at hf
          | nowhere => exact absurd hown.2 (Nat.lt_irrefl _)
          | slice hb0 hc0 => exact absurd hc0.2 (Nat.lt_irrefl _)
          | sliceAny hb0 hc0 hr0 =>
            rename_i b f
            simp only at hx0 hin
            have hfit := hR.fits b x0 hx0 hown.1.1
            have hes := hR.es b x0 hx0
            rw [hown.1.2] at hes
            have hr1 := hr0
            rw [hes] at hr1
            have hmul : (k0 + k.succ) * z ≤ cap' * z := by have := hin.2; omega
            have hle : k0 + k.succ ≤ cap' := Nat.le_of_mul_le_mul_right hmul hin.1
            rw [addTo_none] at hd
            obtain ⟨m', w', hk, hok, _, hrun, _⟩ := wr_ok (P := P) hR hd hv
            rw [fNat_eq] at hk
            simp only [Option.some.injEq] at hk
            subst hk
            refine ⟨μ, w', _, fit (w' := w') hle (by show (storeCells _ _).run P w = _; rw [add_none, Nat.add_assoc]; exact hrun), hok, ?_⟩
            exact .sliceAny (Nat.lt_of_lt_of_le hb0 hok.next) hle hr0
        rename_i hnin
        split at hd
        rotate_left
        · simp at hd
        rename_i old hrd
        cases hvs with
        | flat hf => simp [flat1] at hf
        | nowhere => exact absurd hown.2 (Nat.lt_irrefl _)
        | slice hb0 hc0 => exact absurd hc0.2 (Nat.lt_irrefl _)
        | sliceAny hb0 hc0 hr0 =>
          rename_i b f
          simp only at hx0 hd
          by_cases hfit : k0 + k.succ ≤ cap'
          · have hes := hR.es b x0 hx0
            rw [hown.1.2] at hes
            rw [hes] at hr0
            have hmul : (k0 + k.succ) * z ≤ cap' * z := Nat.mul_le_mul_right _ hfit
            rw [Nat.add_mul] at hmul
            rw [joinV_eq] at hd
            obtain ⟨μ', m', hk, hok, hn, hμ, hst⟩ := appendIn_ok (P := P) hR hx0 hown.1.1 hrd hd hv c4 (by omega)
            rw [fNat_eq] at hk
            simp only [Option.some.injEq] at hk
            subst hk
            refine ⟨μ', _, _, fit hfit (by show (storeCells _ _).run P w = _; rw [add_none]; exact hst), hok, ?_⟩
            have := VR.sliceAny (μ := μ') (nx := m'.next) (b := m.next) (o := 0) (n := k0 + k.succ) (c := cap') (by omega) hfit (by rw [hμ]; simp only; omega)
            rw [hμ] at this
            exact this
          · obtain ⟨m1, hd1, hok1, hn1, _⟩ := kill_ok hR hd
            obtain ⟨old', h1, h2, h3⟩ := rd_all (P := P) hR hrd
            exact did_grow (old := old) (old' := old') (new' := new') ho hb hA c2 c1 (by omega) hat' harr hok1 (by rw [hn1]; exact hv) c5 (by rw [hn1]; exact h1) h2 h3 hd1
theorem did_append {c : Call} (ho : o.op = .call c) (hb : c.callee = .builtin .append) (hR : Rep μ m w) (hF : FrR μ m.next fr n a) {l : List Value} (hl : opds fr c.args.toList = some l) {d : Did} (hd : appendOp P m c l = some d) : DidOk P μ m w o a d := by
  have hargs := opds_ok hF hl
  unfold appendOp at hd
  split at hd
  rotate_left
  · simp at hd
  rename_i base k0 cap x
  split at hd
  rotate_left
  · simp at hd
  rename_i t t2 hat
  split at hd
  rotate_left
  · simp at hd
  rename_i e hu
  split at hd
  rotate_left
  · simp at hd
  rename_i d2 hu2
  split at hd
  rotate_left
  · simp at hd
  rename_i z hs
  split at hd
  rotate_left
  · simp at hd
  rename_i zero hz
  split at hd
  rotate_left
  · simp at hd
  rename_i by_ hby
  split at hd
  rotate_left
  · simp at hd
  rename_i hzf
  simp only [Bool.and_eq_true, Nat.beq_eq, len_eq, Nat.add_zero] at hzf
  obtain ⟨hzl, hfl⟩ := hzf
  have hat' : c.argTypes = #[t, t2] := by apply Array.ext'; simpa using hat
  obtain ⟨s', x', hl', hvs, hvx⟩ := pair_eq hargs
  have harr := args_eq (a := a) hl'
  obtain ⟨base', cap', rfl, hbn⟩ := hvs.slice_inv
  have hbn0 : base = none → base' = none := by rintro rfl; exact none_of hbn
  split at hd
  · -- zeros
    rename_i hint
    split at hd
    rotate_left
    · simp at hd
    rename_i k hx
    unfold asN at hx
    split at hx
    rotate_left
    · simp at hx
    rename_i ik2 k1
    obtain rfl := Option.some.inj hx
    obtain rfl := hvx.sameV rfl
    unfold isIntD at hint
    split at hint
    rotate_left
    · simp at hint
    rename_i ik
    refine did_body (t := t) (t2 := t2) (e := e) (x' := .int ik2 (k1 : Nat)) (new' := repN k1 zero) ho hb hR ⟨fun p n c w' h1 h2 h3 h4 => ?_, fun p n c old' h1 h2 h3 h4 => ?_, fun h0 p n c h1 => ?_⟩ hat' harr hvs hbn0 ?_ hd
    · have hb1 : (n + k1) * 1 ≤ (2 * (n + k1) + 1000) * by_ := Nat.mul_le_mul (by omega) h2
      exact fit_run0 hu hu2 hs hz hby hzl (by omega) (Nat.le_trans (Nat.mul_le_mul_right _ (by omega)) h1) h3 h4
    · exact grow_run0 hu hu2 hs hz hby hzl h2 h1 h3 h4
    · subst h0
      exact fit_run0 (k := 0) hu hu2 hs hz hby hzl (by omega) (by omega) h1 (by cases p <;> simp [repN, storeCells, Stored])
    · refine .of_flats ?_
      intro u hu
      rw [repN_eq] at hu
      simp only [List.mem_flatten, List.mem_replicate] at hu
      obtain ⟨l, ⟨_, rfl⟩, h⟩ := hu
      exact flats_mem hfl u h
  · rename_i hint
    split at hd
    rotate_left
    · simp at hd
    rename_i k new hsrc
    have hd2 : ∀ i, d2 ≠ .int i := by rintro i rfl; simp [isIntD] at hint
    obtain ⟨new', hv, hlen, hnew, hsz⟩ := src_run (P := P) hR hsrc hvx
    refine did_body (t := t) (t2 := t2) (e := e) (x' := x') (new' := new') ho hb hR ⟨fun p n c w' h1 h2 h3 h4 => ?_, fun p n c old' h1 h2 h3 h4 => ?_, fun h0 p n c h1 => ?_⟩ hat' harr hvs hbn0 hv hd
    · exact fit_run hu hu2 hd2 hs h3 hlen hnew h4
    · exact grow_run hu hu2 hd2 hs hz hby hzl h2 h1 h3 hlen hnew h4
    · have hnil : new' = [] := by
        have hl := hv.length
        rcases hsz with ⟨_, _, _, h⟩ | ⟨_, _, h⟩
        · exact List.eq_nil_of_length_eq_zero (by rw [h0] at h; omega)
        · exact List.eq_nil_of_length_eq_zero (by omega)
      subst h0 hnil
      exact fit_run (k := 0) hu hu2 hd2 hs h1 hlen hnew (by cases p <;> simp [storeCells, Stored])
end
end Go.Proofs.YtloolljoelngcaaGreat
