/-
  Each operation on a map is a step of the machine: what the evaluator's side says holds in the world. No program in sight.
-/
import Derived.Test.YtloolljoelngcaaGreatCo
set_option linter.unusedVariables false
namespace Go.Proofs.YtloolljoelngcaaGreat
open Go.RowKit
noncomputable section
variable {ro : Nat} {M0 : Map}
section
variable {P : Program} {W : World} {μ : Map} {m : Mem} {w : World} {os : Objs} {o : Oper} {a : Act} {fr : Tr Value} {n : Nat}
theorem okTup_ok {nx : Nat} {v v' : Value} (ok b : Bool) (h : VR μ nx v v') : VR μ nx (okTup ok v b) (if ok then .tuple #[v', .bool b] else v') := by
  cases ok with
  | true => exact .tuple (.cons h (.cons (.flat rfl) .nil))
  | false => exact h
theorem lookO_ok (hT : Top W μ m w) (hi : ObjsR ro M0 os W μ m w) (hF : FrR μ m.next fr n a) {t : TypeId} {x k : Operand} {ok : Bool} {eff : EffO} (ho : o.op = .lookup t x k ok) (h : lookO P fr m os t x k ok = some eff) : DidO ro M0 P W μ m w os o a eff := by
  unfold lookO at h
  split at h
  rotate_left
  · cases h
  rename_i e hk
  obtain ⟨kt, hm, hd⟩ := keyT_ok hk
  split at h
  rotate_left
  · cases h
  rename_i i es c hx
  obtain ⟨hin, hev, es', hb, hes⟩ := mapAt_ok hi hF hx
  split at h
  rotate_left
  · cases h
  rename_i s hs
  have hsv := strAt_ok hF hs
  have hrun : ∀ v', (Instr.lookup t (.map (some (μ i).blk)) (.string ⟨⟨s⟩⟩) ok).run P w = .ok v' w → (execOp a.eval o).run P w = .ok (.value v') w := fun v' hr => by
    unfold execOp; rw [ho]; simp [hev, hsv, hr, Result.andThen]
  rcases find_ok (k := s) hes 0 with ⟨h1, h2⟩ | ⟨j, v, e', h1, h2, h3, h4, h5⟩
  · rw [h1] at h
    simp only at h
    split at h
    · rename_i z hz
      obtain rfl := Option.some.inj h
      obtain ⟨z1, z2⟩ := zeroE_ok (μ := μ) (m := m) hz
      exact ⟨μ, w, _, hrun _ (run_lookNone ok hm hd hb h2 (z1 w)), .same hT hi, okTup_ok ok false z2⟩
    · cases h
  · rw [h1] at h
    obtain rfl := Option.some.inj h
    exact ⟨μ, w, _, hrun _ (run_look ok hm hd hb h5), .same hT hi, okTup_ok ok true h4⟩
theorem putO_ok (hT : Top W μ m w) (hi : ObjsR ro M0 os W μ m w) (hF : FrR μ m.next fr n a) {t : TypeId} {x k v : Operand} {eff : EffO} (ho : o.op = .mapUpdate t x k v) (h : putO P ro fr m os t x k v = some eff) : DidO ro M0 P W μ m w os o a eff := by
  unfold putO at h
  split at h
  rotate_left
  · cases h
  rename_i e hk
  obtain ⟨kt, hm, hd⟩ := keyT_ok hk
  split at h
  rotate_left
  · cases h
  rename_i i es c hx
  obtain ⟨hin, hev, es', hb, hes⟩ := mapAt_ok hi hF hx
  split at h
  rotate_left
  · cases h
  rename_i s hs
  have hsv := strAt_ok hF hs
  split at h
  rotate_left
  · cases h
  rename_i u hu
  have huv := opd_ok hF hu
  split at h
  rotate_left
  · cases h
  rename_i hro
  rw [Nat.ble_eq] at hro
  have hsym := (hi.rel _ _ hin).1
  have hlt := (Array.getElem?_eq_some_iff.1 hb).1
  have hrun : ∀ w', (Instr.mapUpdate t (.map (some (μ i).blk)) (.string ⟨⟨s⟩⟩) (a.eval v)).run P w = .ok () w' → (execOp a.eval o).run P w = .ok .skip w' := fun w' hr => by
    unfold execOp; rw [ho]; simp [hev, hsv, hr, Result.andThen]
  rcases find_ok (k := s) hes 0 with ⟨h1, h2⟩ | ⟨j, v0, e', h1, h2, h3, h4, h5⟩
  · rw [h1] at h
    simp only [fNat_eq] at h
    obtain rfl := Option.some.inj h
    refine ⟨μ, _, hrun _ (run_put hm hd hb h2), .set hT hi hin hro rfl rfl rfl rfl ⟨hsym, _, by simp [hlt]; rfl, ?_⟩⟩
    rw [Array.toList_push]
    exact EntsR.join ⟨rfl, huv, rfl⟩ hes
  · rw [h1] at h
    simp only [Nat.zero_add] at h
    obtain rfl := Option.some.inj h
    rw [Nat.zero_add] at h5
    refine ⟨μ, _, hrun _ (run_turn hm hd hb h5 h2 h3), .set hT hi hin hro rfl rfl rfl rfl ⟨hsym, es'.modify j fun y => { y with key := .string ⟨⟨s⟩⟩, val := a.eval v }, by simp [hlt], ?_⟩⟩
    rw [Array.toList_modify]
    exact EntsR.mod huv hes j
theorem dropO_ok (hT : Top W μ m w) (hi : ObjsR ro M0 os W μ m w) (hF : FrR μ m.next fr n a) {c : Call} {t tk : TypeId} {x k : Operand} {eff : EffO} (ho : o.op = .call c) (hc : c.callee = .builtin .delete) (ha : c.args.toList = [x, k]) (ht : c.argTypes.toList = [t, tk])
    (h : dropO P ro fr m os t x k = some eff) : DidO ro M0 P W μ m w os o a eff := by
  unfold dropO at h
  split at h
  rotate_left
  · cases h
  rename_i e hk
  obtain ⟨kt, hm, hd⟩ := keyT_ok hk
  split at h
  rotate_left
  · cases h
  rename_i i es cl hx
  obtain ⟨hin, hev, es', hb, hes⟩ := mapAt_ok hi hF hx
  split at h
  rotate_left
  · cases h
  rename_i s hs
  have hsv := strAt_ok hF hs
  split at h
  rotate_left
  · cases h
  rename_i hro
  rw [Nat.ble_eq] at hro
  have hsym := (hi.rel _ _ hin).1
  have hlt := (Array.getElem?_eq_some_iff.1 hb).1
  have hat : c.argTypes = #[t, tk] := by apply Array.ext'; simpa using ht
  have harg : c.args.map a.eval = #[.map (some (μ i).blk), .string ⟨⟨s⟩⟩] := by rw [args_eq (a := a) (l := [.map (some (μ i).blk), .string ⟨⟨s⟩⟩]) (by rw [ha]; simp [hev, hsv])]
  have hrun : ∀ w', (Builtin.delete_ #[t, tk] o.type #[.map (some (μ i).blk), .string ⟨⟨s⟩⟩]).run P w = .ok (.tuple #[]) w' → (execOp a.eval o).run P w = .ok (.value (.tuple #[])) w' := fun w' hr => by
    rw [builtin_run ho hc, harg, hat]
    simp [Go.builtin, hr]
  rcases find_ok (k := s) hes 0 with ⟨h1, h2⟩ | ⟨j, v, e', h1, h2, h3, h4, h5⟩
  · rw [h1] at h
    simp only at h
    obtain rfl := Option.some.inj h
    exact ⟨μ, _, _, hrun _ (run_dropNone hm hd hb h2), .set hT hi hin hro rfl rfl rfl rfl ⟨hsym, es', by simp [hlt], hes⟩, .undef⟩
  · rw [h1] at h
    simp only [Nat.zero_add] at h
    obtain rfl := Option.some.inj h
    rw [Nat.zero_add] at h5
    refine ⟨μ, _, _, hrun _ (run_drop hm hd hb h5), .set hT hi hin hro rfl rfl rfl rfl ⟨hsym, es'.eraseIdxIfInBounds j, by simp [hlt], ?_⟩, .undef⟩
    have hj : j < es'.size := by have := (List.getElem?_eq_some_iff.1 h2).1; simpa using this
    rw [show (es'.eraseIdxIfInBounds j).toList = es'.toList.eraseIdx j from by unfold Array.eraseIdxIfInBounds; rw [dif_pos hj, Array.toList_eraseIdx]]
    exact hes.drop j
theorem rangeO_ok (hT : Top W μ m w) (hi : ObjsR ro M0 os W μ m w) (hF : FrR μ m.next fr n a) {t : TypeId} {x : Operand} {eff : EffO} (ho : o.op = .range t x) (h : rangeO P fr m os t x = some eff) : DidO ro M0 P W μ m w os o a eff := by
  unfold rangeO at h
  split at h
  rotate_left
  · cases h
  rename_i e hk
  obtain ⟨kt, hm, hd⟩ := keyT_ok hk
  split at h
  rotate_left
  · cases h
  rename_i i es c hx
  obtain ⟨hin, hev, es', hb, hes⟩ := mapAt_ok hi hF hx
  refine newO_ok hT hi (ob := .mapIter (some (μ i).blk) c #[] c) (sym := .pointer (some ⟨w.heap.size, 0, none⟩)) h rfl ?_ ?_
  · have hlt := hi.lt _ _ hin
    have h1 : (newL μ m w (.pointer (some ⟨w.heap.size, 0, none⟩)) m.next) = ⟨w.heap.size, 0, 0, 0, .pointer (some ⟨w.heap.size, 0, none⟩)⟩ := by unfold newL; rw [if_pos rfl]
    have h2 : newL μ m w (.pointer (some ⟨w.heap.size, 0, none⟩)) i = μ i := by unfold newL; rw [if_neg (by omega)]
    refine ⟨by rw [h1], by omega, ?_⟩
    rw [h1, h2]
    exact (MapKept.heap_alloc w _).1
  · unfold execOp; rw [ho]; simp [hev, run_range_map w t kt e _ es' c hm hb, Result.andThen]
theorem makeO_ok (hT : Top W μ m w) (hi : ObjsR ro M0 os W μ m w) {t : TypeId} {eff : EffO} (ho : o.op = .makeMap t none) (h : newO m (.map [] 0) os = some eff) : DidO ro M0 P W μ m w os o a eff := by
  refine newO_ok hT hi (ob := .map #[] 0) (sym := .map (some w.heap.size)) h rfl ?_ ?_
  · have h1 : (newL μ m w (.map (some w.heap.size)) m.next) = ⟨w.heap.size, 0, 0, 0, .map (some w.heap.size)⟩ := by unfold newL; rw [if_pos rfl]
    refine ⟨by rw [h1], #[], ?_, trivial⟩
    rw [h1]
    exact (MapKept.heap_alloc w _).1
  · unfold execOp; rw [ho]; simp [Instr.makeMap, Result.andThen]
theorem EntsR.born : ∀ {es : List EntE} {l : List MapEntry} {nx : Nat}, EntsR μ nx es l → l.map (·.born) = es.map (·.born)
  | [], [], _, _ => rfl
  | e :: es, e' :: l, _, ⟨⟨_, _, h3⟩, h⟩ => by rw [List.map_cons, List.map_cons, h3, EntsR.born h]
  | [], _ :: _, _, h => h.elim
  | _ :: _, [], _, h => h.elim
theorem EntsR.old {since : Nat} : ∀ {es : List EntE} {l : List MapEntry} {nx : Nat}, EntsR μ nx es l → allOld since es = true → ∀ x ∈ l, x.born < since
  | [], [], _, _, _, x, hx => by cases hx
  | e :: es, e' :: l, _, ⟨⟨_, _, h3⟩, h⟩, ho, x, hx => by
    rw [allOld, Bool.and_eq_true] at ho
    rcases List.mem_cons.1 hx with rfl | hx
    · rw [h3]; exact of_decide_eq_true (by simpa using ho.1)
    · exact EntsR.old h ho.2 x hx
  | [], _ :: _, _, h, _, _, _ => h.elim
  | _ :: _, [], _, h, _, _, _ => h.elim
theorem EntsR.left {seen : List Nat} : ∀ {es : List EntE} {l : List MapEntry} {nx : Nat}, EntsR μ nx es l → EntsR μ nx (leftE seen es) (l.filter fun x => !(⟨seen⟩ : Array Nat).contains x.born)
  | [], [], _, _ => trivial
  | e :: es, e' :: l, nx, ⟨⟨h1, h2, h3⟩, h⟩ => by
    have hc : (⟨seen⟩ : Array Nat).contains e'.born = seen.contains e.born := by rw [h3]; simp
    cases hb : seen.contains e.born with
    | true =>
      rw [hb] at hc
      simp only [leftE, hb, List.filter_cons, hc, Bool.not_true, Bool.false_eq_true, if_false]
      exact EntsR.left h
    | false =>
      rw [hb] at hc
      simp only [leftE, hb, List.filter_cons, hc, Bool.not_false, if_true]
      exact ⟨⟨h1, h2, h3⟩, EntsR.left h⟩
  | [], _ :: _, _, h => h.elim
  | _ :: _, [], _, h => h.elim
theorem unsnoc_ok : ∀ {l p : List Nat} {b : Nat}, unsnoc l = some (p, b) → l = p ++ [b]
  | [], _, _, h => by cases h
  | x :: l, p, b, h => by
    rw [unsnoc] at h
    cases hu : unsnoc l with
    | none =>
      rw [hu] at h
      simp only [Option.some.injEq, Prod.mk.injEq] at h
      obtain ⟨rfl, rfl⟩ := h
      cases l with
      | nil => rfl
      | cons y l => rw [unsnoc] at hu; split at hu <;> cases hu
    | some q =>
      obtain ⟨p0, b0⟩ := q
      rw [hu] at h
      simp only [Option.some.injEq, Prod.mk.injEq] at h
      obtain ⟨rfl, rfl⟩ := h
      rw [unsnoc_ok hu]; rfl
theorem findB_ok {b : Nat} : ∀ {es : List EntE} {l : List MapEntry} {nx : Nat} {e : EntE}, EntsR μ nx es l → findB b es = some e → e.born = b ∧ ∃ e' ∈ l, e'.key = .string ⟨⟨e.key⟩⟩ ∧ VR μ nx e.val e'.val ∧ e'.born = e.born
  | [], [], _, _, _, h => by cases h
  | x :: es, x' :: l, nx, e, ⟨hx, h⟩, hf => by
    rw [findB] at hf
    split at hf
    · rename_i hb
      obtain rfl := Option.some.inj hf
      exact ⟨Nat.eq_of_beq_eq_true hb, x', List.mem_cons_self, hx⟩
    · obtain ⟨h1, e', h2, h3⟩ := findB_ok h hf
      exact ⟨h1, e', List.mem_cons_of_mem _ h2, h3⟩
  | [], _ :: _, _, _, h, _ => h.elim
  | _ :: _, [], _, _, h, _ => h.elim
theorem findB_none {b : Nat} : ∀ {es : List EntE}, findB b es = none → b ∉ es.map (·.born)
  | [], _ => by simp
  | x :: es, h => by
    rw [findB] at h
    split at h
    · cases h
    · rename_i hb
      rw [List.map_cons, List.mem_cons]
      rintro (h' | h')
      · rw [h', Nat.beq_refl] at hb; cases hb
      · exact findB_none h h'
theorem freshB_ok : ∀ {es : List EntE}, freshB es = true → (es.map (·.born)).Nodup
  | [], _ => by simp
  | x :: es, h => by
    rw [freshB, Bool.and_eq_true] at h
    rw [List.map_cons, List.nodup_cons]
    refine ⟨?_, freshB_ok h.2⟩
    cases hb : findB x.born es with
    | none => exact findB_none hb
    | some y => rw [hb] at h; simp at h
theorem nextO_ok (hT : Top W μ m w) (hi : ObjsR ro M0 os W μ m w) (hF : FrR μ m.next fr n a) {x : Operand} {eff : EffO} (ho : o.op = .next x false) (h : nextO ro fr m os x = some eff) : DidO ro M0 P W μ m w os o a eff := by
  unfold nextO at h
  split at h
  rotate_left
  · cases h
  rename_i i mi since seen st es c hx
  obtain ⟨hin, hev, hsym, hmi, hr, es', hb, hes⟩ := iterAt_ok hi hF hx
  split at h
  rotate_left
  · cases h
  rename_i hold
  rw [Bool.and_eq_true, Bool.and_eq_true, Nat.ble_eq, Nat.ble_eq] at hold
  have hrun : ∀ v' w', (Instr.next (.pointer (some ⟨(μ i).blk, 0, none⟩)) false o.type).run P w = .ok v' w' → (execOp a.eval o).run P w = .ok (.value v') w' := fun v' w' hr => by
    unfold execOp; rw [ho]; simp [hev, hr, Result.andThen]
  have hleft := hes.left (seen := seen)
  have hL : (leftOf es' ⟨seen⟩).toList = es'.toList.filter fun x => !(⟨seen⟩ : Array Nat).contains x.born := by unfold leftOf; rw [Array.toList_filter]
  rw [← hL] at hleft
  have hlt := (Array.getElem?_eq_some_iff.1 hr).1
  split at h
  · rename_i hE
    rw [hE] at hleft
    have hn : (leftOf es' ⟨seen⟩).toList = [] := by
      cases hq : (leftOf es' ⟨seen⟩).toList with
      | nil => rfl
      | cons y l => rw [hq] at hleft; exact hleft.elim
    obtain rfl := Option.some.inj h
    rcases run_next_at w o.type _ _ since st ⟨seen⟩ es' c hr hb (hes.old hold.1) hold.2.1 with ⟨_, h1⟩ | ⟨e', h1, _⟩
    · exact ⟨μ, w, _, hrun _ _ h1, .same hT hi, .tuple (.cons (.flat rfl) .nil)⟩
    · rw [hn] at h1; cases h1
  · rename_i e hE
    rw [hE] at hleft
    obtain ⟨e', hq, g1, g2, g3⟩ : ∃ e', (leftOf es' ⟨seen⟩).toList = [e'] ∧ e'.key = .string ⟨⟨e.key⟩⟩ ∧ VR μ m.next e.val e'.val ∧ e'.born = e.born := by
      cases hq : (leftOf es' ⟨seen⟩).toList with
      | nil => rw [hq] at hleft; exact hleft.elim
      | cons y l =>
        rw [hq] at hleft
        cases l with
        | nil => exact ⟨y, rfl, hleft.1⟩
        | cons z l => exact hleft.2.elim
    obtain rfl := Option.some.inj h
    rcases run_next_at w o.type _ _ since st ⟨seen⟩ es' c hr hb (hes.old hold.1) hold.2.1 with ⟨h0, _⟩ | ⟨e2, h1, w1, hw1, h2⟩
    · rw [← Array.length_toList, hq] at h0; cases h0
    · rw [hq, List.mem_singleton] at h1
      subst h1
      refine ⟨μ, _, _, hrun _ _ h2, .set hT hi hin hold.2.2 (o := .mapIter (some (μ mi).blk) since (Array.push ⟨seen⟩ e2.born) c) ?_ ?_ ?_ ?_ ⟨hsym, hmi, ?_⟩, .tuple (.cons (.flat rfl) (.cons (by rw [g1]; exact .flat rfl) (.cons g2 .nil)))⟩
      · rcases hw1 with rfl | rfl <;> rfl
      · rcases hw1 with rfl | rfl <;> rfl
      · rcases hw1 with rfl | rfl <;> rfl
      · rcases hw1 with rfl | rfl <;> rfl
      · have : (ChangeMaps.setBlock w1 (μ i).blk (.mapIter (some (μ mi).blk) since (Array.push ⟨seen⟩ e2.born) c)).heap = w.heap.setIfInBounds (μ i).blk (.mapIter (some (μ mi).blk) since (Array.push ⟨seen⟩ e2.born) c) := by rcases hw1 with rfl | rfl <;> rfl
        rw [this, g3]
        simp [hlt]
  · cases h
theorem entryO_ok (hT : Top W μ m w) (hi : ObjsR ro M0 os W μ m w) (hF : FrR μ m.next fr n a) {x : Operand} {eff : EffO} (ho : o.op = .entry x) (h : entryO fr m os x = some eff) : DidO ro M0 P W μ m w os o a eff := by
  unfold entryO at h
  split at h
  rotate_left
  · cases h
  rename_i i mi since seen st es c hx
  obtain ⟨hin, hev, hsym, hmi, hr, es', hb, hes⟩ := iterAt_ok hi hF hx
  split at h
  rotate_left
  · cases h
  rename_i hold
  rw [Bool.and_eq_true, Nat.beq_eq] at hold
  obtain ⟨rfl, hfr⟩ := hold
  split at h
  rotate_left
  · cases h
  rename_i p b hu
  split at h
  rotate_left
  · cases h
  rename_i e hfb
  obtain rfl := Option.some.inj h
  obtain ⟨hbb, e', he', g1, g2, g3⟩ := findB_ok hes hfb
  have hseen := unsnoc_ok hu
  have hr' : w.heap[(μ i).blk]? = some (.mapIter (some (μ mi).blk) since (Array.push ⟨p⟩ e'.born) st) := by rw [hr, hseen, g3, hbb]; simp
  refine ⟨μ, w, .tuple ⟨[.string ⟨⟨e.key⟩⟩, e'.val]⟩, ?_, .same hT hi, .tuple (.cons (.flat rfl) (.cons g2 .nil))⟩
  have h9 := run_entry_at (P := P) w (μ i).blk (μ mi).blk since ⟨p⟩ es' st e' hr' hb he' (by rw [hes.born]; exact freshB_ok hfr)
  unfold execOp; rw [ho]
  simp [hev, h9, Result.andThen, g1]
end
end
end Go.Proofs.YtloolljoelngcaaGreat
