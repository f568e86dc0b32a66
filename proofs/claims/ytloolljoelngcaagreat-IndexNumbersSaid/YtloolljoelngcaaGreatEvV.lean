/-
  Functions of the library by their contracts: what is asked of a program, what the evaluator does with it.
-/
import Derived.Test.YtloolljoelngcaaGreatEvT
import Derived.Lib.Join
set_option linter.unusedVariables false
namespace Go.Proofs.YtloolljoelngcaaGreat
open Go.RowKit

/-- the contracts that are used, of the functions that bear these names -/
class ExtOk (P : Program) : Prop where
  none_ : ∀ (f : FuncId) fn, P.funcs[f]? = some fn → primKind fn.name = 1 → ∀ (a : Option Addr) (c : Nat) (sep : ByteArray) (w : World),
    Calls P f #[.slice a 0 c, .string sep] w fun e w' => e = .returned (.string ⟨#[]⟩) ∧ Below w.heap.size w w'
  join : ∀ (f : FuncId) fn, P.funcs[f]? = some fn → primKind fn.name = 1 → ∀ (bk o c : Nat) (xs : List ByteArray) (sep : ByteArray) (w : World),
    (∀ (j : Nat) x, xs[j]? = some x → w.cell? ⟨bk, o + j, none⟩ = some (.string x)) → bk < w.heap.size → xs.length ≤ 140737488355328 → xs.length ≤ c → (Lib.join (xs.map (·.data.toList)) sep.data.toList).length ≤ 140737488355328 →
    Calls P f #[.slice (some ⟨bk, o, none⟩) xs.length c, .string sep] w fun e w' => e = .returned (.string ⟨(Lib.join (xs.map (·.data.toList)) sep.data.toList).toArray⟩) ∧ Below w.heap.size w w'
  clone : ∀ (f : FuncId) fn, P.funcs[f]? = some fn → primKind fn.name = 2 → ∀ (s : ByteArray) (w : World), s.size ≤ 281474976710656 →
    Calls P f #[.string s] w fun e w' => e = .returned (.string s) ∧ Below w.heap.size w w'

theorem ok_of_below {μ : Map} {m : Mem} {w w' : World} (hR : Rep μ m w) (h : Below w.heap.size w w') : Ok μ m w μ m w' := by
  have hc : ∀ b x, m.heap.get b = some x → ∀ o, w'.cell? ⟨(μ b).blk, o, none⟩ = w.cell? ⟨(μ b).blk, o, none⟩ := fun b x hx o => World.cell?_of_block (w := w) (h.block _ (hR.inb b x hx))
  constructor
  case rep => exact ⟨hR.lt, fun b x hx i v hv => by rw [hc b x hx]; exact hR.cells b x hx i v hv, hR.fits, fun b x hx => Nat.lt_of_lt_of_le (hR.inb b x hx) h.size, hR.es, fun b x hx ho => (hR.there b x hx ho).at (h.block _ (hR.inb b x hx)), hR.apart⟩
  case next => exact Nat.le_refl _
  case mu => intro _ _; rfl
  case mu2 => intro _ _; rfl
  case low => exact Nat.le_refl _
  case keep => intro _ _ _; rfl
  case old => intro b x' hx _; exact ⟨x', hx, rfl⟩
  case new => intro b x' hx hb; have := hR.lt b x' hx; omega
  case os => exact h.os
  case tape => exact h.tape
  case output => exact h.output
  case size => exact h.size
  case frame => intro k hk _; exact h.block k hk

theorem strsOf_spec : ∀ {l : List Value} {xs : List (List UInt8)}, strsOf l = some xs → l = xs.map fun s => .string ⟨⟨s⟩⟩
  | [], xs, h => by simp [strsOf] at h; simp [h]
  | v :: l, xs, h => by
    unfold strsOf at h
    split at h
    · rename_i s
      cases hl : strsOf l with
      | none => rw [hl] at h; simp at h
      | some r =>
        rw [hl] at h
        simp at h
        subst h
        rw [List.map_cons, ← strsOf_spec hl]
    · simp at h
theorem joinS_eq (sep : List UInt8) : ∀ l : List (List UInt8), joinS sep l = Lib.join l sep
  | [] => rfl
  | [x] => by rw [Lib.join_one]; rfl
  | x :: y :: l => by
    have : joinS sep (x :: y :: l) = joinB x (joinB sep (joinS sep (y :: l))) := rfl
    rw [this, joinB_eq, joinB_eq, joinS_eq sep (y :: l), Lib.join_cons, Lib.join_cons]
    simp [Lib.joinTail]
theorem prim_flat {k : Nat} {args : List Value} {m : Mem} {v : Value} (h : primRun k args m = some v) {μ : Map} {nx : Nat} : VR μ nx v v := by
  unfold primRun at h
  split at h
  · split at h
    · unfold primJoin at h
      split at h
      · simp at h; subst h; exact .flat rfl
      · split at h
        · split at h
          · split at h
            · rw [fBytes_eq] at h
              split at h
              · simp at h; subst h; exact .flat rfl
              · simp at h
            · simp at h
          · simp at h
        · simp at h
    · simp at h
  · split at h
    · split at h
      · simp at h; subst h; exact .flat rfl
      · simp at h
    · simp at h
  · simp at h
theorem two_eq {μ : Map} {nx : Nat} {u v : Value} {l : List Value} (h : VRs μ nx [u, v] l) : ∃ u' v', l = [u', v'] ∧ VR μ nx u u' ∧ VR μ nx v v' := by
  cases h with
  | cons h1 h2 => cases h2 with
    | cons h2 h3 => cases h3; exact ⟨_, _, rfl, h1, h2⟩
theorem prim_ok {P : Program} [ExtOk P] {f : FuncId} {fn : Func} (hf : P.funcs[f]? = some fn) {k : Nat} (hk : primKind fn.name = k + 1) {args args' : List Value} {m : Mem} {v : Value} (h : primRun (k + 1) args m = some v)
    {μ : Map} {w : World} (hR : Rep μ m w) (hargs : VRs μ m.next args args') : Calls P f ⟨args'⟩ w fun e w' => e = .returned v ∧ Below w.heap.size w w' := by
  unfold primRun at h
  split at h
  · rename_i hk1
    split at h
    rotate_left
    · simp at h
    rename_i a n c sep
    obtain ⟨u', v', rfl, hu, hv⟩ := two_eq hargs
    obtain rfl := hv.str_inv
    obtain ⟨p', c', rfl, _⟩ := hu.slice_inv
    unfold primJoin at h
    split at h
    · simp at h
      subst h
      exact ExtOk.none_ f fn hf (hk.trans hk1) p' c' ⟨⟨sep⟩⟩ w
    · rename_i n
      cases a with
      | none => simp at h
      | some q =>
      simp only at h
      split at h
      rotate_left
      · simp at h
      rename_i cs hcs
      split at h
      rotate_left
      · simp at h
      rename_i xs hxs
      rw [fBytes_eq] at h
      split at h
      rotate_left
      · simp at h
      rename_i hle
      simp only [Bool.and_eq_true, Nat.ble_eq, len_eq, Nat.add_zero] at hle
      simp at h
      subst h
      have hcs' := strsOf_spec hxs
      have key : ∀ b o, q = ⟨b, o, none⟩ → p' = some ⟨(μ b).blk, (μ b).base + o, none⟩ → n.succ ≤ c' → Calls P f ⟨[.slice p' n.succ c', .string ⟨⟨sep⟩⟩]⟩ w fun e w' => e = .returned (.string ⟨⟨joinS sep xs⟩⟩) ∧ Below w.heap.size w w' := by
        rintro b o rfl rfl hcap
        unfold rdCells at hcs
        simp only at hcs
        cases hx : m.heap.get b with
        | none => rw [hx] at hcs; simp at hcs
        | some x =>
          rw [hx] at hcs
          simp only at hcs
          rw [dropN_eq] at hcs
          obtain ⟨hcs2, hlen⟩ := takeN_eq _ _ _ hcs
          have hxl : xs.length = n.succ := by
            have e1 : cs.length = n.succ := by rw [hcs2]; simp at hlen ⊢; omega
            rw [hcs'] at e1
            simpa using e1
          have e0 : (xs.map fun s => (⟨⟨s⟩⟩ : ByteArray)).map (fun b => b.data.toList) = xs := by
            rw [List.map_map]
            exact List.map_id' xs
          have := ExtOk.join f fn hf (hk.trans hk1) (μ b).blk ((μ b).base + o) c' (xs.map fun s => ⟨⟨s⟩⟩) ⟨⟨sep⟩⟩ w (fun j y hy => ?_) (hR.inb b x hx) (by rw [List.length_map, hxl]; omega) (by rw [List.length_map, hxl]; exact hcap) (by rw [e0]; have := hle.1; rw [joinS_eq] at this; show (Lib.join xs sep).length ≤ _; omega)
          · rw [e0, List.length_map, hxl] at this
            rw [joinS_eq]
            exact this
          · have hj : j < xs.length := by
              have := (List.getElem?_eq_some_iff.1 hy).1
              simpa using this
            have e2 : cs[j]? = some (.string y) := by
              rw [hcs']
              simp at hy ⊢
              obtain ⟨s, h1, h2⟩ := hy
              exact ⟨s, h1, by rw [h2]⟩
            have e3 : x.cells[o + j]? = some (.string y) := by
              rw [hcs2, List.getElem?_take, if_pos (by omega), List.getElem?_drop] at e2
              exact e2
            obtain ⟨u, h1, h2⟩ := hR.cells b x hx (o + j) _ e3
            rw [Nat.add_assoc, h1, h2.str_inv]
      cases hu with
      | flat hf => simp [flat1] at hf
      | slice hb hc => exact key _ _ rfl rfl hc.1
      | sliceAny hb hc hr => exact key _ _ rfl rfl hc
  · rename_i hk1
    split at h
    · rename_i s
      split at h
      rotate_left
      · simp at h
      rename_i hle
      rw [Nat.ble_eq, len_eq, Nat.add_zero] at hle
      simp at h
      subst h
      obtain ⟨x', rfl, hx⟩ : ∃ x', args' = [x'] ∧ VR μ m.next (.string ⟨⟨s⟩⟩) x' := by
        cases hargs with
        | cons h1 h2 => cases h2; exact ⟨_, rfl, h1⟩
      obtain rfl := hx.same1 rfl
      exact ExtOk.clone f fn hf (hk.trans hk1) ⟨⟨s⟩⟩ w (by show s.length ≤ _; omega)
    · simp at h
  · simp at h

/-- where a program has neither -/
def noPrims : List Func → Bool
  | [] => true
  | fn :: l => match Nat.beq (primKind fn.name) 0 with
    | true => noPrims l
    | false => false
theorem noPrims_spec : ∀ {l : List Func}, noPrims l = true → ∀ fn ∈ l, primKind fn.name = 0
  | [], _, fn, h => by simp at h
  | g :: l, hh, fn, h => by
    rw [noPrims] at hh
    split at hh
    · rename_i hc
      rcases List.mem_cons.1 h with rfl | h
      · simpa using hc
      · exact noPrims_spec hh fn h
    · simp at hh
theorem extOk_none {P : Program} (h : noPrims P.funcs.toList = true) : ExtOk P := by
  have key : ∀ (f : FuncId) fn, P.funcs[f]? = some fn → primKind fn.name = 0 := fun f fn hf => noPrims_spec h fn (by
    rw [List.mem_iff_getElem?]
    exact ⟨f, by simpa using hf⟩)
  exact ⟨fun f fn hf hk => absurd ((key f fn hf).symm.trans hk) (by decide), fun f fn hf hk => absurd ((key f fn hf).symm.trans hk) (by decide), fun f fn hf hk => absurd ((key f fn hf).symm.trans hk) (by decide)⟩
/-- where a program has those that are listed, at most -/
def primsAt (js cl : List Nat) : List Func → Nat → Bool
  | [], _ => true
  | fn :: l, i => match primKind fn.name with
    | 0 => primsAt js cl l (Nat.succ i)
    | 1 => match js.contains i with
      | true => primsAt js cl l (Nat.succ i)
      | false => false
    | _ => match cl.contains i with
      | true => primsAt js cl l (Nat.succ i)
      | false => false
theorem primsAt_spec {js cl : List Nat} : ∀ {l : List Func} {i : Nat}, primsAt js cl l i = true → ∀ (k : Nat) fn, l[k]? = some fn → (primKind fn.name = 1 → i + k ∈ js) ∧ (primKind fn.name = 2 → i + k ∈ cl)
  | [], _, _, k, fn, h => by simp at h
  | g :: l, i, hh, k, fn, h => by
    rw [primsAt] at hh
    have rest : primsAt js cl l i.succ = true := by
      split at hh
      · exact hh
      · split at hh
        · exact hh
        · simp at hh
      · split at hh
        · exact hh
        · simp at hh
    cases k with
    | zero =>
      simp at h
      subst h
      rw [Nat.add_zero]
      constructor
      · intro hk
        rw [hk] at hh
        simp only at hh
        split at hh
        · rename_i hc; simpa using hc
        · simp at hh
      · intro hk
        rw [hk] at hh
        simp only at hh
        split at hh
        · rename_i hc; simpa using hc
        · simp at hh
    | succ k =>
      have := primsAt_spec rest k fn (by simpa using h)
      rwa [show i.succ + k = i + (k + 1) from by omega] at this
end Go.Proofs.YtloolljoelngcaaGreat
