/-
  The evaluator, at a call that gives an expression: what lies in memory behind it.
-/
import Derived.Test.YtldleckgkgeclaaMb31
import Derived.Test.YtldleckgkgeclaaMb2
set_option linter.unusedVariables false
set_option linter.unusedSimpArgs false
set_option linter.unusedVariables false
namespace Go.Proofs.Ytldleckgkgeclaa
open Go.RowKit
noncomputable section

def elemsOf (rec : Value → Option (List E)) : Nat → List Value → Option (List E)
  | 0, _ => some []
  | n + 1, .int .i64 k :: .string s :: .int .i64 z :: sl :: cs => match rec sl with
    | some l => match elemsOf rec n cs with
      | some m => some (.mk k s z l :: m)
      | none => none
    | none => none
  | _, _ => none
def kidsOf (h : Tr EvBlk) : Nat → Value → Option (List E)
  | 0, _ => none
  | d + 1, v => match v with
    | .slice none n _ => match n with
      | 0 => some []
      | _ => none
    | .slice (some ⟨b, o, none⟩) n _ => match Nat.ble n 1000 && Nat.blt b nowhere with
      | true => match h.get b with
        | some x => elemsOf (kidsOf h d) n (dropN o x.cells)
        | none => none
      | false => none
    | _ => none
theorem dropN_get : ∀ (o : Nat) (l : List Value) (i : Nat), (dropN o l)[i]? = l[o + i]?
  | 0, l, i => by rw [dropN, Nat.zero_add]
  | o + 1, [], i => by simp [dropN]
  | o + 1, v :: l, i => by rw [dropN, dropN_get o l i, show o + 1 + i = (o + i) + 1 from by omega, List.getElem?_cons_succ]
/-- the elements: where each one's cells stand -/
theorem elems_spec {rec : Value → Option (List E)} : ∀ {n : Nat} {cs : List Value} {l : List E}, elemsOf rec n cs = some l → l.length = n ∧ ∀ i e, l[i]? = some e → ∃ sl, cs[i * 4]? = some (.int .i64 e.k) ∧ cs[i * 4 + 1]? = some (.string e.s) ∧ cs[i * 4 + 2]? = some (.int .i64 e.n) ∧ cs[i * 4 + 3]? = some sl ∧ rec sl = some e.kids
  | 0, cs, l, hh => by
    simp only [elemsOf, Option.some.injEq] at hh
    subst hh
    exact ⟨rfl, fun i e he => by simp at he⟩
  | n + 1, cs, l, hh => by
    unfold elemsOf at hh
    split at hh
    · simp at *
    · rename_i n' k s z sl cs' hn
      injection hn with hn
      subst hn
      split at hh
      rotate_left
      · simp at hh
      rename_i kl hk
      split at hh
      rotate_left
      · simp at hh
      rename_i m hm
      obtain rfl := Option.some.inj hh
      obtain ⟨h1, h2⟩ := elems_spec hm
      refine ⟨by simp [h1], fun i e he => ?_⟩
      cases i with
      | zero =>
        obtain rfl : E.mk k s z kl = e := by simpa using he
        exact ⟨sl, rfl, rfl, rfl, rfl, hk⟩
      | succ i =>
        obtain ⟨sl', g1, g2, g3, g4, g5⟩ := h2 i e (by simpa using he)
        refine ⟨sl', ?_, ?_, ?_, ?_, g5⟩
        · rw [show (i + 1) * 4 = i * 4 + 4 from by omega]; exact g1
        · rw [show (i + 1) * 4 + 1 = i * 4 + 1 + 4 from by omega]; exact g2
        · rw [show (i + 1) * 4 + 2 = i * 4 + 2 + 4 from by omega]; exact g3
        · rw [show (i + 1) * 4 + 3 = i * 4 + 3 + 4 from by omega]; exact g4
    · simp at hh
theorem VR.string_inv_ {μ : Map} {nx : Nat} {s : ByteArray} {v' : Value} (h : VR μ nx (.string s) v') : v' = .string s := by cases h; rfl
theorem kids_ok {μ : Map} {m : Mem} {w : World} (hR : Rep μ m w) : ∀ (d : Nat) (v v' : Value) (l : List E), VR μ m.next v v' → kidsOf m.heap d v = some l → ∃ A c, v' = .slice A l.length c ∧ EKids w w.heap.size A l
  | 0, v, v', l, hv, h => by simp [kidsOf] at h
  | d + 1, v, v', l, hv, h => by
    unfold kidsOf at h
    split at h
    · rename_i n c
      split at h
      · obtain rfl := Option.some.inj h
        cases hv
        exact ⟨none, c, rfl, .nil _⟩
      · simp at h
    · rename_i b o n c
      split at h
      rotate_left
      · simp at h
      rename_i hn
      rw [Bool.and_eq_true, Nat.ble_eq, Nat.blt_eq] at hn
      split at h
      rotate_left
      · simp at h
      rename_i x hx
      obtain ⟨hl, he⟩ := elems_spec h
      have key : ∃ c', v' = .slice (some ⟨(μ b).blk, (μ b).base + o, none⟩) n c' := by
        cases hv with
        | flat hf => simp [flat1] at hf
        | slice h1 h2 => exact ⟨_, rfl⟩
        | sliceAny h1 h2 h3 => exact ⟨_, rfl⟩
        | nowhere => exact absurd hn.2 (Nat.lt_irrefl _)
      obtain ⟨c', rfl⟩ := key
      have cell : ∀ (i : Nat) v, x.cells[o + i]? = some v → ∃ v', w.cell? ⟨(μ b).blk, (μ b).base + o + i, none⟩ = some v' ∧ VR μ m.next v v' := fun i v hv => by
        obtain ⟨v', h1, h2⟩ := hR.cells b x hx _ v hv
        exact ⟨v', by rw [Nat.add_assoc]; exact h1, h2⟩
      have one : ∀ i, ∃ p : Option Addr × Nat, ∀ e, l[i]? = some e → w.cell? ⟨(μ b).blk, (μ b).base + o + i * 4, none⟩ = some (.int .i64 e.k) ∧ w.cell? ⟨(μ b).blk, (μ b).base + o + i * 4 + 1, none⟩ = some (.string e.s) ∧
          w.cell? ⟨(μ b).blk, (μ b).base + o + i * 4 + 2, none⟩ = some (.int .i64 e.n) ∧ w.cell? ⟨(μ b).blk, (μ b).base + o + i * 4 + 3, none⟩ = some (.slice p.1 e.kids.length p.2) ∧ EKids w w.heap.size p.1 e.kids := by
        intro i
        cases hi : l[i]? with
        | none => exact ⟨(none, 0), fun e he => by cases he⟩
        | some e =>
          obtain ⟨sl, g1, g2, g3, g4, g5⟩ := he i e hi
          rw [dropN_get] at g1 g2 g3 g4
          obtain ⟨u1, e1, r1⟩ := cell _ _ g1
          obtain ⟨u2, e2, r2⟩ := cell _ _ g2
          obtain ⟨u3, e3, r3⟩ := cell _ _ g3
          obtain ⟨u4, e4, r4⟩ := cell _ _ g4
          obtain rfl := r1.int_inv
          obtain rfl := r2.string_inv_
          obtain rfl := r3.int_inv
          obtain ⟨A, c2, rfl, hK⟩ := kids_ok hR d sl u4 e.kids r4 g5
          refine ⟨(A, c2), fun e' he' => ?_⟩
          obtain rfl := Option.some.inj he'
          exact ⟨e1, by rw [Nat.add_assoc]; exact e2, by rw [Nat.add_assoc]; exact e3, by rw [Nat.add_assoc]; exact e4, hK⟩
      refine ⟨_, c', by rw [hl], .mk _ _ l (by rw [hl]; omega) (hR.inb b x hx) (fun i => (Classical.choose (one i)).1) (fun i => (Classical.choose (one i)).2) (fun i e he => ?_) (fun i e he => ?_)⟩
      · obtain ⟨q1, q2, q3, q4, _⟩ := Classical.choose_spec (one i) e he
        exact ⟨q1, q2, q3, q4⟩
      · exact (Classical.choose_spec (one i) e he).2.2.2.2
    · simp at h

theorem leaf_no {b : Nat} {x : EvBlk} (h : (Tr.leaf : Tr EvBlk).get b = some x) : False := by rw [Tr.get_leaf] at h; cases h
/-- a call with plain arguments that gives an expression -/
def runExpr (P : Program) (fuel : Nat) (f : FuncId) (args : List Value) : Option E :=
  match flat2 args with
  | true => match evCall P (ev P fuel) f args ⟨.leaf, 1048576, big⟩ with
    | some (v, m) => match v with
      | .agg ⟨l⟩ => match l with
        | .int .i64 k :: .string s :: .int .i64 n :: sl :: [] => match m with
          | ⟨h, _, _⟩ => match kidsOf h 20 sl with
            | some kids => some (.mk k s n kids)
            | none => none
        | _ => none
      | _ => none
    | none => none
  | false => none
theorem expr_run {P : Program} [ExtOk P] (hm : P.follows .mixedOrders = true) {fuel : Nat} {f : FuncId} {args : List Value} {x : E} (h : runExpr P fuel f args = some x) (w : World) :
    Calls P f ⟨args⟩ w fun e w' => (∃ A c, e = .returned (x.val A c) ∧ EKids w' w'.heap.size A x.kids) ∧ Below w.heap.size w w' := by
  unfold runExpr at h
  split at h
  rotate_left
  · simp at h
  rename_i hf
  split at h
  rotate_left
  · simp at h
  rename_i v1 m' hc
  split at h
  rotate_left
  · simp at h
  rename_i l
  split at h
  rotate_left
  · simp at h
  rename_i k s n sl
  split at h
  rename_i hp nx lw
  split at h
  rotate_left
  · simp at h
  rename_i kids hk
  obtain rfl := Option.some.inj h
  have hR : Rep (symMap w) ⟨.leaf, 1048576, big⟩ w := ⟨fun b x hx => (leaf_no hx).elim, fun b x hx => (leaf_no hx).elim, fun b x hx => (leaf_no hx).elim, fun b x hx => (leaf_no hx).elim, fun b x hx => (leaf_no hx).elim, fun b x hx => (leaf_no hx).elim, fun b x b' x' hx => (leaf_no hx).elim⟩
  refine (call_ok (ev_ok hm fuel) hc hR (.of_flat2 (flat2_mem hf)) (fun g _ => ⟨rfl, rfl⟩) (Nat.le_refl _)).mono ?_
  rintro e w' ⟨v', μ', rfl, hok, hv⟩
  refine ⟨?_, hok.os, hok.tape, hok.output, hok.size, fun k hk => hok.frame k hk fun b x hx ho => (leaf_no hx).elim⟩
  cases hv with
  | flat hf => simp [flat1] at hf
  | agg hvs =>
    cases hvs with
    | cons r1 hvs => cases hvs with
      | cons r2 hvs => cases hvs with
        | cons r3 hvs => cases hvs with
          | cons r4 hvs => cases hvs with
            | nil =>
              obtain rfl := r1.int_inv
              obtain rfl := r2.string_inv_
              obtain rfl := r3.int_inv
              obtain ⟨A, c, rfl, hK⟩ := kids_ok hok.rep 20 sl _ kids r4 hk
              exact ⟨A, c, rfl, hK⟩
end
end Go.Proofs.Ytldleckgkgeclaa
