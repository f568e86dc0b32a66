/-
  A small region, every order by itself.
-/
import Derived.Test.YtloolljoelngcaaGreatEvR
set_option linter.unusedVariables false
namespace Go.Proofs.YtloolljoelngcaaGreat
open Go.RowKit

theorem edgesIn_spec {done : Nat} : ∀ {l : List Edge}, edgesIn done l = true ↔ ∀ e ∈ l, Region.binds .any e = true → done.testBit e.on = true
  | [] => by simp [edgesIn]
  | e :: l => by
    rw [edgesIn]
    cases hb : Region.binds .any e with
    | false =>
      simp only [Bool.false_and]
      rw [edgesIn_spec]
      constructor
      · intro h e' he' hb'
        rcases List.mem_cons.1 he' with rfl | he'
        · rw [hb] at hb'; cases hb'
        · exact h e' he' hb'
      · intro h e' he'
        exact h e' (List.mem_cons_of_mem _ he')
    | true =>
      cases ht : done.testBit e.on with
      | false =>
        simp only [Bool.true_and, Bool.not_false]
        constructor
        · intro h; cases h
        · intro h
          have := h e List.mem_cons_self hb
          rw [ht] at this
          cases this
      | true =>
        simp only [Bool.true_and, Bool.not_true]
        rw [edgesIn_spec]
        constructor
        · intro h e' he' hb'
          rcases List.mem_cons.1 he' with rfl | he'
          · exact ht
          · exact h e' he' hb'
        · intro h e' he'
          exact h e' (List.mem_cons_of_mem _ he')
theorem readyL_spec {done : Nat} : ∀ {l : List Oper} {i j : Nat}, j ∈ readyL done l i ↔ ∃ (k : Nat) (o : Oper), j = i + k ∧ l[k]? = some o ∧ done.testBit j = false ∧ edgesIn done o.after.toList = true
  | [], i, j => by simp [readyL]
  | o :: l, i, j => by
    have rest : j ∈ readyL done l i.succ ↔ ∃ (k : Nat) (p : Oper), j = i + (k + 1) ∧ (o :: l)[k + 1]? = some p ∧ done.testBit j = false ∧ edgesIn done p.after.toList = true := by
      rw [readyL_spec]
      constructor
      · rintro ⟨k, p, rfl, h2, h3, h4⟩; exact ⟨k, p, by omega, by simpa using h2, h3, h4⟩
      · rintro ⟨k, p, rfl, h2, h3, h4⟩; exact ⟨k, p, by omega, by simpa using h2, h3, h4⟩
    have split : (∃ (k : Nat) (p : Oper), j = i + k ∧ (o :: l)[k]? = some p ∧ done.testBit j = false ∧ edgesIn done p.after.toList = true) ↔
        (j = i ∧ done.testBit i = false ∧ edgesIn done o.after.toList = true) ∨ ∃ (k : Nat) (p : Oper), j = i + (k + 1) ∧ (o :: l)[k + 1]? = some p ∧ done.testBit j = false ∧ edgesIn done p.after.toList = true := by
      constructor
      · rintro ⟨k, p, h1, h2, h3, h4⟩
        cases k with
        | zero => simp at h2; subst h2; left; simp at h1; subst h1; exact ⟨rfl, h3, h4⟩
        | succ k => exact .inr ⟨k, p, h1, h2, h3, h4⟩
      · rintro (⟨rfl, h3, h4⟩ | ⟨k, p, h1, h2, h3, h4⟩)
        · exact ⟨0, o, rfl, rfl, h3, h4⟩
        · exact ⟨k + 1, p, h1, h2, h3, h4⟩
    rw [split, ← rest, readyL]
    cases hc : !(done.testBit i) && edgesIn done o.after.toList with
    | true =>
      rw [Bool.and_eq_true, Bool.not_eq_true'] at hc
      simp only [List.mem_cons]
      constructor
      · rintro (rfl | h)
        · exact .inl ⟨rfl, hc.1, hc.2⟩
        · exact .inr h
      · rintro (⟨rfl, _⟩ | h)
        · exact .inl rfl
        · exact .inr h
    | false =>
      simp only
      constructor
      · exact .inr
      · rintro (⟨_, h1, h2⟩ | h)
        · rw [h1, h2] at hc; cases hc
        · exact h
def RelD (n done : Nat) (listed : Array Bool) : Prop := listed.size = n ∧ ∀ i, done.testBit i = listed.getD i false
theorem ready_eq {ops : Array Oper} {done : Nat} {listed : Array Bool} (h : RelD ops.size done listed) {i : Nat} : i ∈ readyL done ops.toList 0 ↔ i ∈ Region.ready .any ops listed := by
  rw [readyL_spec, mem_ready]
  obtain ⟨h1, h2⟩ := h
  constructor
  · rintro ⟨k, o, rfl, g2, g3, g4⟩
    rw [Nat.zero_add] at g3 ⊢
    have hlt : k < ops.size := by simpa using (List.getElem?_eq_some_iff.1 g2).1
    refine ⟨by rw [getD_tf (by omega) true false, ← h2]; exact g3, o, by simpa using g2, fun e he hb => ?_⟩
    rw [← h2]
    exact edgesIn_spec.1 g4 e (by simpa using he) hb
  · rintro ⟨g1, o, g2, g3⟩
    have hlt : i < ops.size := (Array.getElem?_eq_some_iff.1 g2).1
    refine ⟨i, o, by omega, by simpa using g2, by rw [h2, ← getD_tf (by omega) true false]; exact g1, edgesIn_spec.2 fun e he hb => ?_⟩
    rw [h2]
    exact g3 e (by simpa using he) hb
theorem RelD.set {n done : Nat} {listed : Array Bool} (h : RelD n done listed) {i : Nat} (hi : i < n) : RelD n (done ||| 2 ^ i) (listed.setIfInBounds i true) := by
  obtain ⟨h1, h2⟩ := h
  refine ⟨by simpa using h1, fun j => ?_⟩
  rw [Nat.testBit_or, Nat.testBit_two_pow]
  by_cases e : i = j
  · subst e
    simp [Array.getD_eq_getD_getElem?, show i < listed.size from by omega]
  · rw [h2]
    simp [Array.getD_eq_getD_getElem?, Array.getElem?_setIfInBounds_ne e, e]

section
variable {P : Program} {rec : Req → Stt → Option (Out × Stt)} {ops : Array Oper} {base : Mem}
theorem foldW_spec (hlt : ∀ b x, base.heap.get b = some x → b < base.next) {f : Nat → Option Stt} : ∀ {l : List Nat} {r0 r : Stt}, foldW base f l r0 = some r → CovR base r0 r ∧ ∀ i ∈ l, ∃ q, f i = some q ∧ CovR base q r
  | [], r0, r, h => by rw [foldW] at h; obtain rfl := Option.some.inj h; exact ⟨CovR.refl _ _, fun i hi => by simp at hi⟩
  | i :: l, r0, r, h => by
    rw [foldW] at h
    cases hf : f i with
    | none => rw [hf] at h; simp at h
    | some q =>
      rw [hf] at h
      simp only at h
      cases hm : mergeS base r0 q with
      | none => rw [hm] at h; simp at h
      | some r1 =>
        rw [hm] at h
        obtain ⟨c1, c2⟩ := mergeS_cov hlt hm
        obtain ⟨g1, g2⟩ := foldW_spec hlt h
        refine ⟨c1.trans g1, fun j hj => ?_⟩
        rcases List.mem_cons.1 hj with rfl | hj
        · exact ⟨q, hf, c2.trans g1⟩
        · exact g2 j hj
theorem any_small [ExtOk P] (hS : Snd P rec) {μ0 : Map} {w0 : World} {Q : Exit → Act → World → Prop} (hlt : ∀ b x, base.heap.get b = some x → b < base.next) : ∀ (n done : Nat) (s r : Stt), evAny P rec ops base n done s = some r →
    ∀ (r' : Stt), CovR base r r' → (∀ (μ : Map) (w : World) (a : Act), Ok μ0 base w0 μ r'.mem w → FrR μ r'.mem.next r'.fr r'.size a → Q .normal a w) →
    ∀ (listed : Array Bool) (μ : Map) (w : World) (a : Act), RelD ops.size done listed → Ok μ0 base w0 μ s.mem w → FrR μ s.mem.next s.fr s.size a → wpAny P .any ops Q n listed a w := by
  intro n
  induction n with
  | zero =>
    intro done s r h r' hc hQ listed μ w a hrel hok hF
    rw [evAny] at h
    split at h
    · rename_i hr
      obtain rfl := Option.some.inj h
      refine ⟨?_, ?_⟩
      · cases hx : Region.ready .any ops listed with
        | nil => rfl
        | cons i l =>
          have : i ∈ readyL done ops.toList 0 := (ready_eq hrel).2 (by rw [hx]; exact List.mem_cons_self)
          rw [hr] at this
          cases this
      · obtain ⟨g1, g2⟩ := hc μ0 w0 μ w a hok hF
        exact hQ μ w a g1 g2
    · simp at h
  | succ n ih =>
    intro done s r h r' hc hQ listed μ w a hrel hok hF
    rw [evAny] at h
    split at h
    · rename_i hr
      obtain rfl := Option.some.inj h
      refine ⟨fun _ => ?_, fun i hi => ?_⟩
      · obtain ⟨g1, g2⟩ := hc μ0 w0 μ w a hok hF
        exact hQ μ w a g1 g2
      · have := (ready_eq hrel).2 hi
        rw [hr] at this
        cases this
    · rename_i i0 is hr
      refine ⟨fun hx => ?_, fun i hi => ?_⟩
      · exfalso
        have : i0 ∈ Region.ready .any ops listed := (ready_eq hrel).1 (by rw [hr]; exact List.mem_cons_self)
        rw [hx] at this
        cases this
      · -- the result of this way is within the whole
        have way : ∃ s1 q, runAt P rec ops i s = some s1 ∧ evAny P rec ops base n (done ||| 2 ^ i) s1 = some q ∧ CovR base q r := by
          have hmem := (ready_eq hrel).2 hi
          rw [hr] at hmem
          cases h0 : runAt P rec ops i0 s with
          | none => rw [h0] at h; simp at h
          | some s1 =>
            rw [h0] at h
            simp only at h
            cases h1 : evAny P rec ops base n (done ||| 2 ^ i0) s1 with
            | none => rw [h1] at h; simp at h
            | some q0 =>
              rw [h1] at h
              simp only at h
              obtain ⟨g1, g2⟩ := foldW_spec hlt h
              rcases List.mem_cons.1 hmem with rfl | hmem
              · exact ⟨s1, q0, h0, h1, g1⟩
              · obtain ⟨q, hq, hcq⟩ := g2 i hmem
                cases h2 : runAt P rec ops i s with
                | none => rw [h2] at hq; simp at hq
                | some s2 => rw [h2] at hq; exact ⟨s2, q, rfl, hq, hcq⟩
        obtain ⟨s1, q, h1, h2, h3⟩ := way
        obtain ⟨_, o, ho, _⟩ := mem_ready.1 hi
        have hlt' : i < ops.size := (Array.getElem?_eq_some_iff.1 ho).1
        unfold runAt at h1
        rw [ho] at h1
        simp only at h1
        unfold wpOp
        simp only [ho]
        have hw := wanted_eq (ops := ops) hF o
        split at h1
        · simp at h1
        · rename_i hwe
          rw [hw false hwe]
          simp only [Bool.false_eq_true, if_false]
          obtain ⟨fr', e1, hF'⟩ := put_ok h1 hF .undef
          obtain rfl := Option.some.inj e1
          exact ih _ _ _ h2 r' (h3.trans hc) hQ _ μ w _ (hrel.set hlt') hok hF'
        · rename_i hwe
          rw [hw true hwe]
          simp only [if_true]
          split at h1
          · rename_i v m1 hdo
            refine .inl (do_ok hS hdo hok.rep hF fun v' w' μ' hok' hv => ?_)
            obtain ⟨fr', e1, hF'⟩ := put_ok h1 (hF.up hok') hv
            obtain rfl := Option.some.inj e1
            exact ih _ _ _ h2 r' (h3.trans hc) hQ _ μ' w' _ (hrel.set hlt') (hok.trans hok') hF'
          · simp at h1
end

theorem small_ok {P : Program} [ExtOk P] {rec : Req → Stt → Option (Out × Stt)} (hm : P.follows .mixedOrders = true) (hS : Snd P rec) (id : Nat) (ops : Array Oper) (s : Stt) (out : Out) (s' : Stt) (h : evSmall P rec ops s = some (out, s')) :
    ∀ μ0 m0 w0 μ w a, Ok μ0 m0 w0 μ s.mem w → FrR μ s.mem.next s.fr s.size a → (Code.region id ops true).wp P (Post μ0 m0 w0 out s') a w := by
  intro μ0 m0 w0 μ w a hok hF
  obtain ⟨fr, size, ⟨hp, n, low⟩⟩ := s
  unfold evSmall at h
  simp only at h hok hF
  split at h
  rotate_left
  · simp at h
  rename_i r hr
  simp only [Option.some.injEq, Prod.mk.injEq] at h
  obtain ⟨rfl, rfl⟩ := h
  refine wp_region_any hm ?_
  have hdr : Ok μ ⟨hp, n, low⟩ w μ ⟨hp, n, low⟩ { w with drawn := w.drawn + 1 } := Ok.drawn hok.rep rfl rfl rfl rfl
  have hok' := hok.trans hdr
  generalize ({ w with drawn := w.drawn + 1 } : World) = w1 at hok'
  have hrep : Rep μ ⟨hp, n, big⟩ w1 := ⟨hok'.rep.lt, hok'.rep.cells, hok'.rep.fits, hok'.rep.inb, hok'.rep.es, hok'.rep.there, hok'.rep.apart⟩
  refine any_small (base := ⟨hp, n, big⟩) hS hok'.rep.lt ops.size 0 _ _ hr r (CovR.refl _ _) (fun μ1 w2 a1 h1 h2 => ?_) _ μ w1 a ⟨by simp, fun i => ?_⟩ (.refl hrep) hF
  · obtain ⟨frR, sizeR, ⟨hR, nR, lR⟩⟩ := r
    exact ⟨rfl, μ1, hok'.trans h1.lowers, h2⟩
  · rw [Nat.zero_testBit, Array.getD_eq_getD_getElem?, Array.getElem?_replicate]
    split <;> rfl
end Go.Proofs.YtloolljoelngcaaGreat
