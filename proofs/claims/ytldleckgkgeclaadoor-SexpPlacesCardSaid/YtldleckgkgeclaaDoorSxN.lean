/-
  What a reader holds: the trees that are open, each kid row its own; what is done. What each step does to it. No program in sight.
-/
import Derived.Test.YtldleckgkgeclaaDoorSxM
set_option linter.unusedVariables false
set_option linter.unusedSimpArgs false
namespace Go.Proofs.YtldleckgkgeclaaDoor
open Go.RowKit
structure St where
  ps : List TP
  dn : List TP
  A : Option Addr
  c : Nat
  B : Option Addr
  cB : Nat
/-- k is the block that A points into -/
def bk (A : Option Addr) (k : Nat) : Prop := ∃ ad : Addr, A = some ad ∧ ad.block = k
theorem bk_some {g o k : Nat} : bk (some ⟨g, o, none⟩) k ↔ g = k := ⟨fun ⟨ad, e, h⟩ => by injection e with e; subst e; exact h, fun h => ⟨_, rfl, h⟩⟩
theorem bk_none {k : Nat} : ¬ bk none k := fun ⟨_, e, _⟩ => by cases e
theorem bk_own {A : Option Addr} {n c k : Nat} : bk A k ↔ (Value.slice A n c).ownBlock = some k := by
  cases A with
  | none => exact ⟨fun h => absurd h bk_none, fun h => by simp [Value.ownBlock] at h⟩
  | some ad => exact ⟨fun ⟨a, e, h⟩ => by injection e with e; subst e; simpa [Value.ownBlock] using h, fun h => ⟨ad, rfl, by simpa [Value.ownBlock] using h⟩⟩
def St.live (σ : St) (k : Nat) : Prop := bk σ.A k ∨ bk σ.B k ∨ ∃ p ∈ σ.ps, bk p.2.1 k
def St.free (σ : St) (b0 : Nat) (w : World) (k : Nat) : Prop := b0 ≤ k ∧ k < w.heap.size ∧ ¬ σ.live k
abbrev TreeT : TypeId := 24
structure RInv (s : ByteArray) (w : World) (σ : St) (w' : World) : Prop where
  low : Below w.heap.size w w'
  size : w.heap.size + 2 ≤ w'.heap.size
  res : w'.heap[w.heap.size]? = some (.cells #[.int .i64 0, .string ⟨#[]⟩, .int .i64 0, .slice none 0 0, .int .i64 0] 24 (0, 0))
  rd : w'.heap[w.heap.size + 1]? = some (.cells #[.string s, .slice σ.A σ.ps.length σ.c, .slice σ.B σ.dn.length σ.cB] 52 (0, 0))
  own : w'.ownsRow (w.heap.size + 2) 24 5 (.slice σ.A σ.ps.length σ.c) σ.ps.length (flatT σ.ps)
  owd : w'.ownsRow (w.heap.size + 2) 24 5 (.slice σ.B σ.dn.length σ.cB) σ.dn.length (flatT σ.dn)
  ab : ∀ k, bk σ.A k → ¬ bk σ.B k
  ak : ∀ p ∈ σ.ps, ∀ k, bk p.2.1 k → ¬ bk σ.A k ∧ ¬ bk σ.B k
  kk : ∀ (i j : Nat) (p q : TP), σ.ps[i]? = some p → σ.ps[j]? = some q → i ≠ j → ∀ k, bk p.2.1 k → ¬ bk q.2.1 k
  kid : ∀ p ∈ σ.ps, ∃ qs : List TP, qs.map Prod.fst = p.1.kids ∧ w'.ownsRow (w.heap.size + 2) 24 5 (.slice p.2.1 p.1.kids.length p.2.2) p.1.kids.length (flatT qs) ∧
    ∀ q ∈ qs, q.1.kids.length ≤ q.2.2 ∧ XTK w' (σ.free (w.heap.size + 2) w') q.2.1 q.1.kids
  dnk : ∀ q ∈ σ.dn, q.1.kids.length ≤ q.2.2 ∧ XTK w' (σ.free (w.heap.size + 2) w') q.2.1 q.1.kids
  od : σ.ps = [] ∨ σ.dn = []
  bn : σ.dn = [] → σ.B = none ∧ σ.cB = 0
theorem own_keepA {w w' : World} {base n c z : Nat} {A : Option Addr} {e : TypeId} {xs : List Value} (h : w.ownsRow base e z (.slice A n c) n xs) (hb : ∀ k, bk A k → w'.heap[k]? = w.heap[k]?) : w'.ownsRow base e z (.slice A n c) n xs := by
  refine ⟨h.1, ?_⟩
  rcases h.2 with hn | ⟨g', cap, cur, e1, hg, hgg, rest⟩
  · exact .inl hn
  · exact .inr ⟨g', cap, cur, e1, hg, by rw [hb g' (bk_own.2 (by rw [e1]; rfl))]; exact hgg, rest⟩
theorem own_bk {w : World} {base n c z k : Nat} {A : Option Addr} {e : TypeId} {xs : List Value} (h : w.ownsRow base e z (.slice A n c) n xs) (hk : bk A k) : base ≤ k ∧ k < w.heap.size := h.lt k (bk_own.1 hk)
theorem xtk_move {w w' : World} {S S' : Nat → Prop} {A : Option Addr} {l : List T} (h : XTK w S A l) (h1 : ∀ k, S k → w'.heap[k]? = w.heap[k]?) (h2 : ∀ k, S k → S' k) : XTK w' S' A l := (h.kept h1).mono h2
/-- what is owned is a row of trees; its block lies in S -/
theorem own_trees2 {w : World} {base : Nat} {e : TypeId} {A : Option Addr} {c : Nat} {l : List TP} (h : w.ownsRow base e 5 (.slice A l.length c) l.length (flatT l)) (hn : l.length ≤ 9223372036854775807) {S : Nat → Prop} (hS : ∀ g, bk A g → S g) (hk : ∀ x ∈ l, x.1.kids.length ≤ x.2.2 ∧ XTK w S x.2.1 x.1.kids) :
    (l.map Prod.fst).length ≤ c ∧ XTK w S A (l.map Prod.fst) := by
  obtain ⟨_, hcase⟩ := id h
  rcases hcase with ⟨e1, h0⟩ | ⟨g, cap, cur, e1, hg, hh, hc, hcap, hsz, htake⟩
  · have e0 : l = [] := List.eq_nil_of_length_eq_zero h0
    subst e0
    exact ⟨Nat.zero_le _, .nil _⟩
  · injection e1 with e2 e3 e4
    subst e2 e4
    refine ⟨by rw [List.length_map]; exact hc, .mk g 0 _ (by rw [List.length_map]; exact hn) (hS g (bk_some.2 rfl)) (fun i => ((l[i]?).map fun x => x.2.1).getD none) (fun i => ((l[i]?).map fun x => x.2.2).getD 0) (fun i x hx => ?_) (fun i x hx => ?_)⟩
    · rw [List.getElem?_map] at hx
      cases hl : l[i]? with
      | none => rw [hl] at hx; cases hx
      | some y =>
        rw [hl] at hx
        obtain rfl : y.1 = x := by simpa using hx
        obtain ⟨f1, f2, f3, f4, f5⟩ := flatT_get l i y hl
        have hi : i < l.length := (List.getElem?_eq_some_iff.1 hl).1
        rw [Nat.zero_add, h.cellAt _ (by omega), h.cellAt _ (by omega), h.cellAt _ (by omega), h.cellAt _ (by omega), h.cellAt _ (by omega)]
        exact ⟨f1, f2, f3, f4, f5, (hk y (List.mem_of_getElem? hl)).1⟩
    · rw [List.getElem?_map] at hx
      cases hl : l[i]? with
      | none => rw [hl] at hx; cases hx
      | some y =>
        rw [hl] at hx
        obtain rfl : y.1 = x := by simpa using hx
        exact (hk y (List.mem_of_getElem? hl)).2
section
variable {s : ByteArray} {w w1 w2 : World} {σ : St}
theorem RInv.below (h : RInv s w σ w1) (hb : Below w1.heap.size w1 w2) : RInv s w σ w2 := by
  have hs := hb.size
  have hz := h.size
  have hfree : ∀ k, σ.free (w.heap.size + 2) w1 k → w2.heap[k]? = w1.heap[k]? := fun k hk => hb.block k hk.2.1
  have hmono : ∀ k, σ.free (w.heap.size + 2) w1 k → σ.free (w.heap.size + 2) w2 k := fun k hk => ⟨hk.1, by have := hk.2.1; omega, hk.2.2⟩
  refine ⟨h.low.trans (hb.mono (by omega)), by omega, (hb.block _ (by omega)).trans h.res, (hb.block _ (by omega)).trans h.rd, own_below h.own hb, own_below h.owd hb, h.ab, h.ak, h.kk, fun p hp => ?_, fun q hq => ?_, h.od, h.bn⟩
  · obtain ⟨qs, e, ho, hx⟩ := h.kid p hp
    exact ⟨qs, e, own_below ho hb, fun q hq => ⟨(hx q hq).1, xtk_move (hx q hq).2 hfree hmono⟩⟩
  · exact ⟨(h.dnk q hq).1, xtk_move (h.dnk q hq).2 hfree hmono⟩
/-- a new one is opened -/
theorem RInv.push (h : RInv s w σ w1) (hdn : σ.dn = []) {t : T} (ht : t.kids = []) (he : PutEff 52 w1 w2 (w.heap.size + 2) (w.heap.size + 1) 1 #[.string s, .slice σ.A σ.ps.length σ.c, .slice σ.B σ.dn.length σ.cB] σ.A σ.ps.length σ.ps (t, none, 0)) :
    ∃ g' cap', RInv s w { σ with ps := σ.ps ++ [(t, none, 0)], A := some ⟨g', 0, none⟩, c := cap' } w2 := by
  obtain ⟨g', cap', ho, hr, has, hg⟩ := he
  have hs := has.size
  have hz := h.size
  refine ⟨g', cap', ?_⟩
  have hb0 : w.heap.size + 2 ≤ g' := (ho.lt g' rfl).1
  have hg2 : ∀ k, k < w1.heap.size → ¬ bk σ.A k → g' ≠ k := fun k hk hn e => by
    rcases hg with h1 | h1
    · exact hn (e ▸ h1)
    · omega
  have hblk : ∀ k, k < w1.heap.size → k ≠ w.heap.size + 1 → ¬ bk σ.A k → w2.heap[k]? = w1.heap[k]? := fun k h1 h2 h3 => has.block k h1 fun hx => hx.elim h2 h3
  have hfree : ∀ k, σ.free (w.heap.size + 2) w1 k → w2.heap[k]? = w1.heap[k]? := fun k hk => hblk k hk.2.1 (by have := hk.1; omega) (fun e => hk.2.2 (.inl e))
  have hmono : ∀ k, σ.free (w.heap.size + 2) w1 k → ({ σ with ps := σ.ps ++ [(t, none, 0)], A := some ⟨g', 0, none⟩, c := cap' } : St).free (w.heap.size + 2) w2 k := fun k hk => ⟨hk.1, by have := hk.2.1; omega, fun hl => by
    rcases hl with h1 | h1 | ⟨p, hp, h1⟩
    · exact hg2 k hk.2.1 (fun e => hk.2.2 (.inl e)) (bk_some.1 h1)
    · exact hk.2.2 (.inr (.inl h1))
    · rcases List.mem_append.1 hp with hp | hp
      · exact hk.2.2 (.inr (.inr ⟨p, hp, h1⟩))
      · obtain rfl : p = (t, none, 0) := by simpa using hp
        exact bk_none h1⟩
  have hkl : ∀ p ∈ σ.ps, ∀ k, bk p.2.1 k → w.heap.size + 2 ≤ k ∧ k < w1.heap.size := fun p hp k hk => by
    obtain ⟨qs, _, ho, _⟩ := h.kid p hp
    exact own_bk ho hk
  have hBl : ∀ k, bk σ.B k → w.heap.size + 2 ≤ k ∧ k < w1.heap.size := fun k hk => own_bk h.owd hk
  refine ⟨h.low.trans (has.below (by omega) fun b hx => hx.elim (fun e => by omega) (fun hx => by have := (own_bk h.own hx).1; omega)), by omega, (hblk _ (by omega) (by omega) (fun e => by have := (own_bk h.own e).1; omega)).trans h.res, ?_, ?_, own_keepA h.owd (fun k hk => hblk k (hBl k hk).2 (by have := (hBl k hk).1; omega) (fun e => h.ab k e hk)), ?_, ?_, ?_, ?_, ?_, .inr hdn, h.bn⟩
  · rw [hr]
    simp
  · simpa using ho
  · intro k hk hB
    obtain rfl := bk_some.1 hk
    rcases hg with h1 | h1
    · exact h.ab _ h1 hB
    · have := (hBl _ hB).2; omega
  · intro p hp k hk
    rcases List.mem_append.1 hp with hp | hp
    · exact ⟨fun e => hg2 k (hkl p hp k hk).2 (h.ak p hp k hk).1 (bk_some.1 e), (h.ak p hp k hk).2⟩
    · obtain rfl : p = (t, none, 0) := by simpa using hp
      exact absurd hk bk_none
  · intro i j p q hi hj hij k hk hq
    rcases Nat.lt_or_ge i σ.ps.length with hil | hil
    · rcases Nat.lt_or_ge j σ.ps.length with hjl | hjl
      · simp only [List.getElem?_append_left hil] at hi
        simp only [List.getElem?_append_left hjl] at hj
        exact h.kk i j p q hi hj hij k hk hq
      · simp only [List.getElem?_append_right hjl] at hj
        have := List.mem_of_getElem? hj
        obtain rfl : q = (t, none, 0) := by simpa using this
        exact bk_none hq
    · simp only [List.getElem?_append_right hil] at hi
      have := List.mem_of_getElem? hi
      obtain rfl : p = (t, none, 0) := by simpa using this
      exact bk_none hk
  · intro p hp
    rcases List.mem_append.1 hp with hp | hp
    · obtain ⟨qs, e, ho2, hx⟩ := h.kid p hp
      exact ⟨qs, e, own_keepA ho2 (fun k hk => hblk k (hkl p hp k hk).2 (by have := (hkl p hp k hk).1; omega) (h.ak p hp k hk).1), fun q hq => ⟨(hx q hq).1, xtk_move (hx q hq).2 hfree hmono⟩⟩
    · obtain rfl : p = (t, none, 0) := by simpa using hp
      refine ⟨[], by rw [ht]; rfl, ?_, fun q hq => by cases hq⟩
      show w2.ownsRow _ _ 5 (.slice none t.kids.length 0) t.kids.length (flatT [])
      rw [ht]
      exact ⟨rfl, .inl ⟨rfl, rfl⟩⟩
  · intro q hq
    exact ⟨(h.dnk q hq).1, xtk_move (h.dnk q hq).2 hfree hmono⟩
/-- a whole one is put away -/
theorem RInv.done (h : RInv s w σ w1) (hps : σ.ps = []) (hdn : σ.dn = []) {x : TP} (hx : x.1.kids.length ≤ x.2.2 ∧ XTK w1 (σ.free (w.heap.size + 2) w1) x.2.1 x.1.kids)
    (he : PutEff 52 w1 w2 (w.heap.size + 2) (w.heap.size + 1) 2 #[.string s, .slice σ.A 0 σ.c, .slice none 0 0] none 0 [] x) :
    ∃ g' cap', RInv s w { σ with dn := [x], B := some ⟨g', 0, none⟩, cB := cap' } w2 := by
  obtain ⟨g', cap', ho, hr, has, hg⟩ := he
  have hs := has.size
  have hz := h.size
  refine ⟨g', cap', ?_⟩
  have hge : w1.heap.size ≤ g' := by
    rcases hg with h1 | h1
    · exact absurd h1 bk_none
    · exact h1
  have hblk : ∀ k, k < w1.heap.size → k ≠ w.heap.size + 1 → w2.heap[k]? = w1.heap[k]? := fun k h1 h2 => has.block k h1 fun hx => hx.elim h2 bk_none
  have hfree : ∀ k, σ.free (w.heap.size + 2) w1 k → w2.heap[k]? = w1.heap[k]? := fun k hk => hblk k hk.2.1 (by have := hk.1; omega)
  have hmono : ∀ k, σ.free (w.heap.size + 2) w1 k → ({ σ with dn := [x], B := some ⟨g', 0, none⟩, cB := cap' } : St).free (w.heap.size + 2) w2 k := fun k hk => ⟨hk.1, by have := hk.2.1; omega, fun hl => by
    rcases hl with h1 | h1 | ⟨p, hp, h1⟩
    · exact hk.2.2 (.inl h1)
    · have := bk_some.1 h1; have := hk.2.1; omega
    · exact hk.2.2 (.inr (.inr ⟨p, hp, h1⟩))⟩
  refine ⟨h.low.trans (has.below (by omega) fun b hx => hx.elim (fun e => by omega) (fun hx => absurd hx bk_none)), by omega, (hblk _ (by omega) (by omega)).trans h.res, ?_, own_keepA h.own (fun k hk => hblk k (own_bk h.own hk).2 (by have := (own_bk h.own hk).1; omega)), ?_, ?_, ?_, ?_, ?_, ?_, .inl hps, fun e => by cases e⟩
  · rw [hr, hps]
    rfl
  · exact ho
  · intro k hk hB
    have := (own_bk h.own hk).2
    have := bk_some.1 hB
    omega
  · intro p hp; simp only [hps] at hp; cases hp
  · intro i j p q hi; simp only [hps] at hi; cases hi
  · intro p hp; simp only [hps] at hp; cases hp
  · intro q hq
    obtain rfl : q = x := by simpa using hq
    exact ⟨hx.1, xtk_move hx.2 hfree hmono⟩
/-- the last that is open gets one kid more -/
theorem RInv.addKid (h : RInv s w σ w1) {m gO n : Nat} {cur : Array Value} {qs : List TP} {p x : TP} (hm : σ.ps.length = m + 1) (hp : σ.ps[m]? = some p) (hA : σ.A = some ⟨gO, 0, none⟩) (hcur : w1.heap[gO]? = some (.cells cur 24 (0, 0)))
    (hn : n = p.1.kids.length) (hqs : qs.map Prod.fst = p.1.kids) (hqk : ∀ q ∈ qs, q.1.kids.length ≤ q.2.2 ∧ XTK w1 (σ.free (w.heap.size + 2) w1) q.2.1 q.1.kids)
    (hx : x.1.kids.length ≤ x.2.2 ∧ XTK w1 (σ.free (w.heap.size + 2) w1) x.2.1 x.1.kids) (he : AddEff w1 w2 (w.heap.size + 2) gO (m * 5 + 3) cur p.2.1 n qs x) :
    ∃ g' cap', RInv s w { σ with ps := σ.ps.set m (p.1.kid x.1, some ⟨g', 0, none⟩, cap') } w2 := by
  obtain ⟨g', cap', ho, hr, has, hg⟩ := he
  subst hn
  have hs := has.size
  have hz := h.size
  have hpm := List.mem_of_getElem? hp
  have hmlt : m < σ.ps.length := by omega
  refine ⟨g', cap', ?_⟩
  have hgO := own_bk h.own (k := gO) (by rw [hA]; exact bk_some.2 rfl)
  have hkl : ∀ p ∈ σ.ps, ∀ k, bk p.2.1 k → w.heap.size + 2 ≤ k ∧ k < w1.heap.size := fun p hp k hk => by
    obtain ⟨qs, _, ho, _⟩ := h.kid p hp
    exact own_bk ho hk
  have hg2 : ∀ k, k < w1.heap.size → ¬ bk p.2.1 k → g' ≠ k := fun k hk hn e => by
    rcases hg with h1 | h1
    · exact hn (e ▸ h1)
    · omega
  have hblk : ∀ k, k < w1.heap.size → ¬ bk σ.A k → ¬ bk p.2.1 k → w2.heap[k]? = w1.heap[k]? := fun k h1 h2 h3 => has.block k h1 fun hx => hx.elim (fun e => h2 (by rw [hA]; exact bk_some.2 e.symm)) h3
  have hfree : ∀ k, σ.free (w.heap.size + 2) w1 k → w2.heap[k]? = w1.heap[k]? := fun k hk => hblk k hk.2.1 (fun e => hk.2.2 (.inl e)) (fun e => hk.2.2 (.inr (.inr ⟨p, hpm, e⟩)))
  have hset : ∀ q, q ∈ σ.ps.set m (p.1.kid x.1, some ⟨g', 0, none⟩, cap') → (q = (p.1.kid x.1, some ⟨g', 0, none⟩, cap')) ∨ ∃ j, j ≠ m ∧ σ.ps[j]? = some q := fun q hq => by
    obtain ⟨j, hj⟩ := List.mem_iff_getElem?.1 hq
    by_cases e : m = j
    · subst e
      rw [List.getElem?_set_self hmlt] at hj
      exact .inl (Option.some.inj hj).symm
    · rw [List.getElem?_set_ne e] at hj
      exact .inr ⟨j, fun h => e h.symm, hj⟩
  have hmono : ∀ k, σ.free (w.heap.size + 2) w1 k → ({ σ with ps := σ.ps.set m (p.1.kid x.1, some ⟨g', 0, none⟩, cap') } : St).free (w.heap.size + 2) w2 k := fun k hk => ⟨hk.1, by have := hk.2.1; omega, fun hl => by
    rcases hl with h1 | h1 | ⟨q, hq, h1⟩
    · exact hk.2.2 (.inl h1)
    · exact hk.2.2 (.inr (.inl h1))
    · rcases hset q hq with rfl | ⟨j, _, hj⟩
      · exact hg2 k hk.2.1 (fun e => hk.2.2 (.inr (.inr ⟨p, hpm, e⟩))) (bk_some.1 h1)
      · exact hk.2.2 (.inr (.inr ⟨q, List.mem_of_getElem? hj, h1⟩))⟩
  have hBl : ∀ k, bk σ.B k → w.heap.size + 2 ≤ k ∧ k < w1.heap.size := fun k hk => own_bk h.owd hk
  have hdn : σ.dn = [] := by
    rcases h.od with h1 | h1
    · rw [h1] at hm; cases hm
    · exact h1
  refine ⟨h.low.trans (has.below (by omega) fun b hx => hx.elim (fun e => by omega) (fun hx => by have := (hkl p hpm b hx).1; omega)), by omega, (hblk _ (by omega) (fun e => by have := (own_bk h.own e).1; omega) (fun e => by have := (hkl p hpm _ e).1; omega)).trans h.res,
    ?_, ?_, own_keepA h.owd (fun k hk => hblk k (hBl k hk).2 (fun e => h.ab k e hk) (fun e => (h.ak p hpm k e).2 hk)), h.ab, ?_, ?_, ?_, ?_, .inr hdn, h.bn⟩
  · rw [(hblk _ (by omega) (fun e => by have := (own_bk h.own e).1; omega) (fun e => by have := (hkl p hpm _ e).1; omega)).trans h.rd]
    simp
  · obtain ⟨h1, h2⟩ := h.own
    refine ⟨by rw [flatT_len], .inr ?_⟩
    rcases h2 with ⟨_, h'⟩ | ⟨g3, cap3, cur3, e3, hb3, hg3, hnc, hcm, hcs, htake⟩
    · rw [hm] at h'; cases h'
    · rw [hA] at e3
      simp only [Value.slice.injEq, Option.some.injEq, Addr.mk.injEq, and_true, true_and] at e3
      obtain ⟨rfl, e4⟩ := e3
      rw [hcur] at hg3
      have hcc : cur = cur3 := by injection hg3 with hg3; injection hg3
      subst hcc
      refine ⟨gO, σ.c, _, by simp only [hA, List.length_set], hb3, hr, by rw [e4]; simpa using hnc, by rw [e4]; exact hcm, by rw [Array.size_setIfInBounds, hcs, e4], ?_⟩
      rw [Array.toList_setIfInBounds, List.take_set, List.length_set, htake]
      have hks : p.1.kids.length + 1 = (p.1.kids ++ [x.1]).length := by simp
      rw [hks, flatT_set σ.ps m p (p.1.kids ++ [x.1]) (some ⟨g', 0, none⟩) cap' hp]
      rfl
  · intro q hq k hk
    rcases hset q hq with rfl | ⟨j, _, hj⟩
    · have e := bk_some.1 hk
      subst e
      rcases hg with h1 | h1
      · exact h.ak p hpm _ h1
      · exact ⟨fun e => by have := (own_bk h.own e).2; omega, fun e => by have := (hBl _ e).2; omega⟩
    · exact h.ak q (List.mem_of_getElem? hj) k hk
  · intro i j a b hi hj hij k hk hq
    by_cases ei : m = i
    · subst ei
      have hi' : (p.1.kid x.1, some ⟨g', 0, none⟩, cap') = a := by
        have := hi
        simp only [List.getElem?_set_self hmlt] at this
        exact Option.some.inj this
      subst hi'
      have hj' : σ.ps[j]? = some b := by have := hj; simp only [List.getElem?_set_ne hij] at this; exact this
      have e := bk_some.1 hk
      subst e
      rcases hg with h1 | h1
      · exact h.kk m j p b hp hj' hij _ h1 hq
      · have := (hkl b (List.mem_of_getElem? hj') _ hq).2; omega
    · have hi' : σ.ps[i]? = some a := by have := hi; simp only [List.getElem?_set_ne ei] at this; exact this
      by_cases ej : m = j
      · subst ej
        have hj' : (p.1.kid x.1, some ⟨g', 0, none⟩, cap') = b := by
          have := hj
          simp only [List.getElem?_set_self hmlt] at this
          exact Option.some.inj this
        subst hj'
        have e := bk_some.1 hq
        subst e
        rcases hg with h1 | h1
        · exact h.kk i m a p hi' hp hij _ hk h1
        · have := (hkl a (List.mem_of_getElem? hi') _ hk).2; omega
      · have hj' : σ.ps[j]? = some b := by have := hj; simp only [List.getElem?_set_ne ej] at this; exact this
        exact h.kk i j a b hi' hj' hij k hk hq
  · intro q hq
    rcases hset q hq with rfl | ⟨j, hjm, hj⟩
    · refine ⟨qs ++ [x], by rw [List.map_append, hqs]; rfl, ?_, fun y hy => ?_⟩
      · show w2.ownsRow _ _ 5 (.slice (some ⟨g', 0, none⟩) (p.1.kids ++ [x.1]).length cap') (p.1.kids ++ [x.1]).length (flatT (qs ++ [x]))
        rw [List.length_append]
        exact ho
      · rcases List.mem_append.1 hy with hy | hy
        · exact ⟨(hqk y hy).1, xtk_move (hqk y hy).2 hfree hmono⟩
        · obtain rfl : y = x := by simpa using hy
          exact ⟨hx.1, xtk_move hx.2 hfree hmono⟩
    · obtain ⟨qs2, e, ho2, hx2⟩ := h.kid q (List.mem_of_getElem? hj)
      exact ⟨qs2, e, own_keepA ho2 (fun k hk => hblk k (hkl q (List.mem_of_getElem? hj) k hk).2 (h.ak q (List.mem_of_getElem? hj) k hk).1 (h.kk j m q p hj hp hjm k hk)), fun y hy => ⟨(hx2 y hy).1, xtk_move (hx2 y hy).2 hfree hmono⟩⟩
  · intro q hq
    exact ⟨(h.dnk q hq).1, xtk_move (h.dnk q hq).2 hfree hmono⟩
/-- the last that is open is taken out -/
theorem RInv.pop (h : RInv s w σ w1) {m : Nat} {p : TP} (hm : σ.ps.length = m + 1) (hp : σ.ps[m]? = some p) (hk6 : p.1.kids.length ≤ 9223372036854775807) :
    RInv s w { σ with ps := σ.ps.take m } (w1.setCell ⟨w.heap.size + 1, 1, none⟩ (.slice σ.A m σ.c)) ∧
    (p.1.kids.length ≤ p.2.2 ∧ XTK (w1.setCell ⟨w.heap.size + 1, 1, none⟩ (.slice σ.A m σ.c)) (({ σ with ps := σ.ps.take m } : St).free (w.heap.size + 2) (w1.setCell ⟨w.heap.size + 1, 1, none⟩ (.slice σ.A m σ.c))) p.2.1 p.1.kids) := by
  have hz := h.size
  have hpm := List.mem_of_getElem? hp
  obtain ⟨w2, ew2⟩ : ∃ w2, w2 = w1.setCell ⟨w.heap.size + 1, 1, none⟩ (.slice σ.A m σ.c) := ⟨_, rfl⟩
  have hs : w2.heap.size = w1.heap.size := by rw [ew2]; simp [World.setCell]
  have hblk : ∀ k, k ≠ w.heap.size + 1 → w2.heap[k]? = w1.heap[k]? := fun k hk => by rw [ew2]; exact Below.heap_setCell w1 ⟨w.heap.size + 1, 1, none⟩ _ k hk
  have hlow : Below w.heap.size w w2 := by rw [ew2]; exact h.low.setCell (p := ⟨w.heap.size + 1, 1, none⟩) (by simp) _
  have hrd : w2.heap[w.heap.size + 1]? = some (.cells #[.string s, .slice σ.A m σ.c, .slice σ.B σ.dn.length σ.cB] 52 (0, 0)) := by rw [ew2]; exact Blk.set_ h.rd _ _
  rw [← ew2]
  clear ew2
  have htk : (σ.ps.take m).length = m := by rw [List.length_take]; omega
  have hmem : ∀ q, q ∈ σ.ps.take m → ∃ j, j ≠ m ∧ σ.ps[j]? = some q := fun q hq => by
    obtain ⟨j, hj⟩ := List.mem_iff_getElem?.1 hq
    have hjm : j < m := by
      rcases Nat.lt_or_ge j m with h' | h'
      · exact h'
      · rw [List.getElem?_take_eq_none h'] at hj; cases hj
    rw [List.getElem?_take_of_lt hjm] at hj
    exact ⟨j, by omega, hj⟩
  have hkl : ∀ p ∈ σ.ps, ∀ k, bk p.2.1 k → w.heap.size + 2 ≤ k ∧ k < w1.heap.size := fun p hp k hk => by
    obtain ⟨qs, _, ho, _⟩ := h.kid p hp
    exact own_bk ho hk
  have hfree : ∀ k, σ.free (w.heap.size + 2) w1 k → w2.heap[k]? = w1.heap[k]? := fun k hk => hblk k (by have := hk.1; omega)
  have hmono : ∀ k, σ.free (w.heap.size + 2) w1 k → ({ σ with ps := σ.ps.take m } : St).free (w.heap.size + 2) w2 k := fun k hk => ⟨hk.1, by rw [hs]; exact hk.2.1, fun hl => by
    rcases hl with h1 | h1 | ⟨q, hq, h1⟩
    · exact hk.2.2 (.inl h1)
    · exact hk.2.2 (.inr (.inl h1))
    · obtain ⟨j, _, hj⟩ := hmem q hq
      exact hk.2.2 (.inr (.inr ⟨q, List.mem_of_getElem? hj, h1⟩))⟩
  have hdn : σ.dn = [] := by
    rcases h.od with h1 | h1
    · rw [h1] at hm; cases hm
    · exact h1
  constructor
  · refine ⟨hlow, by omega, (hblk _ (by omega)).trans h.res, ?_, ?_, own_keepA h.owd (fun k hk => hblk k (by have := (own_bk h.owd hk).1; omega)), h.ab, fun q hq k hk => ?_, fun i j a b hi hj hij k hk hq => ?_, fun q hq => ?_, fun q hq => ?_, .inr hdn, h.bn⟩
    · rw [hrd]; simp only [htk]
    · have ho : w2.ownsRow (w.heap.size + 2) 24 5 (.slice σ.A σ.ps.length σ.c) σ.ps.length (flatT σ.ps) := own_keepA h.own (fun k hk => hblk k (by have := (own_bk h.own hk).1; omega))
      obtain ⟨g, cap, e, _⟩ := ho.form (by omega)
      injection e with e1 _ e3
      rw [e1] at ho
      have := own_take ho rfl (k := m) (by omega)
      simp only [htk]
      rw [e1]
      exact this
    · obtain ⟨j, _, hj⟩ := hmem q hq
      exact h.ak q (List.mem_of_getElem? hj) k hk
    · have get : ∀ {i : Nat} {a : TP}, (σ.ps.take m)[i]? = some a → σ.ps[i]? = some a := fun {i a} hi => by
        rcases Nat.lt_or_ge i m with h' | h'
        · rw [List.getElem?_take_of_lt h'] at hi; exact hi
        · rw [List.getElem?_take_eq_none h'] at hi; cases hi
      exact h.kk i j a b (get hi) (get hj) hij k hk hq
    · obtain ⟨j, _, hj⟩ := hmem q hq
      obtain ⟨qs, e, ho, hx⟩ := h.kid q (List.mem_of_getElem? hj)
      exact ⟨qs, e, own_keepA ho (fun k hk => hblk k (by have := (own_bk ho hk).1; omega)), fun y hy => ⟨(hx y hy).1, xtk_move (hx y hy).2 hfree hmono⟩⟩
    · exact ⟨(h.dnk q hq).1, xtk_move (h.dnk q hq).2 hfree hmono⟩
  · obtain ⟨qs, e, ho, hx⟩ := h.kid p hpm
    have hl : p.1.kids.length = qs.length := by rw [← e, List.length_map]
    have ho2 : w2.ownsRow (w.heap.size + 2) 24 5 (.slice p.2.1 qs.length p.2.2) qs.length (flatT qs) := by
      rw [← hl]
      exact own_keepA ho (fun k hk => hblk k (by have := (own_bk ho hk).1; omega))
    have := own_trees2 ho2 (by omega) (S := ({ σ with ps := σ.ps.take m } : St).free (w.heap.size + 2) w2) (fun k hk => ⟨(hkl p hpm k hk).1, by rw [hs]; exact (hkl p hpm k hk).2, fun hlv => by
      rcases hlv with h1 | h1 | ⟨q, hq, h1⟩
      · exact (h.ak p hpm k hk).1 h1
      · exact (h.ak p hpm k hk).2 h1
      · obtain ⟨j, hjm, hj⟩ := hmem q hq
        exact h.kk m j p q hp hj (Ne.symm hjm) k hk h1⟩) (fun q hq => ⟨(hx q hq).1, xtk_move (hx q hq).2 hfree hmono⟩)
    rw [e] at this
    exact this
end
end Go.Proofs.YtldleckgkgeclaaDoor
