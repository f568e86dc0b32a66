/-
  A region in another order of its text; regions with stores that have no order: the end.
-/
import Derived.Test.YtloolljoelngcaaGreatEvQ
set_option linter.unusedVariables false
namespace Go.Proofs.YtloolljoelngcaaGreat
open Go.RowKit

theorem posOf_not {b : Nat} : ∀ {l : List Nat} {i d : Nat}, b ∉ l → posOf b l i d = d
  | [], _, _, _ => rfl
  | p :: l, i, d, h => by
    rw [posOf]
    have : Nat.beq p b = false := by
      rw [Bool.eq_false_iff]
      intro e
      rw [Nat.beq_eq] at e
      exact h (by rw [e]; exact List.mem_cons_self)
    rw [this]
    exact posOf_not fun e => h (List.mem_cons_of_mem _ e)
theorem posOf_mem {b : Nat} : ∀ {l : List Nat} {i : Nat}, b ∈ l → ∃ k, l[k]? = some b ∧ ∀ d, posOf b l i d = i + k
  | [], _, h => by simp at h
  | p :: l, i, h => by
    cases hb : Nat.beq p b with
    | true =>
      have e := Nat.eq_of_beq_eq_true hb
      exact ⟨0, by simp [e], fun d => by rw [posOf, hb]; rfl⟩
    | false =>
      have hne : b ≠ p := fun e => by subst e; simp at hb
      obtain ⟨k, h1, h2⟩ := posOf_mem (i := i.succ) ((List.mem_cons.1 h).resolve_left hne)
      exact ⟨k + 1, by simpa using h1, fun d => by rw [posOf, hb]; simp only; rw [h2]; omega⟩
theorem permA_spec {n : Nat} {q : List Nat} : ∀ {l : List Nat} {i : Nat}, permA n q l i = true → i + l.length = n ∧ ∀ (k j : Nat), l[k]? = some j → j < n ∧ posOf j q 0 n = i + k
  | [], i, h => by
    rw [permA, Nat.beq_eq] at h
    exact ⟨by simpa using h, fun k j e => by simp at e⟩
  | p :: l, i, h => by
    rw [permA] at h
    split at h
    · rename_i hc
      rw [Bool.and_eq_true, Nat.blt_eq, Nat.beq_eq] at hc
      obtain ⟨h1, h2⟩ := permA_spec h
      refine ⟨by simp; omega, fun k j e => ?_⟩
      cases k with
      | zero => simp at e; subst e; exact ⟨hc.1, hc.2⟩
      | succ k =>
        obtain ⟨g1, g2⟩ := h2 k j (by simpa using e)
        exact ⟨g1, by omega⟩
    · simp at h
theorem permB_spec {n : Nat} {q : List Nat} : ∀ {m : Nat}, permB n q m = true → ∀ j, j < m → posOf j q 0 n < n
  | 0, _, j, hj => by omega
  | m + 1, h, j, hj => by
    rw [permB] at h
    split at h
    · rename_i hc
      rw [Nat.blt_eq] at hc
      by_cases e : j = m
      · subst e; exact hc
      · exact permB_spec h j (by omega)
    · simp at h
theorem guardsIn_spec {n : Nat} : ∀ {l : List Oper}, guardsIn n l = true → ∀ o ∈ l, ∀ g w, o.guard = some (g, w) → g < n
  | [], _, o, ho => by simp at ho
  | p :: l, h, o, ho => by
    rw [guardsIn] at h
    split at h
    · rename_i hc
      rcases List.mem_cons.1 ho with rfl | ho
      · intro g w e
        rw [e] at hc
        simpa [Nat.blt_eq] using hc
      · exact guardsIn_spec h o ho
    · simp at h

structure Perm (ops : Array Oper) (q : List Nat) : Prop where
  len : q.length = ops.size
  there : ∀ (i j : Nat), q[i]? = some j → j < ops.size ∧ ∀ d, posOf j q 0 d = i
  back : ∀ j, j < ops.size → ∃ k : Nat, q[k]? = some j
  guard : ∀ (j : Nat) o, ops[j]? = some o → ∀ g w, o.guard = some (g, w) → g < ops.size
theorem permOk_spec {ops : Array Oper} {q : List Nat} (h : permOk ops q = true) : Perm ops q := by
  unfold permOk at h
  rw [Bool.and_eq_true, Bool.and_eq_true] at h
  obtain ⟨⟨h1, h2⟩, h3⟩ := h
  obtain ⟨a1, a2⟩ := permA_spec h1
  refine ⟨by omega, fun i j e => ?_, fun j hj => ?_, fun j o ho g w e => guardsIn_spec h3 o (by
    rw [List.mem_iff_getElem?]; exact ⟨j, by simpa using ho⟩) g w e⟩
  · obtain ⟨b1, b2⟩ := a2 i j e
    obtain ⟨k, _, c2⟩ := posOf_mem (i := 0) (List.mem_of_getElem? e)
    refine ⟨b1, fun d => ?_⟩
    have := c2 ops.size
    rw [c2]
    omega
  · have := permB_spec h2 j hj
    by_cases hm : j ∈ q
    · obtain ⟨k, hk, _⟩ := posOf_mem (i := 0) hm
      exact ⟨k, hk⟩
    · rw [posOf_not hm] at this
      omega
theorem renL_get {ops : Array Oper} {q : List Nat} : ∀ {l : List Nat}, (∀ j ∈ l, j < ops.size) → (renL ops q l).length = l.length ∧ ∀ (k j : Nat), l[k]? = some j → ∃ o, ops[j]? = some o ∧ (renL ops q l)[k]? = some (renO q o)
  | [], _ => ⟨rfl, fun k j e => by simp at e⟩
  | p :: l, h => by
    have hp := h p List.mem_cons_self
    obtain ⟨g1, g2⟩ := renL_get (ops := ops) (q := q) (l := l) fun j hj => h j (List.mem_cons_of_mem _ hj)
    rw [renL, Array.getElem?_eq_getElem hp]
    refine ⟨by simp [g1], fun k j e => ?_⟩
    cases k with
    | zero => simp at e; subst e; exact ⟨ops[p], by simp, rfl⟩
    | succ k =>
      obtain ⟨o, h1, h2⟩ := g2 k j (by simpa using e)
      exact ⟨o, h1, by simpa using h2⟩

section
variable {P : Program} {Q : Exit → Act → World → Prop} {ops : Array Oper} {q : List Nat}
theorem ren_wp {o : Oper} {a : Act} {w : World} {K : Act → World → Prop} : (renO q o).wp P a w K Q = o.wp P a w K Q := by cases o; rfl
theorem ren_asks {o : Oper} {a : Act} {w : World} : (renO q o).asks P a w = o.asks P a w := by cases o; rfl
theorem ren_wpOp (hp : Perm ops q) {k j : Nat} (hk : q[k]? = some j) {a : Act} {w : World} {K K' : Act → World → Prop} (hK : ∀ a w, K a w → K' a w) (h : wpOp P (renL ops q q).toArray Q k K a w) : wpOp P ops Q j K' a w := by
  have get := (renL_get (ops := ops) (q := q) (l := q) fun j hj => by
    obtain ⟨i, hi⟩ := List.getElem?_of_mem hj
    exact (hp.there i j hi).1).2
  obtain ⟨o, h1, h2⟩ := get k j hk
  refine wpOp_mono hK ?_
  have h2' : (renL ops q q).toArray[k]? = some (renO q o) := by simpa using h2
  unfold wpOp at h ⊢
  rw [h2'] at h
  rw [h1]
  simp only at h ⊢
  have hw : Region.wanted (renO q o) (yielded (renL ops q q).toArray a.tmps) = Region.wanted o (yielded ops a.tmps) := by
    unfold Region.wanted
    cases hg : o.guard with
    | none => simp [renO, hg, renG]
    | some gw =>
      obtain ⟨g, want⟩ := gw
      have hlt := hp.guard j o h1 g want hg
      obtain ⟨kg, hkg⟩ := hp.back g hlt
      obtain ⟨og, e1, e2⟩ := get kg g hkg
      have e3 : (renL ops q q).toArray[kg]? = some (renO q og) := by simpa using e2
      simp only [renO, hg, renG]
      rw [(hp.there kg g hkg).2]
      have : yielded (renL ops q q).toArray a.tmps kg = yielded ops a.tmps g := by
        unfold yielded
        rw [e3, e1]
        rfl
      rw [this]
  rw [hw, ren_wp, ren_asks] at h
  exact h
def RelL (n : Nat) (q : List Nat) (l' l : Array Bool) : Prop := l'.size = n ∧ l.size = n ∧ ∀ (i j : Nat), q[i]? = some j → l'[i]? = l[j]?
theorem perm_ready (hp : Perm ops q) (hE : ∀ (j : Nat) o, ops[j]? = some o → ∀ e ∈ o.after, Region.binds .any e = true → e.on < ops.size) {l' l : Array Bool} (hr : RelL ops.size q l' l) {k j : Nat} (hk : q[k]? = some j) :
    k ∈ Region.ready .any (renL ops q q).toArray l' ↔ j ∈ Region.ready .any ops l := by
  have get := (renL_get (ops := ops) (q := q) (l := q) fun j hj => by
    obtain ⟨i, hi⟩ := List.getElem?_of_mem hj
    exact (hp.there i j hi).1).2
  obtain ⟨o, h1, h2⟩ := get k j hk
  have h2' : (renL ops q q).toArray[k]? = some (renO q o) := by simpa using h2
  have hd : ∀ (i j : Nat) (b : Bool), q[i]? = some j → l'.getD i b = l.getD j b := fun i j b e => by
    rw [Array.getD_eq_getD_getElem?, Array.getD_eq_getD_getElem?, hr.2.2 i j e]
  rw [mem_ready, mem_ready, hd k j true hk, h2', h1]
  have key : (∀ e ∈ (renO q o).after, Region.binds .any e = true → l'.getD e.on false = true) ↔ (∀ e ∈ o.after, Region.binds .any e = true → l.getD e.on false = true) := by
    constructor
    · intro h e he hb
      have hlt := hE j o h1 e he hb
      obtain ⟨ke, hke⟩ := hp.back e.on hlt
      have := h (renE q e) (by simp [renO]; exact ⟨e, he, rfl⟩) hb
      simp only [renE] at this
      rw [(hp.there ke e.on hke).2, hd ke e.on false hke] at this
      exact this
    · intro h e' he' hb
      simp [renO] at he'
      obtain ⟨e, he, rfl⟩ := he'
      have hlt := hE j o h1 e he hb
      obtain ⟨ke, hke⟩ := hp.back e.on hlt
      simp only [renE]
      rw [(hp.there ke e.on hke).2, hd ke e.on false hke]
      exact h e he hb
  constructor
  · rintro ⟨g1, o2, g2, g3⟩
    obtain rfl := Option.some.inj g2
    exact ⟨g1, o, rfl, key.1 g3⟩
  · rintro ⟨g1, o2, g2, g3⟩
    obtain rfl := Option.some.inj g2
    exact ⟨g1, _, rfl, key.2 g3⟩
theorem RelL.set {l' l : Array Bool} (hp : Perm ops q) (hr : RelL ops.size q l' l) {k j : Nat} (hk : q[k]? = some j) : RelL ops.size q (l'.setIfInBounds k true) (l.setIfInBounds j true) := by
  obtain ⟨r1, r2, r3⟩ := hr
  refine ⟨by simpa using r1, by simpa using r2, fun i p e => ?_⟩
  by_cases hi : i = k
  · subst hi
    rw [hk] at e
    obtain rfl := Option.some.inj e
    have hlt : i < q.length := (List.getElem?_eq_some_iff.1 hk).1
    have h1 : i < l'.size := by rw [r1, ← hp.len]; exact hlt
    have h2 : j < l.size := by rw [r2]; exact (hp.there i j hk).1
    simp [h1, h2]
  · have hne : p ≠ j := fun e1 => by
      subst e1
      have e1 := (hp.there i p e).2 0
      have e2 := (hp.there k p hk).2 0
      omega
    rw [Array.getElem?_setIfInBounds_ne (Ne.symm hi), Array.getElem?_setIfInBounds_ne (Ne.symm hne)]
    exact r3 i p e
theorem perm_any (hp : Perm ops q) (hE : ∀ (j : Nat) o, ops[j]? = some o → ∀ e ∈ o.after, Region.binds .any e = true → e.on < ops.size) : ∀ (fuel : Nat) (l' l : Array Bool) (a : Act) (w : World), RelL ops.size q l' l →
    wpAny P .any (renL ops q q).toArray Q fuel l' a w → wpAny P .any ops Q fuel l a w := by
  have lenR : (renL ops q q).toArray.size = ops.size := by
    have := (renL_get (ops := ops) (q := q) (l := q) fun j hj => by
      obtain ⟨i, hi⟩ := List.getElem?_of_mem hj
      exact (hp.there i j hi).1).1
    simp [this, hp.len]
  have none' : ∀ {l' l : Array Bool}, RelL ops.size q l' l → Region.ready .any ops l = [] → Region.ready .any (renL ops q q).toArray l' = [] := by
    intro l' l hr h
    cases hx : Region.ready .any (renL ops q q).toArray l' with
    | nil => rfl
    | cons k t =>
      exfalso
      have hk : k ∈ Region.ready .any (renL ops q q).toArray l' := by rw [hx]; exact List.mem_cons_self
      obtain ⟨_, o, ho, _⟩ := mem_ready.1 hk
      have hlt : k < q.length := by rw [hp.len, ← lenR]; exact (Array.getElem?_eq_some_iff.1 ho).1
      have := (perm_ready hp hE hr (List.getElem?_eq_getElem hlt)).1 hk
      rw [h] at this
      cases this
  have none2 : ∀ {l' l : Array Bool}, RelL ops.size q l' l → Region.ready .any (renL ops q q).toArray l' = [] → Region.ready .any ops l = [] := by
    intro l' l hr h
    cases hx : Region.ready .any ops l with
    | nil => rfl
    | cons j t =>
      exfalso
      have hj : j ∈ Region.ready .any ops l := by rw [hx]; exact List.mem_cons_self
      obtain ⟨_, o, ho, _⟩ := mem_ready.1 hj
      obtain ⟨k, hk⟩ := hp.back j (Array.getElem?_eq_some_iff.1 ho).1
      have := (perm_ready hp hE hr hk).2 hj
      rw [h] at this
      cases this
  intro fuel
  induction fuel with
  | zero => intro l' l a w hr h; exact ⟨none2 hr h.1, h.2⟩
  | succ fuel ih =>
    intro l' l a w hr h
    refine ⟨fun hx => h.1 (none' hr hx), fun j hj => ?_⟩
    obtain ⟨_, o, ho, _⟩ := mem_ready.1 hj
    obtain ⟨k, hk⟩ := hp.back j (Array.getElem?_eq_some_iff.1 ho).1
    exact ren_wpOp hp hk (fun a w => ih _ _ a w (hr.set hp hk)) (h.2 k ((perm_ready hp hE hr hk).2 hj))
end

theorem hs_ok {P : Program} [ExtOk P] {rec : Req → Stt → Option (Out × Stt)} (hS : Snd P rec) {ops : Array Oper} {cs : Nat} {s : Stt} {out : Out} {s' : Stt} (hd : drawOk ops = true) (h : evHS P rec ops cs s = some (out, s')) :
    ∀ (μ0 : Map) (m0 : Mem) (w0 : World) (μ : Map) (wc : World) (a : Act), Ok μ0 m0 w0 μ s.mem wc → FrR μ s.mem.next s.fr s.size a → wpAny P .any ops (Post μ0 m0 w0 out s') ops.size (Array.replicate ops.size false) a wc := by
  intro μ0 m0 w0 μ wc a hok hF
  have hrep : ∀ j, (Array.replicate ops.size false).getD j false = false := fun j => by
    rw [Array.getD_eq_getD_getElem?, Array.getElem?_replicate]
    split <;> rfl
  have hunl : unl (Array.replicate ops.size false) ≤ ops.size := by
    unfold unl
    exact Nat.le_trans (List.length_filter_le _ _) (by simp)
  unfold evHS at h
  split at h
  · exact soft_any hS hd (c := 0) (fun j => by simp) (fun j => by simp) (by simp) h μ0 m0 w0 μ wc a _ _ hok hF (by simp) (fun j => by simp [hrep]) hunl
  · rename_i n
    obtain ⟨st, l2, ms2, h0, hst, hbar, hs2, hl2, hms2, hlen⟩ := traceH (MS := pres ops.toList []) ops.toList _ 0 s.mem.next [] s h (fun j => by simp) (fun j => by simp) (Nat.zero_le _)
    simp only [Array.length_toList, Nat.zero_add] at hlen
    have hn : n < ops.size := by omega
    have hB : Begin ops (pres ops.toList []) st 0 NoX μ wc := ⟨hd, rfl, by rw [h0]; exact hok.rep, by rw [h0], by unfold nx; rw [h0], hF.glob, by unfold nx; rw [h0]; exact hF.big, fun _ _ _ h => h⟩
    have hSI := SI.start (P := P) (rec := rec) hB (by unfold nx; rw [h0]; exact hF)
    have hTn : (fun _ : Nat => False) = fun j => 0 ≤ j ∧ (Array.replicate ops.size false).getD j false = true := by
      funext j
      apply propext
      constructor
      · intro h; exact h.elim
      · rintro ⟨_, h2⟩
        rw [hrep] at h2
        cases h2
    rw [hTn] at hSI
    refine any_hard hS hn (fun k hk => hst k (Nat.zero_le _) hk) hbar (fun ch a w hp => by have := hp.1; cases out <;> simp [OutIs] at this) ?_ ops.size _ 0 μ wc μ wc a (by simp) (Nat.zero_le _) (fun j hj => by omega) (fun j o hj => ?_) hB (by rw [h0]; exact hok) hSI (hrep n) hunl
    · intro fuel listed μ1 w1 a1 hz hiff hok1 hF1 hu
      exact soft_any hS hd (c := n + 1) hl2 hms2 hlen hs2 μ0 m0 w0 μ1 w1 a1 fuel listed hok1 hF1 hz hiff hu
    · rw [hrep] at hj
      cases hj

theorem re_ok {P : Program} [ExtOk P] {rec : Req → Stt → Option (Out × Stt)} (hm : P.follows .mixedOrders = true) (hS : Snd P rec) (id : Nat) (ops : Array Oper) (s : Stt) (out : Out) (s' : Stt) (hd : drawOk ops = true) (q : List Nat)
    (h : evRe P rec ops q s = some (out, s')) : ∀ μ0 m0 w0 μ w a, Ok μ0 m0 w0 μ s.mem w → FrR μ s.mem.next s.fr s.size a → (Code.region id ops true).wp P (Post μ0 m0 w0 out s') a w := by
  intro μ0 m0 w0 μ w a hok hF
  unfold evRe at h
  split at h
  rotate_left
  · simp at h
  rename_i hc
  rw [Bool.and_eq_true] at hc
  have hp := permOk_spec hc.1
  have lenR : (renL ops q q).toArray.size = ops.size := by
    have := (renL_get (ops := ops) (q := q) (l := q) fun j hj => by
      obtain ⟨i, hi⟩ := List.getElem?_of_mem hj
      exact (hp.there i j hi).1).1
    simp [this, hp.len]
  refine wp_region_any hm ?_
  have hdr : Ok μ s.mem w μ s.mem { w with drawn := w.drawn + 1 } := Ok.drawn hok.rep rfl rfl rfl rfl
  have := hs_ok hS hc.2 h μ0 m0 w0 μ _ a (hok.trans hdr) hF
  rw [lenR] at this
  refine perm_any hp (fun j o ho e he hb => ?_) ops.size _ _ a _ ⟨by simp, by simp, fun i j e => ?_⟩ this
  · have h2 := (allOk_spec hd j o (by simpa using ho)).1
    rw [Nat.zero_add] at h2
    have h3 := edgesOk_mem h2 e (by simpa using he) hb
    have h4 : j < ops.size := (Array.getElem?_eq_some_iff.1 ho).1
    omega
  · have h1 : i < ops.size := by rw [← hp.len]; exact (List.getElem?_eq_some_iff.1 e).1
    have h2 := (hp.there i j e).1
    simp [h1, h2]
end Go.Proofs.YtloolljoelngcaaGreat
