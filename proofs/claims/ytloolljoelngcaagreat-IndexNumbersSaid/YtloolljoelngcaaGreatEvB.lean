/-
  The evaluator's memory beside the model's: what is read, made, written.
-/
import Derived.Test.YtloolljoelngcaaGreatEvA
import Derived.Laws.IdiomCopy
import Derived.Below
set_option linter.unusedVariables false
namespace Go.Proofs.YtloolljoelngcaaGreat
open Go.RowKit

/-- a row of at least k cells, none of which is frozen -/
def FreeRow (w : World) (r k : Nat) : Prop := ∃ c t lo hi, w.heap[r]? = some (.cells c t (lo, hi)) ∧ k ≤ c.size ∧ (lo = hi ∨ c.size ≤ lo)
theorem FreeRow.cell {w : World} {r k : Nat} (h : FreeRow w r k) {j : Nat} (hj : j < k) : (w.cell? ⟨r, j, none⟩).isSome = true := by
  obtain ⟨c, t, lo, hi, e, h1, h2⟩ := h
  unfold World.cell?
  simp only [e]
  rw [Array.getElem?_eq_getElem (by omega)]
  rfl
theorem FreeRow.froz {w : World} {r k : Nat} (h : FreeRow w r k) {j : Nat} (hj : j < k) : w.frozen? ⟨r, j, none⟩ = false := by
  obtain ⟨c, t, lo, hi, e, h1, h2⟩ := h
  unfold World.frozen?
  simp only [e]
  rcases h2 with rfl | h2
  · simp <;> omega
  · simp <;> omega
theorem FreeRow.at {w w' : World} {r k : Nat} (h : FreeRow w r k) (e : w'.heap[r]? = w.heap[r]?) : FreeRow w' r k := by
  obtain ⟨c, t, lo, hi, e1, h1, h2⟩ := h
  exact ⟨c, t, lo, hi, e.trans e1, h1, h2⟩
theorem FreeRow.le {w : World} {r k l : Nat} (h : FreeRow w r k) (e : l ≤ k) : FreeRow w r l := by
  obtain ⟨c, t, lo, hi, e1, h1, h2⟩ := h
  exact ⟨c, t, lo, hi, e1, Nat.le_trans e h1, h2⟩
theorem FreeRow.setCell {w : World} {r k : Nat} (h : FreeRow w r k) (a : Addr) (v : Value) : FreeRow (w.setCell a v) r k := by
  obtain ⟨c, t, lo, hi, e1, h1, h2⟩ := h
  by_cases hr : a.block = r
  · refine ⟨if a.spot.isSome then c else c.setIfInBounds a.off v, t, lo, hi, ?_, ?_, ?_⟩
    · unfold World.setCell
      simp only [Array.getElem?_modify, hr, e1]
      rfl
    · split
      · exact h1
      · rw [Array.size_setIfInBounds]; exact h1
    · split
      · exact h2
      · rw [Array.size_setIfInBounds]; exact h2
  · exact ⟨c, t, lo, hi, by unfold World.setCell; simp only [Array.getElem?_modify, if_neg hr]; exact e1, h1, h2⟩
theorem FreeRow.setCells {r k : Nat} (b : Nat) : ∀ (vs : List Value) (o : Nat) {w : World}, FreeRow w r k → FreeRow (w.setCells b o vs) r k
  | [], _, _, h => h
  | v :: l, o, w, h => by rw [World.setCells]; exact FreeRow.setCells b l (o + 1) (h.setCell _ v)

structure Rep (μ : Map) (m : Mem) (w : World) : Prop where
  lt : ∀ b x, m.heap.get b = some x → b < m.next
  cells : ∀ b x, m.heap.get b = some x → ∀ (i : Nat) v, x.cells[i]? = some v → ∃ v', w.cell? ⟨(μ b).blk, (μ b).base + i, none⟩ = some v' ∧ VR μ m.next v v'
  fits : ∀ b x, m.heap.get b = some x → x.own = true → x.cells.length ≤ (μ b).room
  inb : ∀ b x, m.heap.get b = some x → (μ b).blk < w.heap.size
  es : ∀ b x, m.heap.get b = some x → (μ b).es = x.es
  there : ∀ b x, m.heap.get b = some x → x.own = true → FreeRow w (μ b).blk ((μ b).base + (μ b).room)
  apart : ∀ b x b' x', m.heap.get b = some x → m.heap.get b' = some x' → x.own = true → b ≠ b' → (μ b).blk ≠ (μ b').blk

theorem Rep.there0 {μ : Map} {m : Mem} {w : World} (h : Rep μ m w) (b : Nat) (x : EvBlk) (hx : m.heap.get b = some x) (ho : x.own = true) (j : Nat) (hj : j < (μ b).room) : (w.cell? ⟨(μ b).blk, (μ b).base + j, none⟩).isSome = true ∧ w.frozen? ⟨(μ b).blk, (μ b).base + j, none⟩ = false :=
  ⟨(h.there b x hx ho).cell (by omega), (h.there b x hx ho).froz (by omega)⟩

structure Ok (μ : Map) (m : Mem) (w : World) (μ' : Map) (m' : Mem) (w' : World) : Prop where
  rep : Rep μ' m' w'
  next : m.next ≤ m'.next
  mu : ∀ b, b < m.next → μ' b = μ b
  mu2 : ∀ b, m'.next ≤ b → μ' b = μ b
  low : m'.low ≤ m.low
  keep : ∀ b, b < m'.low → b < m.next → m'.heap.get b = m.heap.get b
  old : ∀ b x', m'.heap.get b = some x' → b < m.next → ∃ x, m.heap.get b = some x ∧ x.own = x'.own
  new : ∀ b x', m'.heap.get b = some x' → m.next ≤ b → x'.own = true ∧ (w.heap.size ≤ (μ' b).blk ∨ ∃ b0 x0, m.heap.get b0 = some x0 ∧ x0.own = true ∧ m'.low ≤ b0 ∧ (μ' b).blk = (μ b0).blk)
  os : w'.os = w.os
  tape : w'.tape = w.tape
  output : w'.output = w.output
  size : w.heap.size ≤ w'.heap.size
  frame : ∀ k, k < w.heap.size → (∀ b x, m.heap.get b = some x → x.own = true → m'.low ≤ b → (μ b).blk ≠ k) → w'.heap[k]? = w.heap[k]?

theorem Ok.refl {μ : Map} {m : Mem} {w : World} (h : Rep μ m w) : Ok μ m w μ m w :=
  ⟨h, Nat.le_refl _, fun _ _ => rfl, fun _ _ => rfl, Nat.le_refl _, fun _ _ _ => rfl, fun b x' hx _ => ⟨x', hx, rfl⟩, fun b x' hx hb => absurd (h.lt b x' hx) (by omega), rfl, rfl, rfl, Nat.le_refl _, fun _ _ _ => rfl⟩

theorem Ok.trans {μ μ1 μ2 : Map} {m m1 m2 : Mem} {w w1 w2 : World} (h : Ok μ m w μ1 m1 w1) (k : Ok μ1 m1 w1 μ2 m2 w2) : Ok μ m w μ2 m2 w2 where
  rep := k.rep
  next := Nat.le_trans h.next k.next
  mu b hb := (k.mu b (Nat.lt_of_lt_of_le hb h.next)).trans (h.mu b hb)
  mu2 b hb := (k.mu2 b hb).trans (h.mu2 b (Nat.le_trans k.next hb))
  low := Nat.le_trans k.low h.low
  keep b hb hn := (k.keep b hb (Nat.lt_of_lt_of_le hn h.next)).trans (h.keep b (Nat.lt_of_lt_of_le hb k.low) hn)
  old b x' hx hb := by
    obtain ⟨x, hx1, e⟩ := k.old b x' hx (Nat.lt_of_lt_of_le hb h.next)
    obtain ⟨y, hy, e'⟩ := h.old b x hx1 hb
    exact ⟨y, hy, e'.trans e⟩
  new b x' hx hb := by
    have key : ∀ b0 x0, m1.heap.get b0 = some x0 → x0.own = true → m2.low ≤ b0 → (w.heap.size ≤ (μ1 b0).blk ∨ ∃ b1 x1, m.heap.get b1 = some x1 ∧ x1.own = true ∧ m2.low ≤ b1 ∧ (μ1 b0).blk = (μ b1).blk) := by
      intro b0 x0 h0 ho hl
      rcases Nat.lt_or_ge b0 m.next with hlt | hge
      · obtain ⟨y, hy, e⟩ := h.old b0 x0 h0 hlt
        exact .inr ⟨b0, y, hy, e.trans ho, hl, by rw [h.mu b0 hlt]⟩
      · obtain ⟨_, hc⟩ := h.new b0 x0 h0 hge
        rcases hc with hc | ⟨b1, x1, h1, ho1, hl1, e⟩
        · exact .inl hc
        · exact .inr ⟨b1, x1, h1, ho1, Nat.le_trans k.low hl1, e⟩
    rcases Nat.lt_or_ge b m1.next with hlt | hge
    · obtain ⟨x, hx1, e⟩ := k.old b x' hx hlt
      obtain ⟨ho, hc⟩ := h.new b x hx1 hb
      refine ⟨e ▸ ho, ?_⟩
      rw [k.mu b hlt]
      rcases hc with hc | ⟨b1, x1, h1, ho1, hl1, e⟩
      · exact .inl hc
      · exact .inr ⟨b1, x1, h1, ho1, Nat.le_trans k.low hl1, e⟩
    · obtain ⟨ho, hc⟩ := k.new b x' hx hge
      refine ⟨ho, ?_⟩
      rcases hc with hc | ⟨b0, x0, h0, ho0, hl0, e⟩
      · exact .inl (Nat.le_trans h.size hc)
      · rw [e]; exact key b0 x0 h0 ho0 hl0
  os := k.os.trans h.os
  tape := k.tape.trans h.tape
  output := k.output.trans h.output
  size := Nat.le_trans h.size k.size
  frame j hj hno := by
    rw [k.frame j (Nat.lt_of_lt_of_le hj h.size) ?_, h.frame j hj fun b x hx ho hl => hno b x hx ho (Nat.le_trans k.low hl)]
    intro b x hx ho hl
    rcases Nat.lt_or_ge b m.next with hlt | hge
    · obtain ⟨y, hy, e⟩ := h.old b x hx hlt
      rw [h.mu b hlt]
      exact hno b y hy (e.trans ho) hl
    · obtain ⟨_, hc⟩ := h.new b x hx hge
      rcases hc with hc | ⟨b1, x1, h1, ho1, hl1, e⟩
      · omega
      · rw [e]; exact hno b1 x1 h1 ho1 (Nat.le_trans k.low hl1)

theorem VR.up {μ μ' : Map} {m m' : Mem} {w w' : World} (h : Ok μ m w μ' m' w') {v v' : Value} (hv : VR μ m.next v v') : VR μ' m'.next v v' := hv.mono h.next h.mu
theorem VRs.up {μ μ' : Map} {m m' : Mem} {w w' : World} (h : Ok μ m w μ' m' w') {v v' : List Value} (hv : VRs μ m.next v v') : VRs μ' m'.next v v' := hv.mono h.next h.mu

theorem add_none (b o n : Nat) : (⟨b, o, none⟩ : Addr).add n = ⟨b, o + n, none⟩ := by unfold Addr.add; split <;> simp_all
theorem addTo_none (b o n : Nat) : addTo ⟨b, o, none⟩ n = ⟨b, o + n, none⟩ := by cases n <;> rfl

/-- what is read -/
theorem rd_all {P : Program} {μ : Map} {m : Mem} {w : World} (hR : Rep μ m w) {b o n : Nat} {l : List Value} (h : rdCells m ⟨b, o, none⟩ n = some l) :
    ∃ l', VRs μ m.next l l' ∧ l.length = n ∧ ∀ w2 : World, w2.heap = w.heap → (loadCells ⟨(μ b).blk, (μ b).base + o, none⟩ n).run P w2 = .ok ⟨l'⟩ w2 := by
  unfold rdCells at h
  split at h
  · simp at h
    subst h
    exact ⟨[], .nil, rfl, fun w2 _ => by simpa using run_loadCells_list (P := P) w2 ⟨(μ b).blk, (μ b).base + o, none⟩ [] (by simp)⟩
  · simp only at h
    cases hx : m.heap.get b with
    | none => rw [hx] at h; simp at h
    | some x =>
      rw [hx] at h
      simp only at h
      rw [dropN_eq] at h
      obtain ⟨rfl, hlen⟩ := takeN_eq _ _ _ h
      have hc := hR.cells b x hx
      have : ∃ f : Nat → Value, ∀ i v, x.cells[i]? = some v → w.cell? ⟨(μ b).blk, (μ b).base + i, none⟩ = some (f i) ∧ VR μ m.next v (f i) := by
        refine ⟨fun i => (w.cell? ⟨(μ b).blk, (μ b).base + i, none⟩).getD undef, fun i v hv => ?_⟩
        obtain ⟨v', e, hv'⟩ := hc i v hv
        simp [e, hv']
      obtain ⟨f, hf⟩ := this
      simp at hlen
      refine ⟨(List.range n).map fun j => f (o + j), VRs.of_get (by simp; omega) (fun i v hv => ?_), by simp; omega, fun w2 hw2 => ?_⟩
      · rw [List.getElem?_take] at hv
        split at hv
        · rename_i hi
          rw [List.getElem?_drop] at hv
          exact ⟨f (o + i), by simp [hi], (hf _ _ hv).2⟩
        · simp at hv
      · have hcell : ∀ p, w2.cell? p = w.cell? p := fun p => by unfold World.cell?; rw [hw2]
        have := run_loadCells (P := P) w2 ⟨(μ b).blk, (μ b).base + o, none⟩ n (fun j => f (o + j)) (fun j hj => by
          rw [add_none, Nat.add_assoc, hcell]
          exact (hf (o + j) (x.cells[o + j]'(by omega)) (List.getElem?_eq_getElem (by omega))).1)
        simpa using this
theorem rd_ok {P : Program} {μ : Map} {m : Mem} {w : World} (hR : Rep μ m w) {b o n : Nat} {l : List Value} (h : rdCells m ⟨b, o, none⟩ n = some l) :
    ∃ l', VRs μ m.next l l' ∧ l.length = n ∧ (loadCells ⟨(μ b).blk, (μ b).base + o, none⟩ n).run P w = .ok ⟨l'⟩ w := by
  obtain ⟨l', h1, h2, h3⟩ := rd_all (P := P) hR h
  exact ⟨l', h1, h2, h3 w rfl⟩

/-- a new block -/
theorem newBlk_ok {β : Type} {μ : Map} {m : Mem} {w w' : World} (hR : Rep μ m w) {z : Nat} {l vs ex : List Value} {t : TypeId} {lo hi : Nat} {k : Addr → Mem → Option β} {r : β}
    (h : newBlk m z l k = some r) (hv : VRs μ m.next l vs) (hh : w'.heap = w.heap.push (.cells ⟨vs ++ ex⟩ t (lo, hi))) (hf : lo = hi ∨ (vs ++ ex).length ≤ lo)
    (h1 : w'.os = w.os) (h2 : w'.tape = w.tape) (h3 : w'.output = w.output) :
    ∃ μ' m', k ⟨m.next, 0, none⟩ m' = some r ∧ Ok μ m w μ' m' w' ∧ m'.next = m.next + 1 ∧ μ' m.next = ⟨w.heap.size, 0, (vs ++ ex).length, z, undef⟩ := by
  rw [newBlk_eq] at h
  obtain ⟨t', hk, hg⟩ := Tr.upd_spec _ _ _ _ _ _ h
  rw [fNat_eq] at hk
  let μ' : Map := fun b => if b = m.next then ⟨w.heap.size, 0, (vs ++ ex).length, z, undef⟩ else μ b
  have hμ : ∀ b, b < m.next → μ' b = μ b := fun b hb => by show (if b = m.next then _ else _) = _; rw [if_neg (by omega)]
  have hμn : μ' m.next = ⟨w.heap.size, 0, (vs ++ ex).length, z, undef⟩ := by show (if m.next = m.next then _ else _) = _; rw [if_pos rfl]
  have hold : ∀ j, j < w.heap.size → w'.heap[j]? = w.heap[j]? := fun j hj => by rw [hh, Array.getElem?_push, if_neg (by omega)]
  have hnew : w'.heap[w.heap.size]? = some (.cells ⟨vs ++ ex⟩ t (lo, hi)) := by rw [hh]; simp
  have hcn : ∀ i, w'.cell? ⟨w.heap.size, i, none⟩ = (vs ++ ex)[i]? := fun i => by unfold World.cell?; rw [hnew]; simp
  have hsz : w'.heap.size = w.heap.size + 1 := by rw [hh]; simp
  have lt_of : ∀ {c : Addr} {v : Value}, w.cell? c = some v → c.block < w.heap.size := fun {c v} hc => by
    rcases Nat.lt_or_ge c.block w.heap.size with hlt | hge
    · exact hlt
    · unfold World.cell? at hc; rw [Array.getElem?_eq_none hge] at hc; simp at hc
  refine ⟨μ', _, hk, ?_, rfl, hμn⟩
  have gold : ∀ b, b < m.next → t'.get b = m.heap.get b := fun b hb => by rw [hg, if_neg (by omega)]
  have gnew : t'.get m.next = some ⟨z, true, l⟩ := by rw [hg, if_pos rfl]
  have gsome : ∀ b x, t'.get b = some x → (b < m.next ∧ m.heap.get b = some x) ∨ (b = m.next ∧ x = ⟨z, true, l⟩) := fun b x hx => by
    rw [hg] at hx
    split at hx
    · rename_i e; exact .inr ⟨e, by simpa using hx.symm⟩
    · exact .inl ⟨hR.lt b x hx, hx⟩
  constructor
  case rep =>
    constructor
    case lt => intro b x hx; show b < m.next + 1; rcases gsome b x hx with ⟨h, _⟩ | ⟨h, _⟩ <;> omega
    case cells =>
      intro b x hx i v hi
      rcases gsome b x hx with ⟨hb, hx⟩ | ⟨rfl, rfl⟩
      · obtain ⟨v', hc, hv'⟩ := hR.cells b x hx i v hi
        rw [hμ b hb]
        exact ⟨v', (World.cell?_of_block (w := w) (hold _ (lt_of hc))).trans hc, hv'.mono (Nat.le_succ _) hμ⟩
      · rw [hμn]
        obtain ⟨v', e, hv'⟩ := hv.get i v hi
        refine ⟨v', ?_, hv'.mono (Nat.le_succ _) hμ⟩
        rw [hcn, Nat.zero_add]
        rw [List.getElem?_append_left (List.getElem?_eq_some_iff.1 e).1, e]
    case fits =>
      intro b x hx ho
      rcases gsome b x hx with ⟨hb, hx⟩ | ⟨rfl, rfl⟩
      · rw [hμ b hb]; exact hR.fits b x hx ho
      · rw [hμn]; have := hv.length; simp; omega
    case inb =>
      intro b x hx
      rcases gsome b x hx with ⟨hb, hx⟩ | ⟨rfl, rfl⟩
      · rw [hμ b hb]; have := hR.inb b x hx; omega
      · rw [hμn, hsz]; exact Nat.lt_succ_self _
    case es =>
      intro b x hx
      rcases gsome b x hx with ⟨hb, hx⟩ | ⟨rfl, rfl⟩
      · rw [hμ b hb]; exact hR.es b x hx
      · rw [hμn]
    case there =>
      intro b x hx ho
      rcases gsome b x hx with ⟨hb, hx⟩ | ⟨rfl, rfl⟩
      · rw [hμ b hb]
        exact (hR.there b x hx ho).at (hold _ (hR.inb b x hx))
      · rw [hμn]
        exact ⟨_, _, _, _, hnew, by simp, hf⟩
    case apart =>
      intro b x b' x' hx hx' ho hne
      rcases gsome b x hx with ⟨hb, hx⟩ | ⟨rfl, rfl⟩
      · rcases gsome b' x' hx' with ⟨hb', hx'⟩ | ⟨rfl, rfl⟩
        · rw [hμ b hb, hμ b' hb']; exact hR.apart b x b' x' hx hx' ho hne
        · rw [hμ b hb, hμn]; have := hR.inb b x hx; simp; omega
      · rcases gsome b' x' hx' with ⟨hb', hx'⟩ | ⟨rfl, rfl⟩
        · rw [hμ b' hb', hμn]
          have := hR.inb b' x' hx'; simp; omega
        · exact absurd rfl hne
  case next => exact Nat.le_succ _
  case mu => exact hμ
  case mu2 => intro b hb; show (if b = m.next then _ else _) = _; simp only at hb; rw [if_neg (by omega)]
  case low => exact Nat.le_refl _
  case keep => intro b _ hn; exact gold b hn
  case old => intro b x' hx hb; exact ⟨x', (gold b hb) ▸ hx, rfl⟩
  case new =>
    intro b x' hx hb
    rcases gsome b x' hx with ⟨hb', _⟩ | ⟨rfl, rfl⟩
    · omega
    · exact ⟨rfl, .inl (by rw [hμn]; exact Nat.le_refl _)⟩
  case os => exact h1
  case tape => exact h2
  case output => exact h3
  case size => omega
  case frame => intro j hj _; exact hold j hj

theorem setCells_heap (b : Nat) : ∀ (vs : List Value) (o : Nat) (w : World) (k : Nat), k ≠ b → (w.setCells b o vs).heap[k]? = w.heap[k]?
  | [], _, _, _, _ => rfl
  | v :: r, o, w, k, h => by
    rw [World.setCells, setCells_heap b r (o + 1) _ k h]
    exact Below.heap_setCell w ⟨b, o, none⟩ v k h
theorem setCells_size (b : Nat) : ∀ (vs : List Value) (o : Nat) (w : World), (w.setCells b o vs).heap.size = w.heap.size
  | [], _, _ => rfl
  | v :: r, o, w => by rw [World.setCells, setCells_size b r]; simp [World.setCell]
theorem setCells_os (b : Nat) : ∀ (vs : List Value) (o : Nat) (w : World), (w.setCells b o vs).os = w.os ∧ (w.setCells b o vs).tape = w.tape ∧ (w.setCells b o vs).output = w.output
  | [], _, _ => ⟨rfl, rfl, rfl⟩
  | v :: r, o, w => by rw [World.setCells]; exact setCells_os b r (o + 1) _

/-- cells are written -/
theorem wr_ok {β : Type} {P : Program} {μ : Map} {m : Mem} {w : World} (hR : Rep μ m w) {b o : Nat} {l l' : List Value} {k : Mem → Option β} {r : β}
    (h : wrCells m ⟨b, o, none⟩ l k = some r) (hv : VRs μ m.next l l') :
    ∃ m' w', k m' = some r ∧ Ok μ m w μ m' w' ∧ (l ≠ [] → w' = w.setCells (μ b).blk ((μ b).base + o) l') ∧ (storeCells ⟨(μ b).blk, (μ b).base + o, none⟩ l').run P w = .ok () w' ∧ m'.next = m.next := by
  unfold wrCells at h
  split at h
  · cases hv
    exact ⟨m, w, h, Ok.refl hR, fun h => absurd rfl h, rfl, rfl⟩
  · rename_i hne
    simp only at h
    cases hx : m.heap.get b with
    | none => rw [hx] at h; simp at h
    | some x =>
      rw [hx] at h
      simp only at h
      cases ho : x.own with
      | false => rw [ho] at h; simp at h
      | true =>
        rw [ho] at h
        simp only at h
        cases h1 : oneCells l with
        | false => rw [h1] at h; simp at h
        | true =>
          rw [h1] at h
          simp only at h
          cases hp : putN o x.cells l with
          | none => rw [hp] at h; simp at h
          | some c =>
            rw [hp] at h
            simp only at h
            obtain ⟨hlen, rfl⟩ := putN_eq _ _ _ _ hp
            rw [setBlk_eq] at h
            obtain ⟨t', hk, hg⟩ := Tr.upd_spec _ _ _ _ _ _ h
            rw [fNat_eq] at hk
            have hfit := hR.fits b x hx ho
            have hll := hv.length
            have hst := run_storeCells_cells (P := P) (μ b).blk ((μ b).base + o) l' 0 w
              (fun j hj => by rw [Nat.add_zero, Nat.add_assoc]; exact (hR.there0 b x hx ho (o + j) (by omega)).1)
              (fun j hj => by rw [Nat.add_zero, Nat.add_assoc]; exact (hR.there0 b x hx ho (o + j) (by omega)).2)
              (fun v hv' => by rw [← oneC_eq]; exact hv.oneC (oneCells_mem h1) v hv')
            rw [Nat.add_zero] at hst
            have hle : Nat.min b m.low ≤ m.low := Nat.min_le_right _ _
            have hlb : Nat.min b m.low ≤ b := Nat.min_le_left _ _
            refine ⟨_, _, hk, ?_, fun _ => rfl, hst, rfl⟩
            have gne : ∀ c, c ≠ b → t'.get c = m.heap.get c := fun c hc => by rw [hg, if_neg hc]
            have gb : t'.get b = some ⟨x.es, true, List.take o x.cells ++ l ++ List.drop (o + l.length) x.cells⟩ := by rw [hg, if_pos rfl]
            have back : ∀ c y, t'.get c = some y → ∃ y0, m.heap.get c = some y0 ∧ y0.own = y.own ∧ y0.es = y.es ∧ y.cells.length = y0.cells.length ∧ (c ≠ b → y0 = y) := fun c y hy => by
              by_cases hc : c = b
              · subst hc
                rw [gb] at hy
                have hy := (Option.some.inj hy).symm
                subst hy
                exact ⟨x, hx, ho, rfl, by simp; omega, fun h => absurd rfl h⟩
              · exact ⟨y, (gne c hc) ▸ hy, rfl, rfl, rfl, fun _ => rfl⟩
            have hother : ∀ c y, m.heap.get c = some y → c ≠ b → (μ c).blk ≠ (μ b).blk := fun c y hy hc => (hR.apart b x c y hx hy ho (Ne.symm hc)).symm
            have hin : ∀ j, j < l'.length → (w.cell? ⟨(μ b).blk, (μ b).base + o + j, none⟩).isSome = true := fun j hj => by rw [Nat.add_assoc]; exact (hR.there0 b x hx ho (o + j) (by omega)).1
            constructor
            case rep =>
              constructor
              case lt => intro c y hy; obtain ⟨y0, h0, _⟩ := back c y hy; exact hR.lt c y0 h0
              case cells =>
                intro c y hy i v hi
                by_cases hc : c = b
                · subst hc
                  rw [gb] at hy
                  have hy := (Option.some.inj hy).symm
                  subst hy
                  simp only at hi
                  by_cases hio : i < o
                  · rw [List.append_assoc, List.getElem?_append_left (by simp; omega), List.getElem?_take, if_pos hio] at hi
                    obtain ⟨v', hv1, hv2⟩ := hR.cells c x hx i v hi
                    exact ⟨v', by rw [World.cell?_setCells_out _ _ _ _ _ (fun _ _ => .inl (by simp; omega))]; exact hv1, hv2⟩
                  · by_cases hi2 : i < o + l.length
                    · rw [List.append_assoc, List.getElem?_append_right (by simp; omega), List.getElem?_append_left (by simp; omega)] at hi
                      obtain ⟨v', e, hv2⟩ := hv.get _ v hi
                      simp at e
                      rw [Nat.min_eq_left (by omega)] at e
                      refine ⟨v', ?_, hv2⟩
                      have := World.cell?_setCells_in (μ c).blk l' ((μ c).base + o) w hin (i - o) (by omega)
                      rw [show (μ c).base + o + (i - o) = (μ c).base + i from by omega] at this
                      rw [this]
                      rw [List.getElem?_eq_getElem (by omega)] at e
                      exact e
                    · rw [List.getElem?_append_right (by simp; omega), List.getElem?_drop] at hi
                      simp at hi
                      rw [Nat.min_eq_left (by omega), show o + l.length + (i - (o + l.length)) = i from by omega] at hi
                      obtain ⟨v', hv1, hv2⟩ := hR.cells c x hx i v hi
                      exact ⟨v', by rw [World.cell?_setCells_out _ _ _ _ _ (fun _ _ => .inr (by simp; omega))]; exact hv1, hv2⟩
                · rw [gne c hc] at hy
                  obtain ⟨v', hv1, hv2⟩ := hR.cells c y hy i v hi
                  exact ⟨v', by rw [World.cell?_setCells_out _ _ _ _ _ (fun e _ => absurd e (hother c y hy hc))]; exact hv1, hv2⟩
              case fits => intro c y hy ho'; obtain ⟨y0, h0, e1, e2, e3, _⟩ := back c y hy; rw [e3]; exact hR.fits c y0 h0 (e1.trans ho')
              case inb => intro c y hy; obtain ⟨y0, h0, _⟩ := back c y hy; rw [setCells_size]; exact hR.inb c y0 h0
              case es => intro c y hy; obtain ⟨y0, h0, e1, e2, _⟩ := back c y hy; rw [← e2]; exact hR.es c y0 h0
              case there =>
                intro c y hy ho'
                obtain ⟨y0, h0, e1, _⟩ := back c y hy
                exact (hR.there c y0 h0 (e1.trans ho')).setCells _ _ _
              case apart =>
                intro c y c' y' hy hy' ho' hne'
                obtain ⟨y0, h0, e1, _⟩ := back c y hy
                obtain ⟨y1, h1, _⟩ := back c' y' hy'
                exact hR.apart c y0 c' y1 h0 h1 (e1.trans ho') hne'
            case next => exact Nat.le_refl _
            case mu => intro _ _; rfl
            case mu2 => intro _ _; rfl
            case low => exact hle
            case keep =>
              intro c hc _
              refine gne c ?_
              simp only at hc
              omega
            case old => intro c y hy _; obtain ⟨y0, h0, e1, _⟩ := back c y hy; exact ⟨y0, h0, e1⟩
            case new => intro c y hy hc; obtain ⟨y0, h0, _⟩ := back c y hy; have := hR.lt c y0 h0; omega
            case os => exact (setCells_os _ _ _ _).1
            case tape => exact (setCells_os _ _ _ _).2.1
            case output => exact (setCells_os _ _ _ _).2.2
            case size => rw [setCells_size]; exact Nat.le_refl _
            case frame => intro j hj hno; exact setCells_heap _ _ _ _ _ (Ne.symm (hno b x hx ho hlb))

/-- a block is given up -/
theorem kill_ok {β : Type} {μ : Map} {m : Mem} {w : World} (hR : Rep μ m w) {b : Nat} {k : Mem → Option β} {r : β} (h : setBlk m b none k = some r) :
    ∃ m', k m' = some r ∧ Ok μ m w μ m' w ∧ m'.next = m.next ∧ m'.low ≤ b := by
  rw [setBlk_eq] at h
  obtain ⟨t', hk, hg⟩ := Tr.upd_spec _ _ _ _ _ _ h
  rw [fNat_eq] at hk
  have hle : Nat.min b m.low ≤ m.low := Nat.min_le_right _ _
  have hlb : Nat.min b m.low ≤ b := Nat.min_le_left _ _
  have back : ∀ c y, t'.get c = some y → c ≠ b ∧ m.heap.get c = some y := fun c y hy => by
    rw [hg] at hy
    split at hy
    · simp at hy
    · rename_i h; exact ⟨h, hy⟩
  refine ⟨_, hk, ?_, rfl, hlb⟩
  constructor
  case rep => exact ⟨fun c y hy => hR.lt c y (back c y hy).2, fun c y hy => hR.cells c y (back c y hy).2, fun c y hy => hR.fits c y (back c y hy).2, fun c y hy => hR.inb c y (back c y hy).2, fun c y hy => hR.es c y (back c y hy).2, fun c y hy => hR.there c y (back c y hy).2, fun c y c' y' hy hy' => hR.apart c y c' y' (back c y hy).2 (back c' y' hy').2⟩
  case next => exact Nat.le_refl _
  case mu => intro _ _; rfl
  case mu2 => intro _ _; rfl
  case low => exact hle
  case keep =>
    intro c hc _
    simp only at hc
    show t'.get c = _
    rw [hg, if_neg (by omega)]
  case old => intro c y hy _; exact ⟨y, (back c y hy).2, rfl⟩
  case new => intro c y hy hc; have := hR.lt c y (back c y hy).2; omega
  case os => rfl
  case tape => rfl
  case output => rfl
  case size => exact Nat.le_refl _
  case frame => intro _ _ _; rfl

theorem rd_get {m : Mem} {b o n : Nat} {l : List Value} {x : EvBlk} (h : rdCells m ⟨b, o, none⟩ n = some l) (hx : m.heap.get b = some x) (hn : n ≠ 0) :
    l.length = n ∧ o + n ≤ x.cells.length ∧ ∀ i, i < n → l[i]? = x.cells[o + i]? := by
  unfold rdCells at h
  split at h
  · exact absurd rfl hn
  · simp only [hx] at h
    rw [dropN_eq] at h
    obtain ⟨rfl, hl⟩ := takeN_eq _ _ _ h
    simp at hl
    refine ⟨by simp; omega, by omega, fun i hi => ?_⟩
    rw [List.getElem?_take, if_pos hi, List.getElem?_drop]

/-- what is appended where there is room -/
theorem appendIn_ok {β : Type} {P : Program} {μ : Map} {m : Mem} {w : World} (hR : Rep μ m w) {b o n z : Nat} {x : EvBlk} {old new new' : List Value} {k : Addr → Mem → Option β} {r : β}
    (hx : m.heap.get b = some x) (ho : x.own = true) (hrd : rdCells m ⟨b, o, none⟩ n = some old)
    (h : (setBlk m b none fun m => newBlk m z (old ++ new) k) = some r) (hv : VRs μ m.next new new') (h1 : oneCells new = true)
    (hroom : o + n + new'.length ≤ (μ b).room) :
    ∃ μ' m', k ⟨m.next, 0, none⟩ m' = some r ∧ Ok μ m w μ' m' (w.setCells (μ b).blk ((μ b).base + o + n) new') ∧ m'.next = m.next + 1 ∧ μ' m.next = ⟨(μ b).blk, (μ b).base + o, (μ b).room - o, z, undef⟩ ∧
      (storeCells ⟨(μ b).blk, (μ b).base + o + n, none⟩ new').run P w = .ok () (w.setCells (μ b).blk ((μ b).base + o + n) new') := by
  rw [setBlk_eq] at h
  obtain ⟨t1, hk1, hg1⟩ := Tr.upd_spec _ _ _ _ _ _ h
  rw [fNat_eq] at hk1
  rw [newBlk_eq] at hk1
  obtain ⟨t', hk, hg⟩ := Tr.upd_spec _ _ _ _ _ _ hk1
  rw [fNat_eq] at hk
  simp only at hk hg
  have hle : Nat.min b m.low ≤ m.low := Nat.min_le_right _ _
  have hlb : Nat.min b m.low ≤ b := Nat.min_le_left _ _
  have hbn := hR.lt b x hx
  let μ' : Map := fun c => if c = m.next then ⟨(μ b).blk, (μ b).base + o, (μ b).room - o, z, undef⟩ else μ c
  have hμ : ∀ c, c < m.next → μ' c = μ c := fun c hc => by show (if c = m.next then _ else _) = _; rw [if_neg (by omega)]
  have hμn : μ' m.next = ⟨(μ b).blk, (μ b).base + o, (μ b).room - o, z, undef⟩ := by show (if m.next = m.next then _ else _) = _; rw [if_pos rfl]
  have hll := hv.length
  have hroom2 : ∀ j, j < new'.length → (w.cell? ⟨(μ b).blk, (μ b).base + o + n + j, none⟩).isSome = true ∧ w.frozen? ⟨(μ b).blk, (μ b).base + o + n + j, none⟩ = false := fun j hj => by
    rw [show (μ b).base + o + n + j = (μ b).base + (o + n + j) from by omega]
    exact hR.there0 b x hx ho _ (by omega)
  have hst := run_storeCells_cells (P := P) (μ b).blk ((μ b).base + o + n) new' 0 w
    (fun j hj => by rw [Nat.add_zero]; exact (hroom2 j hj).1) (fun j hj => by rw [Nat.add_zero]; exact (hroom2 j hj).2)
    (fun v hv' => by rw [← oneC_eq]; exact hv.oneC (oneCells_mem h1) v hv')
  rw [Nat.add_zero] at hst
  refine ⟨μ', _, hk, ?_, rfl, hμn, hst⟩
  have back : ∀ c y, t'.get c = some y → (c ≠ b ∧ c < m.next ∧ m.heap.get c = some y) ∨ (c = m.next ∧ y = ⟨z, true, old ++ new⟩) := fun c y hy => by
    rw [hg] at hy
    split at hy
    · rename_i e; exact .inr ⟨e, (Option.some.inj hy).symm⟩
    · rw [hg1] at hy
      split at hy
      · simp at hy
      · rename_i h; exact .inl ⟨h, hR.lt c y hy, hy⟩
  have hother : ∀ c y, m.heap.get c = some y → c ≠ b → (μ c).blk ≠ (μ b).blk := fun c y hy hc => (hR.apart b x c y hx hy ho (Ne.symm hc)).symm
  have hold : ∀ c y, m.heap.get c = some y → c ≠ b → (w.setCells (μ b).blk ((μ b).base + o + n) new').heap[(μ c).blk]? = w.heap[(μ c).blk]? := fun c y hy hc => setCells_heap _ _ _ _ _ (hother c y hy hc)
  have hon : old.length = n := by
    obtain ⟨_, _, h, _⟩ := rd_ok (P := P) hR hrd
    exact h
  constructor
  case rep =>
    constructor
    case lt => intro c y hy; show c < m.next + 1; rcases back c y hy with ⟨_, h, _⟩ | ⟨h, _⟩ <;> omega
    case cells =>
      intro c y hy i v hi
      rcases back c y hy with ⟨hc, hcn, hy⟩ | ⟨rfl, rfl⟩
      · obtain ⟨v', hv1, hv2⟩ := hR.cells c y hy i v hi
        rw [hμ c hcn]
        exact ⟨v', by rw [World.cell?_of_block (w := w) (hold c y hy hc)]; exact hv1, hv2.mono (Nat.le_succ _) hμ⟩
      · rw [hμn]
        simp only at hi ⊢
        by_cases hin : i < n
        · rw [List.getElem?_append_left (by omega)] at hi
          obtain ⟨_, _, he⟩ := rd_get hrd hx (by omega)
          rw [he i hin] at hi
          obtain ⟨v', hv1, hv2⟩ := hR.cells b x hx _ v hi
          refine ⟨v', ?_, hv2.mono (Nat.le_succ _) hμ⟩
          rw [World.cell?_setCells_out _ _ _ _ _ (fun _ _ => .inl (by simp; omega)), Nat.add_assoc]
          exact hv1
        · rw [List.getElem?_append_right (by omega), hon] at hi
          obtain ⟨v', e, hv2⟩ := hv.get _ v hi
          refine ⟨v', ?_, hv2.mono (Nat.le_succ _) hμ⟩
          obtain ⟨hlt, e⟩ := List.getElem?_eq_some_iff.1 e
          have := World.cell?_setCells_in (μ b).blk new' ((μ b).base + o + n) w (fun j hj => (hroom2 j hj).1) (i - n) hlt
          rw [show (μ b).base + o + n + (i - n) = (μ b).base + o + i from by omega] at this
          rw [this, e]
    case fits =>
      intro c y hy ho'
      rcases back c y hy with ⟨hc, hcn, hy⟩ | ⟨rfl, rfl⟩
      · rw [hμ c hcn]; exact hR.fits c y hy ho'
      · rw [hμn]; simp; omega
    case inb =>
      intro c y hy
      rw [setCells_size]
      rcases back c y hy with ⟨hc, hcn, hy⟩ | ⟨rfl, rfl⟩
      · rw [hμ c hcn]; exact hR.inb c y hy
      · rw [hμn]; exact hR.inb b x hx
    case es =>
      intro c y hy
      rcases back c y hy with ⟨hc, hcn, hy⟩ | ⟨rfl, rfl⟩
      · rw [hμ c hcn]; exact hR.es c y hy
      · rw [hμn]
    case there =>
      intro c y hy ho'
      rcases back c y hy with ⟨hc, hcn, hy⟩ | ⟨rfl, rfl⟩
      · rw [hμ c hcn]
        exact (hR.there c y hy ho').at (hold c y hy hc)
      · rw [hμn]
        exact ((hR.there b x hx ho).setCells _ _ _).le (by simp only; omega)
    case apart =>
      intro c y c' y' hy hy' ho' hne
      rcases back c y hy with ⟨hc, hcn, hy⟩ | ⟨rfl, rfl⟩
      · rcases back c' y' hy' with ⟨hc', hcn', hy'⟩ | ⟨rfl, rfl⟩
        · rw [hμ c hcn, hμ c' hcn']; exact hR.apart c y c' y' hy hy' ho' hne
        · rw [hμ c hcn, hμn]; exact hother c y hy hc
      · rcases back c' y' hy' with ⟨hc', hcn', hy'⟩ | ⟨rfl, rfl⟩
        · rw [hμ c' hcn', hμn]; exact (hother c' y' hy' hc').symm
        · exact absurd rfl hne
  case next => exact Nat.le_succ _
  case mu => exact hμ
  case mu2 => intro b hb; show (if b = m.next then _ else _) = _; simp only at hb; rw [if_neg (by omega)]
  case low => exact hle
  case keep =>
    intro c hc hcn
    simp only at hc
    show t'.get c = _
    rw [hg, if_neg (by omega), hg1, if_neg (by omega)]
  case old =>
    intro c y hy hcn
    rcases back c y hy with ⟨_, _, hy⟩ | ⟨rfl, _⟩
    · exact ⟨y, hy, rfl⟩
    · omega
  case new =>
    intro c y hy hcn
    rcases back c y hy with ⟨_, h, _⟩ | ⟨rfl, rfl⟩
    · omega
    · exact ⟨rfl, .inr ⟨b, x, hx, ho, hlb, by rw [hμn]⟩⟩
  case os => exact (setCells_os _ _ _ _).1
  case tape => exact (setCells_os _ _ _ _).2.1
  case output => exact (setCells_os _ _ _ _).2.2
  case size => rw [setCells_size]; exact Nat.le_refl _
  case frame => intro j hj hno; exact setCells_heap _ _ _ _ _ (Ne.symm (hno b x hx ho hlb))
end Go.Proofs.YtloolljoelngcaaGreat
