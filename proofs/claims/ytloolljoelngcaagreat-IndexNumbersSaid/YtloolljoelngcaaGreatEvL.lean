/-
  Regions that draw their order: the stretch between two writes, in whatever order.
-/
import Derived.Test.YtloolljoelngcaaGreatEvK
set_option linter.unusedVariables false
namespace Go.Proofs.YtloolljoelngcaaGreat
open Go.RowKit

def NoX : Nat → Prop := fun _ => False
structure SI (P : Program) (rec : Req → Stt → Option (Out × Stt)) (ops : Array Oper) (MS : List Nat) (st : Nat → DSt) (c : Nat) (X : Nat → Prop) (T : Nat → Prop) (μc : Map) (wc : World) (μ : Map) (w : World) (a : Act) : Prop where
  ge : ∀ j, T j → c ≤ j
  stay : ∀ j, T j → ∀ k, c ≤ k → k ≤ j → StayR P rec ops MS k (st k) (st (k + 1))
  out : ∀ b, (∀ j, T j → ¬(nx st j ≤ b ∧ b < nx st (j + 1))) → μ b = μc b
  os : w.os = wc.os
  tape : w.tape = wc.tape
  output : w.output = wc.output
  size : wc.heap.size ≤ w.heap.size
  same : ∀ k, k < wc.heap.size → ¬ X k → w.heap[k]? = wc.heap[k]?
  made : ∀ e, MadeAt st ops MS e → T e.i → ∀ b x, (b, x) ∈ e.d → x.own = true ∧ e.lo ≤ b ∧ b < e.hi ∧ wc.heap.size ≤ (μ b).blk ∧ (μ b).blk < w.heap.size ∧ x.cells.length ≤ (μ b).room ∧ (μ b).es = x.es ∧
    FreeRow w (μ b).blk ((μ b).base + (μ b).room) ∧
    (∀ (i : Nat) v, x.cells[i]? = some v → ∃ v', w.cell? ⟨(μ b).blk, (μ b).base + i, none⟩ = some v' ∧ VR μ e.hi v v')
  apart : ∀ e e', MadeAt st ops MS e → MadeAt st ops MS e' → T e.i → T e'.i → ∀ b x b' x', (b, x) ∈ e.d → (b', x') ∈ e'.d → b ≠ b' → (μ b).blk ≠ (μ b').blk
  defers : a.defers = []
  sz : a.tmps.size = (st c).s.size
  slotT : ∀ j o t, T j → ops[j]? = some o → o.dst = some t → SlotR μ (nx st (j + 1)) ((st (j + 1)).s.fr.get t) (a.tmps.getD t undef)
  slotB : ∀ t, (∀ j o, T j → ops[j]? = some o → o.dst ≠ some t) → SlotR μ (nx st c) ((st c).s.fr.get t) (a.tmps.getD t undef)

/-- what holds where a stretch begins -/
structure Begin (ops : Array Oper) (MS : List Nat) (st : Nat → DSt) (c : Nat) (X : Nat → Prop) (μc : Map) (wc : World) : Prop where
  ok : drawOk ops = true
  ms : MS = pres ops.toList []
  rep : Rep μc (st c).s.mem wc
  ds : (st c).ds = []
  nb : (st c).nb = nx st c
  glob : ∀ g, g < 1048576 → (μc g).blk = g ∧ (μc g).base = 0
  big : 1048576 ≤ nx st c
  notX : ∀ b x, (st c).s.mem.heap.get b = some x → ¬ X (μc b).blk

section
variable {P : Program} {rec : Req → Stt → Option (Out × Stt)} {ops : Array Oper} {MS : List Nat} {st : Nat → DSt} {c : Nat} {X T : Nat → Prop} {μc μ : Map} {wc w : World} {a : Act}

theorem bit_lt (hB : Begin ops MS st c X μc wc) {i j m : Nat} {o : Oper} (ho : ops[i]? = some o) (hm : MS[i]? = some m) (h : m.testBit j = true) : j < i := by
  rw [hB.ms] at hm
  exact (pre_closed hB.ok (S := fun _ => True) (fun _ _ _ _ _ _ _ => trivial) i o m ho hm (fun _ _ _ => trivial) j h).2
theorem edge_bit (hB : Begin ops MS st c X μc wc) {i m : Nat} {o : Oper} (ho : ops[i]? = some o) (hm : MS[i]? = some m) {e : Edge} (he : e ∈ o.after) (hb : Region.binds .any e = true) : m.testBit e.on = true := by
  rw [hB.ms, pres_get ops ho] at hm
  obtain rfl := Option.some.inj hm
  exact preE_bit _ _ e (by simpa using he) hb
theorem SI.below (h : SI P rec ops MS st c X T μc wc μ w a) {b : Nat} (hb : b < nx st c) : μ b = μc b := by
  refine h.out b fun j hj ⟨h1, _⟩ => ?_
  have := next_mono (P := P) (rec := rec) (ops := ops) (MS := MS) (st := st) (c := c) j c (Nat.le_refl _) (h.ge j hj) fun i g1 g2 => h.stay j hj i g1 (by omega)
  omega
theorem SI.start (hB : Begin ops MS st c X μc wc) (hF : FrR μc (nx st c) (st c).s.fr (st c).s.size a) : SI P rec ops MS st c X (fun _ => False) μc wc μc wc a :=
  ⟨fun _ h => h.elim, fun _ h => h.elim, fun _ _ => rfl, rfl, rfl, rfl, Nat.le_refl _, fun _ _ _ => rfl, fun _ _ h => h.elim, fun _ _ _ _ h => h.elim, hF.defers, hF.size, fun _ _ _ h => h.elim, fun t _ => hF.get t⟩

/-- the memory that an operation sees -/
theorem SI.rep (hB : Begin ops MS st c X μc wc) (h : SI P rec ops MS st c X T μc wc μ w a) {i m : Nat} {vis : Tr EvBlk} (hci : c ≤ i) (hst : ∀ k, c ≤ k → k < i → StayR P rec ops MS k (st k) (st (k + 1)))
    (ha : Adds m (st i).s.mem.heap (st i).ds vis) (hT : ∀ j, m.testBit j = true → c ≤ j → T j) (low : Nat) : Rep μ ⟨vis, nx st i, low⟩ w := by
  have seg := Seg.upto hB.ok hB.ds i hci hst
  have hRc := hB.rep
  have hbase : ∀ b x, (st c).s.mem.heap.get b = some x → b < nx st c := fun b x hx => hRc.lt b x hx
  have live : ∀ b x, vis.get b = some x → ((st c).s.mem.heap.get b = some x) ∨ ∃ e, MadeAt st ops MS e ∧ T e.i ∧ c ≤ e.i ∧ e.i < i ∧ (b, x) ∈ e.d := fun b x hx => by
    rcases ha.1 b x hx with hx | ⟨e, he, hbit, hd⟩
    · exact .inl (by rw [seg.heap] at hx; exact hx)
    · obtain ⟨g1, g2, g3⟩ := seg.ds e he
      exact .inr ⟨e, g3, hT e.i hbit g1, g1, g2, hd⟩
  have hmu : ∀ b, b < nx st c → μ b = μc b := fun b hb => h.below hb
  have hi : ∀ e, MadeAt st ops MS e → c ≤ e.i → e.i < i → e.hi ≤ nx st i := fun e he h1 h2 => by
    rw [he.hi]
    exact next_mono i (e.i + 1) (by omega) h2 hst
  have hblk : ∀ b x, (st c).s.mem.heap.get b = some x → (μc b).blk < wc.heap.size := fun b x hx => hRc.inb b x hx
  constructor
  case lt =>
    intro b x hx
    rcases live b x hx with hx | ⟨e, he, hTe, h1, h2, hd⟩
    · exact Nat.lt_of_lt_of_le (hbase b x hx) seg.next
    · obtain ⟨_, _, g, _⟩ := h.made e he hTe b x hd
      exact Nat.lt_of_lt_of_le g (hi e he h1 h2)
  case cells =>
    intro b x hx k v hk
    rcases live b x hx with hx | ⟨e, he, hTe, h1, h2, hd⟩
    · obtain ⟨v', g1, g2⟩ := hRc.cells b x hx k v hk
      rw [hmu b (hbase b x hx)]
      exact ⟨v', by rw [World.cell?_of_block (w := wc) (h.same _ (hblk b x hx) (hB.notX b x hx))]; exact g1, g2.mono seg.next hmu⟩
    · obtain ⟨_, _, _, _, _, _, _, _, g⟩ := h.made e he hTe b x hd
      obtain ⟨v', g1, g2⟩ := g k v hk
      exact ⟨v', g1, g2.mono (hi e he h1 h2) fun _ _ => rfl⟩
  case fits =>
    intro b x hx ho
    rcases live b x hx with hx | ⟨e, he, hTe, h1, h2, hd⟩
    · rw [hmu b (hbase b x hx)]; exact hRc.fits b x hx ho
    · obtain ⟨_, _, _, _, _, g, _⟩ := h.made e he hTe b x hd
      exact g
  case inb =>
    intro b x hx
    rcases live b x hx with hx | ⟨e, he, hTe, h1, h2, hd⟩
    · rw [hmu b (hbase b x hx)]; exact Nat.lt_of_lt_of_le (hblk b x hx) h.size
    · obtain ⟨_, _, _, _, g, _⟩ := h.made e he hTe b x hd
      exact g
  case es =>
    intro b x hx
    rcases live b x hx with hx | ⟨e, he, hTe, h1, h2, hd⟩
    · rw [hmu b (hbase b x hx)]; exact hRc.es b x hx
    · obtain ⟨_, _, _, _, _, _, g, _⟩ := h.made e he hTe b x hd
      exact g
  case there =>
    intro b x hx ho
    rcases live b x hx with hx | ⟨e, he, hTe, h1, h2, hd⟩
    · rw [hmu b (hbase b x hx)]
      exact (hRc.there b x hx ho).at (h.same _ (hblk b x hx) (hB.notX b x hx))
    · obtain ⟨_, _, _, _, _, _, _, g, _⟩ := h.made e he hTe b x hd
      exact g
  case apart =>
    intro b x b' x' hx hx' ho hne
    rcases live b x hx with hx | ⟨e, he, hTe, h1, h2, hd⟩
    · rcases live b' x' hx' with hx' | ⟨e', he', hTe', h1', h2', hd'⟩
      · rw [hmu b (hbase b x hx), hmu b' (hbase b' x' hx')]; exact hRc.apart b x b' x' hx hx' ho hne
      · obtain ⟨_, _, _, g, _⟩ := h.made e' he' hTe' b' x' hd'
        rw [hmu b (hbase b x hx)]
        have := hblk b x hx
        omega
    · rcases live b' x' hx' with hx' | ⟨e', he', hTe', h1', h2', hd'⟩
      · obtain ⟨_, _, _, g, _⟩ := h.made e he hTe b x hd
        rw [hmu b' (hbase b' x' hx')]
        have := hblk b' x' hx'
        omega
      · exact h.apart e e' he he' hTe hTe' b x b' x' hd hd' hne

theorem looks_op {o : Oper} {t : Tmp} (h : Operand.tmp t ∈ o.op.operands.toList) : t ∈ o.looksAt ops :=
  List.mem_append_left _ (List.mem_filterMap.2 ⟨.tmp t, h, rfl⟩)
/-- a slot that an operation looks at -/
theorem SI.slot (hB : Begin ops MS st c X μc wc) (h : SI P rec ops MS st c X T μc wc μ w a) {i : Nat} {o : Oper} (ho : ops[i]? = some o) (hci : c ≤ i) (hst : ∀ k, c ≤ k → k < i → StayR P rec ops MS k (st k) (st (k + 1)))
    (hTi : ¬ T i) (hpre : ∀ m, MS[i]? = some m → ∀ j, m.testBit j = true → c ≤ j → T j) (hcl : ∀ j m, T j → MS[j]? = some m → m.testBit i = true → False) {t : Tmp} (ht : t ∈ o.looksAt ops) :
    SlotR μ (nx st i) ((st i).s.fr.get t) (a.tmps.getD t undef) := by
  have seg := Seg.upto hB.ok hB.ds i hci hst
  have hmi : ∃ m, MS[i]? = some m := ⟨_, by rw [hB.ms]; exact pres_get ops ho⟩
  obtain ⟨mi, hmi⟩ := hmi
  have chk := (allOk_spec hB.ok i o (by simpa using ho)).2.1
  rw [Nat.zero_add] at chk
  have pair : ∀ j oj, ops[j]? = some oj → j ≠ i → oj.dst = some t → mi.testBit j = true ∨ ∃ mj, MS[j]? = some mj ∧ mj.testBit i = true := fun j oj hoj hne hd => by
    have := (dstOk_spec chk j oj t (by simpa using hoj) (by omega) hd).2 ht
    rw [Nat.zero_add] at this
    rcases this with ⟨e, he, hb, rfl⟩ | ⟨e, he, hb, rfl⟩
    · exact .inl (edge_bit hB ho hmi he hb)
    · obtain ⟨mj, hmj⟩ : ∃ mj, MS[j]? = some mj := ⟨_, by rw [hB.ms]; exact pres_get ops hoj⟩
      exact .inr ⟨mj, hmj, edge_bit hB hoj hmj he hb⟩
  rcases seg.fr t with ⟨j, oj, h1, h2, h3, h4, h5⟩ | ⟨h1, h2⟩
  · rw [h5]
    have hTj : T j := by
      rcases pair j oj h3 (by omega) h4 with hb | ⟨mj, hmj, hb⟩
      · exact hpre mi hmi j hb h1
      · have := bit_lt hB h3 hmj hb
        omega
    exact (h.slotT j oj t hTj h3 h4).mono (next_mono i (j + 1) (by omega) h2 hst) fun _ _ => rfl
  · rw [h2]
    refine (h.slotB t fun j oj hTj hoj hd => ?_).mono seg.next fun _ _ => rfl
    have hcj := h.ge j hTj
    by_cases hji : j < i
    · exact h1 j oj hcj hji hoj hd
    · have hne : j ≠ i := fun e => hTi (e ▸ hTj)
      rcases pair j oj hoj hne hd with hb | ⟨mj, hmj, hb⟩
      · have := bit_lt hB ho hmi hb
        omega
      · exact hcl j mj hTj hmj hb

theorem put_slot {dst : Option Tmp} {v : Value} {t : Tmp} (hlt : ∀ d, dst = some d → d < a.tmps.size) : (dst = some t → (a.put dst v).tmps.getD t undef = v) ∧ (dst ≠ some t → (a.put dst v).tmps.getD t undef = a.tmps.getD t undef) := by
  constructor
  · rintro rfl
    have := hlt t rfl
    simp [Act.put, Array.getD_eq_getD_getElem?, this]
  · intro hne
    cases dst with
    | none => rfl
    | some d =>
      have : d ≠ t := fun e => hne (by rw [e])
      simp [Act.put, Array.getD_eq_getD_getElem?, Array.getElem?_setIfInBounds_ne this]
theorem put_lt {fr fr' : Tr Value} {sz : Nat} {dst : Option Tmp} {v : Value} (h : PutR fr sz dst v fr') : ∀ d, dst = some d → d < sz := by
  rintro d rfl
  rcases h with ⟨h, _⟩ | ⟨d', h, hlt, _⟩
  · cases h
  · obtain rfl := Option.some.inj h; exact hlt

/-- what is between the names of two operations -/
theorem apart_ranges {n : Nat} (hst : ∀ k, c ≤ k → k < n → StayR P rec ops MS k (st k) (st (k + 1))) {i j b : Nat} (hi : c ≤ i) (hj : c ≤ j) (hin : i < n) (hjn : j < n) (hne : i ≠ j) (h1 : nx st j ≤ b) (h2 : b < nx st (j + 1)) : ¬(nx st i ≤ b ∧ b < nx st (i + 1)) := by
  rintro ⟨h3, h4⟩
  rcases Nat.lt_or_gt_of_ne hne with h | h
  · have := next_mono (P := P) (rec := rec) (ops := ops) (MS := MS) (st := st) (c := c) j (i + 1) (by omega) h fun k g1 g2 => hst k g1 (by omega)
    omega
  · have := next_mono (P := P) (rec := rec) (ops := ops) (MS := MS) (st := st) (c := c) i (j + 1) (by omega) h fun k g1 g2 => hst k g1 (by omega)
    omega

theorem not_cons {e : Made} {l : List Made} (h : l = e :: l) : False := by
  have := congrArg List.length h
  simp at this

/-- an operation that does nothing -/
theorem SI.skip (hB : Begin ops MS st c X μc wc) (h : SI P rec ops MS st c X T μc wc μ w a) {i : Nat} {o : Oper} (hci : c ≤ i) (hst : ∀ k, c ≤ k → k < i → StayR P rec ops MS k (st k) (st (k + 1))) (hTi : ¬ T i)
    (hop : ops[i]? = some o) (hput : PutR (st i).s.fr (st i).s.size o.dst undef (st (i + 1)).s.fr) (hds : (st (i + 1)).ds = (st i).ds) (hstayi : StayR P rec ops MS i (st i) (st (i + 1))) :
    SI P rec ops MS st c X (fun j => T j ∨ j = i) μc wc μ w (a.put o.dst undef) := by
  have seg := Seg.upto hB.ok hB.ds i hci hst
  have hlt : ∀ d, o.dst = some d → d < a.tmps.size := fun d hd => by rw [h.sz, ← seg.size]; exact put_lt hput d hd
  have chk := (allOk_spec hB.ok i o (by simpa using hop)).2.1
  rw [Nat.zero_add] at chk
  have nomade : ∀ e, MadeAt st ops MS e → e.i ≠ i := fun e he hei => by
    have := he.ds
    rw [hei, hds] at this
    exact not_cons this
  constructor
  case ge => rintro j (hj | rfl); exact h.ge j hj; exact hci
  case stay =>
    rintro j (hj | rfl) k h1 h2
    · exact h.stay j hj k h1 h2
    · by_cases hk : k = j
      · subst hk; exact hstayi
      · exact hst k h1 (by omega)
  case out => intro b hb; exact h.out b fun j hj => hb j (.inl hj)
  case os => exact h.os
  case tape => exact h.tape
  case output => exact h.output
  case size => exact h.size
  case same => exact h.same
  case made => rintro e he (hT | hT); exact h.made e he hT; exact absurd hT (nomade e he)
  case apart =>
    rintro e e' he he' (hT | hT) (hT' | hT')
    · exact h.apart e e' he he' hT hT'
    · exact absurd hT' (nomade e' he')
    · exact absurd hT (nomade e he)
    · exact absurd hT (nomade e he)
  case defers => rw [show (a.put o.dst undef).defers = a.defers from by cases o.dst <;> rfl]; exact h.defers
  case sz => rw [← h.sz]; cases o.dst <;> simp [Act.put]
  case slotT =>
    rintro j oj t (hT | rfl) hoj hd
    · have hne : j ≠ i := fun e => hTi (e ▸ hT)
      have hno := (dstOk_spec chk j oj t (by simpa using hoj) (by omega) hd).1
      rw [(put_slot hlt).2 hno]
      exact h.slotT j oj t hT hoj hd
    · rw [hop] at hoj
      obtain rfl := Option.some.inj hoj
      rw [(put_slot hlt).1 hd]
      rcases put_get hput t with ⟨_, hg⟩ | ⟨hg, _⟩
      · rw [hg]; exact SlotR.some .undef
      · exact absurd hd hg
  case slotB =>
    intro t ht
    rw [(put_slot hlt).2 (ht i o (.inr rfl) hop)]
    exact h.slotB t fun j oj hT => ht j oj (.inl hT)

/-- an operation that makes blocks, at most -/
theorem SI.grow (hB : Begin ops MS st c X μc wc) (h : SI P rec ops MS st c X T μc wc μ w a) {i : Nat} {o : Oper} {m : Nat} {vis : Tr EvBlk} {fr : Tr Value} {v v' : Value} {m' : Mem} {μ' : Map} {w' : World} (hci : c ≤ i)
    (hst : ∀ k, c ≤ k → k < i → StayR P rec ops MS k (st k) (st (k + 1))) (hTi : ¬ T i) (hs : GrowR P rec ops MS i (st i) (st (i + 1)) o m vis fr v m') (hcl : ∀ j mj, T j → MS[j]? = some mj → ∀ k, mj.testBit k = true → c ≤ k → T k) (hpre : ∀ k, m.testBit k = true → c ≤ k → T k)
    (hok : Ok μ ⟨vis, nx st i, big⟩ w μ' m' w') (hv : VR μ' m'.next v v') : SI P rec ops MS st c X (fun j => T j ∨ j = i) μc wc μ' w' (a.put o.dst v') := by
  have seg := Seg.upto hB.ok hB.ds i hci hst
  have hlt : ∀ d, o.dst = some d → d < a.tmps.size := fun d hd => by rw [h.sz, ← seg.size]; exact put_lt hs.put d hd
  have chk := (allOk_spec hB.ok i o (by simpa using hs.op)).2.1
  rw [Nat.zero_add] at chk
  have hstayi : StayR P rec ops MS i (st i) (st (i + 1)) := .inl (.inr ⟨o, m, vis, fr, v, m', hs⟩)
  have hni : nx st (i + 1) = m'.next := by unfold nx; rw [hs.mem]
  have hlow : nx st i ≤ m'.low := hs.low
  have hvlt : ∀ b x, vis.get b = some x → b < nx st i := fun b x hx => by
    have h1 := hok.rep
    rcases Nat.lt_or_ge b (nx st i) with hlt | hge
    · exact hlt
    · -- what is seen has a name below
      have := hs.adds.1 b x hx
      rcases this with hx | ⟨e, he, hbit, hd⟩
      · rw [seg.heap] at hx
        exact Nat.lt_of_lt_of_le (hB.rep.lt b x hx) seg.next
      · obtain ⟨g1, g2, g3⟩ := seg.ds e he
        have hTe : T e.i := hpre e.i hbit g1
        obtain ⟨_, _, g, _⟩ := h.made e g3 hTe b x hd
        rw [g3.hi] at g
        exact Nat.lt_of_lt_of_le g (next_mono i (e.i + 1) (by omega) g2 hst)
  have same2 : ∀ k, k < w.heap.size → w'.heap[k]? = w.heap[k]? := fun k hk => hok.frame k hk fun b x hx _ hl => by
    have := hvlt b x hx
    omega
  have muold : ∀ b, ¬(nx st i ≤ b ∧ b < nx st (i + 1)) → μ' b = μ b := fun b hb => by
    rw [hni] at hb
    rcases Nat.lt_or_ge b (nx st i) with hlt | hge
    · exact hok.mu b hlt
    · exact hok.mu2 b (by omega)
  have ranges : ∀ j b, T j → nx st j ≤ b → b < nx st (j + 1) → ¬(nx st i ≤ b ∧ b < nx st (i + 1)) := fun j b hT h1 h2 => by
    have hne : i ≠ j := fun e => hTi (e ▸ hT)
    refine apart_ranges (P := P) (rec := rec) (ops := ops) (MS := MS) (c := c) (n := max i j + 1) (fun k g1 g2 => ?_) hci (h.ge j hT) (by omega) (by omega) hne h1 h2
    by_cases hkj : k ≤ j
    · exact h.stay j hT k g1 hkj
    · by_cases hki : k = i
      · subst hki; exact hstayi
      · exact hst k g1 (by omega)
  have belowC : ∀ b, b < nx st c → ¬(nx st i ≤ b ∧ b < nx st (i + 1)) := fun b hb => by have := seg.next; omega
  -- what an operation of the stretch may have seen has not turned
  have seenOk : ∀ j mj b, T j → MS[j]? = some mj → seen (st j).nb (nx st j) mj (st j).ds b = true → b < nx st (j + 1) → μ' b = μ b := fun j mj b hT hmj hse hb => by
    have segj := Seg.upto hB.ok hB.ds j (h.ge j hT) fun k g1 g2 => h.stay j hT k g1 (by omega)
    refine muold b ?_
    rcases seen_spec hse with hlt' | hge | ⟨e, he, hbit, h1, h2⟩
    · rw [segj.nb, hB.nb] at hlt'
      exact belowC b hlt'
    · exact ranges j b hT hge hb
    · obtain ⟨g1, g2, g3⟩ := segj.ds e he
      rw [g3.lo] at h1
      rw [g3.hi] at h2
      exact ranges e.i b (hcl j mj hT hmj e.i hbit g1) h1 h2
  have hsz := hok.size
  constructor
  case ge => rintro j (hj | rfl); exact h.ge j hj; exact hci
  case stay =>
    rintro j (hj | rfl) k h1 h2
    · exact h.stay j hj k h1 h2
    · by_cases hk : k = j
      · subst hk; exact hstayi
      · exact hst k h1 (by omega)
  case out =>
    intro b hb
    rw [muold b (hb i (.inr rfl))]
    exact h.out b fun j hj => hb j (.inl hj)
  case os => exact hok.os.trans h.os
  case tape => exact hok.tape.trans h.tape
  case output => exact hok.output.trans h.output
  case size => exact Nat.le_trans h.size hsz
  case same => intro k hk hX; rw [same2 k (Nat.lt_of_lt_of_le hk h.size)]; exact h.same k hk hX
  case made =>
    rintro e he (hT | hT) b x hd
    · obtain ⟨g1, g2, g3, g4, g5, g6, g7, g8, g9⟩ := h.made e he hT b x hd
      have hmub : μ' b = μ b := muold b (ranges e.i b hT (by rw [← he.lo]; exact g2) (by rw [← he.hi]; exact g3))
      rw [hmub]
      refine ⟨g1, g2, g3, g4, Nat.lt_of_lt_of_le g5 hsz, g6, g7, g8.at (same2 _ g5), fun k u hk => ?_⟩
      · obtain ⟨u', k1, k2⟩ := g9 k u hk
        refine ⟨u', by rw [World.cell?_of_block (w := w) (same2 _ g5)]; exact k1, ?_⟩
        obtain ⟨mj, hmj, hid⟩ := he.ms
        have hcell := idsL_mem (idsD_mem hid b x hd) u (List.mem_of_getElem? hk)
        exact VR.ids (fun b' hf hb' => seenOk e.i mj b' hT hmj hf (by rw [← he.hi]; exact hb')) 9 k2 hcell
    · have hds := he.ds
      rw [hT] at hds
      rcases hs.ds with ⟨_, h2⟩ | ⟨e', h1, h2⟩
      · rw [h2] at hds; exact (not_cons hds).elim
      · rw [h2] at hds
        obtain rfl : e' = e := (List.cons.inj hds).1
        obtain ⟨k1, k2⟩ := h1.d b x hd
        have hlt2 := hok.rep.lt b x k1
        obtain ⟨k3, k4⟩ := hok.new b x k1 k2
        have k5 : w.heap.size ≤ (μ' b).blk := by
          rcases k4 with k4 | ⟨b0, x0, k6, _, k7, _⟩
          · exact k4
          · have := hvlt b0 x0 k6
            omega
        have hsz0 := h.size
        exact ⟨k3, by rw [h1.lo]; exact k2, by rw [h1.hi]; exact hlt2, by omega, hok.rep.inb b x k1, hok.rep.fits b x k1 k3, hok.rep.es b x k1, hok.rep.there b x k1 k3, by rw [h1.hi]; exact hok.rep.cells b x k1⟩
  case apart =>
    have newd : ∀ e b x, MadeAt st ops MS e → e.i = i → (b, x) ∈ e.d → m'.heap.get b = some x ∧ x.own = true ∧ w.heap.size ≤ (μ' b).blk := fun e b x he hT hd => by
      have hds := he.ds
      rw [hT] at hds
      rcases hs.ds with ⟨_, h2⟩ | ⟨e', h1, h2⟩
      · rw [h2] at hds; exact (not_cons hds).elim
      · rw [h2] at hds
        obtain rfl : e' = e := (List.cons.inj hds).1
        obtain ⟨k1, k2⟩ := h1.d b x hd
        obtain ⟨k3, k4⟩ := hok.new b x k1 k2
        refine ⟨k1, k3, ?_⟩
        rcases k4 with k4 | ⟨b0, x0, k6, _, k7, _⟩
        · exact k4
        · have := hvlt b0 x0 k6
          omega
    have oldd : ∀ e b x, MadeAt st ops MS e → T e.i → (b, x) ∈ e.d → μ' b = μ b ∧ (μ b).blk < w.heap.size := fun e b x he hT hd => by
      obtain ⟨g1, g2, g3, g4, g5, _⟩ := h.made e he hT b x hd
      exact ⟨muold b (ranges e.i b hT (by rw [← he.lo]; exact g2) (by rw [← he.hi]; exact g3)), g5⟩
    rintro e e' he he' (hT | hT) (hT' | hT') b x b' x' hd hd' hne
    · rw [(oldd e b x he hT hd).1, (oldd e' b' x' he' hT' hd').1]
      exact h.apart e e' he he' hT hT' b x b' x' hd hd' hne
    · obtain ⟨k1, k2⟩ := oldd e b x he hT hd
      obtain ⟨_, _, k3⟩ := newd e' b' x' he' hT' hd'
      rw [k1]; omega
    · obtain ⟨k1, k2⟩ := oldd e' b' x' he' hT' hd'
      obtain ⟨_, _, k3⟩ := newd e b x he hT hd
      rw [k1]; omega
    · obtain ⟨k1, k2, _⟩ := newd e b x he hT hd
      obtain ⟨k3, _, _⟩ := newd e' b' x' he' hT' hd'
      exact hok.rep.apart b x b' x' k1 k3 k2 hne
  case defers => rw [show (a.put o.dst v').defers = a.defers from by cases o.dst <;> rfl]; exact h.defers
  case sz => rw [← h.sz]; cases o.dst <;> simp [Act.put]
  case slotT =>
    rintro j oj t (hT | rfl) hoj hd
    · have hne : j ≠ i := fun e => hTi (e ▸ hT)
      have hno := (dstOk_spec chk j oj t (by simpa using hoj) (by omega) hd).1
      rw [(put_slot hlt).2 hno]
      have hold := h.slotT j oj t hT hoj hd
      obtain ⟨oj', vj, q1, q2, _, _, _, _, _, q3⟩ := stay_parts (h.stay j hT j (h.ge j hT) (Nat.le_refl _))
      rw [hoj] at q1
      obtain rfl := Option.some.inj q1
      have hget : (st (j + 1)).s.fr.get t = some vj := by
        rcases put_get q2 t with ⟨_, hg⟩ | ⟨hg, _⟩
        · exact hg
        · exact absurd hd hg
      rw [hget] at hold ⊢
      replace hold := hold vj rfl
      refine SlotR.some ?_
      rcases q3 with ⟨_, q4⟩ | ⟨e, mj, _, _, _, hmj, q4⟩
      · have : a.tmps.getD t undef = vj := hold.sameR q4
        rw [this]
        exact .of_flatR q4
      · exact VR.ids (fun b' hf hb' => seenOk j mj b' hT hmj hf hb') 9 hold q4
    · rw [hs.op] at hoj
      obtain rfl := Option.some.inj hoj
      rw [(put_slot hlt).1 hd, hni]
      rcases put_get hs.put t with ⟨_, hg⟩ | ⟨hg, _⟩
      · rw [hg]; exact SlotR.some hv
      · exact absurd hd hg
  case slotB =>
    intro t ht
    rw [(put_slot hlt).2 (ht i o (.inr rfl) hs.op)]
    exact (h.slotB t fun j oj hT => ht j oj (.inl hT)).mono (Nat.le_refl _) fun b hb => muold b (belowC b hb)

/-- all that is ahead of i has come up, and nothing else: the memory and the frame in the order of the text -/
theorem SI.finish (hX : ∀ k, ¬ X k) (hB : Begin ops MS st c X μc wc) (h : SI P rec ops MS st c X T μc wc μ w a) {i m : Nat} {vis : Tr EvBlk} (hci : c ≤ i) (hall : ∀ j, c ≤ j → j < i → T j) (hno : ∀ j, T j → j < i)
    (ha : Adds m (st i).s.mem.heap (st i).ds vis) (hbits : ∀ j, m.testBit j = true → j < i) :
    Ok μc (st c).s.mem wc μ ⟨vis, nx st i, (st i).s.mem.low⟩ w ∧ FrR μ (nx st i) (st i).s.fr (st i).s.size a := by
  have hst : ∀ k, c ≤ k → k < i → StayR P rec ops MS k (st k) (st (k + 1)) := fun k h1 h2 => h.stay k (hall k h1 h2) k h1 (Nat.le_refl _)
  have seg := Seg.upto hB.ok hB.ds i hci hst
  have hrep := h.rep hB hci hst ha (fun j hj h1 => hall j h1 (hbits j hj)) (st i).s.mem.low
  have madeLo : ∀ e ∈ (st i).ds, ∀ b x, (b, x) ∈ e.d → nx st c ≤ b ∧ x.own = true ∧ wc.heap.size ≤ (μ b).blk := fun e he b x hd => by
    obtain ⟨g1, g2, g3⟩ := seg.ds e he
    obtain ⟨k1, k2, _, k4, _⟩ := h.made e g3 (hall e.i g1 g2) b x hd
    have := next_mono (P := P) (rec := rec) (ops := ops) (MS := MS) (st := st) (c := c) e.i c (Nat.le_refl _) g1 fun k q1 q2 => hst k q1 (by omega)
    rw [g3.lo] at k2
    exact ⟨by omega, k1, k4⟩
  refine ⟨?_, ?_⟩
  · constructor
    case rep => exact hrep
    case next => exact seg.next
    case mu => intro b hb; exact h.below hb
    case mu2 =>
      intro b hb
      refine h.out b fun j hj ⟨_, h2⟩ => ?_
      have := next_mono (P := P) (rec := rec) (ops := ops) (MS := MS) (st := st) (c := c) i (j + 1) (by have := h.ge j hj; omega) (hno j hj) hst
      simp only at hb
      omega
    case low => rw [seg.low]; exact Nat.le_refl _
    case keep =>
      intro b _ hb
      show vis.get b = _
      rw [ha.2 b fun e he x hd => ?_, seg.heap]
      have := (madeLo e he b x hd).1
      have hb' : b < nx st c := hb
      omega
    case old =>
      intro b x' hx hb
      rcases ha.1 b x' hx with hx | ⟨e, he, _, hd⟩
      · rw [seg.heap] at hx; exact ⟨x', hx, rfl⟩
      · have := (madeLo e he b x' hd).1
        have hb' : b < nx st c := hb
        omega
    case new =>
      intro b x' hx hb
      rcases ha.1 b x' hx with hx | ⟨e, he, _, hd⟩
      · rw [seg.heap] at hx
        have := hB.rep.lt b x' hx
        omega
      · obtain ⟨_, k1, k2⟩ := madeLo e he b x' hd
        exact ⟨k1, .inl k2⟩
    case os => exact h.os
    case tape => exact h.tape
    case output => exact h.output
    case size => exact h.size
    case frame => intro k hk _; exact h.same k hk (hX k)
  · refine ⟨h.defers, h.sz.trans seg.size.symm, fun t => ?_, fun g hg => ?_, Nat.le_trans hB.big seg.next⟩
    · rcases seg.fr t with ⟨j, o, h1, h2, h3, h4, h5⟩ | ⟨h1, h2⟩
      · rw [h5]
        exact (h.slotT j o t (hall j h1 h2) h3 h4).mono (next_mono i (j + 1) (by omega) h2 hst) fun _ _ => rfl
      · rw [h2]
        exact (h.slotB t fun j o hj ho => h1 j o (h.ge j hj) (hno j hj) ho).mono seg.next fun _ _ => rfl
    · rw [h.below (Nat.lt_of_lt_of_le hg hB.big)]
      exact hB.glob g hg
end
end Go.Proofs.YtloolljoelngcaaGreat
