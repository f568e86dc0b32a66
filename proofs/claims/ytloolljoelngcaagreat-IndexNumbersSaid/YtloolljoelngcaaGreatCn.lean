/-
  A closed call in pieces, with maps: what lies in a map, and how far a walk through it has come, is written down beside the evaluator's memory. No program in sight.
-/
import Derived.Test.YtloolljoelngcaaGreatCm
import Derived.Maps.RangeRun
import Derived.MapKept
import Derived.Laws.IdiomRangeMap
set_option linter.unusedVariables false
namespace Go.Proofs.YtloolljoelngcaaGreat
open Go.RowKit
noncomputable section

/-! ### maps and walks through them -/
structure EntE where
  key : List UInt8
  val : Value
  born : Nat
inductive ObjE where
  | map (es : List EntE) (clock : Nat)
  | iter (m since : Nat) (seen : List Nat) (stepped : Nat)
abbrev Objs := List (Nat × ObjE)
def getO (i : Nat) : Objs → Option ObjE
  | [] => none
  | (j, o) :: l => match Nat.beq j i with
    | true => some o
    | false => getO i l
def setO (i : Nat) (o : ObjE) : Objs → Objs
  | [] => []
  | (j, p) :: l => match Nat.beq j i with
    | true => (j, o) :: setO i o l
    | false => (j, p) :: setO i o l
theorem getO_mem {i : Nat} {o : ObjE} : ∀ {l : Objs}, getO i l = some o → (i, o) ∈ l
  | [], h => by simp [getO] at h
  | (j, p) :: l, h => by
    rw [getO] at h
    split at h
    · rename_i hb
      obtain rfl : j = i := Nat.eq_of_beq_eq_true hb
      obtain rfl := Option.some.inj h
      exact List.mem_cons_self
    · exact List.mem_cons_of_mem _ (getO_mem h)
theorem setO_mem {i : Nat} {o : ObjE} : ∀ {l : Objs} {j : Nat} {p : ObjE}, (j, p) ∈ setO i o l → (j = i ∧ p = o) ∨ (j ≠ i ∧ (j, p) ∈ l)
  | [], _, _, h => by simp [setO] at h
  | (j, p) :: l, a, q, h => by
    rw [setO] at h
    split at h
    · rename_i hb
      obtain rfl : j = i := Nat.eq_of_beq_eq_true hb
      rcases List.mem_cons.1 h with h | h
      · obtain ⟨rfl, rfl⟩ := Prod.mk.inj h; exact .inl ⟨rfl, rfl⟩
      · exact (setO_mem h).imp id fun h => ⟨h.1, List.mem_cons_of_mem _ h.2⟩
    · rename_i hb
      rcases List.mem_cons.1 h with h | h
      · cases h
        exact .inr ⟨fun e => by (rw [e, Nat.beq_refl] at hb; cases hb), List.mem_cons_self⟩
      · exact (setO_mem h).imp id fun h => ⟨h.1, List.mem_cons_of_mem _ h.2⟩

def EntsR (μ : Map) (nx : Nat) : List EntE → List MapEntry → Prop
  | [], [] => True
  | e :: l, e' :: l' => (e'.key = .string ⟨⟨e.key⟩⟩ ∧ VR μ nx e.val e'.val ∧ e'.born = e.born) ∧ EntsR μ nx l l'
  | _, _ => False
def ObjR (μ : Map) (nx : Nat) (w : World) (i : Nat) : ObjE → Prop
  | .map es clock => (μ i).sym = .map (some (μ i).blk) ∧ ∃ es' : Array MapEntry, w.heap[(μ i).blk]? = some (.map es' clock) ∧ EntsR μ nx es es'.toList
  | .iter m since seen st => (μ i).sym = .pointer (some ⟨(μ i).blk, 0, none⟩) ∧ m < nx ∧ w.heap[(μ i).blk]? = some (.mapIter (some (μ m).blk) since ⟨seen⟩ st)
/-- ro: tokens below it are maps that may only be read (those of a caller); M0: where the numbers below it lay when the run began -/
structure ObjsR (ro : Nat) (M0 : Map) (os : Objs) (W : World) (μ : Map) (m : Mem) (w : World) : Prop where
  lt : ∀ i o, (i, o) ∈ os → i < m.next
  rel : ∀ i o, (i, o) ∈ os → ObjR μ m.next w i o
  new : ∀ i o, (i, o) ∈ os → ro ≤ i → W.heap.size ≤ (μ i).blk
  two : ∀ i o j p, (i, o) ∈ os → (j, p) ∈ os → i ≠ j → (μ i).blk ≠ (μ j).blk
  far : ro ≤ m.next ∧ ∀ b, b < ro → μ b = M0 b
variable {ro : Nat} {M0 : Map}
theorem ObjsR.farS {ro : Nat} {M0 : Map} {os : Objs} {W : World} {μ μ' : Map} {m m' : Mem} {w : World} (h : ObjsR ro M0 os W μ m w) (hn : m.next ≤ m'.next) (hm : ∀ b, b < m.next → μ' b = μ b) : ro ≤ m'.next ∧ ∀ b, b < ro → μ' b = M0 b :=
  ⟨Nat.le_trans h.far.1 hn, fun b hb => (hm b (Nat.lt_of_lt_of_le hb h.far.1)).trans (h.far.2 b hb)⟩
theorem EntsR.mono {μ μ' : Map} {nx nx' : Nat} (hn : nx ≤ nx') (hm : ∀ b, b < nx → μ' b = μ b) : ∀ {l : List EntE} {l' : List MapEntry}, EntsR μ nx l l' → EntsR μ' nx' l l'
  | [], [], _ => trivial
  | _ :: _, _ :: _, ⟨⟨h1, h2, h3⟩, h⟩ => ⟨⟨h1, h2.mono hn hm, h3⟩, EntsR.mono hn hm h⟩
  | [], _ :: _, h => h.elim
  | _ :: _, [], h => h.elim
theorem ObjR.mono {μ μ' : Map} {nx nx' : Nat} {w w' : World} {i : Nat} {o : ObjE} (hn : nx ≤ nx') (hm : ∀ b, b < nx → μ' b = μ b) (hi : i < nx) (hw : w'.heap[(μ i).blk]? = w.heap[(μ i).blk]?) (h : ObjR μ nx w i o) : ObjR μ' nx' w' i o := by
  cases o with
  | map es clock =>
    obtain ⟨h1, es', h2, h3⟩ := h
    exact ⟨by rw [hm i hi]; exact h1, es', by rw [hm i hi, hw]; exact h2, h3.mono hn hm⟩
  | iter m since seen st =>
    obtain ⟨h1, h2, h3⟩ := h
    exact ⟨by rw [hm i hi]; exact h1, Nat.lt_of_lt_of_le h2 hn, by rw [hm i hi, hm m h2, hw]; exact h3⟩
/-- no row of cells lies where a map or a walk lies -/
theorem ObjR.bare {μ : Map} {nx : Nat} {w : World} {i : Nat} {o : ObjE} (h : ObjR μ nx w i o) {c : Array Value} {t : TypeId} {f : Nat × Nat} : w.heap[(μ i).blk]? ≠ some (.cells c t f) := by
  intro e
  cases o with
  | map es clock => obtain ⟨_, es', h2, _⟩ := h; rw [h2] at e; cases e
  | iter m since seen st => obtain ⟨_, _, h3⟩ := h; rw [h3] at e; cases e
theorem ObjR.inb {μ : Map} {nx : Nat} {w : World} {i : Nat} {o : ObjE} (h : ObjR μ nx w i o) : (μ i).blk < w.heap.size := by
  cases o with
  | map es clock => obtain ⟨_, es', h2, _⟩ := h; exact (Array.getElem?_eq_some_iff.1 h2).1
  | iter m since seen st => obtain ⟨_, _, h3⟩ := h; exact (Array.getElem?_eq_some_iff.1 h3).1

abbrev Kept (W : World) (I : Map → Mem → World → Prop) : Prop := ∀ {μ : Map} {m : Mem} {w : World} {μ' : Map} {m' : Mem} {w' : World}, Top W μ m w → Ok μ m w μ' m' w' → I μ m w → I μ' m' w'
theorem ObjsR.kept (ro : Nat) (M0 : Map) (os : Objs) (W : World) : Kept W (ObjsR ro M0 os W) := by
  intro μ m w μ' m' w' hT k h
  refine ⟨fun i o hi => Nat.lt_of_lt_of_le (h.lt i o hi) k.next, fun i o hi => ?_, fun i o hi hr => by rw [k.mu i (h.lt i o hi)]; exact h.new i o hi hr, fun i o j p hi hj hne => by rw [k.mu i (h.lt i o hi), k.mu j (h.lt j p hj)]; exact h.two i o j p hi hj hne, h.farS k.next k.mu⟩
  have hr := h.rel i o hi
  refine hr.mono k.next k.mu (h.lt i o hi) (k.frame _ hr.inb fun b x hx ho _ e => ?_)
  obtain ⟨c, t, lo, hi', h1, _⟩ := hT.rep.there b x hx ho
  rw [e] at h1
  exact hr.bare h1

def SafeI (P : Program) (W : World) (Q : Exit → Act → World → Prop) (I : Map → Mem → World → Prop) (ps : Pos) (s : SttM) : Prop :=
  ∀ (b : Frame) (k : List Item) (cs : List Frame) (μ : Map) (w : World) (F : Frame) (fs : List Frame), Top W μ s.mem w → I μ s.mem w → FramesR μ s.mem.next b k cs s.frs ps (F :: fs) → Gl P Q b k cs (lone F fs w)

/-- within the frame on top: whatever it does, the others wait -/
theorem topI_ok {P : Program} [ExtOk P] {W : World} {Q : Exit → Act → World → Prop} {I : Map → Mem → World → Prop} (hI : Kept W I) {f : FuncId} {todo todo' : List Item} {rest : Pos} {fr fr' : Tr Value} {n n' : Nat} {frs : List (Tr Value × Nat)} {mem mem' : Mem}
    (h : ∀ (b : Frame) (k : List Item) (cs : List Frame) (μ : Map) (w : World) (a : Act), Rep μ mem w → FrR μ mem.next fr n a → ∃ μ' w' a', Ok μ mem w μ' mem' w' ∧ FrR μ' mem'.next fr' n' a' ∧ Steps P (lone (b.at a (todo ++ k)) cs w) (lone (b.at a' (todo' ++ k)) cs w'))
    (g : SafeI P W Q I ((f, todo') :: rest) ⟨(fr', n') :: frs, mem'⟩) : SafeI P W Q I ((f, todo) :: rest) ⟨(fr, n) :: frs, mem⟩ := by
  intro b k cs μ w F fs hT hi hFs
  rcases FramesR.inv hFs with ⟨a, rfl, rfl, hF, rfl, rfl⟩ | ⟨a, b', rfl, hF, h1, h2, t⟩
  · obtain ⟨μ', w', a', hok, hF', hs⟩ := h b k fs μ w a hT.rep hF
    exact (g b k fs μ' w' _ _ (hT.step hok) (hI hT hok hi) (.last hF')).of_steps hs
  · obtain ⟨μ', w', a', hok, hF', hs⟩ := h b' [] fs μ w a hT.rep hF
    rw [List.append_nil, List.append_nil] at hs
    exact (g b k cs μ' w' _ _ (hT.step hok) (hI hT hok hi) (.more hF' h1 h2 (t.up hok))).of_steps hs

theorem stepI_ok {P : Program} [ExtOk P] (hm : P.follows .mixedOrders = true) {fuel : Nat} {W : World} {Q : Exit → Act → World → Prop} {I : Map → Mem → World → Prop} (hI : Kept W I) {d : DirM} {ps ps' : Pos} {s s' : SttM} (h : stepM P fuel d ps s = some s') (hn : navM P d ps = some ps') (g : SafeI P W Q I ps' s') : SafeI P W Q I ps s := by
  unfold stepM at h
  split at h
  rotate_left
  · simp at h
  rename_i f todo rest fr n frs mem
  cases d with
  | one d =>
    simp only [navM] at h hn
    split at h
    rotate_left
    · simp at h
    rename_i fr' n' mem' hs
    simp only [Option.some.injEq] at h
    subst h
    split at hn
    rotate_left
    · simp at hn
    rename_i todo' hn1
    simp only [Option.some.injEq] at hn
    subst hn
    exact topI_ok hI (fun b k cs μ w a hR hF => step1_steps hm hs hn1 b k cs μ w a hR hF) g
  | reg =>
    simp only [navM] at h hn
    simp only [Option.some.injEq] at h
    subst h
    split at hn
    rotate_left
    · simp at hn
    simp only [Option.some.injEq] at hn
    subst hn
    exact topI_ok hI (fun b k cs μ w a hR hF => ⟨μ, w, a, .refl hR, hF, .one step_region⟩) g
  | endr =>
    simp only [navM] at h hn
    simp only [Option.some.injEq] at h
    subst h
    split at hn
    rotate_left
    · simp at hn
    simp only [Option.some.injEq] at hn
    subst hn
    exact topI_ok hI (fun b k cs μ w a hR hF => ⟨μ, w, a, .refl hR, hF, .one step_region_end⟩) g
  | ops q =>
    simp only [navM] at h hn
    split at hn
    rotate_left
    · simp at hn
    rename_i ops l k0
    simp only [Option.some.injEq] at hn
    subst hn
    simp only at h
    split at h
    rotate_left
    · simp at h
    rename_i os hos
    split at h
    rotate_left
    · simp at h
    rename_i fr' n' mem' hev
    simp only [Option.some.injEq] at h
    subst h
    refine topI_ok hI (fun b k cs μ w a hR hF => ?_) g
    have hw := opsAt_ok (ev_ok hm fuel) _ _ ⟨fr, n, mem⟩ μ w a hos hev (.refl hR) hF
    obtain ⟨a', w', ⟨_, μ', hok, hF'⟩, hs⟩ := wp_part (fun e a w hp => hp.1) (l.drop q) (l.take q) a w hw b (k0 ++ k) cs
    rw [List.take_append_drop] at hs
    exact ⟨μ', w', a', hok, hF', hs⟩
  | enter g0 =>
    simp only [navM] at h hn
    split at hn
    rotate_left
    · simp at hn
    rename_i ops i l k0
    simp only at h
    split at hn
    rotate_left
    · simp at hn
    rename_i fn hfn
    split at hn
    rotate_left
    · simp at hn
    rename_i c hbody
    simp only [Option.some.injEq] at hn
    subst hn
    split at h
    rotate_left
    · simp at h
    rename_i o ho
    split at h
    rotate_left
    · simp at h
    rename_i hwe
    split at h
    rotate_left
    · simp at h
    rename_i f2 args mem2 hso
    split at h
    rotate_left
    · simp at h
    rename_i hfg
    obtain rfl : f2 = g0 := Nat.eq_of_beq_eq_true hfg
    rw [hfn] at h
    simp only at h
    obtain ⟨t, h1, hget⟩ := fillFr_spec _ _ _ _ _ h
    rw [fNat_eq] at h1
    simp only [Option.some.injEq] at h1
    subst h1
    intro b k cs μ w F fs hT hi hFs
    -- the machine's step into the function, from whatever frame
    have into : ∀ (b1 : Frame) (k1 : List Item) (cs1 : List Frame) (a : Act), FrR μ mem.next fr n a → ∃ args', VRs μ mem.next args args' ∧ mem2 = mem ∧
        Steps P (lone (b1.at a (.inRegion ops (i :: l) :: k1)) cs1 w) (lone (({ (default : Frame) with fn := f2, kind := .normal } : Frame).at { tmps := (⟨args'⟩ : Array Value) ++ Array.replicate (fn.ntmps - (⟨args'⟩ : Array Value).size) undef, defers := [] } [.code c]) (b1.at a (.inRegion ops (i :: l) :: k1) :: cs1) w) := fun b1 k1 cs1 a hF => by
      have hd := step_ok (P := P) (w := w) (a := a) (n := n) hT.rep hF hso
      obtain ⟨args', hrun, hv, e⟩ := hd
      have hw := wanted_eq (ops := ops) hF o true hwe
      have hg := stepG_op (P := P) (b := b1) (k := k1) (cs := cs1) (w := w) (rest := l) ho hw
      refine ⟨args', hv, e, .one ?_⟩
      have henter : Frame.enter P f2 ⟨args'⟩ .normal = ({ (default : Frame) with fn := f2, kind := .normal } : Frame).at { tmps := (⟨args'⟩ : Array Value) ++ Array.replicate (fn.ntmps - (⟨args'⟩ : Array Value).size) undef, defers := [] } [.code c] := by
        simp [Frame.enter, Frame.at, hfn, hbody]
      rw [← henter]
      exact step_lone_go (by rw [hg]; simp [stepG.apply, hrun, Frame.at])
    rcases FramesR.inv hFs with ⟨a, rfl, rfl, hF, rfl, rfl⟩ | ⟨a, b', rfl, hF, h1, h2, t2⟩
    · obtain ⟨args', hv, rfl, hs⟩ := into b (k0 ++ k) fs a hF
      exact (g b k fs μ w _ _ hT hi (.more (b' := { (default : Frame) with fn := f2, kind := .normal }) (fillFr_frame hget hv hF.glob hF.big) rfl rfl (.last hF))).of_steps hs
    · obtain ⟨args', hv, rfl, hs⟩ := into b' k0 fs a hF
      exact (g b k cs μ w _ _ hT hi (.more (b' := { (default : Frame) with fn := f2, kind := .normal }) (fillFr_frame hget hv hF.glob hF.big) rfl rfl (.more hF h1 h2 t2))).of_steps hs
  | leave =>
    simp only [navM] at h hn
    split at h
    rotate_left
    · simp at h
    rename_i fn hfn
    split at h
    rotate_left
    · simp at h
    rename_i s1 hret
    split at h
    rotate_left
    · simp at h
    rename_i l hl
    split at h
    rotate_left
    · simp at h
    rename_i f2 ops i idx k2 rest2 fr2 n2 frs2
    simp only [Option.some.injEq] at hn
    subst hn
    intro b k cs μ w F fs hT hi hFs
    rcases FramesR.inv hFs with ⟨a, h1, h2, hF, rfl, rfl⟩ | ⟨a, b', rfl, hF, h1, h2, t2⟩
    · cases h2
    obtain ⟨μ1, w1, a1, todo1, hok, hF1, hs⟩ := retM_steps hm hret b' fs μ w a hT.rep hF
    obtain ⟨v', hres, hv'⟩ := resM (P := P) hok.rep hF1 hl
    have hT1 := hT.step hok
    cases fs with
    | nil => cases t2
    | cons F2 fs2 =>
    have leave : step P (lone { b'.at a1 todo1 with mode := .returning } (F2 :: fs2) w1) = .next (lone (F2.finish v') fs2 w1) :=
      step_leave_returned ⟨rfl, hF1.defers, h2, fn, by show P.funcs[b'.fn]? = some fn; rw [h1]; exact hfn, hres⟩
    have t3 := t2.up hok
    split at h
    rotate_left
    · simp at h
    rename_i fr3 n3 mem3 hput
    simp only [Option.some.injEq] at h
    subst h
    rcases FramesR.inv t3 with ⟨a2, rfl, rfl, hF2, rfl, rfl⟩ | ⟨a2, b2, rfl, hF2, g1, g2, t4⟩
    · obtain ⟨fr', e, hF3⟩ := put_ok hput hF2 hv'
      simp only [Option.some.injEq, Stt.mk.injEq] at e
      obtain ⟨rfl, rfl, rfl⟩ := e
      refine (g b k fs2 μ1 w1 _ _ hT1 (hI hT hok hi) (.last hF3)).of_steps (Steps.trans hs (.one ?_))
      rw [leave, List.cons_append, Frame.finish_at]
      rfl
    · obtain ⟨fr', e, hF3⟩ := put_ok hput hF2 hv'
      simp only [Option.some.injEq, Stt.mk.injEq] at e
      obtain ⟨rfl, rfl, rfl⟩ := e
      refine (g b k cs μ1 w1 _ _ hT1 (hI hT hok hi) (.more hF3 g1 g2 t4)).of_steps (Steps.trans hs (.one ?_))
      rw [leave, Frame.finish_at]

/-! ### the world turns where no row of cells lies -/
structure Wst (w w' : World) : Prop where
  os : w'.os = w.os
  tape : w'.tape = w.tape
  output : w'.output = w.output
  size : w.heap.size ≤ w'.heap.size
  cells : ∀ (k : Nat) (c : Array Value) (t : TypeId) (f : Nat × Nat), w.heap[k]? = some (Obj.cells c t f) → w'.heap[k]? = some (Obj.cells c t f)
theorem Wst.cell {w w' : World} (h : Wst w w') {a : Addr} {v : Value} (hv : w.cell? a = some v) : w'.cell? a = some v := by
  unfold World.cell? at hv ⊢
  cases hb : w.heap[a.block]? with
  | none => rw [hb] at hv; simp at hv
  | some o =>
    cases o with
    | cells c t f => rw [h.cells _ _ _ _ hb]; rw [hb] at hv; exact hv
    | _ => rw [hb] at hv; simp at hv
theorem Rep.wst {μ μ' : Map} {m m' : Mem} {w w' : World} (h : Rep μ m w) (k : Wst w w') (hh : m'.heap = m.heap) (hn : m.next ≤ m'.next) (hm : ∀ b, b < m.next → μ' b = μ b) : Rep μ' m' w' := by
  obtain ⟨hp, nx, low⟩ := m
  obtain ⟨hp', nx', low'⟩ := m'
  simp only at hh hn hm
  subst hh
  refine ⟨fun b x hx => Nat.lt_of_lt_of_le (h.lt b x hx) hn, fun b x hx i v hv => ?_, fun b x hx ho => ?_, fun b x hx => ?_, fun b x hx => ?_, fun b x hx ho => ?_, fun b x b' x' hx hx' ho hne => ?_⟩
  · obtain ⟨v', h1, h2⟩ := h.cells b x hx i v hv
    refine ⟨v', ?_, h2.mono hn hm⟩
    rw [hm b (h.lt b x hx)]
    exact k.cell h1
  · rw [hm b (h.lt b x hx)]; exact h.fits b x hx ho
  · rw [hm b (h.lt b x hx)]; exact Nat.lt_of_lt_of_le (h.inb b x hx) k.size
  · rw [hm b (h.lt b x hx)]; exact h.es b x hx
  · rw [hm b (h.lt b x hx)]
    obtain ⟨c, t, lo, hi, h1, h2⟩ := h.there b x hx ho
    exact ⟨c, t, lo, hi, k.cells _ _ _ _ h1, h2⟩
  · rw [hm b (h.lt b x hx), hm b' (h.lt b' x' hx')]; exact h.apart b x b' x' hx hx' ho hne
theorem FrR.far {μ μ' : Map} {nx nx' : Nat} {fr : Tr Value} {n : Nat} {a : Act} (h : FrR μ nx fr n a) (hn : nx ≤ nx') (hm : ∀ b, b < nx → μ' b = μ b) : FrR μ' nx' fr n a :=
  ⟨h.defers, h.size, fun t v hv => (h.get t v hv).mono hn hm, fun g hg => by rw [hm g (Nat.lt_of_lt_of_le hg h.big)]; exact h.glob g hg, Nat.le_trans h.big hn⟩
theorem FramesR.far {μ μ' : Map} {nx nx' : Nat} {b : Frame} {k : List Item} {cs : List Frame} (hn : nx ≤ nx') (hm : ∀ b, b < nx → μ' b = μ b) : ∀ {frs : List (Tr Value × Nat)} {ps : Pos} {fs : List Frame}, FramesR μ nx b k cs frs ps fs → FramesR μ' nx' b k cs frs ps fs
  | _, _, _, .last hF => .last (hF.far hn hm)
  | _, _, _, .more hF h1 h2 t => .more (hF.far hn hm) h1 h2 (t.far hn hm)
/-- a step that turns what lies in maps: the world, the numbers, the maps behind it -/
structure OGo (ro : Nat) (M0 : Map) (W : World) (μ : Map) (m : Mem) (w : World) (os : Objs) (μ' : Map) (m' : Mem) (w' : World) (os' : Objs) : Prop where
  top : Top W μ' m' w'
  obj : ObjsR ro M0 os' W μ' m' w'
  next : m.next ≤ m'.next
  mu : ∀ b, b < m.next → μ' b = μ b
structure OStep (ro : Nat) (M0 : Map) (W : World) (μ : Map) (m : Mem) (w : World) (os : Objs) (μ' : Map) (m' : Mem) (w' : World) (os' : Objs) : Prop where
  go : OGo ro M0 W μ m w os μ' m' w' os'
  wst : Wst w w'
theorem topO_ok {P : Program} [ExtOk P] {W : World} {Q : Exit → Act → World → Prop} {os os' : Objs} {f : FuncId} {todo todo' : List Item} {rest : Pos} {fr fr' : Tr Value} {n n' : Nat} {frs : List (Tr Value × Nat)} {mem mem' : Mem}
    (h : ∀ (b : Frame) (k : List Item) (cs : List Frame) (μ : Map) (w : World) (a : Act), Top W μ mem w → ObjsR ro M0 os W μ mem w → FrR μ mem.next fr n a → ∃ μ' w' a', OGo ro M0 W μ mem w os μ' mem' w' os' ∧ FrR μ' mem'.next fr' n' a' ∧ Steps P (lone (b.at a (todo ++ k)) cs w) (lone (b.at a' (todo' ++ k)) cs w'))
    (g : SafeI P W Q (ObjsR ro M0 os' W) ((f, todo') :: rest) ⟨(fr', n') :: frs, mem'⟩) : SafeI P W Q (ObjsR ro M0 os W) ((f, todo) :: rest) ⟨(fr, n) :: frs, mem⟩ := by
  intro b k cs μ w F fs hT hi hFs
  rcases FramesR.inv hFs with ⟨a, rfl, rfl, hF, rfl, rfl⟩ | ⟨a, b', rfl, hF, h1, h2, t⟩
  · obtain ⟨μ', w', a', hok, hF', hs⟩ := h b k fs μ w a hT hi hF
    exact (g b k fs μ' w' _ _ hok.top hok.obj (.last hF')).of_steps hs
  · obtain ⟨μ', w', a', hok, hF', hs⟩ := h b' [] fs μ w a hT hi hF
    rw [List.append_nil, List.append_nil] at hs
    exact (g b k cs μ' w' _ _ hok.top hok.obj (.more hF' h1 h2 (t.far hok.next hok.mu))).of_steps hs
theorem Top.wst {W : World} {μ μ' : Map} {m m' : Mem} {w w' : World} (h : Top W μ m w) (k : Wst w w') (hW : ∀ j, j < W.heap.size → w'.heap[j]? = w.heap[j]?) (hh : m'.heap = m.heap) (hn : m.next ≤ m'.next) (hm : ∀ b, b < m.next → μ' b = μ b) : Top W μ' m' w' :=
  ⟨h.rep.wst k hh hn hm, h.below.trans ⟨k.os, k.tape, k.output, k.size, hW⟩, fun b x hx ho => by rw [hh] at hx; rw [hm b (h.rep.lt b x hx)]; exact h.own b x hx ho⟩

theorem OStep.same {W : World} {μ : Map} {m : Mem} {w : World} {os : Objs} (hT : Top W μ m w) (hi : ObjsR ro M0 os W μ m w) : OStep ro M0 W μ m w os μ m w os := ⟨⟨hT, hi, Nat.le_refl _, fun _ _ => rfl⟩, ⟨rfl, rfl, rfl, Nat.le_refl _, fun _ _ _ _ h => h⟩⟩
def newL (μ : Map) (m : Mem) (w : World) (sym : Value) : Map := fun b => if b = m.next then ⟨w.heap.size, 0, 0, 0, sym⟩ else μ b
theorem OStep.new {W : World} {μ : Map} {m : Mem} {w : World} {os : Objs} (hT : Top W μ m w) (hi : ObjsR ro M0 os W μ m w) (o : Obj) (sym : Value) {oe : ObjE}
    (hr : ObjR (newL μ m w sym) (m.next + 1) (w.alloc o) m.next oe) : OStep ro M0 W μ m w os (newL μ m w sym) ⟨m.heap, m.next + 1, m.low⟩ (w.alloc o) ((m.next, oe) :: os) := by
  have hmu : ∀ b, b < m.next → newL μ m w sym b = μ b := fun b hb => by unfold newL; rw [if_neg (by omega)]
  have hold : ∀ k, k < w.heap.size → (w.alloc o).heap[k]? = w.heap[k]? := fun k hk => (MapKept.heap_alloc w o).2 k hk
  have hsz : (w.alloc o).heap.size = w.heap.size + 1 := Array.size_push _
  have hat : (newL μ m w sym m.next).blk = w.heap.size := by unfold newL; rw [if_pos rfl]
  have hW := hT.below.size
  have hwst : Wst w (w.alloc o) := ⟨rfl, rfl, rfl, by omega, fun k c t f hk => by rw [hold k (Array.getElem?_eq_some_iff.1 hk).1]; exact hk⟩
  refine ⟨⟨hT.wst hwst (fun j hj => hold j (by omega)) rfl (Nat.le_succ _) hmu, ⟨fun i p hp => ?_, fun i p hp => ?_, fun i p hp hro => ?_, fun i p j q hp hq hne => ?_, hi.farS (Nat.le_succ _) hmu⟩, Nat.le_succ _, hmu⟩, hwst⟩
  · rcases List.mem_cons.1 hp with h | h
    · cases h; exact Nat.lt_succ_self _
    · exact Nat.lt_succ_of_lt (hi.lt i p h)
  · rcases List.mem_cons.1 hp with h | h
    · cases h; exact hr
    · exact (hi.rel i p h).mono (Nat.le_succ _) hmu (hi.lt i p h) (hold _ (hi.rel i p h).inb)
  · rcases List.mem_cons.1 hp with h | h
    · cases h; rw [hat]; exact hW
    · rw [hmu i (hi.lt i p h)]; exact hi.new i p h hro
  · rcases List.mem_cons.1 hp with h | h <;> rcases List.mem_cons.1 hq with h' | h'
    · cases h; cases h'; exact absurd rfl hne
    · cases h
      rw [hat, hmu j (hi.lt j q h')]
      have := (hi.rel j q h').inb
      omega
    · cases h'
      rw [hat, hmu i (hi.lt i p h)]
      have := (hi.rel i p h).inb
      omega
    · rw [hmu i (hi.lt i p h), hmu j (hi.lt j q h')]; exact hi.two i p j q h h' hne
theorem OStep.set {W : World} {μ : Map} {m : Mem} {w w' : World} {os : Objs} (hT : Top W μ m w) (hi : ObjsR ro M0 os W μ m w) {i : Nat} {o0 oe : ObjE} {o : Obj} (h0 : (i, o0) ∈ os) (h0r : ro ≤ i) (hh : w'.heap = w.heap.setIfInBounds (μ i).blk o) (h1 : w'.os = w.os) (h2 : w'.tape = w.tape) (h3 : w'.output = w.output)
    (hr : ObjR μ m.next w' i oe) : OStep ro M0 W μ m w os μ m w' (setO i oe os) := by
  have hold : ∀ k, k ≠ (μ i).blk → w'.heap[k]? = w.heap[k]? := fun k hk => by rw [hh]; simp [Ne.symm hk]
  have hW := hi.new i o0 h0 h0r
  have hwst : Wst w w' := ⟨h1, h2, h3, by rw [hh]; simp, fun k c t f hk => by rw [hold k (fun e => by rw [e] at hk; exact (hi.rel i o0 h0).bare hk)]; exact hk⟩
  refine ⟨⟨hT.wst hwst (fun j hj => hold j (by omega)) rfl (Nat.le_refl _) fun _ _ => rfl, ⟨fun j p hp => ?_, fun j p hp => ?_, fun j p hp hro => ?_, fun j p j' p' hp hp' hne => ?_, hi.far⟩, Nat.le_refl _, fun _ _ => rfl⟩, hwst⟩
  · rcases setO_mem hp with ⟨rfl, _⟩ | ⟨_, h⟩
    · exact hi.lt _ _ h0
    · exact hi.lt _ _ h
  · rcases setO_mem hp with ⟨rfl, rfl⟩ | ⟨hne, h⟩
    · exact hr
    · exact (hi.rel j p h).mono (Nat.le_refl _) (fun _ _ => rfl) (hi.lt j p h) (hold _ (hi.two j p i o0 h h0 hne))
  · rcases setO_mem hp with ⟨rfl, _⟩ | ⟨_, h⟩
    · exact hW
    · exact hi.new _ _ h hro
  · rcases setO_mem hp with ⟨rfl, _⟩ | ⟨_, h⟩ <;> rcases setO_mem hp' with ⟨rfl, _⟩ | ⟨_, h'⟩
    · exact absurd rfl hne
    · exact hi.two _ _ _ _ h0 h' hne
    · exact hi.two _ _ _ _ h h0 hne
    · exact hi.two _ _ _ _ h h' hne

/-! ### what lies in a map -/
def findI (k : List UInt8) : List EntE → Nat → Option (Nat × Value)
  | [], _ => none
  | e :: l, i => match strEq k e.key with
    | true => some (i, e.val)
    | false => findI k l (i + 1)
def modE (k : List UInt8) (v : Value) : Nat → List EntE → List EntE
  | _, [] => []
  | 0, e :: l => ⟨k, v, e.born⟩ :: l
  | n + 1, e :: l => e :: modE k v n l
def dropE : Nat → List EntE → List EntE
  | _, [] => []
  | 0, _ :: l => l
  | n + 1, e :: l => e :: dropE n l
def joinE : List EntE → EntE → List EntE
  | [], x => [x]
  | e :: l, x => e :: joinE l x
section
variable {μ : Map} {nx : Nat}
theorem sameNow_str (k k' : List UInt8) : Instr.sameNow .string (.string ⟨⟨k⟩⟩) (.string ⟨⟨k'⟩⟩) = some (strEq k k') := by
  show some ((⟨⟨k⟩⟩ : ByteArray) == ⟨⟨k'⟩⟩) = _
  congr 1
  rw [strEq_eq, Bool.eq_iff_iff, MapKept.bytes_beq]
  simp
theorem find_ok {k : List UInt8} : ∀ {es : List EntE} {l : List MapEntry}, EntsR μ nx es l → ∀ i,
    (findI k es i = none ∧ Instr.findNow .string (.string ⟨⟨k⟩⟩) l i = some none) ∨
    ∃ j v e', findI k es i = some (i + j, v) ∧ l[j]? = some e' ∧ e'.key = .string ⟨⟨k⟩⟩ ∧ VR μ nx v e'.val ∧ Instr.findNow .string (.string ⟨⟨k⟩⟩) l i = some (some (i + j, e'.val))
  | [], [], _, i => .inl ⟨rfl, rfl⟩
  | e :: es, e' :: l, ⟨⟨h1, h2, h3⟩, h⟩, i => by
    cases hb : strEq k e.key with
    | true =>
      refine .inr ⟨0, e.val, e', by simp [findI, hb], rfl, ?_, h2, by simp [Instr.findNow, h1, sameNow_str, hb]⟩
      rw [strEq_eq, beq_iff_eq] at hb
      rw [h1, hb]
    | false =>
      rcases find_ok (k := k) h (i + 1) with ⟨g1, g2⟩ | ⟨j, v, x, g1, g2, g3, g4, g5⟩
      · exact .inl ⟨by simp [findI, hb, g1], by simp [Instr.findNow, h1, sameNow_str, hb, g2]⟩
      · exact .inr ⟨j + 1, v, x, by simp [findI, hb, g1]; omega, by simpa using g2, g3, g4, by simp [Instr.findNow, h1, sameNow_str, hb, g5]; omega⟩
  | [], _ :: _, h, _ => h.elim
  | _ :: _, [], h, _ => h.elim
theorem EntsR.mod {k : List UInt8} {v v' : Value} (hv : VR μ nx v v') : ∀ {es : List EntE} {l : List MapEntry}, EntsR μ nx es l → ∀ j, EntsR μ nx (modE k v j es) (l.modify j fun e => { e with key := .string ⟨⟨k⟩⟩, val := v' })
  | [], [], _, j => by cases j <;> simp [modE, EntsR]
  | e :: es, e' :: l, ⟨⟨h1, h2, h3⟩, h⟩, j => by
    cases j with
    | zero => simp only [modE, List.modify_zero_cons]; exact ⟨⟨rfl, hv, h3⟩, h⟩
    | succ j => simp only [modE, List.modify_succ_cons]; exact ⟨⟨h1, h2, h3⟩, EntsR.mod hv h j⟩
  | [], _ :: _, h, _ => h.elim
  | _ :: _, [], h, _ => h.elim
theorem EntsR.drop : ∀ {es : List EntE} {l : List MapEntry}, EntsR μ nx es l → ∀ j, EntsR μ nx (dropE j es) (l.eraseIdx j)
  | [], [], _, j => by cases j <;> simp [dropE, EntsR]
  | e :: es, e' :: l, ⟨⟨h1, h2, h3⟩, h⟩, j => by
    cases j with
    | zero => simp only [dropE, List.eraseIdx_cons_zero]; exact h
    | succ j => simp only [dropE, List.eraseIdx_cons_succ]; exact ⟨⟨h1, h2, h3⟩, EntsR.drop h j⟩
  | [], _ :: _, h, _ => h.elim
  | _ :: _, [], h, _ => h.elim
theorem EntsR.join {x : EntE} {x' : MapEntry} (hx : x'.key = .string ⟨⟨x.key⟩⟩ ∧ VR μ nx x.val x'.val ∧ x'.born = x.born) : ∀ {es : List EntE} {l : List MapEntry}, EntsR μ nx es l → EntsR μ nx (joinE es x) (l ++ [x'])
  | [], [], _ => ⟨hx, trivial⟩
  | e :: es, e' :: l, ⟨h1, h⟩ => ⟨h1, EntsR.join hx h⟩
  | [], _ :: _, h => h.elim
  | _ :: _, [], h => h.elim
end
end
end Go.Proofs.YtloolljoelngcaaGreat
