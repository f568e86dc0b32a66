/-
  Drawn regions that hold operations on maps: what may be read early is read first; a call, or a store in a map, comes when nothing else may come. No program in sight.
-/
import Derived.Test.YtloolljoelngcaaGreatCr
import Derived.Deep.RegionHeld
set_option linter.unusedVariables false
namespace Go.Proofs.YtloolljoelngcaaGreat
open Go.RowKit
noncomputable section
variable {ro : Nat} {M0 : Map}

theorem OGo.trans {W : World} {μ μ1 μ2 : Map} {m m1 m2 : Mem} {w w1 w2 : World} {os os1 os2 : Objs} (h : OGo ro M0 W μ m w os μ1 m1 w1 os1) (k : OGo ro M0 W μ1 m1 w1 os1 μ2 m2 w2 os2) : OGo ro M0 W μ m w os μ2 m2 w2 os2 :=
  ⟨k.top, k.obj, Nat.le_trans h.next k.next, fun b hb => (k.mu b (Nat.lt_of_lt_of_le hb h.next)).trans (h.mu b hb)⟩
theorem OGo.drew {W : World} {μ : Map} {m : Mem} {w : World} {os : Objs} (hT : Top W μ m w) (hi : ObjsR ro M0 os W μ m w) : OGo ro M0 W μ m w os μ m w.drew os :=
  ⟨hT.wst ⟨rfl, rfl, rfl, Nat.le_refl _, fun _ _ _ _ h => h⟩ (fun _ _ => rfl) rfl (Nat.le_refl _) fun _ _ => rfl,
    ⟨hi.lt, fun i o h => (hi.rel i o h).mono (Nat.le_refl _) (fun _ _ => rfl) (hi.lt i o h) rfl, hi.new, hi.two, hi.far⟩, Nat.le_refl _, fun _ _ => rfl⟩

theorem OGo.below {W : World} {μ : Map} {m : Mem} {w w' : World} {os : Objs} (hT : Top W μ m w) (hi : ObjsR ro M0 os W μ m w) (hB : Below w.heap.size w w') : OGo ro M0 W μ m w os μ m w' os :=
  ⟨hT.wst ⟨hB.os, hB.tape, hB.output, hB.size, fun k c t f hk => by rw [hB.block k (Array.getElem?_eq_some_iff.1 hk).1]; exact hk⟩ (fun j hj => hB.block j (Nat.lt_of_lt_of_le hj hT.below.size)) rfl (Nat.le_refl _) fun _ _ => rfl,
    ⟨hi.lt, fun i o h => (hi.rel i o h).mono (Nat.le_refl _) (fun _ _ => rfl) (hi.lt i o h) (hB.block _ (hi.rel i o h).inb), hi.new, hi.two, hi.far⟩, Nat.le_refl _, fun _ _ => rfl⟩

/-- what lay there when the region began still lies there (with M: the rows of cells alone) -/
def SOf (M : Bool) (w0 w' : World) : Prop := ∀ k, k < w0.heap.size → (M = true → ∃ (c : Array Value) (t : TypeId) (f : Nat × Nat), w0.heap[k]? = some (.cells c t f)) → w'.heap[k]? = w0.heap[k]?

inductive Stp where
  | take (i : Nat)
  | go (i : Nat)
def isLook (o : Oper) : Bool := match o.op with
  | .lookup .. => true
  | _ => false
def isMapW (o : Oper) : Bool := match o.op with
  | .mapUpdate .. => true
  | _ => false
def loadOk (fr : Tr Value) (m : Mem) (o : Oper) : Bool := match o.op with
  | .load _ x => match opd fr x with
    | some (.pointer (some ⟨b, _, none⟩)) => match m.heap.get b with
      | some ⟨_, _, _ :: _⟩ => true
      | _ => false
    | _ => false
  | _ => false
section
variable (P : Program)
/-- what an operation that only looks gives -/
def stillV (ro : Nat) (M early : Bool) (fr : Tr Value) (m : Mem) (os : Objs) (o : Oper) : Option Value := match noMem o with
  | true => match stepOp P fr m o with
    | some (.val v _) => some v
    | _ => none
  | false => match early && loadOk fr m o with
    | true => match stepOp P fr m o with
      | some (.val v _) => some v
      | _ => none
    | false => match early && (!M && isLook o) with
      | true => match objOp P ro fr m os o with
        | some (.val v _ _) => some v
        | _ => none
      | false => none
def callK (E : Env) (fr : Tr Value) (m : Mem) (o : Oper) : Bool := match E.known with
  | none => false
  | some g => match stepOp P fr m o with
    | some (.call f [] _) => Nat.beq f g
    | _ => false
def callE (E : Env) (fr : Tr Value) (m : Mem) (os : Objs) (o : Oper) : Option Ent := match E.tab with
  | [] => none
  | _ => match stepOp P fr m o with
    | some (.call f args _) => findEnt m.heap m.next os f args E.tab
    | _ => none
def goE (ro : Nat) (E : Env) (rec : Req → Stt → Option (Out × Stt)) (M : Bool) (fr : Tr Value) (n : Nat) (m : Mem) (os : Objs) (o : Oper) : Option (Stt × Objs) := match isMapW o with
  | true => match M with
    | true => match objOp P ro fr m os o with
      | some eff => putEff fr n o eff
      | none => none
    | false => none
  | false => match callK P E fr m o with
    | true => match Stt.put ⟨fr, n, m⟩ o.dst (.bool true) m some with
      | some s => some (s, os)
      | none => none
    | false => match callE P E fr m os o with
      | some e => match m with
        | ⟨h, nx, low⟩ => match Nat.ble e.next e.next' with
          | true => addDelta h e.news fun h2 => match Stt.put ⟨fr, n, ⟨h2, e.next', low⟩⟩ o.dst e.v ⟨h2, e.next', low⟩ some with
            | some s => some (s, os)
            | none => none
          | false => none
      | none => match isLook o with
      | true => match objOp P ro fr m os o with
        | some eff => putEff fr n o eff
        | none => none
      | false => match m with
      | ⟨h, nx, _⟩ => match doOp P rec fr ⟨h, nx, big⟩ o with
        | some (v, m') => match Nat.ble nx m'.low with
          | true => match Stt.put ⟨fr, n, m'⟩ o.dst v m' some with
            | some s => some (s, os)
            | none => none
          | false => none
        | none => none
def drawE (ro : Nat) (E : Env) (rec : Req → Stt → Option (Out × Stt)) (ops : Array Oper) (M : Bool) : List Stp → Bool → Array Bool → Tr Value → Nat → Mem → Objs → Option (Stt × Objs)
  | [], _, listed, fr, n, m, os => match Region.ready .any ops listed with
    | [] => some (⟨fr, n, m⟩, os)
    | _ => none
  | .take i :: l, early, listed, fr, n, m, os => match ops[i]? with
    | some o => match Region.free .any ops listed i && (Region.ready .any ops listed).contains i with
      | true => match wantedE ops o fr with
        | some true => match stillV P ro M early fr m os o with
          | some v => match Stt.put ⟨fr, n, m⟩ o.dst v m some with
            | some ⟨fr', _, _⟩ => drawE ro E rec ops M l early (listed.setIfInBounds i true) fr' n m os
            | none => none
          | none => none
        | some false => match Stt.put ⟨fr, n, m⟩ o.dst undef m some with
          | some ⟨fr', _, _⟩ => drawE ro E rec ops M l early (listed.setIfInBounds i true) fr' n m os
          | none => none
        | none => none
      | false => none
    | none => none
  | .go i :: l, early, listed, fr, n, m, os => match ops[i]? with
    | some o => match Region.ready .any ops listed with
      | [j] => match Nat.beq j i with
        | true => match wantedE ops o fr with
          | some true => match goE P ro E rec M fr n m os o with
            | some (⟨fr', n', m'⟩, os') => drawE ro E rec ops M l false (listed.setIfInBounds i true) fr' n' m' os'
            | none => none
          | _ => none
        | false => none
      | _ => none
    | none => none
def drwE (ro : Nat) (E : Env) (rec : Req → Stt → Option (Out × Stt)) (ops : Array Oper) (M : Bool) (l : List Stp) (fr : Tr Value) (n : Nat) (m : Mem) (os : Objs) : Option (Stt × Objs) := match Region.noSelect ops && Nat.ble l.length ops.size with
  | true => drawE P ro E rec ops M l true (Array.replicate ops.size false) fr n m os
  | false => none
end

section
variable {P : Program} {W : World} {μ : Map} {m : Mem} {w w0 : World} {os : Objs} {o : Oper} {a : Act} {fr : Tr Value} {n : Nat}
theorem lookO_still (hT : Top W μ m w) (hi : ObjsR ro M0 os W μ m w) (hF : FrR μ m.next fr n a) (hl : isLook o = true) {eff : EffO} (h : objOp P ro fr m os o = some eff) :
    ∃ v v', eff = .val v m os ∧ VR μ m.next v v' ∧ ∀ w2 : World, (∀ k, k < w.heap.size → w2.heap[k]? = w.heap[k]?) → (execOp a.eval o).run P w2 = .ok (.value v') w2 := by
  unfold isLook at hl
  split at hl
  rotate_left
  · cases hl
  rename_i t x k ok ho
  unfold objOp at h
  rw [ho] at h
  simp only at h
  unfold lookO at h
  split at h
  rotate_left
  · cases h
  rename_i e hk
  obtain ⟨kt, hm, hd⟩ := keyT_ok hk
  split at h
  rotate_left
  · cases h
  rename_i i es c hx
  obtain ⟨hin, hev, es', hb, hes⟩ := mapAt_ok hi hF hx
  split at h
  rotate_left
  · cases h
  rename_i s hs
  have hsv := strAt_ok hF hs
  have hb2 : ∀ w2 : World, (∀ k, k < w.heap.size → w2.heap[k]? = w.heap[k]?) → w2.heap[(μ i).blk]? = some (.map es' c) := fun w2 h2 => by rw [h2 _ (Array.getElem?_eq_some_iff.1 hb).1]; exact hb
  have hrun : ∀ v' w2, (Instr.lookup t (.map (some (μ i).blk)) (.string ⟨⟨s⟩⟩) ok).run P w2 = .ok v' w2 → (execOp a.eval o).run P w2 = .ok (.value v') w2 := fun v' w2 hr => by
    unfold execOp; rw [ho]; simp [hev, hsv, hr, Result.andThen]
  rcases find_ok (k := s) hes 0 with ⟨h1, h2⟩ | ⟨j, v, e', h1, h2, h3, h4, h5⟩
  · rw [h1] at h
    simp only at h
    split at h
    · rename_i z hz
      obtain rfl := Option.some.inj h
      obtain ⟨z1, z2⟩ := zeroE_ok (μ := μ) (m := m) hz
      exact ⟨_, _, rfl, okTup_ok ok false z2, fun w2 hw2 => hrun _ w2 (run_lookNone ok hm hd (hb2 w2 hw2) h2 (z1 w2))⟩
    · cases h
  · rw [h1] at h
    obtain rfl := Option.some.inj h
    exact ⟨_, _, rfl, okTup_ok ok true h4, fun w2 hw2 => hrun _ w2 (run_look ok hm hd (hb2 w2 hw2) h5)⟩
theorem stillV_ok (hT : Top W μ m w) (hi : ObjsR ro M0 os W μ m w) (hF : FrR μ m.next fr n a) {M early : Bool} (he : early = true → w.heap = w0.heap) {v : Value} (h : stillV P ro M early fr m os o = some v) :
    ∃ v', VR μ m.next v v' ∧ ∀ w2, SOf M w0 w2 → (execOp a.eval o).run P w2 = .ok (.value v') w2 := by
  unfold stillV at h
  split at h
  · rename_i hn
    split at h
    · rename_i v1 m1 hs
      obtain rfl := Option.some.inj h
      obtain ⟨v2, e, v', h1, h2⟩ := pure_ok hF hn hs
      cases e
      exact ⟨v', h2, fun w2 _ => h1 w2⟩
    · cases h
  · split at h
    · rename_i hl
      rw [Bool.and_eq_true] at hl
      obtain ⟨rfl, hl⟩ := hl
      split at h
      rotate_left
      · cases h
      rename_i v1 m1 hs
      obtain rfl := Option.some.inj h
      unfold loadOk at hl
      split at hl
      rotate_left
      · cases hl
      rename_i t x ho
      split at hl
      rotate_left
      · cases hl
      rename_i b f hp
      split at hl
      rotate_left
      · cases hl
      rename_i z ow c cs hx
      rw [stepOp_eq, ho] at hs
      simp only [sLoad, hp] at hs
      split at hs
      rotate_left
      · cases hs
      rename_i v2 hld
      cases hs
      obtain ⟨v', hv, hrun⟩ := ldVar_at hT.rep hld
      have hpv := opd_ok hF hp
      obtain ⟨b', f', e1, hb, e2⟩ := hpv.ptr_inv
      cases e1
      refine ⟨v', hv, fun w2 hw2 => ?_⟩
      have hcell := hT.rep.cells b _ hx 0 c rfl
      obtain ⟨c', hc, _⟩ := hcell
      have hlt := hT.rep.inb b _ hx
      have hsame : w2.heap[(μ b).blk]? = w.heap[(μ b).blk]? := by
        rw [he rfl]
        refine hw2 _ (by rw [← he rfl]; exact hlt) fun _ => ?_
        unfold World.cell? at hc
        rw [← he rfl]
        cases hq : w.heap[(μ b).blk]? with
        | none => simp [hq] at hc
        | some ob =>
          cases ob with
          | cells c t f => exact ⟨c, t, f, rfl⟩
          | _ => simp [hq] at hc
      have hr := hrun w2 hsame
      simp [execOp, ho, Instr.loadAt, e2, Instr.sureAddr, hr]
    · split at h
      rotate_left
      · cases h
      rename_i hl
      simp only [Bool.and_eq_true, Bool.not_eq_true'] at hl
      obtain ⟨rfl, rfl, hl⟩ := hl
      split at h
      rotate_left
      · cases h
      rename_i v1 m1 os1 hs
      obtain rfl := Option.some.inj h
      obtain ⟨v2, v', e, hv, hrun⟩ := lookO_still hT hi hF hl hs
      cases e
      refine ⟨v', hv, fun w2 hw2 => hrun w2 fun k hk => ?_⟩
      rw [he rfl] at hk ⊢
      exact hw2 k hk fun e => by cases e
def PostO (ro : Nat) (M0 : Map) (W : World) (μ0 : Map) (m0 : Mem) (w0 : World) (os0 : Objs) (s : Stt) (os : Objs) (e : Exit) (a : Act) (w : World) : Prop := e = .normal ∧ ∃ μ, OGo ro M0 W μ0 m0 w0 os0 μ s.mem w os ∧ FrR μ s.mem.next s.fr s.size a
theorem SOf.wst {M : Bool} {w1 : World} (hM : M = true) (h : SOf M w0 w) (k : Wst w w1) : SOf M w0 w1 := fun j hj hc => by
  obtain ⟨c, t, f, e⟩ := hc hM
  rw [e]
  exact k.cells _ _ _ _ ((h j hj hc).trans e)
theorem Top.big {h : Tr EvBlk} {nx low : Nat} (hT : Top W μ ⟨h, nx, low⟩ w) : Top W μ ⟨h, nx, Go.Proofs.YtloolljoelngcaaGreat.big⟩ w :=
  ⟨⟨hT.rep.lt, hT.rep.cells, hT.rep.fits, hT.rep.inb, hT.rep.es, hT.rep.there, hT.rep.apart⟩, hT.below, hT.own⟩
theorem drawE_ok [ExtOk P] {E : Env} (hK : EnvOk P E) {rec : Req → Stt → Option (Out × Stt)} (hS : Snd P rec) {ops : Array Oper} {M : Bool} (hns : Region.noSelect ops = true) {μ0 : Map} {m0 : Mem} {os0 : Objs} {s' : Stt} {os' : Objs} : ∀ (l : List Stp) (early : Bool) (listed : Array Bool) (fr : Tr Value) (n : Nat) (m : Mem) (os : Objs) (μ : Map) (w : World) (a : Act),
    drawE P ro E rec ops M l early listed fr n m os = some (s', os') → OGo ro M0 W μ0 m0 w0 os0 μ m w os → FrR μ m.next fr n a → SOf M w0 w → w0.heap.size ≤ w.heap.size → (early = true → w.heap = w0.heap) →
    ∀ fuel, wpAnyH P .any ops (PostO ro M0 W μ0 m0 w0 os0 s' os') (SOf M w0) (l.length + fuel) listed a w
  | [], early, listed, fr, n, m, os, μ, w, a, h, hg, hF, hs, hz, he, fuel => by
    rw [drawE] at h
    split at h
    · rename_i hr
      simp only [Option.some.injEq, Prod.mk.injEq] at h
      obtain ⟨rfl, rfl⟩ := h
      exact wpAnyH_done hr ⟨rfl, μ, hg, hF⟩ _
    · cases h
  | .take i :: l, early, listed, fr, n, m, os, μ, w, a, h, hg, hF, hs, hz, he, fuel => by
    rw [drawE] at h
    split at h
    rotate_left
    · cases h
    rename_i o ho
    split at h
    rotate_left
    · cases h
    rename_i hfr
    rw [Bool.and_eq_true] at hfr
    rw [show (Stp.take i :: l).length + fuel = (l.length + fuel) + 1 from by simp; omega]
    have hQ : ∀ (v : Value) (c : _) (a : Act) (w : World), PostO ro M0 W μ0 m0 w0 os0 s' os' (.panic c) (a.put o.dst v) w → PostO ro M0 W μ0 m0 w0 os0 s' os' (.panic c) a w := fun v c a w h => absurd h.1 (by simp)
    split at h
    · rename_i hwe
      have hw := wanted_eq (ops := ops) hF o true hwe
      split at h
      rotate_left
      · cases h
      rename_i v hv
      obtain ⟨v', hvr, hrun⟩ := stillV_ok hg.top hg.obj hF he hv
      split at h
      rotate_left
      · cases h
      rename_i fr1 _ _ hput
      obtain ⟨fr2, e, hF2⟩ := put_ok hput hF hvr
      simp only [Option.some.injEq, Stt.mk.injEq] at e
      obtain ⟨rfl, _, _⟩ := e
      exact wpAnyH_take ho hns hfr.1 hfr.2 (hQ v') (.inl ⟨hw, hrun⟩) hs (drawE_ok hK hS hns l _ _ _ _ _ _ μ w _ h hg hF2 hs hz he fuel)
    · rename_i hwe
      have hw := wanted_eq (ops := ops) hF o false hwe
      split at h
      rotate_left
      · cases h
      rename_i fr1 _ _ hput
      obtain ⟨fr2, e, hF2⟩ := put_ok hput hF .undef
      simp only [Option.some.injEq, Stt.mk.injEq] at e
      obtain ⟨rfl, _, _⟩ := e
      exact wpAnyH_take ho hns hfr.1 hfr.2 (hQ undef) (.inr ⟨hw, rfl⟩) hs (drawE_ok hK hS hns l _ _ _ _ _ _ μ w _ h hg hF2 hs hz he fuel)
    · cases h
  | .go i :: l, early, listed, fr, n, m, os, μ, w, a, h, hg, hF, hs, hz, he, fuel => by
    rw [drawE] at h
    split at h
    rotate_left
    · cases h
    rename_i o ho
    split at h
    rotate_left
    · cases h
    rename_i j hr
    split at h
    rotate_left
    · cases h
    rename_i hb
    obtain rfl : j = i := Nat.eq_of_beq_eq_true hb
    split at h
    rotate_left
    · cases h
    rename_i hwe
    have hw := wanted_eq (ops := ops) hF o true hwe
    split at h
    rotate_left
    · cases h
    rename_i fr1 n1 m1 os1 hgo
    rw [show (Stp.go j :: l).length + fuel = (l.length + fuel) + 1 from by simp; omega]
    refine wpAnyH_ready (rs := [j]) hr (by simp) ?_
    intro i hi
    obtain rfl := List.mem_singleton.1 hi
    unfold wpOp
    simp only [ho, hw, if_true]
    refine .inl ?_
    unfold goE at hgo
    split at hgo
    · split at hgo
      rotate_left
      · cases hgo
      split at hgo
      rotate_left
      · cases hgo
      rename_i eff heff
      have hd := objOp_ok (o := o) hg.top hg.obj hF heff
      unfold Oper.wp
      cases eff with
      | val v m2 os2 =>
        obtain ⟨μ', w', v', hrun, hst, hv⟩ := hd
        simp only [putEff] at hgo
        split at hgo
        rotate_left
        · cases hgo
        rename_i s hput
        simp only [Option.some.injEq, Prod.mk.injEq] at hgo
        obtain ⟨rfl, rfl⟩ := hgo
        obtain ⟨fr2, e, hF2⟩ := put_ok hput (hF.far hst.go.next hst.go.mu) hv
        simp only [Option.some.injEq, Stt.mk.injEq] at e
        obtain ⟨rfl, rfl, rfl⟩ := e
        rw [hrun]
        exact ⟨hs.wst rfl hst.wst, drawE_ok hK hS hns l false _ _ _ _ _ μ' w' _ h (hg.trans hst.go) hF2 (hs.wst rfl hst.wst) (Nat.le_trans hz hst.wst.size) (fun e => by cases e) fuel⟩
      | unit m2 os2 =>
        obtain ⟨μ', w', hrun, hst⟩ := hd
        simp only [putEff] at hgo
        split at hgo
        rotate_left
        · cases hgo
        rename_i s hput
        simp only [Option.some.injEq, Prod.mk.injEq] at hgo
        obtain ⟨rfl, rfl⟩ := hgo
        obtain ⟨fr2, e, hF2⟩ := put_ok hput (hF.far hst.go.next hst.go.mu) .undef
        simp only [Option.some.injEq, Stt.mk.injEq] at e
        obtain ⟨rfl, rfl, rfl⟩ := e
        rw [hrun]
        exact ⟨hs.wst rfl hst.wst, drawE_ok hK hS hns l false _ _ _ _ _ μ' w' _ h (hg.trans hst.go) hF2 (hs.wst rfl hst.wst) (Nat.le_trans hz hst.wst.size) (fun e => by cases e) fuel⟩
    · split at hgo
      · rename_i hck
        unfold callK at hck
        split at hck
        · cases hck
        rename_i g hkn
        split at hck
        rotate_left
        · cases hck
        rename_i f m9 hso
        obtain rfl : f = g := Nat.eq_of_beq_eq_true hck
        split at hgo
        rotate_left
        · cases hgo
        rename_i s hput
        simp only [Option.some.injEq, Prod.mk.injEq] at hgo
        obtain ⟨rfl, rfl⟩ := hgo
        obtain ⟨args', hrun, hv, _⟩ : ∃ args', (execOp a.eval o).run P w = .ok (.enter f ⟨args'⟩) w ∧ VRs μ m.next [] args' ∧ m9 = m := step_ok (P := P) (w := w) (a := a) (n := n) hg.top.rep hF hso
        cases hv
        unfold Oper.wp
        rw [hrun]
        refine (hK.known f hkn w).mono ?_
        rintro e w' ⟨rfl, hB⟩
        have hgo2 := OGo.below hg.top hg.obj hB
        have hs2 : SOf M w0 w' := fun k hk hc => (hB.block k (Nat.lt_of_lt_of_le hk hz)).trans (hs k hk hc)
        obtain ⟨fr2, e, hF2⟩ := put_ok hput hF (VR.flat (v := .bool true) rfl)
        simp only [Option.some.injEq, Stt.mk.injEq] at e
        obtain ⟨rfl, rfl, rfl⟩ := e
        exact ⟨hs2, drawE_ok hK hS hns l false _ _ _ _ _ μ w' _ h (hg.trans hgo2) hF2 hs2 (Nat.le_trans hz hB.size) (fun e => by cases e) fuel⟩
      split at hgo
      · rename_i ent hce
        obtain ⟨hp, nx, low⟩ := m
        simp only at hgo hce hF hg
        unfold callE at hce
        split at hce
        · cases hce
        split at hce
        rotate_left
        · cases hce
        rename_i f args m9 hso
        obtain ⟨e1, rfl, rfl, e4, e5, e6⟩ := findEnt_ok hce
        split at hgo
        rotate_left
        · cases hgo
        rename_i hle
        rw [Nat.ble_eq] at hle
        obtain ⟨h2, hgo, hget⟩ := addDelta_some _ _ _ _ hgo
        split at hgo
        rotate_left
        · cases hgo
        rename_i s hput
        simp only [Option.some.injEq, Prod.mk.injEq] at hgo
        obtain ⟨rfl, rfl⟩ := hgo
        obtain ⟨args', hrun, hv, _⟩ : ∃ args', (execOp a.eval o).run P w = .ok (.enter ent.f ⟨args'⟩) w ∧ VRs μ nx ent.args args' ∧ m9 = ⟨hp, nx, low⟩ := step_ok (P := P) (w := w) (a := a) (n := n) hg.top.rep hF hso
        unfold Oper.wp
        rw [hrun]
        refine (hK.tab ent e1 W μ ⟨hp, nx, low⟩ w hg.top (fun i o h => ⟨hg.obj.lt i o (e6 i o h), hg.obj.rel i o (e6 i o h)⟩) (fun i o j p h h' => hg.obj.two i o j p (e6 i o h) (e6 j p h')) e5 e4 hF.glob hF.big args' hv).mono ?_
        rintro x w' ⟨v', μ', rfl, hmu, hv', hB, hN⟩
        have hgo2 := merge_ok (ro := ro) (M0 := M0) (os := os) hg.top hg.obj hmu hB hN e4 hle hget
        have hs2 : SOf M w0 w' := fun k hk hc => (hB.block k (Nat.lt_of_lt_of_le hk hz)).trans (hs k hk hc)
        obtain ⟨fr2, e, hF2⟩ := put_ok hput (hF.far hgo2.next hgo2.mu) hv'
        simp only [Option.some.injEq, Stt.mk.injEq] at e
        obtain ⟨rfl, rfl, rfl⟩ := e
        exact ⟨hs2, drawE_ok hK hS hns l false _ _ _ _ _ μ' w' _ h (hg.trans hgo2) hF2 hs2 (Nat.le_trans hz hB.size) (fun e => by cases e) fuel⟩
      split at hgo
      · rename_i hlk
        split at hgo
        rotate_left
        · cases hgo
        rename_i eff heff
        obtain ⟨v, v', rfl, hvr, hrun⟩ := lookO_still hg.top hg.obj hF hlk heff
        simp only [putEff] at hgo
        split at hgo
        rotate_left
        · cases hgo
        rename_i s hput
        simp only [Option.some.injEq, Prod.mk.injEq] at hgo
        obtain ⟨rfl, rfl⟩ := hgo
        unfold Oper.wp
        rw [hrun w fun _ _ => rfl]
        obtain ⟨fr2, e, hF2⟩ := put_ok hput hF hvr
        simp only [Option.some.injEq, Stt.mk.injEq] at e
        obtain ⟨rfl, rfl, rfl⟩ := e
        exact ⟨hs, drawE_ok hK hS hns l false _ _ _ _ _ μ w _ h hg hF2 hs hz (fun e => by cases e) fuel⟩
      split at hgo
      rename_i hp nx low _ _
      split at hgo
      rotate_left
      · cases hgo
      rename_i v m2 hdo
      split at hgo
      rotate_left
      · cases hgo
      rename_i hlow
      rw [Nat.ble_eq] at hlow
      split at hgo
      rotate_left
      · cases hgo
      rename_i s hput
      simp only [Option.some.injEq, Prod.mk.injEq] at hgo
      obtain ⟨rfl, rfl⟩ := hgo
      have hT := hg.top.big
      have hO : ObjsR ro M0 os W μ ⟨hp, nx, Go.Proofs.YtloolljoelngcaaGreat.big⟩ w := ⟨hg.obj.lt, hg.obj.rel, hg.obj.new, hg.obj.two, hg.obj.far⟩
      refine do_ok hS hdo hT.rep hF fun v' w' μ' hok hv => ?_
      have hgo2 : OGo ro M0 W μ ⟨hp, nx, low⟩ w os μ' m2 w' os := ⟨hT.step hok, ObjsR.kept ro M0 os W hT hok hO, hok.next, hok.mu⟩
      have hs2 : SOf M w0 w' := fun k hk hc => (hok.frame k (Nat.lt_of_lt_of_le hk hz) fun b x hx _ hl => by
        have := hg.top.rep.lt b x hx
        simp only at this
        omega).trans (hs k hk hc)
      obtain ⟨fr2, e, hF2⟩ := put_ok hput (hF.far hok.next hok.mu) hv
      simp only [Option.some.injEq, Stt.mk.injEq] at e
      obtain ⟨rfl, rfl, rfl⟩ := e
      exact ⟨hs2, drawE_ok hK hS hns l false _ _ _ _ _ μ' w' _ h (hg.trans hgo2) hF2 hs2 (Nat.le_trans hz hok.size) (fun e => by cases e) fuel⟩
theorem drwE_ok [ExtOk P] {E : Env} (hK : EnvOk P E) (hm : P.follows .mixedOrders = true) {rec : Req → Stt → Option (Out × Stt)} (hS : Snd P rec) {id : Nat} {ops : Array Oper} {M : Bool} {l : List Stp} {s' : Stt} {os' : Objs} (h : drwE P ro E rec ops M l fr n m os = some (s', os')) (hT : Top W μ m w) (hi : ObjsR ro M0 os W μ m w) (hF : FrR μ m.next fr n a) :
    (Code.region id ops true).wp P (PostO ro M0 W μ m w os s' os') a w := by
  unfold drwE at h
  split at h
  rotate_left
  · cases h
  rename_i hc
  rw [Bool.and_eq_true, Nat.ble_eq] at hc
  have hg := OGo.drew hT hi
  refine wp_region_held hm (S := SOf M w) ?_
  have := drawE_ok (W := W) (w0 := w) (μ0 := μ) (m0 := m) (os0 := os) hK hS hc.1 l true (Array.replicate ops.size false) fr n m os μ w.drew a h hg hF (fun _ _ _ => rfl) (Nat.le_refl _) (fun _ => rfl) (ops.size - l.length)
  rw [Nat.add_sub_cancel' hc.2] at this
  exact this
end
end
end Go.Proofs.YtloolljoelngcaaGreat
