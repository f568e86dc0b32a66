/-
  A call's contract out of a run of its own. No program in sight.
-/
import Derived.Test.YtloolljoelngcaaGreatCv
set_option linter.unusedVariables false
namespace Go.Proofs.YtloolljoelngcaaGreat
open Go.RowKit
noncomputable section

def numL : Nat → List Value → List (Nat × Value)
  | _, [] => []
  | i, v :: l => (i, v) :: numL (i + 1) l
theorem numL_get : ∀ {l : List Value} {i t : Nat} {v : Value}, (t, v) ∈ numL i l → i ≤ t ∧ l[t - i]? = some v
  | [], _, _, _, h => by cases h
  | u :: l, i, t, v, h => by
    rw [numL] at h
    rcases List.mem_cons.1 h with h | h
    · cases h; simp
    · obtain ⟨h1, h2⟩ := numL_get h
      refine ⟨by omega, ?_⟩
      rw [show t - i = (t - (i + 1)) + 1 from by omega, List.getElem?_cons_succ]
      exact h2
def Ent.start (e : Ent) : SnapO := ⟨⟨[(numL 0 e.args, e.q)], e.blocks, e.next⟩, e.os⟩
def startsO (n : SnapO) : Bool := match loadO n fun s => match coversO s n with
    | true => some ()
    | false => none with
  | some _ => true
  | none => false
/-- how the call ends -/
def EndsR (P : Program) (μ : Map) (w : World) (fn : Func) (e : Ent) (x : Exit) (a : Act) (w' : World) : Prop :=
  x = .ret ∧ a.defers = [] ∧ ∃ v' μ', (results fn a.tmps).run P w' = .ok v' w' ∧ (∀ b, b < e.next → μ' b = μ b) ∧ VR μ' e.next' e.v v' ∧ Below w.heap.size w w' ∧ NewAt μ' e w w'
def roOk : List (Nat × EvBlk) → Bool
  | [] => true
  | (_, x) :: l => !x.own && roOk l
theorem callRes_ok {P : Program} [ExtOk P] {e : Ent} {fn : Func} {c : Code} (hf : P.funcs[e.f]? = some fn) (hb : fn.body = some c) (hq : e.q = Nat.max fn.ntmps e.args.length) (hs : startsO e.start = true)
    (run : ∀ (w : World) (μ : Map), SafeNO e.next μ P w (EndsR P μ w fn e) (some [(e.f, [.code c])]) e.start) : CallRes P e := by
  intro W μ m w hT hO hO2 hbl hnx hglob hbig args' hargs
  refine calls_of_wp hf hb ?_
  intro b k cs
  unfold startsO at hs
  split at hs
  rotate_left
  · cases hs
  rename_i u hu
  unfold loadO at hu
  obtain ⟨s0, h1, hl⟩ := loadM_spec hu
  dsimp only at h1
  split at h1
  rotate_left
  · cases h1
  rename_i hcov
  obtain ⟨frs, hp, nx, low⟩ := s0
  obtain ⟨l1, l2, l3⟩ := hl
  simp only [Ent.start] at l1 l2 l3
  subst l3
  cases l1 with
  | cons g1 g2 =>
  cases g2
  rename_i fr
  have hal := hargs.length
  have hR : Rep μ ⟨hp, e.next, low⟩ w := by
    have key : ∀ b x, hp.get b = some x → x.own = false ∧ ∃ y, m.heap.get b = some y ∧ y.es = x.es ∧ y.cells = x.cells := fun b x hx => blocksRo_get hbl b x (l2 b x hx)
    refine ⟨fun b x hx => ?_, fun b x hx i v hv => ?_, fun b x hx ho => ?_, fun b x hx => ?_, fun b x hx => ?_, fun b x hx ho => ?_, fun b x b' x' hx hx' ho => ?_⟩ <;> obtain ⟨k1, y, k2, k3, k4⟩ := key b x hx
    · exact Nat.lt_of_lt_of_le (hT.rep.lt b y k2) hnx
    · obtain ⟨v', q1, q2⟩ := hT.rep.cells b y k2 i v (by rw [k4]; exact hv)
      exact ⟨v', q1, q2.mono hnx fun _ _ => rfl⟩
    · rw [k1] at ho; cases ho
    · exact hT.rep.inb b y k2
    · rw [← k3]; exact hT.rep.es b y k2
    · rw [k1] at ho; cases ho
    · rw [k1] at ho; cases ho
  have hT0 : Top w μ ⟨hp, e.next, low⟩ w := ⟨hR, Below.refl _ _, fun b x hx ho => by
    have := (blocksRo_get hbl b x (l2 b x hx)).1
    rw [this] at ho; cases ho⟩
  have hO0 : ObjsR e.next μ e.os w μ ⟨hp, e.next, low⟩ w := ⟨fun i o h => Nat.lt_of_lt_of_le (hO i o h).1 hnx, fun i o h => (hO i o h).2.mono hnx (fun _ _ => rfl) (hO i o h).1 rfl, fun i o h hr => absurd (hO i o h).1 (by omega), hO2, Nat.le_refl _, fun _ _ => rfl⟩
  have hF : FrR μ e.next fr e.q { tmps := (⟨args'⟩ : Array Value) ++ Array.replicate (fn.ntmps - (⟨args'⟩ : Array Value).size) undef, defers := [] } := by
    refine ⟨rfl, ?_, fun t => ?_, hglob, Nat.le_trans hbig hnx⟩
    · rw [hq]
      have : Nat.max fn.ntmps e.args.length = max fn.ntmps e.args.length := rfl
      rw [this]
      simp [hal]
      omega
    · intro v hv
      obtain ⟨_, hg⟩ := numL_get (g1 t v hv)
      rw [Nat.sub_zero] at hg
      obtain ⟨v', q1, q2⟩ := hargs.get t v hg
      have : ((⟨args'⟩ : Array Value) ++ Array.replicate (fn.ntmps - (⟨args'⟩ : Array Value).size) undef).getD t undef = v' := by
        have hlt : t < args'.length := (List.getElem?_eq_some_iff.1 q1).1
        rw [Array.getD_eq_getD_getElem?, Array.getElem?_append_left (by simpa using hlt)]
        simp [q1]
      rw [this]
      exact q2.mono hnx fun _ _ => rfl
  obtain ⟨x, a', w', ⟨rfl, hd, v', μ', hres, hmu, hv, hB, hN⟩, harr⟩ := run w μ [(e.f, [.code c])] rfl _ hcov b k cs μ w _ _ hT0 hO0 (.last hF)
  exact ⟨.ret, a', w', ⟨hd, v', hres, v', μ', rfl, fun b hb => hmu b (Nat.lt_of_lt_of_le hb hnx), hv, hB, hN⟩, harr⟩
def lastR (P : Program) (fuel : Nat) (rs : List ResultVar) (e : Ent) (ps : Option Pos) (n : SnapO) : Bool :=
  match ps with
  | some [(_, .code c :: _)] => match loadO n fun s => match s with
      | ⟨⟨[(fr, q)], mem⟩, _⟩ => match ev P fuel (.code c) ⟨fr, q, mem⟩ with
        | some (.ret, s) => match resVals P s rs with
          | some l => match eqV 12 (tupled l) e.v && (blocksIn s.mem.heap e.news && (newOnly e.next e.news && Nat.ble s.mem.next e.next')) with
            | true => some ()
            | false => none
          | _ => none
        | _ => none
      | _ => none with
    | some _ => true
    | none => false
  | _ => false
theorem lastR_ok {P : Program} [ExtOk P] (hm : P.follows .mixedOrders = true) {fuel : Nat} {w : World} {μ : Map} {fn : Func} {e : Ent} {ps : Option Pos} {n : SnapO} (h : lastR P fuel fn.results.toList e ps n = true) : SafeNO e.next μ P w (EndsR P μ w fn e) ps n := by
  intro k hk s hc
  subst hk
  unfold lastR at h
  split at h
  rotate_left
  · cases h
  rename_i f c k0 hk
  obtain rfl := Option.some.inj hk
  split at h
  rotate_left
  · cases h
  rename_i u hu
  unfold loadO at hu
  obtain ⟨s0, h1, hl⟩ := loadM_spec hu
  dsimp only at h1
  split at h1
  rotate_left
  · cases h1
  rename_i fr q mem _ hse
  split at h1
  rotate_left
  · cases h1
  rename_i s1 hev
  split at h1
  rotate_left
  · cases h1
  rename_i l hres
  split at h1
  rotate_left
  · cases h1
  rename_i hc2
  simp only [Bool.and_eq_true, Nat.ble_eq] at hc2
  obtain ⟨c1, c2, c3, c4⟩ := hc2
  have hv0 := eqV_eq _ _ _ c1
  obtain rfl : s0 = ⟨[(fr, q)], mem⟩ := by cases hse; rfl
  refine SafeO.weak hc hl ?_
  intro b kk cs μ1 w1 F fs hT hi hFs
  rcases FramesR.inv hFs with ⟨a, _, _, hF, rfl, rfl⟩ | ⟨a, b', rfl, hF, g1, g2, t⟩
  rotate_left
  · cases t
  obtain ⟨x, a1, w2, ⟨he, μ2, hok, hF1⟩, harr⟩ := ev_ok hm fuel _ _ _ _ hev μ1 mem w1 μ1 w1 a (.refl hT.rep) hF b (k0 ++ kk) fs
  obtain rfl : x = .ret := he
  obtain ⟨v', hrun, hv⟩ := resM (P := P) hok.rep hF1 hres
  have hT2 := hT.step hok
  have hi2 := ObjsR.kept e.next μ n.os w hT hok hi
  refine ⟨.ret, a1, w2, ⟨rfl, hF1.defers, v', μ2, hrun, hi2.far.2, by rw [← hv0]; exact hv.mono c4 fun _ _ => rfl, hT2.below, ?_⟩, harr⟩
  have hin : ∀ b x, (b, x) ∈ e.news → s1.mem.heap.get b = some x ∧ x.own = true := fun b x hx => ⟨blocksIn_get c2 b x hx, (newOnly_ok c3 b x hx).2⟩
  refine ⟨fun b x hx => Nat.lt_of_lt_of_le (hT2.rep.lt b x (hin b x hx).1) c4, fun b x hx i v hv => ?_, fun b x hx => hT2.rep.fits b x (hin b x hx).1 (hin b x hx).2, fun b x hx => hT2.rep.inb b x (hin b x hx).1, fun b x hx => hT2.rep.es b x (hin b x hx).1, fun b x hx => hT2.rep.there b x (hin b x hx).1 (hin b x hx).2, fun b x b' x' hx hx' hne => hT2.rep.apart b x b' x' (hin b x hx).1 (hin b' x' hx').1 (hin b x hx).2 hne, fun b x hx => hT2.own b x (hin b x hx).1 (hin b x hx).2⟩
  obtain ⟨v2, q1, q2⟩ := hT2.rep.cells b x (hin b x hx).1 i v hv
  exact ⟨v2, q1, q2.mono c4 fun _ _ => rfl⟩

/-! ### two ways -/
variable {ro : Nat} {M0 : Map}
def twoE (ro : Nat) (ops : Array Oper) (o : Oper) (fr : Tr Value) (n : Nat) (m : Mem) (os : Objs) : Option ((Stt × Objs) × (Stt × Objs)) := match wantedE ops o fr with
  | some true => match nextTwo ro fr m os o with
    | some (f1, f2) => match putEff fr n o f1 with
      | some s1 => match putEff fr n o f2 with
        | some s2 => some (s1, s2)
        | none => none
      | none => none
    | none => none
  | _ => none
def forkO (ro : Nat) (ps : Option Pos) (n n1 n2 : SnapO) : Bool :=
  match ps with
  | some ((_, .inRegion ops (i :: _) :: _) :: _) => match loadO n fun s => match s with
      | ⟨⟨(fr, q) :: frs, mem⟩, os⟩ => match ops[i]? with
        | some o => match twoE ro ops o fr q mem os with
          | some ((⟨fr1, q1, m1⟩, os1), (⟨fr2, q2, m2⟩, os2)) => match coversO ⟨⟨(fr1, q1) :: frs, m1⟩, os1⟩ n1 && coversO ⟨⟨(fr2, q2) :: frs, m2⟩, os2⟩ n2 with
            | true => some ()
            | false => none
          | none => none
        | none => none
      | _ => none with
    | some _ => true
    | none => false
  | _ => false
theorem forkO_ok {P : Program} [ExtOk P] {W : World} {Q : Exit → Act → World → Prop} {ps : Option Pos} {n n1 n2 : SnapO} (h : forkO ro ps n n1 n2 = true) (g1 : SafeNO ro M0 P W Q (thenNavsO P [.mop] ps) n1) (g2 : SafeNO ro M0 P W Q (thenNavsO P [.mop] ps) n2) : SafeNO ro M0 P W Q ps n := by
  intro ps0 hps s hc
  subst hps
  unfold forkO at h
  split at h
  rotate_left
  · cases h
  rename_i f ops i l k0 rest hps
  obtain rfl := Option.some.inj hps
  split at h
  rotate_left
  · cases h
  rename_i u hu
  unfold loadO at hu
  obtain ⟨s0, h1, hl⟩ := loadM_spec hu
  dsimp only at h1
  split at h1
  rotate_left
  · cases h1
  rename_i fr q frs mem osX hse
  split at h1
  rotate_left
  · cases h1
  rename_i o ho
  split at h1
  rotate_left
  · cases h1
  rename_i fr1 q1 m1 os1 fr2 q2 m2 os2 htwo
  split at h1
  rotate_left
  · cases h1
  rename_i hcc
  rw [Bool.and_eq_true] at hcc
  refine SafeO.weak hc hl ?_
  obtain rfl : s0 = ⟨(fr, q) :: frs, mem⟩ := by cases hse; rfl
  have hos : n.os = osX := congrArg SttO.os hse
  have hnav : thenNavsO P [.mop] (some ((f, .inRegion ops (i :: l) :: k0) :: rest)) = some ((f, .inRegion ops l :: k0) :: rest) := by simp [thenNavsO, navsO, navO, navM]
  have s1 := g1 _ hnav _ hcc.1
  have s2 := g2 _ hnav _ hcc.2
  unfold twoE at htwo
  split at htwo
  rotate_left
  · cases htwo
  rename_i hwe
  split at htwo
  rotate_left
  · cases htwo
  rename_i f1 f2 hnx
  split at htwo
  rotate_left
  · cases htwo
  rename_i t1 hp1
  split at htwo
  rotate_left
  · cases htwo
  rename_i t2 hp2
  simp only [Option.some.injEq, Prod.mk.injEq] at htwo
  obtain ⟨rfl, rfl⟩ := htwo
  rw [← hos] at hnx
  have key : ∀ (b : Frame) (k : List Item) (cs : List Frame) (μ : Map) (w : World) (a : Act), Top W μ mem w → ObjsR ro M0 n.os W μ mem w → FrR μ mem.next fr q a →
      (∃ μ' w' a', OGo ro M0 W μ mem w n.os μ' m1 w' os1 ∧ FrR μ' m1.next fr1 q1 a' ∧ Steps P (lone (b.at a (.inRegion ops (i :: l) :: k)) cs w) (lone (b.at a' (.inRegion ops l :: k)) cs w')) ∨
      (∃ μ' w' a', OGo ro M0 W μ mem w n.os μ' m2 w' os2 ∧ FrR μ' m2.next fr2 q2 a' ∧ Steps P (lone (b.at a (.inRegion ops (i :: l) :: k)) cs w) (lone (b.at a' (.inRegion ops l :: k)) cs w')) := by
    intro b k cs μ w a hT hi hF
    have hw := wanted_eq (ops := ops) hF o true hwe
    rcases nextTwo_ok (P := P) (o := o) hT hi hF hnx with hd | hd
    · obtain ⟨μ', w', a', h1, h2, h3⟩ := eff_ok hF ho hw hd hp1 l b k cs
      exact .inl ⟨μ', w', a', h1.go, h2, h3⟩
    · obtain ⟨μ', w', a', h1, h2, h3⟩ := eff_ok hF ho hw hd hp2 l b k cs
      exact .inr ⟨μ', w', a', h1.go, h2, h3⟩
  intro b k cs μ w F fs hT hi hFs
  rcases FramesR.inv hFs with ⟨a, rfl, rfl, hF, rfl, rfl⟩ | ⟨a, b', rfl, hF, h3, h4, t⟩
  · rcases key b (k0 ++ k) fs μ w a hT hi hF with ⟨μ', w', a', hok, hF', hs⟩ | ⟨μ', w', a', hok, hF', hs⟩
    · exact (s1 b k fs μ' w' _ _ hok.top hok.obj (.last hF')).of_steps hs
    · exact (s2 b k fs μ' w' _ _ hok.top hok.obj (.last hF')).of_steps hs
  · rcases key b' k0 fs μ w a hT hi hF with ⟨μ', w', a', hok, hF', hs⟩ | ⟨μ', w', a', hok, hF', hs⟩
    · exact (s1 b k cs μ' w' _ _ hok.top hok.obj (.more hF' h3 h4 (t.far hok.next hok.mu))).of_steps hs
    · exact (s2 b k cs μ' w' _ _ hok.top hok.obj (.more hF' h3 h4 (t.far hok.next hok.mu))).of_steps hs
end
end Go.Proofs.YtloolljoelngcaaGreat
