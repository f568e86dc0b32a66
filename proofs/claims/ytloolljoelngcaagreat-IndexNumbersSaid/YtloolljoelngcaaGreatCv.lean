/-
  A closed call in pieces, with maps: the directions, and the states that are written down. No program in sight.
-/
import Derived.Test.YtloolljoelngcaaGreatCs
import Derived.Test.YtloolljoelngcaaGreatCy
set_option linter.unusedVariables false
namespace Go.Proofs.YtloolljoelngcaaGreat
open Go.RowKit
noncomputable section
variable {ro : Nat} {M0 : Map}

/-! ### the sorted keys of a map with one entry -/
def SortKeys (P : Program) (g1 g2 : FuncId) : Prop := ∀ (w : World) (r : Nat) (key : List UInt8) (v : Value) (b clock : Nat), w.heap[r]? = some (.map #[{ key := .string ⟨⟨key⟩⟩, val := v, born := b }] clock) → b < clock → key.length ≤ 1000 →
  Calls P g1 #[.map (some r)] w fun e w1 => ∃ clo, e = .returned clo ∧ oneC clo = true ∧ Below w.heap.size w w1 ∧
    Calls P g2 #[clo] w1 fun e w3 => ∃ blk c, e = .returned (.slice (some ⟨blk, 0, none⟩) 1 c) ∧ 1 ≤ c ∧ w1.heap.size ≤ blk ∧ blk < w3.heap.size ∧ w3.cell? ⟨blk, 0, none⟩ = some (.string ⟨⟨key⟩⟩) ∧ Below w1.heap.size w1 w3
class KeysOk (P : Program) where
  g1 : FuncId
  g2 : FuncId
  ok : SortKeys P g1 g2
def lenLe : Nat → List UInt8 → Bool
  | _, [] => true
  | 0, _ :: _ => false
  | n + 1, _ :: l => lenLe n l
theorem lenLe_ok : ∀ {n : Nat} {l : List UInt8}, lenLe n l = true → l.length ≤ n
  | _, [], _ => Nat.zero_le _
  | 0, _ :: _, h => by cases h
  | n + 1, _ :: l, h => Nat.succ_le_succ (lenLe_ok (l := l) h)
def srtE (P : Program) (ops : Array Oper) (g1 g2 : FuncId) (o1 o2 : Oper) (fr : Tr Value) (n : Nat) (m : Mem) (os : Objs) : Option Stt := match wantedE ops o1 fr with
  | some true => match stepOp P fr m o1 with
    | some (.call f1 [.chan (some t)] _) => match Nat.beq f1 g1 with
      | true => match getO t os with
        | some (.map [e] clock) => match Nat.blt e.born clock && lenLe 1000 e.key with
          | true => match m with
            | ⟨h, nx, low⟩ => fNat (nx + 1) fun n1 => match Stt.put ⟨fr, n, ⟨h, n1, low⟩⟩ o1.dst (.chan (some nx)) ⟨h, n1, low⟩ some with
              | some ⟨fr1, _, _⟩ => match wantedE ops o2 fr1 with
                | some true => match stepOp P fr1 ⟨h, n1, low⟩ o2 with
                  | some (.call f2 [.chan (some t2)] _) => match Nat.beq f2 g2 && Nat.beq t2 nx with
                    | true => h.upd deep n1 (some ⟨1, false, [.string ⟨⟨e.key⟩⟩]⟩) fun h2 => fNat (n1 + 1) fun n2 => Stt.put ⟨fr1, n, ⟨h2, n2, low⟩⟩ o2.dst (.slice (some ⟨n1, 0, none⟩) 1 anyCap) ⟨h2, n2, low⟩ some
                    | false => none
                  | _ => none
                | _ => none
              | none => none
          | false => none
        | _ => none
      | false => none
    | _ => none
  | _ => none
structure SttO where
  s : SttM
  os : Objs
inductive DirO where
  | base (d : DirM)
  | mop
  | drw (M : Bool) (l : List Stp)
  | srt
  | pop
def navO (P : Program) (d : DirO) (ps : Pos) : Option Pos := match d with
  | .base d => navM P d ps
  | .mop => navM P (.ops 1) ps
  | .drw _ _ => match ps with
    | (f, .code (.region _ _ true) :: k) :: rest => some ((f, k) :: rest)
    | _ => none
  | .srt => navM P (.ops 2) ps
  | .pop => match ps with
    | (f, .code (.region _ _ true) :: k) :: rest => some ((f, k) :: rest)
    | _ => none
def stepO (P : Program) [KeysOk P] (ro : Nat) (E : Env) (fuel : Nat) (d : DirO) (ps : Pos) (s : SttO) : Option SttO := match d with
  | .base d => match stepM P fuel d ps s.s with
    | some s' => some ⟨s', s.os⟩
    | none => none
  | .mop => match ps, s with
    | (f, .inRegion ops (i :: l) :: k) :: rest, ⟨⟨(fr, n) :: frs, mem⟩, os⟩ => match ops[i]? with
      | some o => match mopE P ro ops o fr n mem os with
        | some (⟨fr', n', mem'⟩, os') => some ⟨⟨(fr', n') :: frs, mem'⟩, os'⟩
        | none => none
      | none => none
    | _, _ => none
  | .drw M l => match ps, s with
    | (f, .code (.region _ ops true) :: k) :: rest, ⟨⟨(fr, n) :: frs, mem⟩, os⟩ => match drwE P ro E (ev P fuel) ops M l fr n mem os with
      | some (⟨fr', n', mem'⟩, os') => some ⟨⟨(fr', n') :: frs, mem'⟩, os'⟩
      | none => none
    | _, _ => none
  | .srt => match ps, s with
    | (f, .inRegion ops (i :: j :: l) :: k) :: rest, ⟨⟨(fr, n) :: frs, mem⟩, os⟩ => match ops[i]?, ops[j]? with
      | some o1, some o2 => match srtE P ops (KeysOk.g1 P) (KeysOk.g2 P) o1 o2 fr n mem os with
        | some ⟨fr', n', mem'⟩ => some ⟨⟨(fr', n') :: frs, mem'⟩, os⟩
        | none => none
      | _, _ => none
    | _, _ => none
  | .pop => match ps, s with
    | (f, .code (.region _ ops true) :: k) :: rest, ⟨⟨(fr, n) :: frs, mem⟩, os⟩ => match popE P ro (ev P fuel) ops fr n mem os with
      | some (⟨fr', n', mem'⟩, os') => some ⟨⟨(fr', n') :: frs, mem'⟩, os'⟩
      | none => none
    | _, _ => none
def SafeO (ro : Nat) (M0 : Map) (P : Program) (W : World) (Q : Exit → Act → World → Prop) (ps : Pos) (s : SttO) : Prop := SafeI P W Q (ObjsR ro M0 s.os W) ps s.s
theorem VRs.one_inv {μ : Map} {nx : Nat} {v : Value} {l : List Value} (h : VRs μ nx [v] l) : ∃ v', l = [v'] ∧ VR μ nx v v' := by
  cases h with
  | cons h1 h2 => cases h2; exact ⟨_, rfl, h1⟩
theorem srtE_ok {P : Program} [ExtOk P] {W : World} {μ : Map} {m : Mem} {w : World} {os : Objs} {ops : Array Oper} {i j : Nat} {o1 o2 : Oper} {a : Act} {fr : Tr Value} {n : Nat} {g1 g2 : FuncId} {s' : Stt} (hK : SortKeys P g1 g2) (hT : Top W μ m w) (hi : ObjsR ro M0 os W μ m w) (hF : FrR μ m.next fr n a)
    (ho1 : ops[i]? = some o1) (ho2 : ops[j]? = some o2) (h : srtE P ops g1 g2 o1 o2 fr n m os = some s') (l : List Nat) (b : Frame) (k : List Item) (cs : List Frame) :
    ∃ μ' w' a', OGo ro M0 W μ m w os μ' s'.mem w' os ∧ FrR μ' s'.mem.next s'.fr s'.size a' ∧ Steps P (lone (b.at a (.inRegion ops (i :: j :: l) :: k)) cs w) (lone (b.at a' (.inRegion ops l :: k)) cs w') := by
  unfold srtE at h
  split at h
  rotate_left
  · cases h
  rename_i hwe1
  have hw1 := wanted_eq (ops := ops) hF o1 true hwe1
  split at h
  rotate_left
  · cases h
  rename_i f1 t m9 hs1
  split at h
  rotate_left
  · cases h
  rename_i hf1
  obtain rfl : f1 = g1 := Nat.eq_of_beq_eq_true hf1
  split at h
  rotate_left
  · cases h
  rename_i e clock hg
  split at h
  rotate_left
  · cases h
  rename_i hbl
  rw [Bool.and_eq_true, Nat.blt_eq] at hbl
  split at h
  rename_i hp nx low
  rw [fNat_eq] at h
  split at h
  rotate_left
  · cases h
  rename_i fr1 _ _ hput1
  split at h
  rotate_left
  · cases h
  rename_i hwe2
  split at h
  rotate_left
  · cases h
  rename_i f2 t2 m8 hs2
  split at h
  rotate_left
  · cases h
  rename_i hf2
  rw [Bool.and_eq_true] at hf2
  obtain rfl : f2 = g2 := Nat.eq_of_beq_eq_true hf2.1
  obtain rfl : t2 = nx := Nat.eq_of_beq_eq_true hf2.2
  obtain ⟨h2, h3, hget⟩ := Tr.upd_spec _ _ _ _ _ _ h
  rw [fNat_eq] at h3
  clear h
  -- the map
  have hin := getO_mem hg
  obtain ⟨hsym, es', hb, hes⟩ := hi.rel _ _ hin
  obtain ⟨e', he', q1, q2, q3⟩ : ∃ e', es' = #[e'] ∧ e'.key = .string ⟨⟨e.key⟩⟩ ∧ VR μ t2 e.val e'.val ∧ e'.born = e.born := by
    obtain ⟨les⟩ := es'
    cases les with
    | nil => exact hes.elim
    | cons y l => cases l with
      | nil => exact ⟨y, rfl, hes.1⟩
      | cons z l => exact hes.2.elim
  subst he'
  obtain ⟨args1, hrun1, hv1, _⟩ : ∃ args', (execOp a.eval o1).run P w = .ok (.enter f1 ⟨args'⟩) w ∧ VRs μ t2 [.chan (some t)] args' ∧ m9 = ⟨hp, t2, low⟩ := step_ok (P := P) (w := w) (a := a) (n := n) hT.rep hF hs1
  obtain ⟨u1, rfl, hu1⟩ := hv1.one_inv
  obtain rfl := hu1.tok_inv
  rw [hsym] at hrun1
  have hcall := hK w (μ t).blk e.key e'.val e'.born clock (by rw [hb]; obtain ⟨ek, ev, eb⟩ := e'; simp only at q1; rw [q1]) (by rw [q3]; exact hbl.1) (lenLe_ok hbl.2)
  have hwp : wpOps P ops (fun x a' w' => x = .normal ∧ ∃ μ', OGo ro M0 W μ ⟨hp, t2, low⟩ w os μ' s'.mem w' os ∧ FrR μ' s'.mem.next s'.fr s'.size a') [i, j] a w := by
    simp only [wpOps, ho1, hw1, if_true]
    refine .inl ?_
    unfold Oper.wp
    rw [hrun1]
    refine hcall.mono ?_
    rintro x w1 ⟨clo, rfl, hone, hB1, hcall2⟩
    let μ1 : Map := fun b => if b = t2 then ⟨0, 0, 0, 0, clo⟩ else μ b
    have hmu1 : ∀ b, b < t2 → μ1 b = μ b := fun b hb => if_neg (by omega)
    have hsym1 : (μ1 t2).sym = clo := by show (if t2 = t2 then _ else _ : Loc).sym = _; rw [if_pos rfl]
    have hst1 : Wst w w1 := ⟨hB1.os, hB1.tape, hB1.output, hB1.size, fun k c t f hk => by rw [hB1.block k (Array.getElem?_eq_some_iff.1 hk).1]; exact hk⟩
    have hW := hT.below.size
    have hT1 : Top W μ1 ⟨hp, t2 + 1, low⟩ w1 := hT.wst hst1 (fun j hj => hB1.block j (by omega)) rfl (Nat.le_succ _) hmu1
    have hO1 : ObjsR ro M0 os W μ1 ⟨hp, t2 + 1, low⟩ w1 := ⟨fun i o h => Nat.lt_succ_of_lt (hi.lt i o h), fun i o h => (hi.rel i o h).mono (Nat.le_succ _) hmu1 (hi.lt i o h) (hB1.block _ (hi.rel i o h).inb), fun i o h hr => by rw [hmu1 i (hi.lt i o h)]; exact hi.new i o h hr, fun i o j p h h' hne => by rw [hmu1 i (hi.lt i o h), hmu1 j (hi.lt j p h')]; exact hi.two i o j p h h' hne, hi.farS (Nat.le_succ _) hmu1⟩
    have htok : VR μ1 (t2 + 1) (.chan (some t2)) clo := by
      have := VR.tok (μ := μ1) (nx := t2 + 1) (i := t2) (Nat.lt_succ_self _) (by rw [hsym1]; exact hone)
      rwa [hsym1] at this
    obtain ⟨fr2, e2, hF1⟩ := put_ok hput1 (hF.far (μ' := μ1) (Nat.le_succ _) hmu1) htok
    simp only [Option.some.injEq, Stt.mk.injEq] at e2
    obtain ⟨rfl, _, _⟩ := e2
    have hw2 := wanted_eq (ops := ops) hF1 o2 true hwe2
    obtain ⟨args2, hrun2, hv2, _⟩ : ∃ args', (execOp (a.put o1.dst clo).eval o2).run P w1 = .ok (.enter f2 ⟨args'⟩) w1 ∧ VRs μ1 (t2 + 1) [.chan (some t2)] args' ∧ m8 = ⟨hp, t2 + 1, low⟩ := step_ok (P := P) (w := w1) (n := n) hT1.rep hF1 hs2
    obtain ⟨u2, rfl, hu2⟩ := hv2.one_inv
    obtain rfl := hu2.tok_inv
    rw [hsym1] at hrun2
    simp only [ho2, hw2, if_true]
    refine .inl ?_
    rw [hrun2]
    refine hcall2.mono ?_
    rintro x w3 ⟨blk, c, rfl, hc1, hge, hlt, hcell, hB2⟩
    let μ2 : Map := fun b => if b = t2 + 1 then ⟨blk, 0, c, 1, undef⟩ else μ1 b
    have hmu2 : ∀ b, b < t2 + 1 → μ2 b = μ1 b := fun b hb => if_neg (by omega)
    have hat2 : μ2 (t2 + 1) = ⟨blk, 0, c, 1, undef⟩ := if_pos rfl
    have hst2 : Wst w1 w3 := ⟨hB2.os, hB2.tape, hB2.output, hB2.size, fun k c t f hk => by rw [hB2.block k (Array.getElem?_eq_some_iff.1 hk).1]; exact hk⟩
    have hR2 : Rep μ2 ⟨hp, t2 + 1 + 1, low⟩ w3 := hT1.rep.wst hst2 rfl (Nat.le_succ _) hmu2
    have old : ∀ b x, h2.get b = some x → (b = t2 + 1 ∧ x = ⟨1, false, [.string ⟨⟨e.key⟩⟩]⟩) ∨ (b < t2 + 1 ∧ hp.get b = some x) := fun b x hx => by
      rw [hget] at hx
      split at hx
      · rename_i hbe
        exact .inl ⟨hbe, (Option.some.inj hx).symm⟩
      · exact .inr ⟨hT1.rep.lt b x hx, hx⟩
    have hR3 : Rep μ2 ⟨h2, t2 + 1 + 1, low⟩ w3 := by
      refine ⟨fun b x hx => ?_, fun b x hx i v hv => ?_, fun b x hx ho => ?_, fun b x hx => ?_, fun b x hx => ?_, fun b x hx ho => ?_, fun b x b' x' hx hx' ho hne => ?_⟩ <;> rcases old b x hx with ⟨rfl, rfl⟩ | ⟨hlt1, hx1⟩
      · exact Nat.lt_succ_self _
      · exact Nat.lt_succ_of_lt hlt1
      · cases i with
        | zero =>
          obtain rfl := Option.some.inj hv
          exact ⟨_, by rw [hat2]; exact hcell, .flat rfl⟩
        | succ i => simp at hv
      · exact hR2.cells b x hx1 i v hv
      · cases ho
      · exact hR2.fits b x hx1 ho
      · rw [hat2]; exact hlt
      · exact hR2.inb b x hx1
      · rw [hat2]
      · exact hR2.es b x hx1
      · cases ho
      · exact hR2.there b x hx1 ho
      · cases ho
      · rcases old b' x' hx' with ⟨rfl, rfl⟩ | ⟨_, hx1'⟩
        · rw [hat2, hmu2 b hlt1]
          have := hT1.rep.inb b x hx1
          show (μ1 b).blk ≠ blk
          omega
        · exact hR2.apart b x b' x' hx1 hx1' ho hne
    have hT3 : Top W μ2 ⟨h2, t2 + 1 + 1, low⟩ w3 := ⟨hR3, hT1.below.trans ⟨hB2.os, hB2.tape, hB2.output, hB2.size, fun j hj => hB2.block j (by have := hB1.size; omega)⟩, fun b x hx ho => by
      rcases old b x hx with ⟨rfl, rfl⟩ | ⟨hlt1, hx1⟩
      · cases ho
      · rw [hmu2 b hlt1]; exact hT1.own b x hx1 ho⟩
    have hO3 : ObjsR ro M0 os W μ2 ⟨h2, t2 + 1 + 1, low⟩ w3 := ⟨fun i o h => Nat.lt_succ_of_lt (hO1.lt i o h), fun i o h => (hO1.rel i o h).mono (Nat.le_succ _) hmu2 (hO1.lt i o h) (hB2.block _ (hO1.rel i o h).inb), fun i o h hr => by rw [hmu2 i (hO1.lt i o h)]; exact hO1.new i o h hr, fun i o j p h h' hne => by rw [hmu2 i (hO1.lt i o h), hmu2 j (hO1.lt j p h')]; exact hO1.two i o j p h h' hne, hO1.farS (Nat.le_succ _) hmu2⟩
    have hval : VR μ2 (t2 + 1 + 1) (.slice (some ⟨t2 + 1, 0, none⟩) 1 anyCap) (.slice (some ⟨blk, 0, none⟩) 1 c) := by
      have := VR.sliceAny (μ := μ2) (nx := t2 + 1 + 1) (b := t2 + 1) (o := 0) (n := 1) (c := c) (Nat.lt_succ_self _) hc1 (by rw [hat2]; simp)
      rw [hat2] at this
      exact this
    obtain ⟨fr3, e3, hF3⟩ := put_ok h3 (hF1.far (μ' := μ2) (Nat.le_succ _) hmu2) hval
    have e3 := Option.some.inj e3
    subst e3
    exact ⟨by trivial, μ2, ⟨hT3, hO3, by show t2 ≤ t2 + 1 + 1; omega, fun b hb => by rw [hmu2 b (Nat.lt_succ_of_lt hb)]; exact hmu1 b hb⟩, hF3⟩
  obtain ⟨a1, w9, ⟨_, μ', h7, h8⟩, hs⟩ := wp_part (fun e a w hp => hp.1) l [i, j] a w hwp b k cs
  exact ⟨μ', w9, a1, h7, h8, hs⟩
theorem stepO_ok {P : Program} [ExtOk P] [KeysOk P] {E : Env} (hK : EnvOk P E) (hm : P.follows .mixedOrders = true) {fuel : Nat} {W : World} {Q : Exit → Act → World → Prop} {d : DirO} {ps ps' : Pos} {s s' : SttO} (h : stepO P ro E fuel d ps s = some s') (hn : navO P d ps = some ps') (g : SafeO ro M0 P W Q ps' s') : SafeO ro M0 P W Q ps s := by
  cases d with
  | base d =>
    simp only [stepO] at h
    split at h
    rotate_left
    · cases h
    rename_i s1 hs
    obtain rfl := Option.some.inj h
    exact stepI_ok hm (ObjsR.kept ro M0 s.os W) hs hn g
  | mop =>
    simp only [stepO] at h
    split at h
    rotate_left
    · cases h
    rename_i f ops i l k0 rest fr n frs mem os
    split at h
    rotate_left
    · cases h
    rename_i o ho
    split at h
    rotate_left
    · cases h
    rename_i fr' n' mem' os' he
    obtain rfl := Option.some.inj h
    simp only [navO, navM, List.drop_one, List.tail_cons, Option.some.injEq] at hn
    subst hn
    exact topO_ok (fun b k cs μ w a hT hi hF => by
      obtain ⟨μ', w', a', h1, h2, h3⟩ := mopE_ok hT hi hF ho he l b (k0 ++ k) cs
      exact ⟨μ', w', a', h1.go, h2, h3⟩) g
  | drw M l =>
    simp only [stepO] at h
    split at h
    rotate_left
    · cases h
    rename_i f id ops k0 rest fr n frs mem os
    split at h
    rotate_left
    · cases h
    rename_i fr' n' mem' os' he
    obtain rfl := Option.some.inj h
    simp only [navO, Option.some.injEq] at hn
    subst hn
    refine topO_ok (fun b k cs μ w a hT hi hF => ?_) g
    obtain ⟨e, a1, w1, ⟨rfl, μ1, hgo, hF1⟩, harr⟩ := drwE_ok hK hm (ev_ok hm fuel) (id := id) he hT hi hF b (k0 ++ k) cs
    exact ⟨μ1, w1, a1, hgo, hF1, harr⟩
  | srt =>
    simp only [stepO] at h
    split at h
    rotate_left
    · cases h
    rename_i f ops i j l k0 rest fr n frs mem os
    split at h
    rotate_left
    · cases h
    rename_i o1 o2 ho1 ho2
    split at h
    rotate_left
    · cases h
    rename_i fr' n' mem' he
    obtain rfl := Option.some.inj h
    simp only [navO, navM, List.drop_succ_cons, List.drop_zero, Option.some.injEq] at hn
    subst hn
    exact topO_ok (fun b k cs μ w a hT hi hF => srtE_ok KeysOk.ok hT hi hF ho1 ho2 he l b (k0 ++ k) cs) g
  | pop =>
    simp only [stepO] at h
    split at h
    rotate_left
    · cases h
    rename_i f id ops k0 rest fr n frs mem os
    split at h
    rotate_left
    · cases h
    rename_i fr' n' mem' os' he
    obtain rfl := Option.some.inj h
    simp only [navO, Option.some.injEq] at hn
    subst hn
    refine topO_ok (fun b k cs μ w a hT hi hF => ?_) g
    obtain ⟨e, a1, w1, ⟨rfl, μ1, hgo, hF1⟩, harr⟩ := popE_ok hm (ev_ok hm fuel) (id := id) he hT hi hF b (k0 ++ k) cs
    exact ⟨μ1, w1, a1, hgo, hF1, harr⟩

/-! ### states that are written down, with maps -/
structure SnapO where
  n : SnapM
  os : Objs
def loadO {β : Type} (n : SnapO) (k : SttO → Option β) : Option β := loadM n.n fun s => k ⟨s, n.os⟩
def coversO (s : SttO) (n : SnapO) : Bool := coversM s.s n.n && objsIn s.os n.os
theorem ObjsR.weak {os os' : Objs} {W : World} {μ : Map} {m m' : Mem} {w : World} (hn : m.next ≤ m'.next) (hs : ∀ i o, (i, o) ∈ os' → (i, o) ∈ os) (h : ObjsR ro M0 os W μ m w) : ObjsR ro M0 os' W μ m' w :=
  ⟨fun i o hi => Nat.lt_of_lt_of_le (h.lt i o (hs i o hi)) hn, fun i o hi => (h.rel i o (hs i o hi)).mono hn (fun _ _ => rfl) (h.lt i o (hs i o hi)) rfl, fun i o hi => h.new i o (hs i o hi), fun i o j p hi hj => h.two i o j p (hs i o hi) (hs j p hj), h.farS hn fun _ _ => rfl⟩
theorem SafeO.weak {P : Program} {W : World} {Q : Exit → Act → World → Prop} {ps : Pos} {s : SttO} {s0 : SttM} {n : SnapO} (hc : coversO s n = true) (hl : LoadsM n.n s0) (g : SafeO ro M0 P W Q ps ⟨s0, n.os⟩) : SafeO ro M0 P W Q ps s := by
  obtain ⟨⟨frs, heap, next, low⟩, os⟩ := s
  obtain ⟨⟨frames, blocks, next'⟩, os'⟩ := n
  simp only [coversO, coversM, Bool.and_eq_true, Nat.ble_eq] at hc
  obtain ⟨⟨⟨c1, c3⟩, c4⟩, c5⟩ := hc
  obtain ⟨l1, l3, l4⟩ := hl
  simp only at l1 l3 l4
  have hb : ∀ b x, s0.mem.heap.get b = some x → heap.get b = some x := fun b x hx => blocksIn_get c3 b x (l3 b x hx)
  have hnx : next ≤ s0.mem.next := by omega
  intro b k cs μ w F fs hT hi hFs
  obtain ⟨hR, hB, hO⟩ := hT
  simp only at hR hO hFs hi
  refine g b k cs μ w F fs ⟨⟨fun b x hx => Nat.lt_of_lt_of_le (hR.lt b x (hb b x hx)) hnx, fun b x hx i v hv => ?_, fun b x hx => hR.fits b x (hb b x hx), fun b x hx => hR.inb b x (hb b x hx), fun b x hx => hR.es b x (hb b x hx), fun b x hx => hR.there b x (hb b x hx), fun b x b' x' hx hx' => hR.apart b x b' x' (hb b x hx) (hb b' x' hx')⟩, hB, fun b x hx => hO b x (hb b x hx)⟩
    (hi.weak hnx (objsIn_mem c5)) (frames_weak hnx c1 l1 hFs)
  obtain ⟨v', e, hv'⟩ := hR.cells b x (hb b x hx) i v hv
  exact ⟨v', e, hv'.mono hnx fun _ _ => rfl⟩
def navsO (P : Program) : List DirO → Pos → Option Pos
  | [], k => some k
  | d :: l, k => match navO P d k with
    | some k => navsO P l k
    | none => none
def stepsO (P : Program) [KeysOk P] (ro : Nat) (E : Env) (fuel : Nat) : List DirO → Pos → SttO → Option SttO
  | [], _, s => some s
  | d :: l, k, s => match stepO P ro E fuel d k s with
    | some s => match navO P d k with
      | some k => stepsO P ro E fuel l k s
      | none => none
    | none => none
theorem stepsO_ok {P : Program} [ExtOk P] [KeysOk P] {E : Env} (hK : EnvOk P E) (hm : P.follows .mixedOrders = true) {fuel : Nat} {W : World} {Q : Exit → Act → World → Prop} : ∀ {ds : List DirO} {ps ps' : Pos} {s s' : SttO}, stepsO P ro E fuel ds ps s = some s' → navsO P ds ps = some ps' → SafeO ro M0 P W Q ps' s' → SafeO ro M0 P W Q ps s
  | [], ps, ps', s, s', h, hn, g => by
    simp only [stepsO, Option.some.injEq] at h
    simp only [navsO, Option.some.injEq] at hn
    subst h hn
    exact g
  | d :: ds, ps, ps', s, s', h, hn, g => by
    rw [stepsO] at h
    rw [navsO] at hn
    cases h1 : stepO P ro E fuel d ps s with
    | none => rw [h1] at h; simp at h
    | some s1 =>
      cases h2 : navO P d ps with
      | none => rw [h2] at hn; simp at hn
      | some k1 =>
        rw [h1, h2] at h
        rw [h2] at hn
        exact stepO_ok hK hm h1 h2 (stepsO_ok hK hm h hn g)
def chunkO (P : Program) [KeysOk P] (ro : Nat) (E : Env) (fuel : Nat) (ds : List DirO) (ps : Option Pos) (n n' : SnapO) : Bool :=
  match ps with
  | none => false
  | some k => match loadO n fun s => match stepsO P ro E fuel ds k s with
      | some s' => match navsO P ds k with
        | some _ => match coversO s' n' with
          | true => some ()
          | false => none
        | none => none
      | none => none with
    | some _ => true
    | none => false
def thenNavsO (P : Program) (ds : List DirO) (ps : Option Pos) : Option Pos := match ps with
  | none => none
  | some k => navsO P ds k
def SafeNO (ro : Nat) (M0 : Map) (P : Program) (W : World) (Q : Exit → Act → World → Prop) (ps : Option Pos) (n : SnapO) : Prop :=
  ∀ ps', ps = some ps' → ∀ s, coversO s n = true → SafeO ro M0 P W Q ps' s
theorem chunkO_ok {P : Program} [ExtOk P] [KeysOk P] {E : Env} (hK : EnvOk P E) (hm : P.follows .mixedOrders = true) {fuel : Nat} {W : World} {Q : Exit → Act → World → Prop} {ds : List DirO} {ps : Option Pos} {n n' : SnapO} (h : chunkO P ro E fuel ds ps n n' = true)
    (g : SafeNO ro M0 P W Q (thenNavsO P ds ps) n') : SafeNO ro M0 P W Q ps n := by
  intro k hk s hc
  subst hk
  unfold chunkO at h
  simp only at h
  split at h
  rotate_left
  · simp at h
  rename_i u hu
  unfold loadO at hu
  obtain ⟨s0, h1, hl⟩ := loadM_spec hu
  dsimp only at h1
  split at h1
  rotate_left
  · simp at h1
  rename_i s' hs
  split at h1
  rotate_left
  · simp at h1
  rename_i k' hn
  split at h1
  rotate_left
  · simp at h1
  rename_i hc'
  exact SafeO.weak hc hl (stepsO_ok hK hm hs hn (g k' hn s' hc'))
/-- from a state without maps, and back -/
theorem SafeN.ofO {P : Program} {W : World} {Q : Exit → Act → World → Prop} {ps : Option Pos} {n : SnapM} (g : SafeNO 0 M0 P W Q ps ⟨n, []⟩) : SafeN P W Q ps n := by
  intro ps' hp s hc b k cs μ w F fs hT hFs
  exact g ps' hp ⟨s, []⟩ (by simp [coversO, hc, objsIn]) b k cs μ w F fs hT ⟨fun _ _ h => (List.not_mem_nil h).elim, fun _ _ h => (List.not_mem_nil h).elim, fun _ _ h => (List.not_mem_nil h).elim, fun _ _ _ _ h => (List.not_mem_nil h).elim, Nat.zero_le _, fun b hb => absurd hb (Nat.not_lt_zero b)⟩ hFs
theorem SafeNO.ofN {P : Program} {W : World} {Q : Exit → Act → World → Prop} {ps : Option Pos} {n : SnapM} {os : Objs} (g : SafeN P W Q ps n) : SafeNO ro M0 P W Q ps ⟨n, os⟩ := by
  intro ps' hp s hc b k cs μ w F fs hT hi hFs
  simp only [coversO, Bool.and_eq_true] at hc
  exact g ps' hp s.s hc.1 b k cs μ w F fs hT hFs
end
end Go.Proofs.YtloolljoelngcaaGreat
