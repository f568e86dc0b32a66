/-
  The evaluator is right: what it computes, the model computes, on every tape.
-/
import Derived.Test.YtabhkfpglhfiiaaDoorEvO
set_option linter.unusedVariables false
namespace Go.Proofs.YtabhkfpglhfiiaaDoor
open Go.RowKit

theorem SI.finishF {P : Program} {rec : Req → Stt → Option (Out × Stt)} {ops : Array Oper} {MS : List Nat} {st : Nat → DSt} {c : Nat} {X T : Nat → Prop} {μc μ : Map} {wc w : World} {a : Act}
    (hB : Begin ops MS st c X μc wc) (h : SI P rec ops MS st c X T μc wc μ w a) {i : Nat} (hci : c ≤ i) (hall : ∀ j, c ≤ j → j < i → T j) (hno : ∀ j, T j → j < i) : FrR μ (nx st i) (st i).s.fr (st i).s.size a := by
  have hst : ∀ k, c ≤ k → k < i → StayR P rec ops MS k (st k) (st (k + 1)) := fun k h1 h2 => h.stay k (hall k h1 h2) k h1 (Nat.le_refl _)
  have seg := Seg.upto hB.ok hB.ds i hci hst
  refine ⟨h.defers, h.sz.trans seg.size.symm, fun t => ?_, fun g hg => ?_, Nat.le_trans hB.big seg.next⟩
  · rcases seg.fr t with ⟨j, o, h1, h2, h3, h4, h5⟩ | ⟨h1, h2⟩
    · rw [h5]
      exact (h.slotT j o t (hall j h1 h2) h3 h4).mono (next_mono i (j + 1) (by omega) h2 hst) fun _ _ => rfl
    · rw [h2]
      exact (h.slotB t fun j o hj ho => h1 j o (h.ge j hj) (hno j hj) ho).mono seg.next fun _ _ => rfl
  · rw [h.below (Nat.lt_of_lt_of_le hg hB.big)]
    exact hB.glob g hg

theorem soft_ok {P : Program} {rec : Req → Stt → Option (Out × Stt)} (hm : P.follows .mixedOrders = true) (hS : Snd P rec) (id : Nat) (ops : Array Oper) (s : Stt) (out : Out) (s' : Stt) (hd : drawOk ops = true) (l : List Nat)
    (h : (hideAll l s.mem.heap [] fun h hb => evSoft P rec ops hb ops.toList (pres ops.toList []) 0 s.mem.next [] [] ⟨s.fr, s.size, ⟨h, s.mem.next, s.mem.low⟩⟩) = some (out, s')) :
    ∀ μ0 m0 w0 μ w a, Ok μ0 m0 w0 μ s.mem w → FrR μ s.mem.next s.fr s.size a → (Code.region id ops true).wp P (Post μ0 m0 w0 out s') a w := by
  intro μ0 m0 w0 μ w a hok hF
  obtain ⟨hh, hb, h1, a1, a2, _, a4⟩ := hideAll_spec _ _ _ _ _ h
  replace a4 : ∀ b x, (b, x) ∈ hb → s.mem.heap.get b = some x ∧ x.own = true ∧ hh.get b = none := fun b x hx => by
    rcases a4 b x hx with h | h
    · simp at h
    · exact h
  obtain ⟨st, F, h0, hsteps, hgood, _, hFF, vis, hadds, hrest⟩ := traceS (MS := pres ops.toList []) ops.toList _ 0 s.mem.next [] [] _ h1 (fun j => by simp) (fun j => by simp) (fun e he => by simp at he) (fun e he => by simp at he)
  simp only [Array.length_toList, Nat.zero_add] at hsteps hFF hadds hrest
  replace hFF : ∀ e ∈ F, e.i < ops.size ∧ ∃ o m fr, SoftE P ops (pres ops.toList []) hb (st e.i) (st (e.i + 1)) o e m fr := fun e he => by
    rcases hFF e he with h | ⟨_, h2, h3⟩
    · simp at h
    · exact ⟨h2, h3⟩
  obtain ⟨h', low', heq, hlow, b1, b3, b4⟩ := restore_spec _ _ _ _ _ _ hrest
  simp only [Option.some.injEq, Prod.mk.injEq] at heq
  obtain ⟨rfl, rfl⟩ := heq
  refine wp_region_any hm ?_
  have hdr : Ok μ s.mem w μ s.mem { w with drawn := w.drawn + 1 } := Ok.drawn hok.rep rfl rfl rfl rfl
  have hok' := hok.trans hdr
  have hRm := hdr.rep
  generalize ({ w with drawn := w.drawn + 1 } : World) = wc at hok' hRm
  have hn0 : nx st 0 = s.mem.next := by unfold nx; rw [h0]
  have hB : Begin ops (pres ops.toList []) st 0 (fun k => ∃ b x, (b, x) ∈ hb ∧ (μ b).blk = k) μ wc := by
    refine ⟨hd, rfl, ?_, by rw [h0], by unfold nx; rw [h0], hF.glob, by rw [hn0]; exact hF.big, ?_⟩
    · rw [h0]
      exact ⟨fun b x hx => hRm.lt b x (a1 b x hx), fun b x hx => hRm.cells b x (a1 b x hx), fun b x hx => hRm.fits b x (a1 b x hx), fun b x hx => hRm.inb b x (a1 b x hx), fun b x hx => hRm.es b x (a1 b x hx), fun b x hx => hRm.there b x (a1 b x hx),
        fun b x b' x' hx hx' => hRm.apart b x b' x' (a1 b x hx) (a1 b' x' hx')⟩
    · rw [h0]
      rintro b x hx ⟨b', x', hx', e⟩
      obtain ⟨g1, g2, g3⟩ := a4 b' x' hx'
      have hne : b' ≠ b := fun e => by subst e; rw [show hh.get b' = some x from hx] at g3; cases g3
      exact hRm.apart b' x' b x g1 (a1 b x hx) g2 hne e
  have hhb : ∀ b x, (b, x) ∈ hb → (μ b).blk < wc.heap.size ∧ b < nx st 0 ∧ x.cells.length ≤ (μ b).room := fun b x hx => by
    obtain ⟨g1, g2, _⟩ := a4 b x hx
    exact ⟨hRm.inb b x g1, by rw [hn0]; exact hRm.lt b x g1, hRm.fits b x g1 g2⟩
  have hap : ∀ b x b' x', (b, x) ∈ hb → (b', x') ∈ hb → b ≠ b' → (μ b).blk ≠ (μ b').blk := fun b x b' x' hx hx' hne => hRm.apart b x b' x' (a4 b x hx).1 (a4 b' x' hx').1 (a4 b x hx).2.1 hne
  have hSI := SI.start (P := P) (rec := rec) hB (by rw [hn0, h0]; exact hF)
  have hHI : HI st hb F (fun _ => False) μ wc μ wc := ⟨fun b x hx => hRm.there b x (a4 b x hx).1 (a4 b x hx).2.1, fun _ _ _ _ _ _ _ => rfl, fun _ _ h => h.elim⟩
  have hTn : (fun _ : Nat => False) = fun j => 0 ≤ j ∧ (Array.replicate ops.size false).getD j false = true := by
    funext j
    apply propext
    constructor
    · intro h; exact h.elim
    · rintro ⟨_, h2⟩
      rw [Array.getD_eq_getD_getElem?, Array.getElem?_replicate] at h2
      split at h2 <;> simp at h2
  rw [hTn] at hSI hHI
  refine any_soft hS rfl hB hhb hap hgood hFF (fun k hk => hsteps k (Nat.zero_le _) hk) ?_ ops.size _ μ _ a (by simp) (fun j o hj => ?_) hSI hHI ?_
  rotate_left
  · rw [Array.getD_eq_getD_getElem?, Array.getElem?_replicate] at hj
    split at hj <;> simp at hj
  · unfold unl
    exact Nat.le_trans (List.length_filter_le _ _) (by simp)
  clear hSI hHI hTn
  intro T μ1 w1 a1' hall hlt hSI hHI
  have hst : ∀ k, 0 ≤ k → k < ops.size → StayR P rec ops (pres ops.toList []) k (st k) (st (k + 1)) := fun k _ h2 => hSI.stay k (hall k h2) k (Nat.zero_le _) (Nat.le_refl _)
  have seg := Seg.upto hB.ok hB.ds ops.size (Nat.zero_le _) hst
  have hrep := hSI.rep hB (Nat.zero_le _) hst hadds (fun j hj _ => hall j (by rw [Nat.testBit_two_pow_sub_one] at hj; simpa using hj)) low'
  have hheap : (st ops.size).s.mem.heap = hh := by rw [seg.heap, h0]
  have hmu : ∀ b, b < nx st 0 → μ1 b = μ b := fun b hb => hSI.below hb
  have made : ∀ e ∈ (st ops.size).ds, ∀ b x, (b, x) ∈ e.d → nx st 0 ≤ b ∧ x.own = true ∧ wc.heap.size ≤ (μ1 b).blk := fun e he b x hd => by
    obtain ⟨g1, g2, g3⟩ := seg.ds e he
    obtain ⟨k1, k2, _, k4, _⟩ := hSI.made e g3 (hall e.i g2) b x hd
    have := next_mono (P := P) (rec := rec) (ops := ops) (MS := pres ops.toList []) (st := st) (c := 0) e.i 0 (Nat.le_refl _) g1 fun k q1 q2 => hst k q1 (by omega)
    rw [g3.lo] at k2
    exact ⟨by omega, k1, k4⟩
  -- what is seen at the end, but for what was hidden
  have live : ∀ b y, vis.get b = some y → (s.mem.heap.get b = some y ∧ b < nx st 0) ∨ (nx st 0 ≤ b ∧ y.own = true ∧ wc.heap.size ≤ (μ1 b).blk) := fun b y hy => by
    rcases hadds.1 b y hy with hy | ⟨e, he, _, hd⟩
    · rw [hheap] at hy
      exact .inl ⟨a1 b y hy, by rw [hn0]; exact hRm.lt b y (a1 b y hy)⟩
    · exact .inr (made e he b y hd)
  have hok1 : Ok μ s.mem wc μ1 ⟨h', (st ops.size).s.mem.next, low'⟩ w1 := by
    have hsz := hSI.size
    have hnext : nx st 0 ≤ nx st ops.size := seg.next
    constructor
    case rep =>
      constructor
      case lt =>
        intro b y hy
        rcases b4 b y hy with ⟨hy, _⟩ | ⟨x, cs, hx, _, _⟩
        · exact hrep.lt b y hy
        · exact Nat.lt_of_lt_of_le (hhb b x hx).2.1 hnext
      case cells =>
        intro b y hy i v hi
        rcases b4 b y hy with ⟨hy, _⟩ | ⟨x, cs, hx, hcs, rfl⟩
        · exact hrep.cells b y hy i v hi
        · obtain ⟨g1, g2, _⟩ := a4 b x hx
          rw [hmu b (hhb b x hx).2.1]
          rcases (applyS_spec b F _ _ hcs).2 i v hi with ⟨e, he, rfl, k1, k2, k3⟩ | ⟨k1, k2⟩
          · obtain ⟨v', q1, q2⟩ := hHI.new e he (hall e.i (hFF e he).1) (i - e.o) v k3
            rw [show (μ e.b).base + e.o + (i - e.o) = (μ e.b).base + i from by omega] at q1
            exact ⟨v', q1, q2.mono (next_mono ops.size (e.i + 1) (Nat.zero_le _) (hFF e he).1 hst) fun _ _ => rfl⟩
          · obtain ⟨v', q1, q2⟩ := hRm.cells b x g1 i v k1
            refine ⟨v', ?_, q2.mono (by rw [← hn0]; exact hnext) fun b hb => hmu b (by rw [hn0]; exact hb)⟩
            rw [hHI.old b x hx i v k1 fun e he _ heb => k2 e he heb]
            exact q1
      case fits =>
        intro b y hy ho
        rcases b4 b y hy with ⟨hy, _⟩ | ⟨x, cs, hx, hcs, rfl⟩
        · exact hrep.fits b y hy ho
        · rw [hmu b (hhb b x hx).2.1]
          show cs.length ≤ _
          rw [(applyS_spec b F _ _ hcs).1]
          exact (hhb b x hx).2.2
      case inb =>
        intro b y hy
        rcases b4 b y hy with ⟨hy, _⟩ | ⟨x, cs, hx, _, _⟩
        · exact hrep.inb b y hy
        · rw [hmu b (hhb b x hx).2.1]
          exact Nat.lt_of_lt_of_le (hhb b x hx).1 hsz
      case es =>
        intro b y hy
        rcases b4 b y hy with ⟨hy, _⟩ | ⟨x, cs, hx, _, rfl⟩
        · exact hrep.es b y hy
        · rw [hmu b (hhb b x hx).2.1]
          exact hRm.es b x (a4 b x hx).1
      case there =>
        intro b y hy ho j hj
        rcases b4 b y hy with ⟨hy, _⟩ | ⟨x, cs, hx, _, rfl⟩
        · exact hrep.there b y hy ho j hj
        · rw [hmu b (hhb b x hx).2.1] at hj ⊢
          exact hHI.there b x hx j hj
      case apart =>
        intro b y b' y' hy hy' ho hne
        rcases b4 b y hy with ⟨hv, _⟩ | ⟨x, cs, hx, _, rfl⟩
        · rcases b4 b' y' hy' with ⟨hv', _⟩ | ⟨x', cs', hx', _, rfl⟩
          · exact hrep.apart b y b' y' hv hv' ho hne
          · rw [hmu b' (hhb b' x' hx').2.1]
            rcases live b y hv with ⟨g1, g2⟩ | ⟨_, _, g3⟩
            · rw [hmu b g2]
              exact hRm.apart b y b' x' g1 (a4 b' x' hx').1 ho hne
            · have := (hhb b' x' hx').1
              omega
        · rw [hmu b (hhb b x hx).2.1]
          rcases b4 b' y' hy' with ⟨hv', _⟩ | ⟨x', cs', hx', _, rfl⟩
          · rcases live b' y' hv' with ⟨g1, g2⟩ | ⟨_, _, g3⟩
            · rw [hmu b' g2]
              exact hRm.apart b x b' y' (a4 b x hx).1 g1 (a4 b x hx).2.1 hne
            · have := (hhb b x hx).1
              omega
          · rw [hmu b' (hhb b' x' hx').2.1]
            exact hap b x b' x' hx hx' hne
    case next => rw [← hn0]; exact hnext
    case mu => intro b hb; exact hmu b (by rw [hn0]; exact hb)
    case mu2 =>
      intro b hb
      refine hSI.out b fun j hj ⟨_, h2⟩ => ?_
      have := next_mono (P := P) (rec := rec) (ops := ops) (MS := pres ops.toList []) (st := st) (c := 0) ops.size (j + 1) (Nat.zero_le _) (hlt j hj) hst
      have hb' : nx st ops.size ≤ b := hb
      omega
    case low =>
      exact Nat.le_trans hlow (Nat.le_of_eq (seg.low.trans (by rw [h0])))
    case keep =>
      intro b hbl hn
      have hno : ∀ x, (b, x) ∉ hb := fun x hx => by have := b1 b x hx; have hb' : b < low' := hbl; omega
      show h'.get b = _
      rw [b3 b hno, hadds.2 b fun e he x hd => ?_, hheap]
      · cases hg : hh.get b with
        | some x => exact (a1 b x hg).symm
        | none =>
          cases hg2 : s.mem.heap.get b with
          | none => rfl
          | some x =>
            rcases a2 b x hg2 with h | h
            · rw [hg] at h; cases h
            · exact absurd h (hno x)
      · have := (made e he b x hd).1
        omega
    case old =>
      intro b y hy hn
      rcases b4 b y hy with ⟨hy, _⟩ | ⟨x, cs, hx, _, rfl⟩
      · rcases live b y hy with ⟨g1, _⟩ | ⟨g1, _⟩
        · exact ⟨y, g1, rfl⟩
        · omega
      · exact ⟨x, (a4 b x hx).1, (a4 b x hx).2.1⟩
    case new =>
      intro b y hy hn
      rcases b4 b y hy with ⟨hy, _⟩ | ⟨x, cs, hx, _, rfl⟩
      · rcases live b y hy with ⟨_, g1⟩ | ⟨_, g1, g2⟩
        · omega
        · exact ⟨g1, .inl g2⟩
      · have := (hhb b x hx).2.1
        omega
    case os => exact hSI.os
    case tape => exact hSI.tape
    case output => exact hSI.output
    case size => exact hsz
    case frame =>
      intro k hk hno
      refine hSI.same k hk ?_
      rintro ⟨b, x, hx, e⟩
      exact hno b x (a4 b x hx).1 (a4 b x hx).2.1 (b1 b x hx) e
  exact ⟨rfl, μ1, hok'.trans hok1, hSI.finishF hB (Nat.zero_le _) (fun j _ h2 => hall j h2) hlt⟩

theorem draw_ok {P : Program} {rec : Req → Stt → Option (Out × Stt)} (hm : P.follows .mixedOrders = true) (hS : Snd P rec) : DrawOk P rec := by
  intro id ops s out s' hd h
  unfold evReg at h
  split at h
  · exact hard_ok hm hS id ops s out s' hd h
  · exact soft_ok hm hS id ops s out s' hd _ h

theorem ev_ok {P : Program} (hm : P.follows .mixedOrders = true) : ∀ n, Snd P (ev P n)
  | 0 => fun r s out s' h => by simp [ev] at h
  | n + 1 => evB_ok (ev_ok hm n) (draw_ok hm (ev_ok hm n))

/-- the world's variables hold the tables -/
def TabsAt (w : World) (tabs : List (Nat × List Value)) : Prop := ∀ g cs, (g, cs) ∈ tabs → g < w.heap.size ∧ ∀ (i : Nat) v, cs[i]? = some v → w.cell? ⟨g, i, none⟩ = some v
theorem withTabs_spec {β : Type} : ∀ (l : List (Nat × List Value)) (h : Tr Blk) (k : Tr Blk → Option β) (r : β), withTabs l h k = some r →
    ∃ h', k h' = some r ∧ ∀ b x, h'.get b = some x → h.get b = some x ∨ (b < 1048576 ∧ x.own = false ∧ x.es = 0 ∧ (∀ v ∈ x.cells, flat1 v = true) ∧ (b, x.cells) ∈ l)
  | [], h, k, r, e => ⟨h, e, fun _ _ hx => .inl hx⟩
  | (g, cs) :: l, h, k, r, e => by
    rw [withTabs] at e
    cases hc : Nat.blt g 1048576 && flats cs with
    | false => rw [hc] at e; simp at e
    | true =>
      rw [hc] at e
      rw [Bool.and_eq_true, Nat.blt_eq] at hc
      simp only at e
      obtain ⟨h1, e1, g1⟩ := Tr.upd_spec _ _ _ _ _ _ e
      obtain ⟨h2, e2, g2⟩ := withTabs_spec l h1 k r e1
      refine ⟨h2, e2, fun b x hx => ?_⟩
      rcases g2 b x hx with hx | ⟨q1, q2, q3, q4, q5⟩
      · rw [g1] at hx
        split at hx
        · rename_i hb
          subst hb
          obtain rfl := Option.some.inj hx
          exact .inr ⟨hc.1, rfl, rfl, flats_mem hc.2, List.mem_cons_self⟩
        · exact .inl hx
      · exact .inr ⟨q1, q2, q3, q4, List.mem_cons_of_mem _ q5⟩
/-- a call with plain arguments: what it gives, on every tape, in whatever memory that holds the tables -/
theorem plain_run {P : Program} (hm : P.follows .mixedOrders = true) {fuel : Nat} {f : FuncId} {args : List Value} {tabs : List (Nat × List Value)} {v : Value} (h : runPlain P fuel f args tabs = some v) (w : World) (hw : TabsAt w tabs) :
    Calls P f ⟨args⟩ w fun e w' => e = .returned v ∧ Below w.heap.size w w' := by
  unfold runPlain at h
  cases hf : flat2 args with
  | false => rw [hf] at h; simp at h
  | true =>
    rw [hf] at h
    simp only at h
    obtain ⟨t, h1, ht⟩ := withTabs_spec _ _ _ _ h
    have live : ∀ b x, t.get b = some x → b < 1048576 ∧ x.own = false ∧ x.es = 0 ∧ (∀ v ∈ x.cells, flat1 v = true) ∧ (b, x.cells) ∈ tabs := fun b x hx => by
      rcases ht b x hx with hx | hx
      · rw [Tr.get_leaf] at hx; cases hx
      · exact hx
    cases hc : evCall P (ev P fuel) f args ⟨t, 1048576, big⟩ with
    | none => rw [hc] at h1; simp at h1
    | some vm =>
      obtain ⟨v1, m'⟩ := vm
      rw [hc] at h1
      simp only at h1
      cases hr : flatR v1 with
      | false => rw [hr] at h1; simp at h1
      | true =>
        rw [hr] at h1
        obtain rfl : v1 = v := by simpa using h1
        let μ : Map := fun g => ⟨g, 0, 0, 0⟩
        have own : ∀ b x, t.get b = some x → x.own = true → False := fun b x hx ho => by rw [(live b x hx).2.1] at ho; cases ho
        have hR : Rep μ ⟨t, 1048576, big⟩ w := ⟨fun b x hx => (live b x hx).1, fun b x hx i u hu => by
            obtain ⟨_, _, _, q1, q2⟩ := live b x hx
            have := (hw b x.cells q2).2 i u hu
            refine ⟨u, ?_, .flat (q1 u (List.mem_of_getElem? hu))⟩
            show w.cell? ⟨b, 0 + i, none⟩ = _
            rw [Nat.zero_add]
            exact this,
          fun b x hx ho => (own b x hx ho).elim, fun b x hx => (hw b x.cells (live b x hx).2.2.2.2).1, fun b x hx => (live b x hx).2.2.1.symm, fun b x hx ho => (own b x hx ho).elim, fun b x _ _ hx _ ho => (own b x hx ho).elim⟩
        refine (call_ok (ev_ok hm fuel) hc hR (.of_flat2 (flat2_mem hf)) (fun g _ => ⟨rfl, rfl⟩) (Nat.le_refl _)).mono ?_
        rintro e w' ⟨v', μ', rfl, hok, hv⟩
        obtain rfl := hv.sameR hr
        exact ⟨rfl, hok.os, hok.tape, hok.output, hok.size, fun k hk => hok.frame k hk fun b x hx ho => (own b x hx ho).elim⟩
theorem tabsAt_none (w : World) : TabsAt w [] := fun g cs h => by simp at h
end Go.Proofs.YtabhkfpglhfiiaaDoor
