/-
  Package plan's reader: plan.
-/
import Derived.Test.YtjhkihkiebnpaaaGreatDoorMp4
import Derived.Deep.DeepCutAuto
import Derived.IntWalk
import Derived.Deep.CutBlock
import Derived.Deep.RegionLaw
import Derived.Deep.AppendLies
set_option linter.unusedVariables false
set_option linter.unusedSimpArgs false
namespace Go.Proofs.YtjhkihkiebnpaaaGreatDoor
open Go.RowKit
set_option linter.unusedVariables false
set_option linter.unusedSimpArgs false
inductive T.Small : T → Prop
  | mk (k : Int) (s : ByteArray) (n : Int) (l : List T) (a : Int) (hl : l.length ≤ 600) (h : ∀ e ∈ l, T.Small e) : T.Small (.mk k s n l a)
def PlanPost (g : Nat) (w : World) (q : P × RSt) (r : Ending) (w' : World) : Prop :=
  (∃ a, r = .returned (q.1.val a) ∧ PAt w' (fun k => w.heap.size ≤ k ∧ k < w'.heap.size) q.1 a) ∧ Only g w w' ∧ RAt w' g q.2
def PlanOk (t : T) : Prop := T.Small t → ∀ (A : Option Addr) (c : Nat) (g : Nat) (st : RSt) (w : World), RAt w g st → t.kids.length ≤ c → TKids w g A t.kids →
  Calls Tryz.prog 30 #[.pointer (some ⟨g, 0, none⟩), t.val A c] w (PlanPost g w (planT t st))
theorem kind_shape (w : List UInt8) (l : List T) : kindW w l = 0 ∨ (kindW w l = 1 ∧ l.length = 2) ∨ (kindW w l = 2 ∧ l.length = 3) ∨ (kindW w l = 3 ∧ 3 ≤ l.length ∧ (midL l 1).all columnT = true) ∨
    (kindW w l = 4 ∧ l.length = 5) ∨ (kindW w l = 5 ∧ l.length = 3) ∨ (kindW w l = 6 ∧ l.length = 2) ∨ (kindW w l = 7 ∧ 3 ≤ l.length ∧ (midL l 2).all aggT = true) := by
  unfold kindW
  repeat' split
  all_goals simp_all
theorem planL_all (l : List T) (st : RSt) : planL l l.length st = ([], st) := by rw [planL_skip, List.drop_length, planL]
theorem Lies.none_ {w : World} {S : Nat → Prop} : Lies w S none [] := .inl rfl
theorem xkids_one {w : World} {S : Nat → Prop} {g : Nat} {e : E} {A : Option Addr} {c : Nat} {t : TypeId} (hb : w.heap[g]? = some (.cells #[.int .i64 e.k, .string e.s, .int .i64 e.n, .slice A e.kids.length c] t (0, 0))) (hg : S g) (h : XKids w S A e.kids) : XKids w S (some ⟨g, 0, none⟩) [e] := by
  obtain ⟨⟨k0, k1, k2, k3⟩, _⟩ := cell4 hb
  refine .mk g 0 [e] (by simp) hg (fun _ => A) (fun _ => c) (fun i x hx => ?_) (fun i x hx => ?_)
  · cases i with
    | zero => obtain rfl : e = x := by simpa using hx
              exact ⟨k0, k1, k2, k3⟩
    | succ i => simp at hx
  · cases i with
    | zero => obtain rfl : e = x := by simpa using hx
              exact h
    | succ i => simp at hx
theorem sub_facts {ln kn c : Nat} (h1 : kn ≤ ln) (h0 : kn = 1 ∨ kn = 2) (hc : ln ≤ c) (h6 : ln ≤ 600) : ∃ d : Nat, (ln : Int) - (kn : Int) = (d : Int) ∧ d ≤ ln ∧ (d : Int) ≤ (ln : Int) ∧ (0 : Int) ≤ (d : Int) ∧ wrap64 (d : Int) = (d : Int) ∧ ¬ c = d ∧ kn + d = ln ∧ d = ln - kn :=
  ⟨ln - kn, by omega, by omega, by omega, by omega, IntWalk.wrap64_in _ (by omega), by omega, by omega, rfl⟩
/-- the relation of the loop over the kids -/
def PRel (g pb : Nat) (w2 wc : World) (a0 : PA) (p0 : P) (l : List T) (d kn : Nat) (st0 : RSt) (i : Value) (wr : World) : Prop :=
  ∃ (j : Nat) (ps : List QP) (v : Value) (stj : RSt), j ≤ kn ∧ i = .int .i64 j ∧ ps.length = j ∧
    wr.heap[pb]? = some (.cells #[.int .i64 p0.k, .string p0.nm, .slice a0.ea p0.ex.length a0.ec, .slice a0.ca p0.cols.length a0.cc, .slice a0.la p0.left.length a0.lc, .slice a0.ra p0.right.length a0.rc, .slice a0.ga p0.ag.length a0.gc, v] 27 (0, 0)) ∧
    wr.ownsRow wc.heap.size 27 8 v j (flatQ ps) ∧ (∀ p ∈ ps, PAt wr (fun k => wc.heap.size ≤ k ∧ k < wr.heap.size ∧ v.ownBlock ≠ some k) p.1 p.2) ∧
    Only g w2 wr ∧ (∀ k, pb < k → k < wc.heap.size → wr.heap[k]? = wc.heap[k]?) ∧ RAt wr g stj ∧
    planL (l.drop d) 0 st0 = (ps.map Prod.fst ++ (planL (l.drop (d + j)) 0 stj).1, (planL (l.drop (d + j)) 0 stj).2) ∧ wc.heap.size ≤ wr.heap.size
theorem TKids.at3 {w : World} {B b o : Nat} {l : List T} (h : TKids w B (some ⟨b, o, none⟩) l) {d j : Nat} {x : T} (hx : l[d + j]? = some x) :
    ∃ A' c', b < B ∧ w.cell? ⟨b, o + d * 5 + j * 5, none⟩ = some (.int .i64 x.k) ∧ w.cell? ⟨b, o + d * 5 + j * 5 + 1, none⟩ = some (.string x.s) ∧
      w.cell? ⟨b, o + d * 5 + j * 5 + 2, none⟩ = some (.int .i64 x.n) ∧ w.cell? ⟨b, o + d * 5 + j * 5 + 3, none⟩ = some (.slice A' x.kids.length c') ∧ w.cell? ⟨b, o + d * 5 + j * 5 + 4, none⟩ = some (.int .i64 x.at_) ∧ x.kids.length ≤ c' ∧ TKids w B A' x.kids := by
  cases h with
  | nil A => simp at hx
  | mk _ _ _ hn hlt A c h hk =>
    obtain ⟨h1, h2, h3, h4, h5, h6⟩ := h (d + j) x hx
    rw [show o + (d + j) * 5 = o + d * 5 + j * 5 by omega] at h1 h2 h3 h4 h5
    exact ⟨A (d + j), c (d + j), hlt, h1, h2, h3, h4, h5, h6, hk _ x hx⟩
theorem idx_lt {l : List T} {ln kn d j : Nat} (h1 : ln = l.length) (h2 : kn + d = ln) (h3 : j < kn) : d + j < l.length := by omega
theorem lnd {ln kn d : Nat} (h2 : kn + d = ln) : ln - d = kn := by omega
theorem meas_lt {j kn : Nat} (h : j < kn) : kn - (intOf (Value.int .i64 ((j : Int) + 1))).toNat < kn - (intOf (Value.int .i64 (j : Int))).toNat := by
  simp [intOf]; omega
theorem prel_step {g pb : Nat} {w2 wc wr wx w3 w5 : World} {a0 aq : PA} {p0 : P} {l : List T} {d kn j g' cap : Nat} {st0 stj : RSt} {ps : List QP} {v : Value} {q : P × RSt}
    (hj : j < kn) (hpl : ps.length = j) (hpbc : pb < wc.heap.size) (hgpb : g < pb) (hw2 : w2.heap.size ≤ pb)
    (hown : wr.ownsRow wc.heap.size 27 8 v j (flatQ ps)) (hxk : ∀ p ∈ ps, PAt wr (fun k => wc.heap.size ≤ k ∧ k < wr.heap.size ∧ v.ownBlock ≠ some k) p.1 p.2)
    (ho : Only g w2 wr) (hold : ∀ k, pb < k → k < wc.heap.size → wr.heap[k]? = wc.heap[k]?) (hsr : wc.heap.size ≤ wr.heap.size)
    (hz : planL (l.drop d) 0 st0 = (ps.map Prod.fst ++ (planL (l.drop (d + j)) 0 stj).1, (planL (l.drop (d + j)) 0 stj).2))
    (hst : planL (l.drop (d + j)) 0 stj = (q.1 :: (planL (l.drop (d + j + 1)) 0 q.2).1, (planL (l.drop (d + j + 1)) 0 q.2).2))
    (hbx : Below wr.heap.size wr wx) (ho3 : Only g wx w3) (hr3 : RAt w3 g q.2) (hX : PAt w3 (fun k => wx.drew.heap.size ≤ k ∧ k < w3.heap.size) q.1 aq)
    (hg5 : w3.grownBy w5 v.ownBlock) (ho5 : w5.ownsRow wc.heap.size 27 8 (.slice (some ⟨g', 0, none⟩) (j + 1) cap) (j + 1) (flatQ ps ++ QP.cs (q.1, aq)))
    (hat : (Value.slice (some ⟨g', 0, none⟩) (j + 1) cap).ownBlock = v.ownBlock ∨ ∃ n, (Value.slice (some ⟨g', 0, none⟩) (j + 1) cap).ownBlock = some n ∧ w3.heap.size ≤ n)
    (he5 : w5.heap[pb]? = some (.cells #[.int .i64 p0.k, .string p0.nm, .slice a0.ea p0.ex.length a0.ec, .slice a0.ca p0.cols.length a0.cc, .slice a0.la p0.left.length a0.lc, .slice a0.ra p0.right.length a0.rc, .slice a0.ga p0.ag.length a0.gc, v] 27 (0, 0))) :
    PRel g pb w2 wc a0 p0 l d kn st0 (.int .i64 ((j : Int) + 1)) (w5.setCell ⟨pb, 7, none⟩ (.slice (some ⟨g', 0, none⟩) (j + 1) cap)) := by
  have s1 := hbx.size
  have s2 := ho3.size
  have s5 := hg5.size
  have hv1 : ∀ k, v.ownBlock = some k → wc.heap.size ≤ k ∧ k < wr.heap.size := fun k e => hown.lt k e
  have hX' : PAt w3 (fun k => wr.heap.size ≤ k ∧ k < w3.heap.size) q.1 aq := hX.mono fun k hk => ⟨Nat.le_trans s1 hk.1, hk.2⟩
  have hne : g' ≠ pb := fun e => by
    rcases hat with h | ⟨n, h, h2⟩
    · have := hv1 g' (by rw [← h]; rfl); omega
    · have : n = g' := by simpa [Value.ownBlock] using h.symm
      omega
  have hoth : ∀ k, k ≠ pb → k ≠ g → k < wr.heap.size → v.ownBlock ≠ some k → (w5.setCell ⟨pb, 7, none⟩ (.slice (some ⟨g', 0, none⟩) (j + 1) cap)).heap[k]? = wr.heap[k]? := fun k h1 h2 h3 h4 =>
    (Below.heap_setCell w5 ⟨pb, 7, none⟩ _ k h1).trans ((hg5.block k (by omega) fun e => h4 e.symm).trans ((ho3.block k (by omega) h2).trans (hbx.block k h3)))
  have hoth3 : ∀ k, wr.heap.size ≤ k → k < w3.heap.size → (w5.setCell ⟨pb, 7, none⟩ (.slice (some ⟨g', 0, none⟩) (j + 1) cap)).heap[k]? = w3.heap[k]? := fun k h1 h2 =>
    (Below.heap_setCell w5 ⟨pb, 7, none⟩ _ k (by show k ≠ pb; omega)).trans (hg5.block k h2 fun e => by have := (hv1 k e.symm).2; omega)
  refine ⟨j + 1, ps ++ [(q.1, aq)], .slice (some ⟨g', 0, none⟩) (j + 1) cap, q.2, hj, by simp, by rw [List.length_append, hpl]; rfl, setNc (k := 7) he5, ?_, ?_, ?_, ?_, ?_, ?_, ?_⟩
  · rw [flatQ_append, flatQ_one]
    exact own_far ho5 (Below.heap_setCell w5 ⟨pb, 7, none⟩ _ g' hne)
  · have h6 : (w5.setCell ⟨pb, 7, none⟩ (.slice (some ⟨g', 0, none⟩) (j + 1) cap)).heap.size = w5.heap.size := by simp [World.setCell]
    exact xq_round hxk hX' hsr (fun k h1 h2 h3 => hoth k (by omega) (by omega) h2 h3) (fun k h1 h2 => hoth3 k h1 h2) (Nat.le_trans s1 s2) (by rw [h6]; exact s5) (fun k e => (hv1 k e).2) hat
  · exact (((ho.bel hbx).trans ho3).grown hg5 (fun k e => by have := (hv1 k e).1; omega)).setNew (p := ⟨pb, 7, none⟩) hw2 _
  · intro k h1 h2
    exact (hoth k (by omega) (by omega) (by omega) (fun e => by have := (hv1 k e).1; omega)).trans (hold k h1 h2)
  · exact (Below.heap_setCell w5 ⟨pb, 7, none⟩ _ g (by show g ≠ pb; omega)).trans ((hg5.block g hr3.lt (fun e => by have := (hv1 g e.symm).1; omega)).trans hr3)
  · rw [hz, hst, List.map_append, List.append_assoc]
    rfl
  · simp only [World.setCell, Array.size_modify]
    omega
theorem kids_end {l : List T} {d kn ln j : Nat} {st0 stj : RSt} {ps : List QP} (h1 : ln = l.length) (h2 : kn + d = ln) (h3 : d = ln - kn) (hj : j ≤ kn) (hn : ¬ j < kn)
    (hz : planL (l.drop d) 0 st0 = (ps.map Prod.fst ++ (planL (l.drop (d + j)) 0 stj).1, (planL (l.drop (d + j)) 0 stj).2)) : planL l (ln - kn) st0 = (ps.map Prod.fst, stj) := by
  rw [planL_skip, ← h3, hz, List.drop_eq_nil_of_le (by omega), planL, List.append_nil]
theorem plan_end {g pb : Nat} {w w2 wc wr : World} {a0 : PA} {p0 : P} {A9 : Option Addr} {c9 : Nat} {ks : List P} {stj : RSt} (hg : g < w.heap.size) (h2 : w.heap.size + 1 < w2.heap.size) (hpb : w2.heap.size ≤ pb) (hpbc : pb < wc.heap.size) (hsr : wc.heap.size ≤ wr.heap.size)
    (how : Only g w w2) (ho : Only g w2 wr) (hold : ∀ k, pb < k → k < wc.heap.size → wr.heap[k]? = wc.heap[k]?) (hparts : PParts wc (fun k => pb < k ∧ k < wc.heap.size) p0 a0) (hr : RAt wr g stj)
    (hX : XPK wr (fun k => wc.heap.size ≤ k ∧ k < wr.heap.size) A9 ks) {x0 x1 x2 x3 x4 x5 x6 x7 : Value} (hx : Value.agg #[x0, x1, x2, x3, x4, x5, x6, x7] = (p0.put ks).val { a0 with ka := A9, kc := c9 }) :
    PlanPost g w (p0.put ks, stj) (.returned (.agg #[x0, x1, x2, x3, x4, x5, x6, x7])) (put8 wr (w.heap.size + 1) x0 x1 x2 x3 x4 x5 x6 x7) := by
  refine ⟨⟨{ a0 with ka := A9, kc := c9 }, by rw [hx], ?_, ?_⟩, put8_only (how.trans ho) (Nat.le_succ _), (put8_other (by omega)).trans hr⟩
  · have h := (hparts.kept fun k hk => (put8_other (x0 := x0) (x1 := x1) (x2 := x2) (x3 := x3) (x4 := x4) (x5 := x5) (x6 := x6) (x7 := x7) (p := w.heap.size + 1) (by have := hk.1; omega)).trans (hold k hk.1 hk.2)).mono (S' := fun k => w.heap.size ≤ k ∧ k < (put8 wr (w.heap.size + 1) x0 x1 x2 x3 x4 x5 x6 x7).heap.size) (fun k hk => ⟨by have := hk.1; omega, by rw [put8_size]; have := hk.2; omega⟩)
    exact ⟨h.ex, h.cols, h.left, h.right, h.ag, h.l1, h.l2, h.l3, h.l4, h.l5⟩
  · exact (hX.kept fun k hk => put8_other (by have := hk.1; omega)).mono fun k hk => ⟨by have := hk.1; omega, by rw [put8_size]; exact hk.2⟩
theorem kn_le {j kn : Nat} (h : j ≤ kn) (h2 : kn = 1 ∨ kn = 2) : j ≤ 9223372036854775807 := by omega
theorem val_put (p0 : P) (ks : List P) (a0 : PA) (A9 : Option Addr) (c9 : Nat) : (p0.put ks).val { a0 with ka := A9, kc := c9 } = .agg #[.int .i64 p0.k, .string p0.nm, .slice a0.ea p0.ex.length a0.ec, .slice a0.ca p0.cols.length a0.cc, .slice a0.la p0.left.length a0.lc, .slice a0.ra p0.right.length a0.rc, .slice a0.ga p0.ag.length a0.gc, .slice A9 ks.length c9] := rfl
theorem T.Small.len {x : T} (h : T.Small x) : x.kids.length ≤ 600 := by cases h; assumption
theorem maxl_le {j : Nat} (h : j ≤ 600) : j + 1 ≤ maxLen := by unfold maxLen; omega
theorem j_le {j kn : Nat} (h : j < kn) (h2 : kn = 1 ∨ kn = 2) : j ≤ 600 := by omega
theorem bytes_le {j : Nat} (h : j ≤ 600) : (j + 1) * 168 ≤ 140737488355328 := by omega
theorem join_mid {g : Nat} {w2 w3 w4 w5 : World} {l : List T} {x y : T} {a : Int} {st : RSt} {A4 A5 : Option Addr} {c4 c5 xm ym : Nat}
    (hL4 : Lies w4 (fun k => w3.drew.heap.size ≤ k ∧ k < w4.heap.size) A4 (strs (x.kids.map T.s))) (hL5 : Lies w5 (fun k => w4.heap.size ≤ k ∧ k < w5.heap.size) A5 (strs (y.kids.map T.s))) (ho4 : Only g w3 w4) (ho5 : Only g w4 w5)
    (hr5 : RAt w5 g (namesR y.kids (namesR x.kids st))) (hs7 : Only g w2 ((w5.setCell ⟨w2.heap.size, 4, none⟩ (.slice A4 xm c4)).setCell ⟨w2.heap.size, 5, none⟩ (.slice A5 ym c5)))
    (hp7 : ((w5.setCell ⟨w2.heap.size, 4, none⟩ (.slice A4 xm c4)).setCell ⟨w2.heap.size, 5, none⟩ (.slice A5 ym c5)).heap[w2.heap.size]? = some (.cells #[.int .i64 4, .string ⟨#[]⟩, .slice none 0 0, .slice none 0 0, .slice A4 xm c4, .slice A5 ym c5, .slice none 0 0, .slice none 0 0] 27 (0, 0)))
    (hs3 : w2.heap.size < w3.heap.size) (hkl : kidsN 4 ≤ l.length) (hxl : x.kids.length = xm) (hyl : y.kids.length = ym) (hg : g < w2.heap.size) (hx6 : x.kids.length ≤ 600) (hy6 : y.kids.length ≤ 600)
    (hbp : baseP 4 l = .mk 4 ⟨#[]⟩ [] [] (x.kids.map T.s) (y.kids.map T.s) [] []) (hbr : baseR 4 l a st = namesR y.kids (namesR x.kids st)) :
    MidP g w2.heap.size w2 4 l (baseR 4 l a st) (.int .i64 2) ((w5.setCell ⟨w2.heap.size, 4, none⟩ (.slice A4 xm c4)).setCell ⟨w2.heap.size, 5, none⟩ (.slice A5 ym c5)) := by
  have z4 := ho4.size
  have z5 := ho5.size
  have z3 : w3.drew.heap.size = w3.heap.size := rfl
  have hoth : ∀ k, k ≠ w2.heap.size → ((w5.setCell ⟨w2.heap.size, 4, none⟩ (.slice A4 xm c4)).setCell ⟨w2.heap.size, 5, none⟩ (.slice A5 ym c5)).heap[k]? = w5.heap[k]? := fun k h =>
    (Below.heap_setCell _ ⟨w2.heap.size, 5, none⟩ _ k h).trans (Below.heap_setCell _ ⟨w2.heap.size, 4, none⟩ _ k h)
  have hsz : ((w5.setCell ⟨w2.heap.size, 4, none⟩ (.slice A4 xm c4)).setCell ⟨w2.heap.size, 5, none⟩ (.slice A5 ym c5)).heap.size = w5.heap.size := by simp [World.setCell]
  refine ⟨{ noPA with la := A4, lc := c4, ra := A5, rc := c5 }, rfl, .inr rfl, hkl, ?_, ?_, hs7, ?_⟩
  · rw [hp7, hbp]
    simp only [P.k, P.nm, P.ex, P.cols, P.left, P.right, P.ag, List.length_map, hxl, hyl]
    rfl
  · rw [hbp]
    refine ⟨.nil _, .inl rfl, ?_, ?_, .inl rfl, by simp [P.ex], by simp [P.cols], by simp only [P.left, List.length_map]; omega, by simp only [P.right, List.length_map]; omega, by simp [P.ag]⟩
    · exact (hL4.kept fun k hk => (hoth k (by have := hk.1; omega)).trans (ho5.block k hk.2 (by have := hk.1; omega))).mono fun k hk => ⟨by have := hk.1; omega, by rw [hsz]; have := hk.2; omega⟩
    · exact (hL5.kept fun k hk => hoth k (by have := hk.1; omega)).mono fun k hk => ⟨by have := hk.1; omega, by rw [hsz]; exact hk.2⟩
  · rw [hbr]
    exact (hoth g (by omega)).trans hr5
set_option maxRecDepth 100000 in
set_option maxHeartbeats 4000000 in
theorem plan_step (k : Int) (s : ByteArray) (n : Int) (l : List T) (a : Int) (hM : ∀ e ∈ l, PlanOk e) : PlanOk (.mk k s n l a) := by
  intro hsm A c g st w h hc hA
  obtain ⟨_, _, _, _, _, hl6, hks⟩ := hsm
  rw [planT]
  have hkind := fun w' hA' => kind_any (.mk k s n l a) A c w' hc hA'
  have hshape := kind_shape (wordT (.mk k s n l a)).toList l
  rw [show kindW (wordT (.mk k s n l a)).toList l = kindT (.mk k s n l a) from rfl] at hshape
  generalize kindT (.mk k s n l a) = kd at *
  simp only [T.val, T.k, T.s, T.n, T.kids, T.at_] at hc hA hkind ⊢
  have hlt := h.lt
  obtain ⟨ln, eln⟩ : ∃ ln, ln = l.length := ⟨_, rfl⟩
  obtain ⟨wa, ewa⟩ : ∃ wa, wa = w.alloc (.cells #[.int .i64 k, .string s, .int .i64 n, .slice A ln c, .int .i64 a] 71) := ⟨_, rfl⟩
  have hba : Below w.heap.size w wa := by rw [ewa]; exact (Below.refl _ _).alloc (Nat.le_refl _) _
  have hsa : wa.heap.size = w.heap.size + 1 := by rw [ewa]; simp
  have hxa : wa.heap[w.heap.size]? = some (.cells #[.int .i64 k, .string s, .int .i64 n, .slice A ln c, .int .i64 a] 71 (0, 0)) := by rw [ewa]; exact heap_alloc_new w _
  obtain ⟨w1, ew1⟩ : ∃ w1, w1 = wa.alloc (.cells #[.int .i64 0, .string ⟨#[]⟩, .slice none 0 0, .slice none 0 0, .slice none 0 0, .slice none 0 0, .slice none 0 0, .slice none 0 0] 27) := ⟨_, rfl⟩
  have hb1 : Below wa.heap.size wa w1 := by rw [ew1]; exact (Below.refl _ _).alloc (Nat.le_refl _) _
  have hs1 : w.heap.size + 1 < w1.heap.size := by rw [ew1]; simp; omega
  have hr1 : w1.heap[w.heap.size + 1]? = some (.cells #[.int .i64 0, .string ⟨#[]⟩, .slice none 0 0, .slice none 0 0, .slice none 0 0, .slice none 0 0, .slice none 0 0, .slice none 0 0] 27 (0, 0)) := by rw [ew1, ← hsa]; exact heap_alloc_new wa _
  have hx1 : w1.heap[w.heap.size]? = some (.cells #[.int .i64 k, .string s, .int .i64 n, .slice A ln c, .int .i64 a] 71 (0, 0)) := (hb1.block _ (by omega)).trans hxa
  have hbw : Below w.heap.size w w1 := hba.trans (hb1.mono (by omega))
  have HKD := Lib.hid (hkind w1 ((hA.low (hbw.mono (Nat.le_of_lt hlt))).more (by omega)))
  rw [← eln] at HKD
  have HW1 := Lib.hid (show w1 = (w.alloc (.cells #[.int .i64 k, .string s, .int .i64 n, .slice A ln c, .int .i64 a] 71)).alloc (.cells #[.int .i64 0, .string ⟨#[]⟩, .slice none 0 0, .slice none 0 0, .slice none 0 0, .slice none 0 0, .slice none 0 0, .slice none 0 0] 27) by rw [ew1, ewa])
  have HK1 := Lib.hid (hA.low (hbw.mono (Nat.le_of_lt hlt)))
  have HR1 := Lib.hid (h.kept hbw)
  have HX1 := Lib.hid hx1
  have HT1 := Lib.hid hr1
  have HB1 := Lib.hid hbw
  have HLN := Lib.hid eln
  have HM := Lib.hid hM
  have HKS := Lib.hid hks
  obtain ⟨⟨k0, k1, k2, k3, k4⟩, _, _, _, _, _⟩ := cell5 hx1
  rw [← eln]
  clear ewa hba hsa hxa ew1 hb1 hr1 hx1 hbw h hA hkind hM hks eln wa
  go_enter Tryz.func30, Tryz.ntmps30
  go_upto_region 1 with (fail)
  rw [← HW1.out]
  go_wp2_with fail
  refine (HKD.out).mono ?_
  rintro e w2 ⟨rfl, hb2⟩
  have HB2 := Lib.hid hb2
  have hs2 := hb2.size
  have HX2 := Lib.hid ((hb2.block w.heap.size (by omega)).trans HX1.out)
  have HT2 := Lib.hid ((hb2.block (w.heap.size + 1) (by omega)).trans HT1.out)
  have HR2 := Lib.hid (HR1.out.kept hb2)
  have HK2 := Lib.hid (HK1.out.low (hb2.mono (by omega : g ≤ w1.heap.size)))
  clear hb2 k0 k1 k2 k3 k4
  obtain ⟨w3, ew3⟩ : ∃ w3, w3 = w2.alloc (.cells #[.int .i64 kd, .string ⟨#[]⟩, .slice none 0 0, .slice none 0 0, .slice none 0 0, .slice none 0 0, .slice none 0 0, .slice none 0 0] 27) := ⟨_, rfl⟩
  have hb3 : Below w2.heap.size w2 w3 := by rw [ew3]; exact (Below.refl _ _).alloc (Nat.le_refl _) _
  have hs3 : w2.heap.size < w3.heap.size := by rw [ew3]; simp
  have HX3 := Lib.hid ((hb3.block w.heap.size (by omega)).trans HX2.out)
  have HT3 := Lib.hid ((hb3.block (w.heap.size + 1) (by omega)).trans HT2.out)
  have HR3 := Lib.hid (HR2.out.kept hb3)
  have HK3 := Lib.hid (HK2.out.low (hb3.mono (by omega : g ≤ w2.heap.size)))
  have HP3 : Hid (w3.heap[w2.heap.size]? = some (.cells #[.int .i64 kd, .string ⟨#[]⟩, .slice none 0 0, .slice none 0 0, .slice none 0 0, .slice none 0 0, .slice none 0 0, .slice none 0 0] 27 (0, 0))) := Lib.hid (by rw [ew3]; exact heap_alloc_new w2 _)
  have HO3 : Hid (Only g w w3) := Lib.hid (((only_of_below HB1.out).bel HB2.out).bel hb3)
  have HW3 := Lib.hid ew3
  have HB23 : Hid (Only g w2 w3) := Lib.hid (only_of_below hb3)
  clear ew3 hb3 HR2 HX1 HT1 HR1 HK1
  go_upto_region 2 with (fail)
  rw [← HW3.out]
  obtain ⟨⟨k0, k1, k2, k3, k4⟩, _, _, _, _, _⟩ := cell5 HX3.out
  have HO23 : Hid (Only g w2 w3) := Lib.hid HB23.out
  obtain ⟨d0, d1, d2, d3, d4, d5, d6, d7, f0, f1, f2, f3, f4, f5, f6, f7⟩ := cell8 HP3.out
  go_upto_block 0 with (fail)
  clear d0 d1 d2 d3 d4 d5 d6 d7 f0 f1 f2 f3 f4 f5 f6 f7
  go_cut [7] (fun s7 wx => MidP g w2.heap.size w2 kd l (baseR kd l a st) s7 wx)
  case first =>
    rcases hshape with rfl | ⟨rfl, h2⟩ | ⟨rfl, h2⟩ | ⟨rfl, h2, h3⟩ | ⟨rfl, h2⟩ | ⟨rfl, h2⟩ | ⟨rfl, h2⟩ | ⟨rfl, h2, h3⟩
    · have HRF := Lib.hid (refuse_any g st 12 a w3 HR3.out)
      have hpl : Hid (planL l (ln - kidsN 0) (baseR 0 l a st) = ([], baseR 0 l a st)) := Lib.hid (by rw [show kidsN 0 = 0 from rfl, Nat.sub_zero, HLN.out, planL_all])
      have hbr : Hid (baseR 0 l a st = refu 12 a st) := Lib.hid rfl
      have hbp : Hid (baseP 0 l = .mk 0 ⟨#[]⟩ [] [] [] [] [] []) := Lib.hid rfl
      obtain ⟨d0, d1, d2, d3, d4, d5, d6, d7, f0, f1, f2, f3, f4, f5, f6, f7⟩ := cell8 HP3.out
      go_wp2_with fail
      refine (HRF.out).mono ?_
      rintro e w4 ⟨rfl, ho4, hr4⟩
      have HO4 := Lib.hid ho4
      have HR4 := Lib.hid hr4
      have hs4 := ho4.size
      have HP4 := Lib.hid ((ho4.block w2.heap.size (by omega) (by omega)).trans HP3.out)
      have HT4 := Lib.hid ((ho4.block (w.heap.size + 1) (by omega) (by omega)).trans HT3.out)
      clear ho4 hr4 d0 d1 d2 d3 d4 d5 d6 d7 f0 f1 f2 f3 f4 f5 f6 f7
      obtain ⟨d0, d1, d2, d3, d4, d5, d6, d7, f0, f1, f2, f3, f4, f5, f6, f7⟩ := cell8 HP4.out
      obtain ⟨t0, t1, t2, t3, t4, t5, t6, t7, g0, g1, g2, g3, g4, g5, g6, g7⟩ := cell8 HT4.out
      go_wp2_with fail
      refine bodyPost_ret (results_plan rfl rfl (put8_block HT4.out)) rfl ?_
      unfold PlanPost
      rw [hpl.out, hbp.out, hbr.out]
      exact ⟨⟨noPA, rfl, parts_none _ _ _ _, .nil _⟩, put8_only (HO3.out.trans HO4.out) (Nat.le_succ _), (put8_other (by omega)).trans HR4.out⟩
    · obtain ⟨x, hx⟩ : ∃ x, l[1]? = some x := ⟨_, List.getElem?_eq_getElem (by omega)⟩
      obtain ⟨bx, ox, A1, c1, ex, hgx, x0, x1, x2, x3, x4, hcx, hKx⟩ := HK3.out.at (by omega) hx
      subst ex
      rw [Nat.one_mul] at x0 x1 x2 x3 x4
      have HN := Lib.hid (rname_any x A1 c1 g st w3 HR3.out)
      have hbp : Hid (baseP 1 l = .mk 1 x.s [] [] [] [] [] []) := Lib.hid (by unfold baseP; rw [if_pos rfl, getD_some hx])
      have hbr : Hid (baseR 1 l a st = nameR x st) := Lib.hid (by unfold baseR; rw [if_pos rfl, getD_some hx])
      have hpl : Hid (planL l (ln - kidsN 1) (baseR 1 l a st) = ([], baseR 1 l a st)) := Lib.hid (by rw [show kidsN 1 = 0 from rfl, Nat.sub_zero, HLN.out, planL_all])
      have hnm : (T.val x A1 c1) = T.val x A1 c1 := rfl
      have hm1 : 1 < ln := by rw [HLN.out]; omega
      have hm2 : (1 : Int) < (ln : Int) := by omega
      generalize nameR x st = st1 at *
      obtain ⟨xk, xs, xn, xl, xa⟩ := x
      simp only [T.val, T.k, T.s, T.n, T.kids, T.at_] at x0 x1 x2 x3 x4 HN hbp
      clear hx hcx hKx hnm h2
      generalize xl.length = xm at *
      obtain ⟨d0, d1, d2, d3, d4, d5, d6, d7, f0, f1, f2, f3, f4, f5, f6, f7⟩ := cell8 HP3.out
      go_wp2_with fail
      refine (HN.out).mono ?_
      rintro e w4 ⟨rfl, ho4, hr4⟩
      have HO4 := Lib.hid ho4
      have HR4 := Lib.hid hr4
      have hs4 := ho4.size
      have HP4 := Lib.hid (setNc (k := 1) (u := .string xs) ((ho4.block w2.heap.size (by omega) (by omega)).trans HP3.out))
      have HP4b := Lib.hid ((ho4.block w2.heap.size (by omega) (by omega)).trans HP3.out)
      have HT4 := Lib.hid ((Below.heap_setCell w4 ⟨w2.heap.size, 1, none⟩ (.string xs) (w.heap.size + 1) (by show w.heap.size + 1 ≠ w2.heap.size; omega)).trans ((ho4.block (w.heap.size + 1) (by omega) (by omega)).trans HT3.out))
      clear ho4 hr4 d0 d1 d2 d3 d4 d5 d6 d7 f0 f1 f2 f3 f4 f5 f6 f7
      obtain ⟨d0, d1, d2, d3, d4, d5, d6, d7, f0, f1, f2, f3, f4, f5, f6, f7⟩ := cell8 HP4b.out
      obtain ⟨t0, t1, t2, t3, t4, t5, t6, t7, g0, g1, g2, g3, g4, g5, g6, g7⟩ := cell8 HT4.out
      obtain ⟨r0, r1, r2, r3, r4, r5, r6, r7, _, _, _, _, _, _, _, _⟩ := cell8 HP4.out
      go_wp2_with fail
      refine bodyPost_ret (results_plan rfl rfl (put8_block HT4.out)) rfl ?_
      unfold PlanPost
      rw [hpl.out, hbp.out, hbr.out]
      refine ⟨⟨noPA, rfl, parts_none _ _ _ _, .nil _⟩, put8_only ((HO3.out.trans HO4.out).setNew (p := ⟨w2.heap.size, 1, none⟩) (by show w.heap.size ≤ w2.heap.size; omega) _) (Nat.le_succ _), ?_⟩
      exact (put8_other (by omega)).trans ((Below.heap_setCell w4 ⟨w2.heap.size, 1, none⟩ _ g (by show g ≠ w2.heap.size; omega)).trans HR4.out)
    · obtain ⟨x, hx⟩ : ∃ x, l[1]? = some x := ⟨_, List.getElem?_eq_getElem (by omega)⟩
      obtain ⟨bx, ox, A1, c1, ex, hgx, x0, x1, x2, x3, x4, hcx, hKx⟩ := HK3.out.at (by omega) hx
      subst ex
      rw [Nat.one_mul] at x0 x1 x2 x3 x4
      have HN := Lib.hid (rexpr_any x A1 c1 g st w3 HR3.out hcx (hKx.more (by omega)))
      have hbp : Hid (baseP 2 l = .mk 2 ⟨#[]⟩ [(readT x).1] [] [] [] [] []) := Lib.hid (by unfold baseP; rw [if_neg (by decide), if_pos rfl, getD_some hx])
      have hbr : Hid (baseR 2 l a st = exprR x st) := Lib.hid (by unfold baseR; rw [if_neg (by decide), if_pos rfl, getD_some hx])
      have hm1 : 1 < ln := by rw [HLN.out]; omega
      have hm2 : (1 : Int) < (ln : Int) := by omega
      have hm3 : kidsN 2 ≤ l.length := by rw [show kidsN 2 = 1 from rfl]; omega
      generalize exprR x st = st1 at *
      generalize (readT x).1 = ex at *
      obtain ⟨xk, xs, xn, xl, xa⟩ := x
      obtain ⟨ek, es, en, el⟩ := ex
      simp only [T.val, E.val, E.k, E.s, E.n, E.kids, T.k, T.s, T.n, T.kids, T.at_] at x0 x1 x2 x3 x4 HN
      clear hx hcx hKx h2
      generalize xl.length = xm at *
      obtain ⟨em, hem⟩ : ∃ em, em = el.length := ⟨_, rfl⟩
      rw [← hem] at HN
      obtain ⟨d0, d1, d2, d3, d4, d5, d6, d7, f0, f1, f2, f3, f4, f5, f6, f7⟩ := cell8 HP3.out
      have HEM := Lib.hid hem
      clear hem
      go_wp2_with fail
      refine (HN.out).mono ?_
      rintro e w4 ⟨⟨A4, c4, rfl, hX4⟩, ho4, hr4⟩
      have HX4 := Lib.hid hX4
      have HO4 := Lib.hid ho4
      have HR4 := Lib.hid hr4
      have hs4 := ho4.size
      have HP4 := Lib.hid ((ho4.block w2.heap.size (by omega) (by omega)).trans HP3.out)
      clear ho4 hr4 hX4 d0 d1 d2 d3 d4 d5 d6 d7 f0 f1 f2 f3 f4 f5 f6 f7
      obtain ⟨d0, d1, d2, d3, d4, d5, d6, d7, f0, f1, f2, f3, f4, f5, f6, f7⟩ := cell8 ((Below.heap_alloc w4 (Obj.cells #[.int .i64 ek, .string es, .int .i64 en, .slice A4 em c4] 38) w2.heap.size (by omega)).trans HP4.out)
      go_wp2_with fail
      go_meet
      case rel =>
        have hne : w4.heap.size ≠ w2.heap.size := by omega
        refine ⟨{ noPA with ea := some ⟨w4.heap.size, 0, none⟩, ec := 1 }, rfl, .inl rfl, hm3, ?_, ⟨?_, .inl rfl, .inl rfl, .inl rfl, .inl rfl, by rw [hbp.out]; simp [P.ex], by rw [hbp.out]; simp [P.cols], by rw [hbp.out]; simp [P.left], by rw [hbp.out]; simp [P.right], by rw [hbp.out]; simp [P.ag]⟩, ?_, ?_⟩
        · rw [hbp.out]
          exact setNc (k := 2) ((Below.heap_alloc w4 _ w2.heap.size (by omega)).trans HP4.out)
        · rw [hbp.out]
          refine xkids_one (e := .mk ek es en el) (A := A4) (c := c4) (t := 38) ?_ ?_ ?_
          · refine (Below.heap_setCell _ ⟨w2.heap.size, 2, none⟩ _ _ hne).trans ?_
            show (w4.alloc _).heap[_]? = some (Obj.cells #[.int .i64 ek, .string es, .int .i64 en, .slice A4 el.length c4] _ _)
            rw [← HEM.out]
            exact heap_alloc_new w4 _
          · refine ⟨by omega, ?_⟩
            simp [World.setCell]
          · refine (HX4.out.kept fun k hk => (Below.heap_setCell _ ⟨w2.heap.size, 2, none⟩ _ k (by show k ≠ w2.heap.size; have := hk.1; omega)).trans (Below.heap_alloc w4 _ k hk.2)).mono fun k hk => ⟨by have := hk.1; omega, ?_⟩
            have := hk.2
            simp [World.setCell]
            omega
        · exact ((HO23.out.trans HO4.out).alloc _).setNew (p := ⟨w2.heap.size, 2, none⟩) (Nat.le_refl _) _
        · rw [hbr.out]
          exact (Below.heap_setCell _ ⟨w2.heap.size, 2, none⟩ _ g (by show g ≠ w2.heap.size; omega)).trans (HR4.out.kept ((Below.refl _ _).alloc (Nat.le_refl _) _))
    · have hgpb : g < w2.heap.size := Nat.lt_of_lt_of_le hlt (Nat.le_trans (Nat.le_of_lt (Nat.lt_of_succ_lt hs1)) hs2)
      obtain ⟨m, e1, y0, hy0, hmid, q1, q2, q3, q4, q5, q6, q7, q8, q9, q10, hm6, hkl, hg3, hg3'⟩ := k3_facts HLN.out h2 hc hl6 hgpb hs3
      obtain ⟨b, o, _, _, e9, hgb, _⟩ := HK3.out.at hg3 hy0
      subst e9
      have hml := mid_len hmid
      have HML := Lib.hid hml
      have HMG := Lib.hid (fun j (hj : j < m) => mid_get hmid hj)
      have HGL := Lib.hid (fun j (hj : j < m) => get_lt hmid hj)
      have hbp : Hid (baseP 3 l = .mk 3 ⟨#[]⟩ ((midL l 1).map colE) ((midL l 1).map colN) [] [] [] []) := Lib.hid rfl
      have hbr : Hid (baseR 3 l a st = colsR (midL l 1) st) := Lib.hid rfl
      have HAL := Lib.hid (List.all_eq_true.1 h3)
      have hgw2 : g ≤ w2.heap.size := Nat.le_of_lt hgpb
      generalize hmd : midL l 1 = mid at *
      clear hy0 h2 h3 hml hmid hmd
      obtain ⟨iS, iS1, iS2, iS3, iS4⟩ := info_parts pstr_info
      obtain ⟨iE, iE1, iE2, iE3, iE4⟩ := info_parts expr_info
      obtain ⟨d0, d1, d2, d3, d4, d5, d6, d7, f0, f1, f2, f3, f4, f5, f6, f7⟩ := cell8 HP3.out
      go_wp2_with fail
      clear q1 q2 q3 q4 q5 q6 q7 q8 q9 q10 d0 d1 d2 d3 d4 d5 d6 d7 f0 f1 f2 f3 f4 f5 f6 f7
      go_loopw [55] (fun i wr => CRel g w2.heap.size w2 w3.heap.size mid st i wr) (fun i _ => m - (intOf i).toNat)
      case atStart => exact crel_start HP3.out HO23.out HR3.out
      case round =>
        obtain ⟨j, ps, v2, v3, hj, rfl, hps, hC⟩ := hrel
        rw [HML.out] at hj
        have HC := Lib.hid hC
        have HPS := Lib.hid hps
        clear hC hps
        by_cases hlt2 : j < m
        · obtain ⟨x, hx⟩ := HGL.out j hlt2
          have hxm := Lib.hid ((HMG.out j hlt2).trans hx)
          obtain ⟨y, z, hk, hk2⟩ := column_kids (HAL.out x (List.mem_of_getElem? hxm.out))
          have HK := Lib.hid hk
          obtain ⟨b2, o2, c2, A3, c3, A4, c4, hc2, hc3, hc4, hF⟩ := col_cells HK2.out hgw2 hx hk
          have HF := Lib.hid hF
          have hCL := Lib.hid (cs_len (f := colN) HML.out hj)
          have hPL := Lib.hid (ps_len HML.out hj HPS.out)
          have hrs := Lib.hid (colsR_snoc hxm.out st)
          obtain ⟨x0, x1, x2, x3, x4, _, _, _, _, _, _, _, _, _, _, _, _⟩ := hF wr HC.out.only
          obtain ⟨wx, ewx⟩ : ∃ wx, wx = wr.alloc (.cells #[.int .i64 x.k, .string x.s, .int .i64 x.n, .slice (some ⟨b2, o2, none⟩) 2 c2, .int .i64 x.at_] 71) := ⟨_, rfl⟩
          have hbx : Below wr.heap.size wr wx := by rw [ewx]; exact (Below.refl _ _).alloc (Nat.le_refl _) _
          have hnx : wx.heap[wr.heap.size]? = some (.cells #[.int .i64 x.k, .string x.s, .int .i64 x.n, .slice (some ⟨b2, o2, none⟩) 2 c2, .int .i64 x.at_] 71 (0, 0)) := by rw [ewx]; exact heap_alloc_new wr _
          have hnx2 := Lib.hid (show wx.heap[wr.heap.size]? = some (.cells #[.int .i64 x.k, .string x.s, .int .i64 x.n, .slice (some ⟨b2, o2, none⟩) x.kids.length c2, .int .i64 x.at_] 71 (0, 0)) by rw [hk2]; exact hnx)
          have HCX := Lib.hid (HC.out.only_ (only_of_below hbx) (HC.out.rd.kept hbx) hgpb hs3)
          obtain ⟨_, _, _, _, _, y0, y1, y2, y3, y4, _, _, _, _, _, hKy, _⟩ := hF wx HCX.out.only
          have HN := Lib.hid (rname_any y A3 c3 g (colsR (mid.take j) st) wx.drew HCX.out.rd)
          have HWX := Lib.hid ewx
          have HBXX := Lib.hid hbx
          have HDX := Lib.hid (cell8 HCX.out.box).c3
          have g0 := HDX.out
          have hv3 : Hid (v3.ownBlock ≠ some w2.heap.size) := Lib.hid (own_not HC.out.own3 hs3)
          obtain ⟨⟨n0, n1, n2, n3, n4⟩, _, _, _, _, _⟩ := cell5 hnx
          have hj6 : j ≤ 600 := Nat.le_trans hj hm6
          clear hF ewx hbx hnx hx hKy hk
          generalize hcs : (mid.take j).map colN = cs at *
          have HCS := Lib.hid hcs
          clear hcs
          generalize hst : colsR (mid.take j) st = stj at *
          have HST := Lib.hid hst
          clear hst
          obtain ⟨xk, xs, xn, xl, xa⟩ := x
          obtain ⟨yk, ys, yn, yl, ya⟩ := y
          simp only [T.val, T.k, T.s, T.n, T.kids, T.at_] at x0 x1 x2 x3 x4 y0 y1 y2 y3 y4 n0 n1 n2 n3 n4 HN HWX hc3
          generalize hyl : yl.length = ym at *
          go_upto_region 16 with (fail)
          rw [← HWX.out]
          go_cut [55] (fun s55 wm => s55 = .int .i64 j ∧ CMid g w2.heap.size w2 w3.heap.size wr.heap.size (.mk xk xs xn xl xa) (some ⟨b2, o2, none⟩) c2 v2 ps (cs ++ [ys]) (nameR (.mk yk ys yn yl ya) stj) wm)
          case first =>
            go_region_law (first
              | (refine step_append_lies _ rfl _ _ _ rfl w3.heap.size 9 iS _ 1 16 Tryz.underlying23 iS1 iS2 iS3 iS4 rfl (by decide) _ _ _ rfl (HC4.out.own3.alloc _) ⟨w4.heap.size, 0, none⟩ 1 1 [.string ys] rfl rfl (World.news_of_block (heap_alloc_new w4 _)) ones_str (by decide) (maxl600 hCL.out hj6) (bytes600 hCL.out hj6 (by decide)) (Nat.le_trans HC4.out.size (box_below w4 _ _).size) _ rfl ?_; intro g' cap w5 hown5 hgrow hat hlt5
                 have HO5 := Lib.hid hown5
                 have HG5 : Hid (w4.grownBy w5 v3.ownBlock) := Lib.hid ((World.grownBy_alloc _ _ _).trans hgrow)
                 have hat5 : Hid ((Value.slice (some ⟨g', 0, none⟩) (cs.length + 1) cap).ownBlock = v3.ownBlock ∨ ∃ n, (Value.slice (some ⟨g', 0, none⟩) (cs.length + 1) cap).ownBlock = some n ∧ w4.heap.size ≤ n) := Lib.hid (hat.imp (fun h => h.symm) fun h => ⟨g', rfl, by rw [h]; exact (box_below w4 _ _).size⟩)
                 have HE5 := Lib.hid ((HG5.out.block w2.heap.size (Nat.lt_of_lt_of_le hs3 HC4.out.size) (fun e => hv3.out e.symm)).trans HC4.out.box)
                 obtain ⟨d0, d1, d2, d3, d4, d5, d6, d7, f0, f1, f2, f3, f4, f5, f6, f7⟩ := cell8 HE5.out
                 clear hown5 hgrow hat)
              | (go_simp; go_at_call 57; refine (HN.out).mono ?_; rintro e w4 ⟨rfl, hod, hr4⟩
                 have HO4 := Lib.hid hod.undrew
                 have HC4 := Lib.hid (HCX.out.only_ HO4.out hr4 hgpb hs3)
                 have g3 : w4.cell? ⟨w2.heap.size, 3, none⟩ = some v3 := (cell8 HC4.out.box).c3
                 have g3b : (w4.alloc (.cells #[.string ys] 9)).cell? ⟨w2.heap.size, 3, none⟩ = some v3 := (World.cell?_alloc_some _ _ _ (by rw [g3]; rfl)).trans g3
                 clear hod hr4))
            all_goals
              go_wp2_with fail
              go_meet
              case rel => exact ⟨rfl, cmid_of HC.out hnx2.out HO4.out HC4.out HG5.out HO5.out hat5.out hgpb hs3 (Nat.le_refl _)⟩
          case rest =>
            obtain ⟨rfl, v5, hCS, hq, hn2, hn3⟩ := hcut
            have HC5 := Lib.hid hCS
            simp only [T.k, T.s, T.n, T.kids, T.at_] at hq hk2
            rw [hk2] at hq
            obtain ⟨_, _, _, _, _, _, _, _, _, _, z0, z1, z2, z3, z4, _, _⟩ := HF.out wc hCS.only
            have hN2 := rexpr_any z A4 c4 g (nameR (.mk yk ys yn yl ya) stj) wc.drew hCS.rd hc4 ((HF.out wc.drew hCS.only.drew).kz.more (Nat.le_trans hg3 hCS.size))
            have g0' := (cell8 hCS.box).c2
            have hv2 : Hid (v2.ownBlock ≠ some w2.heap.size) := Lib.hid (own_not HC5.out.own2 hs3)
            have hz2 := Lib.hid (fun k (e : v2.ownBlock = some k) => (HC5.out.own2.lt k e).2)
            have hz3 := Lib.hid (fun k (e : v5.ownBlock = some k) => (HC5.out.own3.lt k e).2)
            obtain ⟨⟨n0, n1, n2, n3, n4⟩, _, _, _, _, _⟩ := cell5 hq
            have hre : Hid (ps.length = j) := hPL
            generalize hE : (readT z).1 = re at *
            generalize hX : exprR z (nameR (.mk yk ys yn yl ya) stj) = st5 at *
            have HE := Lib.hid hE
            have HX := Lib.hid hX
            clear hCS hq hE hX hn2 hn3
            obtain ⟨ek, es, en, el⟩ := re
            obtain ⟨zk, zs, zn, zl, za⟩ := z
            simp only [E.val, E.k, E.s, E.n, E.kids, T.val, T.k, T.s, T.n, T.kids, T.at_] at hN2 z0 z1 z2 z3 z4
            have HN2 := Lib.hid hN2
            clear hN2
            generalize zl.length = zm at *
            go_upto_region 17 with (fail)
            go_region_law (first
              | (refine step_append_lies _ rfl _ _ _ rfl w3.heap.size 38 iE _ 4 56 Tryz.underlying22 iE1 iE2 iE3 iE4 rfl (by decide) _ _ _ rfl (HC6.out.own2.alloc _) ⟨w6.heap.size, 0, none⟩ 1 1 (EP.cs ((.mk ek es en el : E), A6, c6)) rfl rfl (World.news_of_block (heap_alloc_new w6 _)) (by rw [← flatP_one]; exact flatP_ones _) (by decide) (maxl600 hre.out hj6) (bytes600 hre.out hj6 (by decide)) (Nat.le_trans HC6.out.size (box_below w6 _ _).size) _ rfl ?_; intro g' cap w7 hown7 hgrow hat hlt7
                 have HO7 := Lib.hid hown7
                 have HG7 : Hid (w6.grownBy w7 v2.ownBlock) := Lib.hid ((World.grownBy_alloc _ _ _).trans hgrow)
                 have hat7 : Hid ((Value.slice (some ⟨g', 0, none⟩) (ps.length + 1) cap).ownBlock = v2.ownBlock ∨ ∃ n, (Value.slice (some ⟨g', 0, none⟩) (ps.length + 1) cap).ownBlock = some n ∧ w6.heap.size ≤ n) := Lib.hid (hat.imp (fun h => h.symm) fun h => ⟨g', rfl, by rw [h]; exact (box_below w6 _ _).size⟩)
                 have HE7 := Lib.hid ((HG7.out.block w2.heap.size (Nat.lt_of_lt_of_le hs3 HC6.out.size) (fun e => hv2.out e.symm)).trans HC6.out.box)
                 obtain ⟨d0, d1, d2, d3, d4, d5, d6, d7, f0, f1, f2, f3, f4, f5, f6, f7⟩ := cell8 HE7.out
                 clear hown7 hgrow hat)
              | (go_simp; go_at_call 58; refine (HN2.out).mono ?_; rintro e w6 ⟨⟨A6, c6, rfl, hX6⟩, hod, hr6⟩
                 have HX6 := Lib.hid hX6
                 have HO6 := Lib.hid hod.undrew
                 have HC6 := Lib.hid (HC5.out.only_ HO6.out hr6 hgpb hs3)
                 have g3 : w6.cell? ⟨w2.heap.size, 2, none⟩ = some v2 := (cell8 HC6.out.box).c2
                 have g3b : (w6.alloc (.cells #[.int .i64 ek, .string es, .int .i64 en, .slice A6 el.length c6] 38)).cell? ⟨w2.heap.size, 2, none⟩ = some v2 := (World.cell?_alloc_some _ _ _ (by rw [g3]; rfl)).trans g3
                 clear hod hr6 hX6))
            all_goals
              go_wp2_with fail
              go_roundw
              case measure => exact meas_lt hlt2
              case rel => exact crel_step (A := A6) (c := c6) hxm.out HK.out HPS.out (by rw [HCS.out, HST.out, HX.out, HE.out]; exact HC6.out.step2 HG7.out HO7.out hat7.out HX6.out HC5.out.size hz2.out hz3.out hgpb hs3 (Nat.le_refl _))
        · have HMD := Lib.hid (k3_mid HML.out hj hlt2 HPS.out HC.out hbp.out hbr.out hkl hm6 hs3)
          go_wp2_with fail
          go_meet
          case rel => exact HMD.out
    · obtain ⟨x, hx⟩ : ∃ x, l[1]? = some x := ⟨_, List.getElem?_eq_getElem (by omega)⟩
      obtain ⟨y, hy⟩ : ∃ y, l[2]? = some y := ⟨_, List.getElem?_eq_getElem (by omega)⟩
      have hgw2 : g ≤ w2.heap.size := by omega
      obtain ⟨bx, ox, A1, c1, ex, hgx, x0, x1, x2, x3, x4, hcx, hKx⟩ := HK2.out.at hgw2 hx
      obtain ⟨by', oy, A2, c2, ey, hgy, y0, y1, y2, y3, y4, hcy, hKy⟩ := HK2.out.at hgw2 hy
      obtain ⟨rfl, rfl⟩ : bx = by' ∧ ox = oy := by rw [ex] at ey; injection ey with ey; injection ey with e1 e2; exact ⟨e1, e2⟩
      subst ex
      clear ey
      rw [Nat.one_mul] at x3
      have hsx := (HKS.out x (List.mem_of_getElem? hx)).len
      have hsy := (HKS.out y (List.mem_of_getElem? hy)).len
      have j3 : w2.cell? ⟨w.heap.size, 3, none⟩ = some (.slice (some ⟨bx, ox, none⟩) ln c) := (cell5 HX2.out).1.2.2.2.1
      have hgpb : g < w2.heap.size := by omega
      have q1 : w.heap.size < w2.heap.size := by omega
      have q2 : w.heap.size ≠ g := by omega
      have q3 : bx < w2.heap.size := by omega
      have q4 : bx ≠ g := by omega
      have hx6 := hsx
      have hy6 := hsy
      have HN1 := Lib.hid (fun wx hx hA => rnames_any x.kids hsx A1 c1 g st wx hx hA)
      have HN2 := Lib.hid (fun wx st' hx hA => rnames_any y.kids hsy A2 c2 g st' wx hx hA)
      have HKX := Lib.hid hKx
      have HKY := Lib.hid hKy
      have hbp : Hid (baseP 4 l = .mk 4 ⟨#[]⟩ [] [] (x.kids.map T.s) (y.kids.map T.s) [] []) := Lib.hid (by unfold baseP; rw [if_neg (by decide), if_neg (by decide), if_neg (by decide), if_pos rfl, getD_some hx, getD_some hy])
      have hbr : Hid (baseR 4 l a st = namesR y.kids (namesR x.kids st)) := Lib.hid (by unfold baseR; rw [if_neg (by decide), if_neg (by decide), if_neg (by decide), if_pos rfl, getD_some hx, getD_some hy])
      have hm1 : 1 < ln := by rw [HLN.out]; omega
      have hm2 : (1 : Int) < (ln : Int) := by omega
      have hm3 : (2 : Int) < (ln : Int) := by have := HLN.out; omega
      have hm4 : 2 < ln := by omega
      have hkl : kidsN 4 ≤ l.length := by rw [show kidsN 4 = 2 from rfl]; omega
      have HP2 : Hid (∀ wx, Only g w2 wx → wx.cell? ⟨w.heap.size, 3, none⟩ = some (.slice (some ⟨bx, ox, none⟩) ln c) ∧ wx.cell? ⟨bx, ox + 5 + 3, none⟩ = some (.slice A1 x.kids.length c1) ∧ wx.cell? ⟨bx, ox + 2 * 5 + 3, none⟩ = some (.slice A2 y.kids.length c2)) :=
        Lib.hid fun wx h => ⟨(h.cell (p := ⟨w.heap.size, 3, none⟩) q1 q2).trans j3, (h.cell (p := ⟨bx, ox + 5 + 3, none⟩) q3 q4).trans x3, (h.cell (p := ⟨bx, ox + 2 * 5 + 3, none⟩) q3 q4).trans y3⟩
      clear hx hy hcx hcy hKx hKy x0 x1 x2 x3 x4 y0 y1 y2 y3 y4 j3 h2
      generalize hxl : x.kids.length = xm at *
      generalize hyl : y.kids.length = ym at *
      have HXL := Lib.hid hxl
      have HYL := Lib.hid hyl
      clear hxl hyl
      go_upto_region 20 with (fail)
      refine wp_region_held_drew (S := fun w' => Only g w2 w') (by kernel_rfl) (HO23.out.drew) (fun hHeld => ?_)
      refine wpAnyH_take (i := 0) (v := .pointer (some ⟨g, 0, none⟩)) rfl (by kernel_rfl) (by kernel_rfl) (by kernel_rfl) (fun _ _ _ h => h) (Or.inl ⟨by rfl, fun w1' hSw => by (go_simp)⟩) (by assumption) ?_
      simp only [List.getElem_toArray, List.getElem_cons_zero, Act.put, List.setIfInBounds_toArray, List.set_cons_zero, List.set_cons_succ]
      refine wpAnyH_take (i := 1) (v := .pointer (some ⟨w.heap.size, 3, none⟩)) rfl (by kernel_rfl) (by kernel_rfl) (by kernel_rfl) (fun _ _ _ h => h) (Or.inl ⟨by rfl, fun w1' hSw => by (go_simp)⟩) (by assumption) ?_
      simp only [List.getElem_toArray, List.getElem_cons_succ, List.getElem_cons_zero, Act.put, List.setIfInBounds_toArray, List.set_cons_zero, List.set_cons_succ]
      refine wpAnyH_take (i := 2) (v := .slice (some ⟨bx, ox, none⟩) ln c) rfl (by kernel_rfl) (by kernel_rfl) (by kernel_rfl) (fun _ _ _ h => h) (Or.inl ⟨by rfl, fun w1' hSw => by (obtain ⟨r1, r2, r3⟩ := HP2.out _ hSw; go_simp)⟩) (by assumption) ?_
      simp only [List.getElem_toArray, List.getElem_cons_succ, List.getElem_cons_zero, Act.put, List.setIfInBounds_toArray, List.set_cons_zero, List.set_cons_succ]
      refine wpAnyH_take (i := 3) (v := .pointer (some ⟨bx, ox + 5, none⟩)) rfl (by kernel_rfl) (by kernel_rfl) (by kernel_rfl) (fun _ _ _ h => h) (Or.inl ⟨by rfl, fun w1' hSw => by (go_simp)⟩) (by assumption) ?_
      simp only [List.getElem_toArray, List.getElem_cons_succ, List.getElem_cons_zero, Act.put, List.setIfInBounds_toArray, List.set_cons_zero, List.set_cons_succ]
      refine wpAnyH_take (i := 4) (v := .pointer (some ⟨bx, ox + 5 + 3, none⟩)) rfl (by kernel_rfl) (by kernel_rfl) (by kernel_rfl) (fun _ _ _ h => h) (Or.inl ⟨by rfl, fun w1' hSw => by (go_simp)⟩) (by assumption) ?_
      simp only [List.getElem_toArray, List.getElem_cons_succ, List.getElem_cons_zero, Act.put, List.setIfInBounds_toArray, List.set_cons_zero, List.set_cons_succ]
      refine wpAnyH_take (i := 5) (v := .slice A1 xm c1) rfl (by kernel_rfl) (by kernel_rfl) (by kernel_rfl) (fun _ _ _ h => h) (Or.inl ⟨by rfl, fun w1' hSw => by (obtain ⟨r1, r2, r3⟩ := HP2.out _ hSw; go_simp)⟩) (by assumption) ?_
      simp only [List.getElem_toArray, List.getElem_cons_succ, List.getElem_cons_zero, Act.put, List.setIfInBounds_toArray, List.set_cons_zero, List.set_cons_succ]
      refine wpAnyH_take (i := 7) (v := .pointer (some ⟨g, 0, none⟩)) rfl (by kernel_rfl) (by kernel_rfl) (by kernel_rfl) (fun _ _ _ h => h) (Or.inl ⟨by rfl, fun w1' hSw => by (go_simp)⟩) (by assumption) ?_
      simp only [List.getElem_toArray, List.getElem_cons_succ, List.getElem_cons_zero, Act.put, List.setIfInBounds_toArray, List.set_cons_zero, List.set_cons_succ]
      refine wpAnyH_take (i := 8) (v := .pointer (some ⟨w.heap.size, 3, none⟩)) rfl (by kernel_rfl) (by kernel_rfl) (by kernel_rfl) (fun _ _ _ h => h) (Or.inl ⟨by rfl, fun w1' hSw => by (go_simp)⟩) (by assumption) ?_
      simp only [List.getElem_toArray, List.getElem_cons_succ, List.getElem_cons_zero, Act.put, List.setIfInBounds_toArray, List.set_cons_zero, List.set_cons_succ]
      refine wpAnyH_take (i := 9) (v := .slice (some ⟨bx, ox, none⟩) ln c) rfl (by kernel_rfl) (by kernel_rfl) (by kernel_rfl) (fun _ _ _ h => h) (Or.inl ⟨by rfl, fun w1' hSw => by (obtain ⟨r1, r2, r3⟩ := HP2.out _ hSw; go_simp)⟩) (by assumption) ?_
      simp only [List.getElem_toArray, List.getElem_cons_succ, List.getElem_cons_zero, Act.put, List.setIfInBounds_toArray, List.set_cons_zero, List.set_cons_succ]
      refine wpAnyH_take (i := 10) (v := .pointer (some ⟨bx, ox + 2 * 5, none⟩)) rfl (by kernel_rfl) (by kernel_rfl) (by kernel_rfl) (fun _ _ _ h => h) (Or.inl ⟨by rfl, fun w1' hSw => by (go_simp)⟩) (by assumption) ?_
      simp only [List.getElem_toArray, List.getElem_cons_succ, List.getElem_cons_zero, Act.put, List.setIfInBounds_toArray, List.set_cons_zero, List.set_cons_succ]
      refine wpAnyH_take (i := 11) (v := .pointer (some ⟨bx, ox + 2 * 5 + 3, none⟩)) rfl (by kernel_rfl) (by kernel_rfl) (by kernel_rfl) (fun _ _ _ h => h) (Or.inl ⟨by rfl, fun w1' hSw => by (go_simp)⟩) (by assumption) ?_
      simp only [List.getElem_toArray, List.getElem_cons_succ, List.getElem_cons_zero, Act.put, List.setIfInBounds_toArray, List.set_cons_zero, List.set_cons_succ]
      refine wpAnyH_take (i := 12) (v := .slice A2 ym c2) rfl (by kernel_rfl) (by kernel_rfl) (by kernel_rfl) (fun _ _ _ h => h) (Or.inl ⟨by rfl, fun w1' hSw => by (obtain ⟨r1, r2, r3⟩ := HP2.out _ hSw; go_simp)⟩) (by assumption) ?_
      simp only [List.getElem_toArray, List.getElem_cons_succ, List.getElem_cons_zero, Act.put, List.setIfInBounds_toArray, List.set_cons_zero, List.set_cons_succ]
      refine wpAnyH_ready (rs := [6]) (by kernel_rfl) (by simp) ?_
      refine AllReadyH.cons rfl (fun K hK => ?_) AllReadyH.nil
      simp only [List.getElem_toArray, List.getElem_cons_succ, List.getElem_cons_zero]
      go_simp
      refine (HN1.out w3.drew HR3.out (HKX.out.low (HO23.out.drew.below (B := g) hgw2 (Nat.le_refl _)))).mono ?_
      rintro e w4 ⟨⟨A4, c4, rfl, hc4, hL4⟩, hd4, hr4⟩
      go_wp2_with fail
      have ho4 := hd4.undrew
      have hs4 := HO23.out.trans ho4
      refine hK.out _ _ hs4 (fun hHeld => ?_)
      clear hK K hd4
      refine wpAnyH_take (i := 14) (v := .pointer (some ⟨w2.heap.size, 4, none⟩)) rfl (by kernel_rfl) (by kernel_rfl) (by kernel_rfl) (fun _ _ _ h => h) (Or.inl ⟨by rfl, fun w1' hSw => by (go_simp)⟩) (by assumption) ?_
      simp only [List.getElem_toArray, List.getElem_cons_succ, List.getElem_cons_zero, Act.put, List.setIfInBounds_toArray, List.set_cons_zero, List.set_cons_succ]
      refine wpAnyH_ready (rs := [13]) (by kernel_rfl) (by simp) ?_
      refine AllReadyH.cons rfl (fun K hK => ?_) AllReadyH.nil
      simp only [List.getElem_toArray, List.getElem_cons_succ, List.getElem_cons_zero]
      go_simp
      refine (HN2.out w4 _ hr4 (HKY.out.low (hs4.below (B := g) hgw2 (Nat.le_refl _)))).mono ?_
      rintro e w5 ⟨⟨A5, c5, rfl, hc5, hL5⟩, ho5, hr5⟩
      go_wp2_with fail
      have hs5 := hs4.trans ho5
      refine hK.out _ _ hs5 (fun hHeld => ?_)
      clear hK K
      have z4 := ho4.size
      have z5 := ho5.size
      have hp5 := (ho5.block w2.heap.size (by omega) (by omega)).trans ((ho4.block w2.heap.size (by omega) (by omega)).trans HP3.out)
      obtain ⟨d0, d1, d2, d3, d4, d5, d6, d7, f0, f1, f2, f3, f4, f5, f6, f7⟩ := cell8 hp5
      refine wpAnyH_ready (rs := [15]) (by kernel_rfl) (by simp) ?_
      refine AllReadyH.cons rfl (fun K hK => ?_) AllReadyH.nil
      simp only [List.getElem_toArray, List.getElem_cons_succ, List.getElem_cons_zero]
      go_simp
      have hs6 := hs5.setNew (p := ⟨w2.heap.size, 4, none⟩) (Nat.le_refl _) (.slice A4 xm c4)
      refine hK.out _ _ hs6 (fun hHeld => ?_)
      clear hK K d0 d1 d2 d3 d4 d5 d6 d7 f0 f1 f2 f3 f4 f5 f6 f7
      have hp6 := setNc (k := 4) (u := .slice A4 xm c4) hp5
      obtain ⟨d0, d1, d2, d3, d4, d5, d6, d7, f0, f1, f2, f3, f4, f5, f6, f7⟩ := cell8 hp6
      refine wpAnyH_take (i := 16) (v := .pointer (some ⟨w2.heap.size, 5, none⟩)) rfl (by kernel_rfl) (by kernel_rfl) (by kernel_rfl) (fun _ _ _ h => h) (Or.inl ⟨by rfl, fun w1' hSw => by (go_simp)⟩) (by assumption) ?_
      simp only [List.getElem_toArray, List.getElem_cons_succ, List.getElem_cons_zero, Act.put, List.setIfInBounds_toArray, List.set_cons_zero, List.set_cons_succ]
      refine wpAnyH_ready (rs := [17]) (by kernel_rfl) (by simp) ?_
      refine AllReadyH.cons rfl (fun K hK => ?_) AllReadyH.nil
      simp only [List.getElem_toArray, List.getElem_cons_succ, List.getElem_cons_zero]
      go_simp
      have hs7 := hs6.setNew (p := ⟨w2.heap.size, 5, none⟩) (Nat.le_refl _) (.slice A5 ym c5)
      refine hK.out _ _ hs7 (fun hHeld => ?_)
      clear hK K d0 d1 d2 d3 d4 d5 d6 d7 f0 f1 f2 f3 f4 f5 f6 f7
      have hp7 := setNc (k := 5) (u := .slice A5 ym c5) hp6
      refine wpAnyH_done (by kernel_rfl) ?_ _
      have HP7 := Lib.hid hp7
      have HS7 := Lib.hid hs7
      have HL4 := Lib.hid hL4
      have HL5 := Lib.hid hL5
      have HO4 := Lib.hid ho4
      have HO5 := Lib.hid ho5
      have HR5 := Lib.hid hr5
      clear hp7 hs7 hs6 hs5 hs4 hp5 hp6 hL4 hL5 ho4 ho5 hr4 hr5 hHeld
      go_wp2_with fail
      go_meet
      case rel => exact join_mid HL4.out HL5.out HO4.out HO5.out HR5.out HS7.out HP7.out hs3 hkl HXL.out HYL.out hgpb (by rw [HXL.out]; exact hx6) (by rw [HYL.out]; exact hy6) hbp.out hbr.out
    · obtain ⟨d0, d1, d2, d3, d4, d5, d6, d7, f0, f1, f2, f3, f4, f5, f6, f7⟩ := cell8 HP3.out
      go_wp2_with fail
      go_meet
      case rel => exact ⟨noPA, rfl, .inr rfl, by rw [show kidsN 5 = 2 from rfl]; omega, HP3.out, parts_none _ _ _ _, HO23.out, HR3.out⟩
    · obtain ⟨d0, d1, d2, d3, d4, d5, d6, d7, f0, f1, f2, f3, f4, f5, f6, f7⟩ := cell8 HP3.out
      go_wp2_with fail
      go_meet
      case rel => exact ⟨noPA, rfl, .inl rfl, by rw [show kidsN 6 = 1 from rfl]; omega, HP3.out, parts_none _ _ _ _, HO23.out, HR3.out⟩
    · have hgpb : g < w2.heap.size := Nat.lt_of_lt_of_le hlt (Nat.le_trans (Nat.le_of_lt (Nat.lt_of_succ_lt hs1)) hs2)
      obtain ⟨m, e1, y0, x, hy0, hx, hmid, q1, q2, q3, q4, q5, q6, q7, q8, q9, q10, hm6, hkl, hg3, hg3', hl1, hl2⟩ := k7_facts HLN.out h2 hc hl6 hgpb hs3
      obtain ⟨b, o, A1, c1, e9, hgb, x0, x1, x2, x3, x4, hcx, hKx⟩ := HK3.out.at hg3 hx
      subst e9
      rw [Nat.one_mul] at x3
      have hml := mid_len hmid
      have HML := Lib.hid hml
      have HMG := Lib.hid (fun j (hj : j < m) => mid_get hmid hj)
      have HGL := Lib.hid (fun j (hj : j < m) => get_lt hmid hj)
      have hsx := (HKS.out x (List.mem_of_getElem? hx)).len
      have hbp : Hid (baseP 7 l = .mk 7 ⟨#[]⟩ [] [] (x.kids.map T.s) [] ((midL l 2).map aggX) []) := Lib.hid (by unfold baseP; rw [if_neg (by decide), if_neg (by decide), if_neg (by decide), if_neg (by decide), if_pos rfl, getD_some hx]; rfl)
      have hbr : Hid (baseR 7 l a st = aggsR (midL l 2) (namesR x.kids st)) := Lib.hid (by unfold baseR; rw [if_neg (by decide), if_neg (by decide), if_neg (by decide), if_neg (by decide), if_neg (by decide), if_neg (by decide), if_pos rfl, getD_some hx])
      have HAL := Lib.hid (List.all_eq_true.1 h3)
      have hgw2 : g ≤ w2.heap.size := Nat.le_of_lt hgpb
      have HN := Lib.hid (rnames_any x.kids hsx A1 c1 g st w3 HR3.out hKx)
      generalize hmd : midL l 2 = mid at *
      clear hy0 h2 h3 hml hmid hmd x0 x1 x2 x4 hcx hKx hx
      generalize hst1 : namesR x.kids st = st1 at *
      have HST1 := Lib.hid hst1
      generalize hxs : x.kids = xs at *
      generalize hxm : xs.length = xm at *
      have HXM := Lib.hid hxm
      clear hst1 hxs hxm
      obtain ⟨iG, iG1, iG2, iG3, iG4⟩ := info_parts agg_info
      obtain ⟨d0, d1, d2, d3, d4, d5, d6, d7, f0, f1, f2, f3, f4, f5, f6, f7⟩ := cell8 HP3.out
      go_wp2_with fail
      refine (HN.out).mono ?_
      rintro e w4 ⟨⟨A5, c5, rfl, hc5, hL5⟩, ho4, hr4⟩
      have HO4 := Lib.hid ho4
      have HR4 := Lib.hid hr4
      have HL5 := Lib.hid hL5
      have hs4 := ho4.size
      have HP4 := Lib.hid ((ho4.block w2.heap.size hs3 (Nat.ne_of_gt hgpb)).trans HP3.out)
      have HX4 := Lib.hid ((Below.heap_setCell w4 ⟨w2.heap.size, 4, none⟩ (.slice A5 xm c5) w.heap.size (by show w.heap.size ≠ w2.heap.size; exact Nat.ne_of_lt (Nat.lt_of_lt_of_le (Nat.lt_of_succ_lt hs1) hs2))).trans ((ho4.block w.heap.size (Nat.lt_trans (Nat.lt_of_lt_of_le (Nat.lt_of_succ_lt hs1) hs2) hs3) (Nat.ne_of_gt hlt)).trans HX3.out))
      clear ho4 hr4 hL5 d0 d1 d2 d3 d4 d5 d6 d7 f0 f1 f2 f3 f4 f5 f6 f7 k0 k1 k2 k3 k4 x3
      obtain ⟨⟨k0, k1, k2, k3, k4⟩, _, _, _, _, _⟩ := cell5 HX4.out
      obtain ⟨d0, d1, d2, d3, d4, d5, d6, d7, f0, f1, f2, f3, f4, f5, f6, f7⟩ := cell8 HP4.out
      go_wp2_with fail
      clear q1 q2 q3 q4 q5 q6 q7 q8 q9 q10 d0 d1 d2 d3 d4 d5 d6 d7 f0 f1 f2 f3 f4 f5 f6 f7
      have hpb4 : w2.heap.size < w4.heap.size := Nat.lt_of_lt_of_le hs3 hs4
      go_loopw [120] (fun i wr => GRel g w2.heap.size w2 w4.heap.size (.slice A5 xm c5) mid st1 (w4.setCell ⟨w2.heap.size, 4, none⟩ (.slice A5 xm c5)) i wr) (fun i _ => m - (intOf i).toNat)
      case atStart => exact grel_start HP4.out (HO23.out.trans HO4.out) HR4.out hgpb (Nat.le_refl _)
      case round =>
        obtain ⟨j, v, hj, rfl, hC, hold⟩ := hrel
        rw [HML.out] at hj
        have HC := Lib.hid hC
        have HOLD := Lib.hid hold
        clear hC hold
        by_cases hlt2 : j < m
        · obtain ⟨x, hx⟩ := HGL.out j hlt2
          have hxm := Lib.hid ((HMG.out j hlt2).trans hx)
          have hag := Lib.hid (agg_two (HAL.out x (List.mem_of_getElem? hxm.out)))
          obtain ⟨A2, c2, hbg2, m0, m1, m2, m3, m4, hcx, hKx⟩ := (HK2.out.low (HC.out.only.below (B := g) hgw2 (Nat.le_refl _))).at3 hx
          have hgl := Lib.hid (cs_len (f := aggX) HML.out hj)
          have hrs := Lib.hid (aggsR_snoc hxm.out st1)
          obtain ⟨wx, ewx⟩ : ∃ wx, wx = wr.alloc (.cells #[.int .i64 x.k, .string x.s, .int .i64 x.n, .slice A2 x.kids.length c2, .int .i64 x.at_] 71) := ⟨_, rfl⟩
          have hbx : Below wr.heap.size wr wx := by rw [ewx]; exact (Below.refl _ _).alloc (Nat.le_refl _) _
          have hnx : wx.heap[wr.heap.size]? = some (.cells #[.int .i64 x.k, .string x.s, .int .i64 x.n, .slice A2 x.kids.length c2, .int .i64 x.at_] 71 (0, 0)) := by rw [ewx]; exact heap_alloc_new wr _
          have HCX := Lib.hid (HC.out.only_ (only_of_below hbx) (HC.out.rd.kept hbx) hgpb hpb4)
          have HCL := Lib.hid (ragg_any x A2 c2 g (aggsR (mid.take j) st1) wx.drew HCX.out.rd (hKx.low (hbx.drew.mono (Nat.le_trans hgw2 HC.out.only.size))) hag.out)
          have HWX := Lib.hid ewx
          have HBXX := Lib.hid hbx
          have HDX := Lib.hid (cell8 HCX.out.box).c6
          have g0 := HDX.out
          have hv6 : Hid (v.ownBlock ≠ some w2.heap.size) := Lib.hid (own_not HC.out.own hpb4)
          obtain ⟨⟨n0, n1, n2, n3, n4⟩, _, _, _, _, _⟩ := cell5 hnx
          have hj6 : j ≤ 600 := Nat.le_trans hj hm6
          clear ewx hbx hnx hx hKx hcx hbg2
          generalize hgs : (mid.take j).map aggX = gs at *
          have HGS := Lib.hid hgs
          clear hgs
          generalize hst : aggsR (mid.take j) st1 = stj at *
          have HST := Lib.hid hst
          clear hst
          generalize hax : aggV x.kids = ax at *
          have HAX := Lib.hid hax
          clear hax
          generalize hsr : aggR x.kids stj = st5 at *
          have HSR := Lib.hid hsr
          clear hsr
          obtain ⟨xk, xs', xn, xl, xa⟩ := x
          obtain ⟨an, af, ac⟩ := ax
          simp only [T.val, T.k, T.s, T.n, T.kids, T.at_] at m0 m1 m2 m3 m4 n0 n1 n2 n3 n4 HCL HWX
          generalize hxl : xl.length = xm2 at *
          clear hxl
          go_upto_region 30 with (fail)
          rw [← HWX.out]
          go_region_law (first
            | (refine step_append_lies _ rfl _ _ _ rfl w4.heap.size 46 iG _ 3 48 Tryz.underlying24 iG1 iG2 iG3 iG4 rfl (by decide) _ _ _ rfl (HC6.out.own.alloc _) ⟨w6.heap.size, 0, none⟩ 1 1 (Ag.cs ⟨an, af, ac⟩) rfl rfl (World.news_of_block (heap_alloc_new w6 _)) (by rw [← flatG_one]; exact flatG_ones _) (by decide) (maxl600 hgl.out hj6) (bytes600 hgl.out hj6 (by decide)) (Nat.le_trans HC6.out.size (box_below w6 _ _).size) _ rfl ?_; intro g' cap w7 hown7 hgrow hat hlt7
               rw [hgl.out] at hown7
               have HO7 := Lib.hid hown7
               have HG7 : Hid (w6.grownBy w7 v.ownBlock) := Lib.hid ((World.grownBy_alloc _ _ _).trans hgrow)
               have hat7 : Hid ((Value.slice (some ⟨g', 0, none⟩) (j + 1) cap).ownBlock = v.ownBlock ∨ ∃ n, (Value.slice (some ⟨g', 0, none⟩) (j + 1) cap).ownBlock = some n ∧ w6.heap.size ≤ n) := Lib.hid (hat.imp (fun h => h.symm) fun h => ⟨g', rfl, by rw [h]; exact (box_below w6 _ _).size⟩)
               have HE7 := Lib.hid ((HG7.out.block w2.heap.size (Nat.lt_of_lt_of_le hpb4 HC6.out.size) (fun e => hv6.out e.symm)).trans HC6.out.box)
               obtain ⟨d0, d1, d2, d3, d4, d5, d6, d7, f0, f1, f2, f3, f4, f5, f6, f7⟩ := cell8 HE7.out
               have hgl' := hgl.out
               clear hown7 hgrow hat)
            | (go_simp; go_at_call 60; refine (HCL.out).mono ?_; rintro e w6 ⟨rfl, hod, hr6⟩
               have HO6 := Lib.hid hod.undrew
               have HC6 := Lib.hid (HCX.out.only_ HO6.out hr6 hgpb hpb4)
               have g3 : w6.cell? ⟨w2.heap.size, 6, none⟩ = some v := (cell8 HC6.out.box).c6
               have g3b : (w6.alloc (.cells #[.string an, .string af, .string ac] 46)).cell? ⟨w2.heap.size, 6, none⟩ = some v := (World.cell?_alloc_some _ _ _ (by rw [g3]; rfl)).trans g3
               clear hod hr6))
          all_goals
            rw [hgl'] at *
            go_wp2_with fail
            go_roundw
            case measure => exact meas_lt hlt2
            case rel => exact grel_step' HGS.out HST.out HAX.out HSR.out hxm.out HC.out HOLD.out ((only_of_below HBXX.out).trans HO6.out) HC6.out HG7.out HO7.out hat7.out hgpb hpb4 (Nat.le_refl _)
        · have HMD := Lib.hid (k7_mid HML.out hj hlt2 (by rw [HST1.out]; exact HC.out) HOLD.out HL5.out HXM.out hsx hbp.out (by rw [HST1.out]; exact hbr.out) hkl hm6 hs3 hs4)
          go_wp2_with fail
          go_meet
          case rel => exact HMD.out
  case rest =>
    obtain ⟨a0, rfl, hkn, hkl, hbx, hparts, hoc, hrc⟩ := hcut
    clear hshape
    generalize hP0 : baseP kd l = p0 at *
    generalize hR0 : baseR kd l a st = st0 at *
    generalize hkk : kidsN kd = kn at *
    have hsc := hoc.size
    have hgw2 : g ≤ w2.heap.size := by omega
    have hgpb : g < w2.heap.size := by omega
    have hs1w : w.heap.size + 1 < w2.heap.size := by omega
    have hpbc : w2.heap.size < wc.heap.size := (Array.getElem?_eq_some_iff.1 hbx).1
    have HXc := Lib.hid ((hoc.block w.heap.size (by omega) (by omega)).trans HX2.out)
    have HTc := Lib.hid ((hoc.block (w.heap.size + 1) (by omega) (by omega)).trans HT2.out)
    have HKc := Lib.hid (HK2.out.low (hoc.below (B := g) (by omega) (Nat.le_refl _)))
    have HOC := Lib.hid hoc
    have HRC := Lib.hid hrc
    have HPARTS := Lib.hid hparts
    have HBX := Lib.hid hbx
    obtain ⟨y, hy⟩ : ∃ y, l[0]? = some y := ⟨_, List.getElem?_eq_getElem (by omega)⟩
    obtain ⟨b, o, _, _, e9, hgb, _⟩ := HKc.out.at (by omega) hy
    subst e9
    have hkn2 : kn ≤ ln := by rw [HLN.out]; exact hkl
    have hlnc : ln ≤ c := by rw [HLN.out]; exact hc
    obtain ⟨d, hsub, hdl, hdi, hd0, hwr, hdc, hkd2, hd⟩ := sub_facts hkn2 hkn hlnc (by rw [HLN.out]; exact hl6)
    have HD := Lib.hid hd
    have HKD2 := Lib.hid hkd2
    clear hd hkd2
    clear hoc hrc hparts hbx hy HX3 HT3 HR3 HK3 HP3 HO3 HW3 HB23 HO23 hs3 HKD HX2 k0 k1 k2 k3 k4
    obtain ⟨⟨k0, k1, k2, k3, k4⟩, _, _, _, _, _⟩ := cell5 HXc.out
    obtain ⟨i0, hi, hz0, hz1, hz2⟩ := info_parts plan_info
    go_wp2_with fail
    rw [show ln - d = kn from lnd HKD2.out, hwr]
    clear hwr hsub hdc hdi hd0
    go_loopw [140] (fun i wr => PRel g w2.heap.size w2 wc a0 p0 l d kn st0 i wr) (fun i _ => kn - (intOf i).toNat)
    case atStart =>
      refine ⟨0, [], .slice none 0 0, st0, Nat.zero_le _, rfl, rfl, HBX.out, ⟨rfl, .inl ⟨rfl, rfl⟩⟩, (fun p hp => by cases hp), HOC.out, fun _ _ _ => rfl, HRC.out, ?_, Nat.le_refl _⟩
      simp
    case round =>
      obtain ⟨j, ps, v, stj, hj, rfl, hpl, hbox, hown, hxk, ho, hold, hra, hz, hsr⟩ := hrel
      have HBOX := Lib.hid hbox
      have HOWN := Lib.hid hown
      have HXK := Lib.hid hxk
      have HO := Lib.hid ho
      have HOLD := Lib.hid hold
      have HRA := Lib.hid hra
      have HZ := Lib.hid hz
      have HPL := Lib.hid hpl
      clear hbox hown hxk ho hold hra hz hpl
      have hgwr : g ≤ wr.heap.size := Nat.le_trans hgw2 HO.out.size
      have hpbr : w2.heap.size < wr.heap.size := Nat.lt_of_lt_of_le hpbc hsr
      by_cases hlt2 : j < kn
      · obtain ⟨x, hx⟩ : ∃ x, l[d + j]? = some x := ⟨_, List.getElem?_eq_getElem (idx_lt HLN.out HKD2.out hlt2)⟩
        obtain ⟨A2, c2, hbg2, m0, m1, m2, m3, m4, hcx, hKx⟩ := (HK2.out.low (HO.out.below (B := g) hgw2 (Nat.le_refl _))).at3 hx
        obtain ⟨wx, ewx⟩ : ∃ wx, wx = wr.alloc (.cells #[.int .i64 x.k, .string x.s, .int .i64 x.n, .slice A2 x.kids.length c2, .int .i64 x.at_] 71) := ⟨_, rfl⟩
        have hbx : Below wr.heap.size wr wx := by rw [ewx]; exact (Below.refl _ _).alloc (Nat.le_refl _) _
        have hsx : wx.heap.size = wr.heap.size + 1 := by rw [ewx]; simp
        have hnx : wx.heap[wr.heap.size]? = some (.cells #[.int .i64 x.k, .string x.s, .int .i64 x.n, .slice A2 x.kids.length c2, .int .i64 x.at_] 71 (0, 0)) := by rw [ewx]; exact heap_alloc_new wr _
        have HCL := Lib.hid (HM.out x (List.mem_of_getElem? hx) (HKS.out x (List.mem_of_getElem? hx)) A2 c2 g stj wx.drew (HRA.out.kept hbx.drew) hcx (hKx.low (hbx.drew.mono hgwr)))
        have hst := Lib.hid (planL_step hx stj)
        have HWX := Lib.hid ewx
        have HBXX := Lib.hid hbx
        have HSX := Lib.hid hsx
        have HBOX2 := Lib.hid ((hbx.block w2.heap.size hpbr).trans HBOX.out)
        obtain ⟨⟨n0, n1, n2, n3, n4⟩, _, _, _, _, _⟩ := cell5 hnx
        obtain ⟨d0, d1, d2, d3, d4, d5, d6, d7, f0, f1, f2, f3, f4, f5, f6, f7⟩ := cell8 HBOX2.out
        generalize hq : planT x stj = q at *
        clear ewx hbx hnx hsx hx hKx hcx hq hbg2
        obtain ⟨xk, xs, xn, xl, xa⟩ := x
        simp only [T.val, T.k, T.s, T.n, T.kids, T.at_] at m0 m1 m2 m3 m4 HCL HWX n0 n1 n2 n3 n4
        generalize xl.length = xm at *
        have hpbx : w2.heap.size < wx.heap.size := Nat.lt_of_lt_of_le hpbr HBXX.out.size
        have hpbg : w2.heap.size ≠ g := Nat.ne_of_gt hgpb
        have hgwc : g < wc.heap.size := Nat.lt_of_le_of_lt hgw2 hpbc
        have hj6 : j ≤ 600 := j_le hlt2 hkn
        have HVT : Hid (v.ownBlock ≠ some w2.heap.size) := Lib.hid (fun e => by have := (HOWN.out.lt _ e).1; omega)
        go_upto_region 35 with (fail)
        rw [← HWX.out]
        go_region_law (first
          | (refine step_append_lies _ rfl _ _ _ rfl wc.heap.size 27 i0 _ 8 168 Tryz.underlying25 hi hz0 hz1 hz2 rfl (by decide) _ _ _ rfl (HO3.out.alloc _) ⟨w3.heap.size, 0, none⟩ 1 1 (QP.cs (q.1, aq)) rfl rfl (World.news_of_block (heap_alloc_new w3 _)) (by rw [← flatQ_one]; exact flatQ_ones _) (by decide) (maxl_le hj6) (bytes_le hj6) (Nat.le_trans hcw3 (box_below w3 _ _).size) _ rfl ?_; intro g' cap w5 hown5 hgrow hat hlt5
             have HO5 := Lib.hid hown5
             have HG5 : Hid (w3.grownBy w5 v.ownBlock) := Lib.hid ((World.grownBy_alloc _ _ _).trans hgrow)
             have hat5 : Hid ((Value.slice (some ⟨g', 0, none⟩) (j + 1) cap).ownBlock = v.ownBlock ∨ ∃ n, (Value.slice (some ⟨g', 0, none⟩) (j + 1) cap).ownBlock = some n ∧ w3.heap.size ≤ n) := Lib.hid (hat.imp (fun h => h.symm) fun h => ⟨g', rfl, by rw [h]; simp⟩)
             have HE5 := Lib.hid ((HG5.out.block w2.heap.size hpb3 (fun e => HVT.out e.symm)).trans hbx3.out)
             obtain ⟨d0, d1, d2, d3, d4, d5, d6, d7, f0, f1, f2, f3, f4, f5, f6, f7⟩ := cell8 HE5.out
             clear hown5 hgrow hat)
          | (go_simp; go_at_call 30; refine (HCL.out).mono ?_; rintro e w3 ⟨⟨aq, rfl, hX⟩, hod, hr3⟩
             simp only [P.val]
             have HX3 := Lib.hid hX
             have HO23 := Lib.hid hod.undrew
             have HR3 := Lib.hid hr3
             have HO3 := Lib.hid (own_only (own_below HOWN.out HBXX.out) HO23.out hgwc)
             have hcw3 : wc.heap.size ≤ w3.heap.size := Nat.le_trans (Nat.le_trans hsr HBXX.out.size) HO23.out.size
             have hpb3 : w2.heap.size < w3.heap.size := Nat.lt_of_lt_of_le hpbc hcw3
             have hbx3 := Lib.hid ((HO23.out.block w2.heap.size hpbx hpbg).trans HBOX2.out)
             have g3 : w3.cell? ⟨w2.heap.size, 7, none⟩ = some v := (cell8 hbx3.out).c7
             have g3b : (w3.alloc (.cells #[.int .i64 q.1.k, .string q.1.nm, .slice aq.ea q.1.ex.length aq.ec, .slice aq.ca q.1.cols.length aq.cc, .slice aq.la q.1.left.length aq.lc, .slice aq.ra q.1.right.length aq.rc, .slice aq.ga q.1.ag.length aq.gc, .slice aq.ka q.1.kids.length aq.kc] 27)).cell? ⟨w2.heap.size, 7, none⟩ = some v := (World.cell?_alloc_some _ _ _ (by rw [g3]; rfl)).trans g3
             clear hX hod hr3))
        all_goals
          go_wp2_with fail
          go_roundw
          case measure => exact meas_lt hlt2
          case rel => exact prel_step hlt2 HPL.out hpbc hgpb (Nat.le_refl _) HOWN.out HXK.out HO.out HOLD.out hsr HZ.out hst.out HBXX.out HO23.out HR3.out HX3.out HG5.out HO5.out hat5.out HE5.out
      · have hke := Lib.hid (kids_end HLN.out HKD2.out HD.out hj hlt2 HZ.out)
        have hO : wr.ownsRow wc.heap.size 27 8 v ps.length (flatQ ps) := by rw [HPL.out]; exact HOWN.out
        obtain ⟨A9, c9, rfl, hc9, hX9⟩ := own_plans hO (by rw [HPL.out]; exact kn_le (Nat.le_trans hj (Nat.le_refl _)) hkn) (S := fun k => wc.heap.size ≤ k ∧ k < wr.heap.size) (fun g u1 u2 => ⟨u1, u2⟩) (fun p hp => (HXK.out p hp).mono fun k hk => ⟨hk.1, hk.2.1⟩)
        have HX9 := Lib.hid hX9
        have HTr := Lib.hid ((HO.out.block (w.heap.size + 1) hs1w (Nat.ne_of_gt (Nat.lt_succ_of_lt hlt))).trans HT2.out)
        obtain ⟨d0, d1, d2, d3, d4, d5, d6, d7, f0, f1, f2, f3, f4, f5, f6, f7⟩ := cell8 HBOX.out
        obtain ⟨t0, t1, t2, t3, t4, t5, t6, t7, g0, g1, g2, g3, g4, g5, g6, g7⟩ := cell8 HTr.out
        clear hO hX9
        go_wp2_with fail
        refine bodyPost_ret (results_plan rfl rfl (put8_block HTr.out)) rfl ?_
        rw [hke.out]
        exact plan_end (c9 := c9) hlt hs1w (Nat.le_refl _) hpbc hsr ((only_of_below HB1.out).bel HB2.out) HO.out HOLD.out HPARTS.out HRA.out HX9.out (by rw [val_put, List.length_map])
theorem plan_any : ∀ t, PlanOk t := T.ind plan_step
end Go.Proofs.YtjhkihkiebnpaaaGreatDoor
