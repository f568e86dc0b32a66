/-
  New memory whose numbers and texts are written over, while addresses stay. No program in sight.
-/
import Derived.Test.YtajnnkapgnmoaaaGreatMs13
import Derived.Test.YtajnnkapgnmoaaaGreatMs1
import Derived.Test.YtajnnkapgnmoaaaGreatMs8
import Derived.Lib.QuietBelow
import Derived.Test.YtajnnkapgnmoaaaGreatMs37
import Derived.Test.YtajnnkapgnmoaaaGreatMs11
import Derived.Deep.RegionHeld3
set_option linter.unusedVariables false
set_option linter.unusedSimpArgs false
set_option linter.unusedVariables false
namespace Go.Proofs.YtajnnkapgnmoaaaGreat
open Go.RowKit

/-- of the same kind; addresses are the same -/
def Kin (u v : Value) : Prop := match u with
  | .string _ => ∃ s, v = .string s
  | .int k _ => ∃ n, v = .int k n
  | .complex k _ _ => ∃ x y, v = .complex k x y
  | u => v = u
theorem Kin.refl (u : Value) : Kin u u := by
  unfold Kin
  split
  · exact ⟨_, rfl⟩
  · exact ⟨_, rfl⟩
  · exact ⟨_, _, rfl⟩
  · rfl
structure Mut (B : Nat) (S : Nat → Prop) (w wr : World) : Prop where
  below : Below B w wr
  cells : ∀ k o u, k < w.heap.size → w.cell? ⟨k, o, none⟩ = some u → ∃ v, wr.cell? ⟨k, o, none⟩ = some v ∧ Kin u v
  fz : ∀ k, S k → ∀ o, wr.frozen? ⟨k, o, none⟩ = false
section
variable {B : Nat} {S : Nat → Prop} {w wr wr' : World}
theorem Mut.refl (hfz : ∀ k, S k → ∀ o, w.frozen? ⟨k, o, none⟩ = false) : Mut B S w w := ⟨Below.refl _ _, fun k o u _ h => ⟨u, h, Kin.refl u⟩, hfz⟩
theorem Mut.step (h : Mut B S w wr) (hB : B ≤ w.heap.size) (hS : ∀ k, S k → k < w.heap.size) (hb : Below wr.heap.size wr wr') : Mut B S w wr' := by
  have hs := h.below.size
  refine ⟨h.below.trans (hb.mono (by omega)), fun k o u hk hc => ?_, fun k hk o => ?_⟩
  · obtain ⟨v, h1, h2⟩ := h.cells k o u hk hc
    exact ⟨v, (hb.cell (show k < wr.heap.size by omega)).trans h1, h2⟩
  · have := hS k hk
    rw [frozen_of_block (hb.block k (by omega))]
    exact h.fz k hk o
theorem Mut.set (h : Mut B S w wr) {k o : Nat} {u : Value} (hB : B ≤ k) (hk : k < w.heap.size) (hc : w.cell? ⟨k, o, none⟩ = some u) {v : Value} (hv : Kin u v) : Mut B S w (wr.setCell ⟨k, o, none⟩ v) := by
  refine ⟨h.below.setCell (show B ≤ k from hB) v, fun k' o' u' hk' hc' => ?_, fun k' hk' o' => by simpa using h.fz k' hk' o'⟩
  by_cases e : (⟨k, o, none⟩ : Addr) = ⟨k', o', none⟩
  · rw [← e] at hc' ⊢
    rw [hc] at hc'
    obtain rfl := Option.some.inj hc'
    obtain ⟨v0, h1, _⟩ := h.cells k o u hk hc
    exact ⟨v, World.cell?_setCell_same _ _ _ h1, hv⟩
  · obtain ⟨v0, h1, h2⟩ := h.cells k' o' u' hk' hc'
    exact ⟨v0, (World.cell?_setCell_other _ _ _ _ e).trans h1, h2⟩
theorem Mut.slice (h : Mut B S w wr) {k o : Nat} {A : Option Addr} {n c : Nat} (hk : k < w.heap.size) (hc : w.cell? ⟨k, o, none⟩ = some (.slice A n c)) : wr.cell? ⟨k, o, none⟩ = some (.slice A n c) := by
  obtain ⟨v, h1, h2⟩ := h.cells k o _ hk hc
  rw [h1, show v = .slice A n c from h2]
theorem Mut.int (h : Mut B S w wr) {k o : Nat} {t : IntKind} {n : Int} (hk : k < w.heap.size) (hc : w.cell? ⟨k, o, none⟩ = some (.int t n)) : ∃ m, wr.cell? ⟨k, o, none⟩ = some (.int t m) := by
  obtain ⟨v, h1, m, h2⟩ := h.cells k o _ hk hc
  exact ⟨m, by rw [h1, h2]⟩
theorem Mut.str (h : Mut B S w wr) {k o : Nat} {s : ByteArray} (hk : k < w.heap.size) (hc : w.cell? ⟨k, o, none⟩ = some (.string s)) : ∃ m, wr.cell? ⟨k, o, none⟩ = some (.string m) := by
  obtain ⟨v, h1, m, h2⟩ := h.cells k o _ hk hc
  exact ⟨m, by rw [h1, h2]⟩
theorem Mut.com (h : Mut B S w wr) {k o : Nat} {z : Int} (hk : k < w.heap.size) (hc : w.cell? ⟨k, o, none⟩ = some (tal z)) : ∃ x y, wr.cell? ⟨k, o, none⟩ = some (.complex .f64 x y) := by
  obtain ⟨v, h1, x, y, h2⟩ := h.cells k o _ hk hc
  exact ⟨x, y, by rw [h1, h2]⟩
end
theorem tellB_ok {a b a' b' : List It} {l : List Ch} (ha : KeysOk 200 (st a b)) (hb : KeysOk 208 (st a' b')) : ∀ d ∈ tellK a b a' b' l, SetOk d.2 ∧ vol d.2 ≤ 900 := by
  have hsa := ha.keys (nmU, uC, a) (by simp [st])
  have hsb := ha.keys (nmT, tC, b) (by simp [st])
  have hva := hb.keys (nmU, uC, a') (by simp [st])
  have hvb := hb.keys (nmT, tC, b') (by simp [st])
  intro d hd
  unfold tellK at hd
  have f1 : SetOk (sumS a' (flipS a)) ∧ ∀ q, look (sumS a' (flipS a)) q = look a' q + look (flipS a) q := sumS_both hva.set hsa.set.flip
  have f2 : SetOk (sumS b' (flipS b)) ∧ ∀ q, look (sumS b' (flipS b)) q = look b' q + look (flipS b) q := sumS_both hvb.set hsb.set.flip
  have v1 := SetOk.vol_le f1.1.toOrd (l := a' ++ flipS a) (fun q => by rw [f1.2, look_append])
  have v2 := SetOk.vol_le f2.1.toOrd (l := b' ++ flipS b) (fun q => by rw [f2.2, look_append])
  rw [vol_append, vol_flip] at v1 v2
  have x1 := hva.vol
  have x2 := hvb.vol
  have x3 := hsa.vol
  have x4 := hsb.vol
  dsimp only at x1 x2 x3 x4
  rcases List.mem_append.1 hd with hd | hd
  · split at hd
    · rw [List.mem_singleton.1 hd]; exact ⟨f2.1, by dsimp only; omega⟩
    · simp at hd
  · split at hd
    · rw [List.mem_singleton.1 hd]; exact ⟨f1.1, by dsimp only; omega⟩
    · simp at hd
/-- where an item and its row's first value lie -/
def ItemAt (w : World) (S : Nat → Prop) (A : Option Addr) (i : Nat) (x : IM) : Prop := ∃ bX oX b9 o9, A = some ⟨bX, oX, none⟩ ∧ S bX ∧ w.cell? ⟨bX, oX + i * 2, none⟩ = some (.slice (some ⟨b9, o9, none⟩) x.r.length x.c) ∧ w.cell? ⟨bX, oX + i * 2 + 1, none⟩ = some (tal x.k) ∧ S b9 ∧ 0 < x.r.length ∧
  (∃ n, w.cell? ⟨b9, o9, none⟩ = some (.int .i64 n)) ∧ (∃ n, w.cell? ⟨b9, o9 + 1, none⟩ = some (.int .i64 n)) ∧ ∃ s, w.cell? ⟨b9, o9 + 2, none⟩ = some (.string s)
theorem item_at {w : World} {S : Nat → Prop} {A : Option Addr} {l : List IM} (h : SRow w S A l) (hr : ∀ x ∈ l, rowOk x.r = true) : ∀ i x, l[i]? = some x → ItemAt w S A i x := fun i x hx => by
  have hm := List.mem_of_getElem? hx
  obtain ⟨bX, oX, hA, hS, c0, c1⟩ := h.get hx
  have hl := (rowOk_len (hr x hm)).1
  rcases h.rows x hm with h0 | ⟨b9, o9, hA9, hS9, hv⟩
  · rw [h0] at hl; simp at hl
  · obtain ⟨y, hy⟩ : ∃ y, x.r[0]? = some y := ⟨_, List.getElem?_eq_getElem hl⟩
    obtain ⟨d1, d2, d3⟩ := hv 0 y hy
    rw [hA9] at c0
    refine ⟨bX, oX, b9, o9, hA, hS, c0, c1, hS9, hl, ⟨y.k, ?_⟩, ⟨y.n, ?_⟩, ⟨y.s, ?_⟩⟩
    · simpa using d1
    · simpa using d2
    · simpa using d3
theorem wp_store_three {op : Oper} {a : Act} {w : World} {K : Act → World → Prop} {Q : Exit → Act → World → Prop} {p v : Nat} (ho : op.op = .store 49 (.tmp p) (.tmp v)) {b o : Nat} {x y : Int} {z : ByteArray} {u1 u2 u3 : Value}
    (hp : a.tmps.getD p undef = .pointer (some ⟨b, o, none⟩)) (hv : a.tmps.getD v undef = .agg #[.int .i64 x, .int .i64 y, .string z])
    (c1 : w.cell? ⟨b, o, none⟩ = some u1) (c2 : w.cell? ⟨b, o + 1, none⟩ = some u2) (c3 : w.cell? ⟨b, o + 2, none⟩ = some u3)
    (f1 : w.frozen? ⟨b, o, none⟩ = false) (f2 : w.frozen? ⟨b, o + 1, none⟩ = false) (f3 : w.frozen? ⟨b, o + 2, none⟩ = false)
    (hK : K (a.put op.dst undef) (((w.setCell ⟨b, o, none⟩ (.int .i64 x)).setCell ⟨b, o + 1, none⟩ (.int .i64 y)).setCell ⟨b, o + 2, none⟩ (.string z))) : op.wp Tryz.prog a w K Q := by
  have e1 : a.eval (.tmp p) = .pointer (some ⟨b, o, none⟩) := hp
  have e2 : a.eval (.tmp v) = .agg #[.int .i64 x, .int .i64 y, .string z] := hv
  unfold Oper.wp execOp
  simp only [ho, e1, e2]
  clear e1 e2 hp hv ho
  go_simp
  exact hK
end Go.Proofs.YtajnnkapgnmoaaaGreat
/-
  Package confluencekeep: Set, at two sets that are the same.
-/
set_option linter.unusedVariables false
set_option linter.unusedSimpArgs false
namespace Go.Proofs.YtajnnkapgnmoaaaGreat
open Go.RowKit Go.Sort

set_option maxHeartbeats 4000000 in
set_option maxRecDepth 100000 in
theorem keepSet_same (A B : Option Addr) (c d : Nat) (l m : List IM) (w : World) {S : Nat → Prop} (hA : SRow w S A l) (hB : SRow w S B m) (hS : ∀ k, S k → k < w.heap.size) (hl : l.length ≤ 1073741824) (ho : SOk l) (he : its l = its m) :
    Calls Tryz.prog 15 #[.slice A l.length c, .slice B m.length d] w fun e w' => e = .returned (.bool true) ∧ Below w.heap.size w w' := by
  have mixed : Tryz.prog.follows .mixedOrders = true := by kernel_rfl
  have hlen : m.length = l.length := by have := congrArg List.length he; rw [its_len, its_len] at this; exact this.symm
  obtain ⟨n, hn⟩ : ∃ n, l.length = n := ⟨_, rfl⟩
  have HN := Lib.hid hn
  rw [hn] at hlen
  have HM := Lib.hid hlen
  have HA := Lib.hid hA
  have HB0 := Lib.hid hB
  have HS := Lib.hid hS
  have HO := Lib.hid ho
  have HE := Lib.hid he
  rw [hn] at hl ⊢
  rw [hlen]
  clear hA hB hS ho he hn hlen
  have hnn : ((n : Int) == (n : Int)) = true := beq_self_eq_true _
  go_enter Tryz.func15, Tryz.ntmps15
  go_wp2_with fail
  go_loopw [5] (fun i wr => ∃ k : Nat, k ≤ n ∧ i = .int .i64 k ∧ Below w.heap.size w wr) (fun i _ => n - (intOf i).toNat)
  case atStart => exact ⟨0, Nat.zero_le _, rfl, Below.refl _ _⟩
  case round =>
    obtain ⟨k, hk, rfl, hb⟩ := hrel
    have HB := Lib.hid hb
    have hs := hb.size
    clear hb
    by_cases hlt : k < n
    · obtain ⟨x, hx⟩ : ∃ x, l[k]? = some x := ⟨_, List.getElem?_eq_getElem (by rw [HN.out]; exact hlt)⟩
      obtain ⟨y, hy⟩ : ∃ y, m[k]? = some y := ⟨_, List.getElem?_eq_getElem (by rw [HM.out]; exact hlt)⟩
      have hxy : x.it = y.it := by
        have h1 : (its l)[k]? = some x.it := by unfold its; rw [List.getElem?_map, hx]; rfl
        have h2 : (its m)[k]? = some y.it := by unfold its; rw [List.getElem?_map, hy]; rfl
        rw [HE.out, h2] at h1
        exact (Option.some.inj h1).symm
      have er : y.r = x.r := (congrArg Prod.fst hxy).symm
      have ek : y.k = x.k := (congrArg Prod.snd hxy).symm
      obtain ⟨b, off, rfl, _, p0, p1⟩ := (HA.out.below HB.out HS.out).get hx
      obtain ⟨b2, off2, rfl, _, p2, p3⟩ := (HB0.out.below HB.out HS.out).get hy
      have hmx := List.mem_of_getElem? hx
      have hmy := List.mem_of_getElem? hy
      have hok := HO.out.row hmx
      have hx6 := (rowOk_len hok).2
      have hkN := HO.out.okN hmx
      rw [er] at p2
      rw [ek] at p3
      have hq := Lib.hid (fun w1 (hb : Below w.heap.size w w1) => keepRow_any x.A y.A x.c y.c x.r x.r (by omega) (by omega) w1 ((((HA.out.rows x hmx).to HS.out).below hb).more hb.size) (by have := (((HB0.out.rows y hmy).to HS.out).below hb).more hb.size; rw [er] at this; exact this))
      rw [show eqR x.r x.r = true from (eqR_iff _ _).2 rfl] at hq
      have q2 : ∀ w1, (binOp .neq 45 (tal x.k) (tal x.k)).run Tryz.prog w1 = .ok (.bool false) w1 := fun w1 => by
        rw [run_ne_tal hkN hkN, decide_eq_true rfl]; rfl
      have hgz2 := fun op t x' y' v => eqGuard_at_tal op t x' y' x.k v
      obtain ⟨xA, xc, xr, xk⟩ := x
      obtain ⟨yA, yc, yr, yk⟩ := y
      dsimp only at p0 p1 p2 p3 hq q2 hgz2
      generalize tal xk = T at p1 p3 q2 hgz2
      generalize xr.length = xn at p0 p2 hq
      have e0 := fun d os => cell_regrown p0 d os
      have e1 := fun d os => cell_regrown p1 d os
      have e2 := fun d os => cell_regrown p2 d os
      have e3 := fun d os => cell_regrown p3 d os
      have C1 := Lib.hid (fun d os => Calls.regrown_of (hq.out _ (HB.out.trans ((below_regrown wr d os).mono hs))))
      have hk0 : (0 : Int) ≤ (k : Int) := by omega
      have hk1 : (k : Int) < (n : Int) := by omega
      clear hx hy hxy er ek p0 p1 p2 p3 hmx hmy hok hx6 hkN hq
      go_upto_region 6 with (fail)
      refine wp_region_quiet_below (by assumption) (by kernel_rfl) ?_
      iterate 10 (quiet_step (first | (fail)))
      quiet_step (first | (go_at_call 38; exact C1.out _ _))
      iterate 14 (quiet_step (first | (fail)))
      refine wpQuiet_nil ?_
      intro _ hw'
      obtain ⟨⟨nq, osq⟩, hw''⟩ := hw'
      subst hw''
      have HB2 := Lib.hid (HB.out.trans ((below_regrown wr nq osq).mono hs))
      clear e0 e1 e2 e3 C1
      generalize grow (redrawn wr nq) osq = wf at HB2 ⊢
      go_wp2_with fail
      go_roundw
      case rel => exact ⟨k + 1, by omega, by go_num, HB2.out⟩
      case measure => simp [intOf]; omega
    · obtain rfl : k = n := by omega
      go_wp2_with fail
      go_ret
      exact ⟨rfl, HB.out⟩
end Go.Proofs.YtajnnkapgnmoaaaGreat
/-
  law 16's BatchKept.
-/
set_option linter.unusedVariables false
set_option linter.unusedSimpArgs false
namespace Go.Proofs.YtajnnkapgnmoaaaGreat
open Go.RowKit

def bkDs (n : Nat) : List (Option Tmp) := [some n, some (n + 1), some (n + 2), some (n + 3), some (n + 4), some (n + 5), some (n + 6), some (n + 7), some (n + 8), some (n + 9), some (n + 10), none]
def bkMs : List Nat := [0, 0, 3, 7, 15, 0, 63, 127, 255, 0, 1023, 2047]
def bkR (V : List Value) (i : Nat) (v : Value) (w : World) : Prop := v = V.getD i undef
theorem bkR_mono (V : List Value) : ∀ i v w w', Below w.heap.size w w' → bkR V i v w → bkR V i v w' := fun _ _ _ _ _ h => h
set_option maxHeartbeats 8000000 in
set_option maxRecDepth 100000 in
theorem batchKept_any (A B : Option Addr) (c d : Nat) (l0 l1 : List CM) (W : World) (h0 : ChIn W A l0) (h1 : ChIn W B l1) :
    Calls Tryz.prog 4 #[.slice A l0.length c, .slice B l1.length d] W fun e w' => e = .returned (.bool true) ∧ Below W.heap.size W w' := by
  obtain ⟨i2, hi, hz0, hz1, hz2⟩ := info_parts change_info
  have mixed : Tryz.prog.follows .mixedOrders = true := by kernel_rfl
  have H1 := Lib.hid h1
  have HT0 := Lib.hid (fun w1 (hb : Below W.heap.size W w1) => h0.tables hb 3 (by omega) (by omega) c)
  have hkn := Lib.hid (fun w3 => known16 w3)
  obtain ⟨n1, hn1⟩ : ∃ n1, l1.length = n1 := ⟨_, rfl⟩
  have HN1 := Lib.hid hn1
  have hn1b := h1.len
  rw [hn1] at hn1b ⊢
  obtain ⟨n0, hn0⟩ : ∃ n0, l0.length = n0 := ⟨_, rfl⟩
  rw [hn0] at HT0 ⊢
  clear h0 h1 hn1 hn0
  go_enter Tryz.func4, Tryz.ntmps4
  go_wp2_with fail
  refine (HT0.out W (Below.refl _ _)).mono ?_
  rintro e w1 ⟨⟨v, rfl, hT⟩, hb1⟩
  obtain ⟨g, t0, t1, rfl, hTR, k0, k1⟩ := hT.get
  have HTR := Lib.hid hTR
  have HK0 := Lib.hid k0
  have HK1 := Lib.hid k1
  have HB1 := Lib.hid hb1
  have hs1 := hb1.size
  clear hT hTR k0 k1 hb1
  go_wp2_with fail
  refine (HT0.out w1 HB1.out).mono ?_
  rintro e wb ⟨⟨v, rfl, hT⟩, hbb⟩
  obtain ⟨gm, v0, v1, rfl, hTR, k0, k1⟩ := hT.get
  have HTM2 := Lib.hid hTR
  have HK2 := Lib.hid k0
  have HK3 := Lib.hid k1
  have HBB : Hid (Below W.heap.size W wb) := Lib.hid (HB1.out.trans (hbb.mono hs1))
  have HBB1 := Lib.hid hbb
  have hsb := HBB.out.size
  have hsb1 := hbb.size
  clear hT hTR k0 k1 hbb HT0
  go_wp2_with fail
  go_loopw [7, 8] (fun v i wr => ∃ (k : Nat) (sl : List CM), k ≤ n1 ∧ k ≤ 8 ∧ i = .int .i64 k ∧ wr.ownsRow wb.heap.size 28 3 v sl.length (flatK sl) ∧ Below wb.heap.size wb wr ∧ Hid (∀ x ∈ sl, VRowS wr (fun g => NewS wb wr g ∧ v.ownBlock ≠ some g) x.A x.r) ∧ Hid (sl.map CM.ch = (l1.take k).map fun x => tameC x x.rem) ∧ sl.length = k) (fun _ i _ => n1 - (intOf i).toNat)
  case atStart => exact ⟨0, [], Nat.zero_le _, Nat.zero_le _, rfl, World.ownsRow_nil _ _ _ _, Below.refl _ _, Lib.hid (fun x hx => by simp at hx), Lib.hid rfl, rfl⟩
  case round =>
    rename World => wo
    obtain ⟨k, sl, hk, hk8, rfl, ho, hb, HSR, HSL, hsl⟩ := hrel
    have HO := Lib.hid ho
    have HB := Lib.hid hb
    have hs := hb.size
    clear ho hb
    go_upto_region 5 with (fail)
    go_cut [28] (fun sb wx => sb = .bool (decide (k < n1) && decide (k < 8)) ∧ wo = wx)
    case first =>
      by_cases h1 : k < n1
      · by_cases h2 : k < 8
        · have d1 : decide ((k : Int) < (n1 : Int)) = true := decide_eq_true (by omega)
          have d2 : decide ((k : Int) < 8) = true := decide_eq_true (by omega)
          have d3 : decide (k < n1) = true := decide_eq_true h1
          have d4 : decide (k < 8) = true := decide_eq_true h2
          go_wp2_with fail
          go_meet
          exact ⟨by rw [d3, d4]; rfl, rfl⟩
        · have d1 : decide ((k : Int) < (n1 : Int)) = true := decide_eq_true (by omega)
          have d2 : decide ((k : Int) < 8) = false := decide_eq_false (by omega)
          have d3 : decide (k < n1) = true := decide_eq_true h1
          have d4 : decide (k < 8) = false := decide_eq_false h2
          go_wp2_with fail
          go_meet
          exact ⟨by rw [d3, d4]; rfl, rfl⟩
      · have d1 : decide ((k : Int) < (n1 : Int)) = false := decide_eq_false (by omega)
        have d3 : decide (k < n1) = false := decide_eq_false h1
        go_wp2_with fail
        go_meet
        exact ⟨by rw [d3, Bool.false_and], rfl⟩
    case rest =>
    obtain ⟨rfl, rfl⟩ := hcut
    obtain ⟨q, hq⟩ : ∃ q, (decide (k < n1) && decide (k < 8)) = q := ⟨_, rfl⟩
    rw [hq]
    cases q
    case true =>
      have hlt := of_decide_eq_true (Bool.and_eq_true_iff.1 hq).1
      have hlt2 := of_decide_eq_true (Bool.and_eq_true_iff.1 hq).2
      clear hq
      obtain ⟨x, hx⟩ : ∃ x, l1[k]? = some x := ⟨_, List.getElem?_eq_getElem (by rw [HN1.out]; exact hlt)⟩
      have HBW : Hid (Below W.heap.size W wo) := Lib.hid (HBB.out.trans (HB.out.mono hsb))
      obtain ⟨b, off, rfl, hSb, hc1, hc2, hc3⟩ := (H1.out.row.below HBW.out (fun k hk => hk)).get hx
      have hm := List.mem_of_getElem? hx
      have HTM := Lib.hid (fun w1 (hb : Below W.heap.size W w1) => H1.out.tame hm hb)
      have HSL2 : Hid (sl.map CM.ch ++ [tameC x x.rem] = (l1.take (k + 1)).map fun x => tameC x x.rem) := Lib.hid (by
        obtain ⟨h1, e1⟩ := List.getElem?_eq_some_iff.1 hx
        rw [List.take_succ_eq_append_getElem h1, List.map_append, e1, ← HSL.out]
        rfl)
      obtain ⟨xnm, xA, xc, xr, xrem⟩ := x
      dsimp only [tameC] at hc1 hc2 hc3 HTM HSL2
      unfold TameRet at HTM
      obtain ⟨K, hK⟩ : ∃ K, tameK xnm xr = K := ⟨_, rfl⟩
      have hK3 := tameK_len xnm xr
      rw [hK] at HTM HSL2 hK3
      obtain ⟨xn, hxn⟩ : ∃ xn, xr.length = xn := ⟨_, rfl⟩
      rw [hxn] at hc2 HTM
      obtain ⟨nm', r'⟩ := K
      dsimp only at HTM HSL2 hK3
      obtain ⟨rn, hrn⟩ : ∃ rn, r'.length = rn := ⟨_, rfl⟩
      have HRN := Lib.hid hrn
      rw [hrn] at HTM hK3
      clear hx hm hSb hK hxn hrn HSL
      go_wp2_with fail
      refine (HTM.out _ HBW.out).mono ?_
      rintro e w4 ⟨g4, rfl, hg4, hcells, hb4⟩
      have HB4 := Lib.hid hb4
      have hs4 := hb4.size
      have HCE := Lib.hid hcells
      clear hb4 hcells HTM
      go_wp2_with (at_builtin; refine wpList_append_any _ rfl _ _ 22 rfl wb.heap.size 28 i2 _ 3 48 Tryz.underlying22 hi hz0 hz1 hz2 rfl (by decide) _ _ _ rfl ((ownM_below HO.out HB4.out).alloc _) (w4.heap.size + 1) _ _ _ [.string nm', .slice (some ⟨g4, 0, none⟩) rn rn, .bool xrem] rfl ⟨rfl, fun _ => ⟨_, rfl, Nat.lt_succ_self _, World.news_of_block (heap_alloc_new w4 _)⟩⟩ ?c1 ?c2 ?c3 ?c4 ?_)
      case c1 => intro u hu; simp only [List.mem_cons, List.not_mem_nil, or_false] at hu; rcases hu with rfl | rfl | rfl <;> rfl
      case c2 => unfold maxLen; omega
      case c3 => omega
      case c4 => simp; omega
      intro v' w5 hown' hgrow hat
      obtain ⟨x', ex'⟩ : ∃ x' : CM, x' = ⟨nm', some ⟨g4, 0, none⟩, rn, r', xrem⟩ := ⟨_, rfl⟩
      have hg4s : g4 < w4.heap.size := (Array.getElem?_eq_some_iff.1 HCE.out).1
      have hxr : VRowS w4 (NewS wo w4) (toI x').A (toI x').r := by
        rw [ex']
        have hbk : Blk w4 g4 49 (flat r').toArray := HCE.out
        exact vals_of_blk hbk ⟨hg4, hg4s, fun o => Blk.frozen hbk o⟩
      obtain ⟨q1, q2⟩ := snoc_items (w2 := wb) (wc := wo) (u := u7) (v' := v') (ol := sl.map toI) (x' := toI x') (fun z hz => by
        obtain ⟨y, hy, rfl⟩ := List.mem_map.1 hz
        exact HSR.out y hy) (fun g h => HO.out.lt g h) hs HB.out HB4.out (Nat.le_refl _) hxr _ hgrow (by simpa using hat)
      have HO5 : Hid (w5.ownsRow wb.heap.size 28 3 v' (sl ++ [x']).length (flatK (sl ++ [x']))) := Lib.hid (by
        rw [flatK_append, flatK_one, List.length_append, ex', hsl]
        simp only [CM.cs, HRN.out]
        exact hown')
      have HSR5 : Hid (∀ x ∈ sl ++ [x'], VRowS w5 (fun g => NewS wb w5 g ∧ v'.ownBlock ≠ some g) x.A x.r) := Lib.hid (fun y hy => by
        refine q1 (toI y) ?_
        rcases List.mem_append.1 hy with hy | hy
        · exact List.mem_append_left _ (List.mem_map.2 ⟨y, hy, rfl⟩)
        · rw [List.mem_singleton.1 hy]; exact List.mem_append_right _ (by simp))
      have HSL5 : Hid ((sl ++ [x']).map CM.ch = (l1.take (k + 1)).map fun x => tameC x x.rem) := Lib.hid (by
        rw [List.map_append, ex']
        exact HSL2.out)
      have HB5 := Lib.hid q2
      have hsl5 : (sl ++ [x']).length = k + 1 := by rw [List.length_append, hsl]; rfl
      generalize sl ++ [x'] = sl5 at HO5 HSR5 HSL5 hsl5
      clear hown' hgrow hat hxr q1 q2 ex' HCE HB4 HO HB HSR HSL2
      go_wp2_with fail
      go_roundw
      case rel => exact ⟨k + 1, sl5, by omega, by omega, by go_num, HO5.out, HB5.out, HSR5, HSL5, hsl5⟩
      case measure => simp [intOf]; omega
    · have hkl : k = 8 ∨ k = n1 := by
        have h1 := Bool.and_eq_false_iff.1 hq
        rcases h1 with h1 | h1
        · have := of_decide_eq_false h1; omega
        · have := of_decide_eq_false h1; omega
      clear hq
      have htk : l1.take k = l1.take 8 := by
        rcases hkl with h | h
        · rw [h]
        · rw [List.take_of_length_le (by rw [HN1.out]; omega), List.take_of_length_le (by rw [HN1.out]; omega)]
      obtain ⟨LS, hLS⟩ : ∃ LS, ((l1.take 8).map fun x => tameC x x.rem) = LS := ⟨_, rfl⟩
      have hsm : sl.map CM.ch = LS := by rw [← hLS, ← htk]; exact HSL.out
      have hg : ∀ c ∈ LS, GoodC c := fun c hc => by
        rw [← hLS] at hc
        obtain ⟨x, _, rfl⟩ := List.mem_map.1 hc
        exact tameC_good x x.rem
      have hLl : LS.length = k := by rw [← hsm, List.length_map, hsl]
      obtain ⟨a, ha⟩ : ∃ a, setOf (partU ((l0.map CM.ch).take 20) ++ moreU 3) = a := ⟨_, rfl⟩
      obtain ⟨b, hb⟩ : ∃ b, setOf (partT ((l0.map CM.ch).take 20)) = b := ⟨_, rfl⟩
      have hks : [t0, t1].map TM.key = st a b := by
        simp only [List.map_cons, List.map_nil, HK0.out, HK1.out, ha, hb]
        rfl
      have hkok : KeysOk 200 (st a b) := by
        have := KeysOk_tabs 3 (by omega) (l0.map CM.ch)
        unfold tabsK at this
        rw [ha, hb] at this
        exact this
      have hsa := hkok.keys (nmU, uC, a) (by simp [st])
      have hsb' := hkok.keys (nmT, tC, b) (by simp [st])
      obtain ⟨A6, c6, rfl, hc6, hS6⟩ := own_chs (S := fun g => NewS wb wo g) HO.out (fun g h1 h2 h3 => ⟨h1, h2, h3⟩) (fun x hx => (HSR.out x hx).mono fun g hg => hg.1)
      have hB1o : Below w1.heap.size w1 wo := HBB1.out.trans (HB.out.mono hsb1)
      have HT2 : Hid (TRow wo (fun k => k < wo.heap.size) (some ⟨g, 0, none⟩) [t0, t1]) := Lib.hid ((HTR.out.below hB1o (fun k hk => hk.2)).mono fun k hk => Nat.lt_of_lt_of_le hk.2 hB1o.size)
      have HT3 : Hid (TRow wo (fun k => k < wo.heap.size) (some ⟨gm, 0, none⟩) [v0, v1]) := Lib.hid ((HTM2.out.below HB.out (fun k hk => hk.2)).mono fun k hk => Nat.lt_of_lt_of_le hk.2 hs)
      have hap := bapply_any (some ⟨g, 0, none⟩) A6 2 c6 [t0, t1] sl wo (S := fun k => k < wo.heap.size) HT2.out (fun k hk => hk) (by rw [hks]; exact hkok.more (by omega)) (by simp) (hS6.mono fun g h => h.2.1) (by omega) (fun x hx => by
        have : x.ch ∈ LS := by rw [← hsm]; exact List.mem_map.2 ⟨x, hx, rfl⟩
        have := (rowOk_len (good_rowOk (hg _ this))).2
        have e : x.ch.r = x.r := rfl
        rw [e] at this
        omega)
      rw [hks, hsm, hsl] at hap
      have hap2 : Calls Tryz.prog 13 #[.slice (some ⟨g, 0, none⟩) 2 2, .slice A6 k c6] wo _ := hap
      have HAP := Lib.hid hap2
      have HWB : Hid (Below W.heap.size W wo) := Lib.hid (HBB.out.trans (HB.out.mono hsb))
      have hws := HWB.out.size
      have HCASE := Lib.hid (apply_good (a := a) (b := b) (l := LS) (by omega) hg hkok)
      have ea0 : its t0.rows = a := by have := congrArg (fun k : Key => k.2.2) HK0.out; dsimp only [TM.key] at this; rw [this, ha]
      have ea1 : its t1.rows = b := by have := congrArg (fun k : Key => k.2.2) HK1.out; dsimp only [TM.key] at this; rw [this, hb]
      have ev0 : its v0.rows = a := by have := congrArg (fun k : Key => k.2.2) HK2.out; dsimp only [TM.key] at this; rw [this, ha]
      have ev1 : its v1.rows = b := by have := congrArg (fun k : Key => k.2.2) HK3.out; dsimp only [TM.key] at this; rw [this, hb]
      obtain ⟨b30, o30, e30, hg0, _, _, z2⟩ := HT2.out.get (i := 0) rfl
      obtain ⟨rfl, rfl⟩ : g = b30 ∧ 0 = o30 := by simpa using e30
      obtain ⟨b31, o31, e31, _, _, _, z5⟩ := HT2.out.get (i := 1) rfl
      obtain ⟨rfl, rfl⟩ : g = b31 ∧ 0 = o31 := by simpa using e31
      obtain ⟨b32, o32, e32, hg1, _, _, y2⟩ := HT3.out.get (i := 0) rfl
      obtain ⟨rfl, rfl⟩ : gm = b32 ∧ 0 = o32 := by simpa using e32
      obtain ⟨b33, o33, e33, _, _, _, y5⟩ := HT3.out.get (i := 1) rfl
      obtain ⟨rfl, rfl⟩ : gm = b33 ∧ 0 = o33 := by simpa using e33
      simp only [Nat.zero_mul, Nat.zero_add, Nat.one_mul, Nat.reduceMul, Nat.reduceAdd] at z2 z5 y2 y5
      obtain ⟨m0, hm0⟩ : ∃ m0, t0.rows.length = m0 := ⟨_, rfl⟩
      obtain ⟨m1, hm1⟩ : ∃ m1, t1.rows.length = m1 := ⟨_, rfl⟩
      obtain ⟨m2, hm2⟩ : ∃ m2, v0.rows.length = m2 := ⟨_, rfl⟩
      obtain ⟨m3, hm3⟩ : ∃ m3, v1.rows.length = m3 := ⟨_, rfl⟩
      have va := hsa.vol
      have vb := hsb'.vol
      have la := len_vol hsa.set.nets
      have lb := len_vol hsb'.set.nets
      dsimp only at va vb la lb
      have HFIN : Hid (∀ wz, Below wo.heap.size wo wz → (wz.cell? ⟨g, 2, none⟩ = some (.slice t0.rA m0 t0.rc) ∧ wz.cell? ⟨g, 5, none⟩ = some (.slice t1.rA m1 t1.rc) ∧ wz.cell? ⟨gm, 2, none⟩ = some (.slice v0.rA m2 v0.rc) ∧ wz.cell? ⟨gm, 5, none⟩ = some (.slice v1.rA m3 v1.rc)) ∧
          Calls Tryz.prog 15 #[.slice t0.rA m0 t0.rc, .slice v0.rA m2 v0.rc] wz (fun e w' => e = .returned (.bool true) ∧ Below wz.heap.size wz w') ∧
          Calls Tryz.prog 15 #[.slice t1.rA m1 t1.rc, .slice v1.rA m3 v1.rc] wz (fun e w' => e = .returned (.bool true) ∧ Below wz.heap.size wz w')) := Lib.hid (fun wz hz => by
        rw [← hm0, ← hm1, ← hm2, ← hm3]
        refine ⟨⟨(hz.cell hg0).trans z2, (hz.cell hg0).trans z5, (hz.cell hg1).trans y2, (hz.cell hg1).trans y5⟩, ?_, ?_⟩
        · exact keepSet_same t0.rA v0.rA t0.rc v0.rc t0.rows v0.rows wz (S := fun k => k < wz.heap.size) (((HT2.out.rows t0 (by simp)).below hz (fun k hk => hk)).mono fun k hk => Nat.lt_of_lt_of_le hk hz.size) (((HT3.out.rows v0 (by simp)).below hz (fun k hk => hk)).mono fun k hk => Nat.lt_of_lt_of_le hk hz.size) (fun k hk => hk) (by rw [← ea0, its_len] at la; rw [ea0] at la; omega) ⟨by rw [ea0]; exact hsa.set, by rw [ea0]; omega⟩ (ea0.trans ev0.symm)
        · exact keepSet_same t1.rA v1.rA t1.rc v1.rc t1.rows v1.rows wz (S := fun k => k < wz.heap.size) (((HT2.out.rows t1 (by simp)).below hz (fun k hk => hk)).mono fun k hk => Nat.lt_of_lt_of_le hk hz.size) (((HT3.out.rows v1 (by simp)).below hz (fun k hk => hk)).mono fun k hk => Nat.lt_of_lt_of_le hk hz.size) (fun k hk => hk) (by rw [← ea1, its_len] at lb; rw [ea1] at lb; omega) ⟨by rw [ea1]; exact hsb'.set, by rw [ea1]; omega⟩ (ea1.trans ev1.symm))
      have HTK := Lib.hid (fun (a' b' : List It) (hk : KeysOk 208 (st a' b')) => tellB_ok (l := LS) hkok hk)
      rw [hsl] at hc6 ⊢
      clear hap hap2 hkok hks hsm hLl ha hb hLS htk hkl HO HSR HSL HTR HTM2 HB HB1 HBB HBB1 hS6 HK0 HK1 HK2 HK3 H1 hsa hsb' z2 z5 y2 y5 e30 e31 e32 e33 hm0 hm1 hm2 hm3 va vb la lb ea0 ea1 ev0 ev1 HT2 HT3 hg hB1o
      go_wp2_with fail
      refine HAP.out.mono ?_
      rintro e w2 ⟨v, dv, rfl, hb2, herr, hret⟩
      have HB2 := Lib.hid hb2
      have hs2 := hb2.size
      clear hb2 HAP
      obtain ⟨R, hR⟩ : ∃ R, applyK (st a b) LS = R := ⟨_, rfl⟩
      rw [hR] at herr hret HCASE ⊢
      clear hR
      obtain ⟨R1, R2, R3, R4⟩ := R
      dsimp only at herr hret HCASE ⊢
      rcases HCASE.out with ⟨hne, hat⟩ | ⟨hR, hk0, hkf⟩
      · obtain ⟨rfl, rfl⟩ := herr hne
        clear herr hret hat
        have hzz : decide ((0 : Int) < (0 : Int)) = false := rfl
        go_wp2_with fail
        refine wp_loop_rounds 1 ?_
        rw [rounds_succ]
        go_wp2_with fail
        refine wp_loop_rounds 1 ?_
        rw [rounds_succ]
        go_upto_region 26 with (fail)
        obtain ⟨⟨p2, p5, q2, q5⟩, f1, f2⟩ := HFIN.out w2 HB2.out
        have HFA := Lib.hid (fun wz (hz : RowKit.Below w2.heap.size w2 wz) => (HFIN.out wz (HB2.out.trans (hz.mono HB2.out.size))).2)
        have e1 := fun d os => cell_regrown p2 d os
        have e2 := fun d os => cell_regrown p5 d os
        have e3 := fun d os => cell_regrown q2 d os
        have e4 := fun d os => cell_regrown q5 d os
        have C1 := Lib.hid (fun d os => Calls.regrown_of (HFA.out _ (below_regrown w2 d os)).1)
        have C2 := Lib.hid (fun d os => Calls.regrown_of (HFA.out _ (below_regrown w2 d os)).2)
        have C3 := Lib.hid (fun d os => Calls.regrown_of (hkn.out (Sort.grow (redrawn w2 d) os)))
        clear p2 p5 q2 q5 f1 f2 HFA
        refine wp_region_quiet_below (by assumption) (by kernel_rfl) ?_
        iterate 8 (quiet_step (first | (fail)))
        quiet_step (first | (go_at_call 15; exact C1.out _ _))
        iterate 9 (quiet_step (first | (fail)))
        quiet_step (first | (go_at_call 15; exact C2.out _ _))
        iterate 2 (quiet_step (first | (fail)))
        quiet_step (first | (go_at_call 12; exact C3.out _ _))
        iterate 2 (quiet_step (first | (fail)))
        refine wpQuiet_nil ?_
        intro _ hw'
        obtain ⟨⟨nq, osq⟩, hw''⟩ := hw'
        subst hw''
        have HWF := Lib.hid (HWB.out.trans ((HB2.out.trans ((below_regrown w2 nq osq).mono HB2.out.size)).mono hws))
        clear e1 e2 e3 e4 C1 C2 C3
        generalize Sort.grow (redrawn w2 nq) osq = wf at HWF ⊢
        go_wp2_with fail
        go_ret
        exact ⟨rfl, HWF.out⟩
      · simp only [Prod.mk.injEq] at hR
        obtain ⟨rfl, rfl, rfl, rfl⟩ := hR
        obtain ⟨⟨g2, cap2, s, hv, hg2, hNow, hsk⟩, ⟨A9, c9, xs, rfl, hX, hxk⟩⟩ := hret rfl
        subst hv
        obtain ⟨s0, s1, rfl⟩ : ∃ s0 s1, s = [s0, s1] := by
          match s, hsk with
          | [s0, s1], _ => exact ⟨s0, s1, rfl⟩
          | [], h => simp [st] at h
          | [s0], h => simp [st] at h
          | s0 :: s1 :: s2 :: s, h => simp [st] at h
        obtain ⟨a', ha'⟩ : ∃ a', updS nmU LS a = a' := ⟨_, rfl⟩
        obtain ⟨b', hb'⟩ : ∃ b', updS nmT LS b = b' := ⟨_, rfl⟩
        rw [ha', hb'] at hsk hkf hxk
        have htell := HTK.out a' b' hkf
        have hTR2 := hNow.row hg2
        have HROW : Hid (∀ j : Nat, j < 2 → ∃ tt : TM, w2.cell? ⟨g2, j * 3 + 2, none⟩ = some (.slice tt.rA tt.rows.length tt.rc) ∧ tt.rows.length ≤ 1000 ∧ ∀ i x, tt.rows[i]? = some x → ItemAt w2 (NewS wo w2) tt.rA i x) := Lib.hid (fun j hj => by
          obtain ⟨tt, ht⟩ : ∃ tt, [s0, s1][j]? = some tt := ⟨_, List.getElem?_eq_getElem (by simpa using hj)⟩
          have hm := List.mem_of_getElem? ht
          obtain ⟨b, o, e, hb, _, _, c2⟩ := hTR2.get ht
          obtain ⟨rfl, rfl⟩ : g2 = b ∧ 0 = o := by simpa using e
          rw [Nat.zero_add] at c2
          have hk2 : tt.key ∈ st a' b' := by rw [← hsk]; exact List.mem_map.2 ⟨tt, hm, rfl⟩
          have hlen := (hkf.keys _ hk2).rlen
          refine ⟨tt, c2, by omega, item_at ((hNow.rows tt hm).mono fun k h => h.1) fun x hx => ?_⟩
          exact (hkf.keys _ hk2).set.rows x.it (List.mem_map.2 ⟨x, hx, rfl⟩))
        have HDEL : Hid (∀ x ∈ xs, ∀ i y, x.rows[i]? = some y → ItemAt w2 (NewS wo w2) x.A i y) := Lib.hid (fun x hx => item_at (hX.rows x hx) fun y hy => (htell x.key (by rw [← hxk]; exact List.mem_map.2 ⟨x, hx, rfl⟩)).1.rows y.it (List.mem_map.2 ⟨y, hy, rfl⟩))
        have HDL : Hid (∀ x ∈ xs, x.rows.length ≤ 1000) := Lib.hid (fun x hx => by
          have h1 := htell x.key (by rw [← hxk]; exact List.mem_map.2 ⟨x, hx, rfl⟩)
          have h2 := len_vol h1.1.nets
          have h3 := h1.2
          rw [show x.key.2 = its x.rows from rfl] at h2 h3
          rw [its_len] at h2
          omega)
        have HX := Lib.hid hX
        have hwo2 : wo.heap.size ≤ w2.heap.size := hs2
        have hm8 : xs.length ≤ 2 := by
          have := congrArg List.length hxk
          rw [List.length_map] at this
          rw [this]
          unfold tellK
          rw [List.length_append]
          split <;> split <;> simp
        obtain ⟨m, hm⟩ : ∃ m, xs.length = m := ⟨_, rfl⟩
        have HMM := Lib.hid hm
        rw [hm] at hm8 ⊢
        clear hret herr hNow hsk hX hxk htell hTR2 hkf ha' hb' hm HCASE HTK
        go_wp2_with fail
        go_loopw [13] (fun i wr => ∃ j : Nat, j ≤ 2 ∧ i = .int .i64 j ∧ Hid (Mut wo.heap.size (NewS wo w2) w2 wr)) (fun i _ => 2 - (intOf i).toNat)
        case atStart => exact ⟨0, by omega, rfl, Lib.hid (Mut.refl fun k h o => h.2.2 o)⟩
        case round =>
          rename World => wp
          obtain ⟨j, hj, rfl, HMP⟩ := hrel
          by_cases hj2 : j < 2
          · obtain ⟨⟨tnm, tcA, tcc, tcols, tA, tc, trows⟩, hc, htb, hI⟩ := HROW.out j hj2
            dsimp only at hc hI htb
            have HI := Lib.hid hI
            obtain ⟨tn, htn⟩ : ∃ tn, trows.length = tn := ⟨_, rfl⟩
            have HTN := Lib.hid htn
            rw [htn] at hc htb
            have HC2 := Lib.hid hc
            have hjd : decide ((j : Int) < 2) = true := decide_eq_true (by omega)
            have hji : (j : Int) < 2 := by omega
            have hji0 : (0 : Int) ≤ (j : Int) := by omega
            have hg2l := hg2.2
            clear hI htn hc
            go_wp2_with fail
            go_loopw [14] (fun i wr => ∃ k : Nat, k ≤ tn ∧ i = .int .i64 k ∧ Hid (Mut wo.heap.size (NewS wo w2) w2 wr)) (fun i _ => tn - (intOf i).toNat)
            case atStart => exact ⟨0, Nat.zero_le _, rfl, HMP⟩
            case round =>
              rename World => wr
              obtain ⟨k, hk, rfl, HM⟩ := hrel
              have y0 := HM.out.slice hg2l HC2.out
              by_cases hlt : k < tn
              · obtain ⟨x, hx⟩ : ∃ x, trows[k]? = some x := ⟨_, List.getElem?_eq_getElem (by rw [HTN.out]; exact hlt)⟩
                obtain ⟨bX, oX, b9, o9, rfl, hbX, x0, x1, hb9, hxl, ⟨n1', d1⟩, ⟨n2', d2⟩, ⟨s3, d3⟩⟩ := HI.out k x hx
                obtain ⟨xA, xc, xr, xk⟩ := x
                dsimp only at x0 x1 hxl
                obtain ⟨xn, hxn⟩ : ∃ xn, xr.length = xn := ⟨_, rfl⟩
                rw [hxn] at x0 hxl
                have y1 := HM.out.slice hbX.2.1 x0
                obtain ⟨cX, cY, y2⟩ := HM.out.com hbX.2.1 x1
                have y3 := HM.out.fz bX hbX (oX + k * 2 + 1)
                have hki : (k : Int) < (tn : Int) := by omega
                have hki0 : (0 : Int) ≤ (k : Int) := by omega
                have hxi : (0 : Int) < (xn : Int) := by omega
                have hsc := run_store_complex Tryz.prog
                clear hx hxn
                go_upto_region 16 with (fail)
                generalize hwm : wr.setCell ⟨bX, oX + k * 2 + 1, none⟩ (.complex .f64 4636666922610458624 0) = wm
                have HM1 : Hid (Mut wo.heap.size (NewS wo w2) w2 wm) := Lib.hid (by rw [← hwm]; exact HM.out.set hbX.1 hbX.2.1 x1 ⟨_, _, rfl⟩)
                clear hwm y0 y1 y2 y3 hsc HM
                have y0 := HM1.out.slice hg2l HC2.out
                have y1 := HM1.out.slice hbX.2.1 x0
                go_upto_region 17 with (fail)
                have HCA : Hid (∀ w1, RowKit.Below wm.heap.size wm w1 → w1.cell? ⟨g2, j * 3 + 2, none⟩ = some (.slice (some ⟨bX, oX, none⟩) tn tc) ∧ w1.cell? ⟨bX, oX + k * 2, none⟩ = some (.slice (some ⟨b9, o9, none⟩) xn xc) ∧ (∃ n, w1.cell? ⟨b9, o9, none⟩ = some (.int .i64 n)) ∧ (∃ n, w1.cell? ⟨b9, o9 + 1, none⟩ = some (.int .i64 n)) ∧ (∃ s, w1.cell? ⟨b9, o9 + 2, none⟩ = some (.string s)) ∧ w1.frozen? ⟨b9, o9, none⟩ = false ∧ w1.frozen? ⟨b9, o9 + 1, none⟩ = false ∧ w1.frozen? ⟨b9, o9 + 2, none⟩ = false) := Lib.hid (fun w1 hb => by
                  have h := HM1.out.step hwo2 (fun k h => h.2.1) hb
                  exact ⟨h.slice hg2l HC2.out, h.slice hbX.2.1 x0, h.int hb9.2.1 d1, h.int hb9.2.1 d2, h.str hb9.2.1 d3, h.fz b9 hb9 _, h.fz b9 hb9 _, h.fz b9 hb9 _⟩)
                clear y0 y1 x0 x1
                refine EachKit.region_first (L := 11) (F := 1) (LL := #[true, true, true, true, true, true, true, true, true, true, true, false]) (R := bkR [.slice (some ⟨g2, 0, none⟩) 2 cap2, .int .i64 (j : Nat), .pointer (some ⟨g2, j * 3, none⟩), .pointer (some ⟨g2, j * 3 + 2, none⟩), .slice (some ⟨bX, oX, none⟩) tn tc, .int .i64 (k : Nat), .pointer (some ⟨bX, oX + k * 2, none⟩), .pointer (some ⟨bX, oX + k * 2, none⟩), .slice (some ⟨b9, o9, none⟩) xn xc, .agg #[.int .i64 1, .int .i64 77, .string ⟨#[]⟩], .pointer (some ⟨b9, o9, none⟩)]) (ds := bkDs 82) (MS := bkMs) mixed (by kernel_rfl) (by kernel_rfl) (by kernel_rfl) (by kernel_rfl) (by kernel_rfl) (by kernel_rfl) rfl (by kernel_rfl) (by kernel_rfl) (bkR_mono _)
                  (fun a0 => a0.tmps.getD 9 undef = .slice (some ⟨g2, 0, none⟩) 2 cap2 ∧ a0.tmps.getD 13 undef = .int .i64 (j : Nat) ∧ a0.tmps.getD 14 undef = .int .i64 (k : Nat)) ⟨rfl, rfl, rfl⟩ ?_ ?_
                · intro hds Q' a0 ⟨og9, og13, og14⟩
                  refine EachKit.Each.cons (fun _ => EachKit.OpGoal.free rfl (fun a1 w1 hB hL1 hk K hK => ?_)) ?_
                  · have s9 : a1.tmps.getD 9 undef = .slice (some ⟨g2, 0, none⟩) 2 cap2 := hL1.old rfl og9
                    clear hk hL1
                    go_simp
                    exact hK _ _ (Below.refl _ _) rfl
                  refine EachKit.Each.cons (fun _ => EachKit.OpGoal.free rfl (fun a1 w1 hB hL1 hk K hK => ?_)) ?_
                  · have s13 : a1.tmps.getD 13 undef = .int .i64 (j : Nat) := hL1.old rfl og13
                    clear hk hL1
                    go_simp
                    exact hK _ _ (Below.refl _ _) rfl
                  refine EachKit.Each.cons (fun _ => EachKit.OpGoal.free rfl (fun a1 w1 hB hL1 hk K hK => ?_)) ?_
                  · have s82 : a1.tmps.getD 82 undef = .slice (some ⟨g2, 0, none⟩) 2 cap2 := (hk 0 rfl).is rfl (fun _ h => h)
                    have s83 : a1.tmps.getD 83 undef = .int .i64 (j : Nat) := (hk 1 rfl).is rfl (fun _ h => h)
                    clear hk hL1
                    go_simp
                    exact hK _ _ (Below.refl _ _) rfl
                  refine EachKit.Each.cons (fun _ => EachKit.OpGoal.free rfl (fun a1 w1 hB hL1 hk K hK => ?_)) ?_
                  · have s84 : a1.tmps.getD 84 undef = .pointer (some ⟨g2, j * 3, none⟩) := (hk 2 rfl).is rfl (fun _ h => h)
                    clear hk hL1
                    go_simp
                    exact hK _ _ (Below.refl _ _) rfl
                  refine EachKit.Each.cons (fun _ => EachKit.OpGoal.free rfl (fun a1 w1 hB hL1 hk K hK => ?_)) ?_
                  · have s85 : a1.tmps.getD 85 undef = .pointer (some ⟨g2, j * 3 + 2, none⟩) := (hk 3 rfl).is rfl (fun _ h => h)
                    have cx := (HCA.out w1 hB).1
                    clear hk hL1
                    go_simp
                    exact hK _ _ (Below.refl _ _) rfl
                  refine EachKit.Each.cons (fun _ => EachKit.OpGoal.free rfl (fun a1 w1 hB hL1 hk K hK => ?_)) ?_
                  · have s14 : a1.tmps.getD 14 undef = .int .i64 (k : Nat) := hL1.old rfl og14
                    clear hk hL1
                    go_simp
                    exact hK _ _ (Below.refl _ _) rfl
                  refine EachKit.Each.cons (fun _ => EachKit.OpGoal.free rfl (fun a1 w1 hB hL1 hk K hK => ?_)) ?_
                  · have s86 : a1.tmps.getD 86 undef = .slice (some ⟨bX, oX, none⟩) tn tc := (hk 4 rfl).is rfl (fun _ h => h)
                    have s87 : a1.tmps.getD 87 undef = .int .i64 (k : Nat) := (hk 5 rfl).is rfl (fun _ h => h)
                    clear hk hL1
                    go_simp
                    exact hK _ _ (Below.refl _ _) rfl
                  refine EachKit.Each.cons (fun _ => EachKit.OpGoal.free rfl (fun a1 w1 hB hL1 hk K hK => ?_)) ?_
                  · have s88 : a1.tmps.getD 88 undef = .pointer (some ⟨bX, oX + k * 2, none⟩) := (hk 6 rfl).is rfl (fun _ h => h)
                    clear hk hL1
                    go_simp
                    exact hK _ _ (Below.refl _ _) rfl
                  refine EachKit.Each.cons (fun _ => EachKit.OpGoal.free rfl (fun a1 w1 hB hL1 hk K hK => ?_)) ?_
                  · have s89 : a1.tmps.getD 89 undef = .pointer (some ⟨bX, oX + k * 2, none⟩) := (hk 7 rfl).is rfl (fun _ h => h)
                    have cx := (HCA.out w1 hB).2.1
                    clear hk hL1
                    go_simp
                    exact hK _ _ (Below.refl _ _) rfl
                  refine EachKit.Each.cons (fun _ => EachKit.OpGoal.free rfl (fun a1 w1 hB hL1 hk K hK => ?_)) ?_
                  · clear hk hL1
                    go_simp
                    refine (keep_num _ _).mono ?_
                    rintro e w' ⟨rfl, rfl⟩
                    exact hK _ _ ((Below.refl _ _).alloc (Nat.le_refl _) _) rfl
                  refine EachKit.Each.cons (fun _ => EachKit.OpGoal.free rfl (fun a1 w1 hB hL1 hk K hK => ?_)) ?_
                  · have s90 : a1.tmps.getD 90 undef = .slice (some ⟨b9, o9, none⟩) xn xc := (hk 8 rfl).is rfl (fun _ h => h)
                    clear hk hL1
                    go_simp
                    exact hK _ _ (Below.refl _ _) rfl
                  refine EachKit.Each.cons (fun h => absurd h (by decide)) ?_
                  exact trivial
                · rintro a' w1 hB hL1 hk
                  have s1 : a'.tmps.getD 91 undef = .agg #[.int .i64 1, .int .i64 77, .string ⟨#[]⟩] := (hk 9 (by decide)).is rfl (fun _ h => h)
                  have s2 : a'.tmps.getD 92 undef = .pointer (some ⟨b9, o9, none⟩) := (hk 10 (by decide)).is rfl (fun _ h => h)
                  obtain ⟨u, hu⟩ := hL1.form
                  obtain ⟨_, _, ⟨i1, c1⟩, ⟨i2', c2⟩, ⟨i3, c3⟩, f1, f2, f3⟩ := HCA.out w1 hB
                  have HMF := Lib.hid (fun v1 v2 v3 => ((((HM1.out.step hwo2 (fun k h => h.2.1) hB).set hb9.1 hb9.2.1 d1 (v := .int .i64 v1) ⟨_, rfl⟩).set hb9.1 hb9.2.1 d2 (v := .int .i64 v2) ⟨_, rfl⟩).set hb9.1 hb9.2.1 d3 (v := .string v3) ⟨_, rfl⟩))
                  clear hk hL1 hB HCA HM1
                  refine wpAny_one (i := 11) (by kernel_rfl) rfl (fun K hK => ?_)
                  rw [if_pos (by rfl)]
                  refine wp_store_three rfl s2 s1 c1 c2 c3 f1 f2 f3 (hK _ _ ?_)
                  clear hK K s1 s2
                  refine wpAny_done (by kernel_rfl) ?_ _
                  subst hu
                  simp only [bkDs, EachKit.setU, Act.put, List.getElem_toArray, List.getElem_cons_succ, List.getElem_cons_zero, List.setIfInBounds_toArray, List.set_cons_zero, List.set_cons_succ, Nat.reduceAdd]
                  clear c1 c2 c3 f1 f2 f3
                  go_wp2_with fail
                  go_roundw
                  case rel => exact ⟨k + 1, by omega, by go_num, Lib.hid (HMF.out 1 77 ⟨#[]⟩)⟩
                  case measure => simp [intOf]; omega
              · go_wp2_with fail
                go_roundw
                case rel => exact ⟨j + 1, by omega, by go_num, HM⟩
                case measure => simp [intOf]; omega
          · obtain rfl : j = 2 := by omega
            rename World => wl
            have hjd : decide (((2 : Nat) : Int) < 2) = false := rfl
            go_wp2_with fail
            go_loopw [15] (fun i wr => ∃ j : Nat, j ≤ m ∧ i = .int .i64 j ∧ Hid (Mut wo.heap.size (NewS wo w2) w2 wr)) (fun i _ => m - (intOf i).toNat)
            case atStart => exact ⟨0, Nat.zero_le _, rfl, HMP⟩
            case round =>
              rename World => wp2
              obtain ⟨j, hj, rfl, HMP2⟩ := hrel
              by_cases hj2 : j < m
              · obtain ⟨x, hx⟩ : ∃ x, xs[j]? = some x := ⟨_, List.getElem?_eq_getElem (by rw [HMM.out]; exact hj2)⟩
                obtain ⟨b8, o8, rfl, hb8, _, hc⟩ := HX.out.get hx
                have hI := HDEL.out x (List.mem_of_getElem? hx)
                have htb := HDL.out x (List.mem_of_getElem? hx)
                obtain ⟨xnm, tA, tc, trows⟩ := x
                dsimp only at hc hI htb
                have HI := Lib.hid hI
                obtain ⟨tn, htn⟩ : ∃ tn, trows.length = tn := ⟨_, rfl⟩
                have HTN := Lib.hid htn
                rw [htn] at hc htb
                have HC2 := Lib.hid hc
                have hjd2 : decide ((j : Int) < (m : Int)) = true := decide_eq_true (by omega)
                have hji : (j : Int) < (m : Int) := by omega
                have hji0 : (0 : Int) ≤ (j : Int) := by omega
                have hg2l := hb8.2.1
                clear hI htn hc hx
                go_wp2_with fail
                go_loopw [16] (fun i wr => ∃ k : Nat, k ≤ tn ∧ i = .int .i64 k ∧ Hid (Mut wo.heap.size (NewS wo w2) w2 wr)) (fun i _ => tn - (intOf i).toNat)
                case atStart => exact ⟨0, Nat.zero_le _, rfl, HMP2⟩
                case round =>
                  rename World => wm
                  obtain ⟨k, hk, rfl, HM1⟩ := hrel
                  have y0 := HM1.out.slice hg2l HC2.out
                  by_cases hlt : k < tn
                  · obtain ⟨x, hx⟩ : ∃ x, trows[k]? = some x := ⟨_, List.getElem?_eq_getElem (by rw [HTN.out]; exact hlt)⟩
                    obtain ⟨bX, oX, b9, o9, rfl, hbX, x0, x1, hb9, hxl, ⟨n1', d1⟩, ⟨n2', d2⟩, ⟨s3, d3⟩⟩ := HI.out k x hx
                    obtain ⟨xA, xc, xr, xk⟩ := x
                    dsimp only at x0 x1 hxl
                    obtain ⟨xn, hxn⟩ : ∃ xn, xr.length = xn := ⟨_, rfl⟩
                    rw [hxn] at x0 hxl
                    have y1 := HM1.out.slice hbX.2.1 x0
                    have hki : (k : Int) < (tn : Int) := by omega
                    have hki0 : (0 : Int) ≤ (k : Int) := by omega
                    have hxi : (0 : Int) < (xn : Int) := by omega
                    clear hx hxn
                    go_upto_region 25 with (fail)
                    have HCA : Hid (∀ w1, RowKit.Below wm.heap.size wm w1 → w1.cell? ⟨b8, o8 + j * 2 + 1, none⟩ = some (.slice (some ⟨bX, oX, none⟩) tn tc) ∧ w1.cell? ⟨bX, oX + k * 2, none⟩ = some (.slice (some ⟨b9, o9, none⟩) xn xc) ∧ (∃ n, w1.cell? ⟨b9, o9, none⟩ = some (.int .i64 n)) ∧ (∃ n, w1.cell? ⟨b9, o9 + 1, none⟩ = some (.int .i64 n)) ∧ (∃ s, w1.cell? ⟨b9, o9 + 2, none⟩ = some (.string s)) ∧ w1.frozen? ⟨b9, o9, none⟩ = false ∧ w1.frozen? ⟨b9, o9 + 1, none⟩ = false ∧ w1.frozen? ⟨b9, o9 + 2, none⟩ = false) := Lib.hid (fun w1 hb => by
                      have h := HM1.out.step hwo2 (fun k h => h.2.1) hb
                      exact ⟨h.slice hg2l HC2.out, h.slice hbX.2.1 x0, h.int hb9.2.1 d1, h.int hb9.2.1 d2, h.str hb9.2.1 d3, h.fz b9 hb9 _, h.fz b9 hb9 _, h.fz b9 hb9 _⟩)
                    clear y0 y1 x0 x1
                    refine EachKit.region_first (L := 11) (F := 1) (LL := #[true, true, true, true, true, true, true, true, true, true, true, false]) (R := bkR [.slice (some ⟨b8, o8, none⟩) m c9, .int .i64 (j : Nat), .pointer (some ⟨b8, o8 + j * 2, none⟩), .pointer (some ⟨b8, o8 + j * 2 + 1, none⟩), .slice (some ⟨bX, oX, none⟩) tn tc, .int .i64 (k : Nat), .pointer (some ⟨bX, oX + k * 2, none⟩), .pointer (some ⟨bX, oX + k * 2, none⟩), .slice (some ⟨b9, o9, none⟩) xn xc, .agg #[.int .i64 1, .int .i64 78, .string ⟨#[]⟩], .pointer (some ⟨b9, o9, none⟩)]) (ds := bkDs 120) (MS := bkMs) mixed (by kernel_rfl) (by kernel_rfl) (by kernel_rfl) (by kernel_rfl) (by kernel_rfl) (by kernel_rfl) rfl (by kernel_rfl) (by kernel_rfl) (bkR_mono _)
                      (fun a0 => a0.tmps.getD 10 undef = .slice (some ⟨b8, o8, none⟩) m c9 ∧ a0.tmps.getD 15 undef = .int .i64 (j : Nat) ∧ a0.tmps.getD 16 undef = .int .i64 (k : Nat)) ⟨rfl, rfl, rfl⟩ ?_ ?_
                    · intro hds Q' a0 ⟨og10, og15, og16⟩
                      refine EachKit.Each.cons (fun _ => EachKit.OpGoal.free rfl (fun a1 w1 hB hL1 hk K hK => ?_)) ?_
                      · have s10 : a1.tmps.getD 10 undef = .slice (some ⟨b8, o8, none⟩) m c9 := hL1.old rfl og10
                        clear hk hL1
                        go_simp
                        exact hK _ _ (Below.refl _ _) rfl
                      refine EachKit.Each.cons (fun _ => EachKit.OpGoal.free rfl (fun a1 w1 hB hL1 hk K hK => ?_)) ?_
                      · have s15 : a1.tmps.getD 15 undef = .int .i64 (j : Nat) := hL1.old rfl og15
                        clear hk hL1
                        go_simp
                        exact hK _ _ (Below.refl _ _) rfl
                      refine EachKit.Each.cons (fun _ => EachKit.OpGoal.free rfl (fun a1 w1 hB hL1 hk K hK => ?_)) ?_
                      · have s120 : a1.tmps.getD 120 undef = .slice (some ⟨b8, o8, none⟩) m c9 := (hk 0 rfl).is rfl (fun _ h => h)
                        have s121 : a1.tmps.getD 121 undef = .int .i64 (j : Nat) := (hk 1 rfl).is rfl (fun _ h => h)
                        clear hk hL1
                        go_simp
                        exact hK _ _ (Below.refl _ _) rfl
                      refine EachKit.Each.cons (fun _ => EachKit.OpGoal.free rfl (fun a1 w1 hB hL1 hk K hK => ?_)) ?_
                      · have s122 : a1.tmps.getD 122 undef = .pointer (some ⟨b8, o8 + j * 2, none⟩) := (hk 2 rfl).is rfl (fun _ h => h)
                        clear hk hL1
                        go_simp
                        exact hK _ _ (Below.refl _ _) rfl
                      refine EachKit.Each.cons (fun _ => EachKit.OpGoal.free rfl (fun a1 w1 hB hL1 hk K hK => ?_)) ?_
                      · have s123 : a1.tmps.getD 123 undef = .pointer (some ⟨b8, o8 + j * 2 + 1, none⟩) := (hk 3 rfl).is rfl (fun _ h => h)
                        have cx := (HCA.out w1 hB).1
                        clear hk hL1
                        go_simp
                        exact hK _ _ (Below.refl _ _) rfl
                      refine EachKit.Each.cons (fun _ => EachKit.OpGoal.free rfl (fun a1 w1 hB hL1 hk K hK => ?_)) ?_
                      · have s16 : a1.tmps.getD 16 undef = .int .i64 (k : Nat) := hL1.old rfl og16
                        clear hk hL1
                        go_simp
                        exact hK _ _ (Below.refl _ _) rfl
                      refine EachKit.Each.cons (fun _ => EachKit.OpGoal.free rfl (fun a1 w1 hB hL1 hk K hK => ?_)) ?_
                      · have s124 : a1.tmps.getD 124 undef = .slice (some ⟨bX, oX, none⟩) tn tc := (hk 4 rfl).is rfl (fun _ h => h)
                        have s125 : a1.tmps.getD 125 undef = .int .i64 (k : Nat) := (hk 5 rfl).is rfl (fun _ h => h)
                        clear hk hL1
                        go_simp
                        exact hK _ _ (Below.refl _ _) rfl
                      refine EachKit.Each.cons (fun _ => EachKit.OpGoal.free rfl (fun a1 w1 hB hL1 hk K hK => ?_)) ?_
                      · have s126 : a1.tmps.getD 126 undef = .pointer (some ⟨bX, oX + k * 2, none⟩) := (hk 6 rfl).is rfl (fun _ h => h)
                        clear hk hL1
                        go_simp
                        exact hK _ _ (Below.refl _ _) rfl
                      refine EachKit.Each.cons (fun _ => EachKit.OpGoal.free rfl (fun a1 w1 hB hL1 hk K hK => ?_)) ?_
                      · have s127 : a1.tmps.getD 127 undef = .pointer (some ⟨bX, oX + k * 2, none⟩) := (hk 7 rfl).is rfl (fun _ h => h)
                        have cx := (HCA.out w1 hB).2.1
                        clear hk hL1
                        go_simp
                        exact hK _ _ (Below.refl _ _) rfl
                      refine EachKit.Each.cons (fun _ => EachKit.OpGoal.free rfl (fun a1 w1 hB hL1 hk K hK => ?_)) ?_
                      · clear hk hL1
                        go_simp
                        refine (keep_num _ _).mono ?_
                        rintro e w' ⟨rfl, rfl⟩
                        exact hK _ _ ((Below.refl _ _).alloc (Nat.le_refl _) _) rfl
                      refine EachKit.Each.cons (fun _ => EachKit.OpGoal.free rfl (fun a1 w1 hB hL1 hk K hK => ?_)) ?_
                      · have s128 : a1.tmps.getD 128 undef = .slice (some ⟨b9, o9, none⟩) xn xc := (hk 8 rfl).is rfl (fun _ h => h)
                        clear hk hL1
                        go_simp
                        exact hK _ _ (Below.refl _ _) rfl
                      refine EachKit.Each.cons (fun h => absurd h (by decide)) ?_
                      exact trivial
                    · rintro a' w1 hB hL1 hk
                      have s1 : a'.tmps.getD 129 undef = .agg #[.int .i64 1, .int .i64 78, .string ⟨#[]⟩] := (hk 9 (by decide)).is rfl (fun _ h => h)
                      have s2 : a'.tmps.getD 130 undef = .pointer (some ⟨b9, o9, none⟩) := (hk 10 (by decide)).is rfl (fun _ h => h)
                      obtain ⟨u, hu⟩ := hL1.form
                      obtain ⟨_, _, ⟨i1, c1⟩, ⟨i2', c2⟩, ⟨i3, c3⟩, f1, f2, f3⟩ := HCA.out w1 hB
                      have HMF := Lib.hid (fun v1 v2 v3 => ((((HM1.out.step hwo2 (fun k h => h.2.1) hB).set hb9.1 hb9.2.1 d1 (v := .int .i64 v1) ⟨_, rfl⟩).set hb9.1 hb9.2.1 d2 (v := .int .i64 v2) ⟨_, rfl⟩).set hb9.1 hb9.2.1 d3 (v := .string v3) ⟨_, rfl⟩))
                      clear hk hL1 hB HCA HM1
                      refine wpAny_one (i := 11) (by kernel_rfl) rfl (fun K hK => ?_)
                      rw [if_pos (by rfl)]
                      refine wp_store_three rfl s2 s1 c1 c2 c3 f1 f2 f3 (hK _ _ ?_)
                      clear hK K s1 s2
                      refine wpAny_done (by kernel_rfl) ?_ _
                      subst hu
                      simp only [bkDs, EachKit.setU, Act.put, List.getElem_toArray, List.getElem_cons_succ, List.getElem_cons_zero, List.setIfInBounds_toArray, List.set_cons_zero, List.set_cons_succ, Nat.reduceAdd]
                      clear c1 c2 c3 f1 f2 f3
                      go_wp2_with fail
                      go_roundw
                      case rel => exact ⟨k + 1, by omega, by go_num, Lib.hid (HMF.out 1 78 ⟨#[]⟩)⟩
                      case measure => simp [intOf]; omega
                  · go_wp2_with fail
                    go_roundw
                    case rel =>
                      refine ⟨_, _, _, _, _, _, _, _, _, _, _, _, _, _, _, _, _, _, _, _, _, _, _, _, _, _, _, _, _, _, _, _, _, _, _, _, _, _, _, _, ⟨j + 1, by omega, ?_, HM1⟩, rfl⟩
                      go_num
                    case measure => simp [intOf]; omega
              · obtain rfl : j = m := by omega
                rename World => wy
                have HBZ : Hid (RowKit.Below wo.heap.size wo wy) := Lib.hid (HB2.out.trans HMP2.out.below)
                go_upto_region 26 with (fail)
                obtain ⟨⟨p2, p5, q2, q5⟩, f1, f2⟩ := HFIN.out wy HBZ.out
                have HFA := Lib.hid (fun wz (hz : RowKit.Below wy.heap.size wy wz) => (HFIN.out wz (HBZ.out.trans (hz.mono HBZ.out.size))).2)
                have e1 := fun d os => cell_regrown p2 d os
                have e2 := fun d os => cell_regrown p5 d os
                have e3 := fun d os => cell_regrown q2 d os
                have e4 := fun d os => cell_regrown q5 d os
                have C1 := Lib.hid (fun d os => Calls.regrown_of (HFA.out _ (below_regrown wy d os)).1)
                have C2 := Lib.hid (fun d os => Calls.regrown_of (HFA.out _ (below_regrown wy d os)).2)
                have C3 := Lib.hid (fun d os => Calls.regrown_of (hkn.out (Sort.grow (redrawn wy d) os)))
                clear p2 p5 q2 q5 f1 f2 HFA
                refine wp_region_quiet_below (by assumption) (by kernel_rfl) ?_
                iterate 8 (quiet_step (first | (fail)))
                quiet_step (first | (go_at_call 15; exact C1.out _ _))
                iterate 9 (quiet_step (first | (fail)))
                quiet_step (first | (go_at_call 15; exact C2.out _ _))
                iterate 2 (quiet_step (first | (fail)))
                quiet_step (first | (go_at_call 12; exact C3.out _ _))
                iterate 2 (quiet_step (first | (fail)))
                refine wpQuiet_nil ?_
                intro _ hw'
                obtain ⟨⟨nq, osq⟩, hw''⟩ := hw'
                subst hw''
                have HWF := Lib.hid (HWB.out.trans ((HBZ.out.trans ((below_regrown wy nq osq).mono HBZ.out.size)).mono hws))
                clear e1 e2 e3 e4 C1 C2 C3
                generalize Sort.grow (redrawn wy nq) osq = wf at HWF ⊢
                go_wp2_with fail
                go_ret
                exact ⟨rfl, HWF.out⟩
end Go.Proofs.YtajnnkapgnmoaaaGreat
