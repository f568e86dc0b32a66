/-
  An int64's bounds. No program in sight.
-/
import Derived.WalkKit
import Derived.ProofKit
import Derived.Test.YtajnnkapgnmoaaaGreatMs13
import Derived.Test.YtajnnkapgnmoaaaGreatMs37
import Derived.Deep.RegionHeld3
import Derived.Lib.QuietBelow
import Derived.Deep.DeepCutAuto
set_option linter.unusedVariables false
set_option linter.unusedSimpArgs false
namespace Go.Proofs.YtajnnkapgnmoaaaGreat
open Go.RowKit
theorem bd64_ {n : Int} (h : (Lit.int .i64 n).wf = true) : -9223372036854775808 ≤ n ∧ n ≤ 9223372036854775807 := by
  simpa [Lit.wf, IntKind.min, IntKind.max, IntKind.signed, IntKind.bits] using h
end Go.Proofs.YtajnnkapgnmoaaaGreat
/-
  How many rows law 16's tables hold. No Go in sight.
-/
namespace Go.Proofs.YtajnnkapgnmoaaaGreat
open Go.RowKit
theorem tabs_vol (l : List Ch) : vol (setOf (partU (l.take 20) ++ moreU 0)) ≤ 20 ∧ vol (setOf (partT (l.take 20))) ≤ 20 := by
  obtain ⟨u1, u2⟩ := setOf_ok (partU_ok 0 (l.take 20))
  obtain ⟨t1, t2⟩ := setOf_ok (partT_ok (l.take 20))
  have hl : (l.take 20).length ≤ 20 := by rw [List.length_take]; omega
  have v1 := SetOk.vol_le u1.toOrd u2
  have v2 := SetOk.vol_le t1.toOrd t2
  have p1 := partU_vol (l.take 20)
  have p2 := partT_vol (l.take 20)
  have m0 : moreU 0 = [] := rfl
  rw [m0, List.append_nil] at v1 ⊢
  omega
end Go.Proofs.YtajnnkapgnmoaaaGreat
/-
  Two growing rows of changes, beside a box: what a round leaves. No program in sight.
-/
set_option linter.unusedVariables false
namespace Go.Proofs.YtajnnkapgnmoaaaGreat
open Go.RowKit

theorem own_of_block {w w' : World} {base z n : Nat} {e : TypeId} {v : Value} {xs : List Value} (h : w.ownsRow base e z v n xs) (hk : ∀ g, v.ownBlock = some g → w'.heap[g]? = w.heap[g]?) : w'.ownsRow base e z v n xs := by
  refine ⟨h.1, ?_⟩
  rcases h.2 with hn | ⟨g, cap, cur, rfl, hb, hgg, rest⟩
  · exact .inl hn
  · exact .inr ⟨g, cap, cur, rfl, hb, (hk g rfl).trans hgg, rest⟩
def RTwo (w1 w : World) (u6 u7 : Value) (g : Nat) : Prop := NewS w1 w g ∧ u6.ownBlock ≠ some g ∧ u7.ownBlock ≠ some g
theorem two_keep {w4 w5 w7 : World} {u6 u7 : Value} {o1 o2 o3 : Obj} {bv : Value} (g5 : ((w4.alloc o1).alloc o2).grownBy w5 u6.ownBlock) (g7 : ((w5.setCell ⟨w4.heap.size, 2, none⟩ bv).alloc o3).grownBy w7 u7.ownBlock) {g : Nat} (hg : g < w4.heap.size) (h6 : u6.ownBlock ≠ some g) (h7 : u7.ownBlock ≠ some g) : w7.heap[g]? = w4.heap[g]? := by
  have s5 := g5.size
  simp only [World.size_alloc] at s5
  have e5 : w5.heap[g]? = w4.heap[g]? := ((g5.block g (by simp only [World.size_alloc]; omega) fun e => h6 e.symm).trans (Below.heap_alloc _ _ g (by simp only [World.size_alloc]; omega))).trans (Below.heap_alloc _ _ g hg)
  have e6 : (w5.setCell ⟨w4.heap.size, 2, none⟩ bv).heap[g]? = w5.heap[g]? := Below.heap_setCell w5 _ bv g (by show g ≠ w4.heap.size; omega)
  have hsz := setCell_size' w5 ⟨w4.heap.size, 2, none⟩ bv
  exact ((g7.block g (by simp only [World.size_alloc, hsz]; omega) fun e => h7 e.symm).trans (Below.heap_alloc _ _ g (by rw [hsz]; omega))).trans (e6.trans e5)
theorem two_own7 {wo w4 w5 : World} {u6 u7 : Value} {o1 o2 o3 : Obj} {bv : Value} (hb4 : Below wo.heap.size wo w4) (l7 : ∀ g, u7.ownBlock = some g → g < wo.heap.size) (hne : ∀ g, u6.ownBlock = some g → u7.ownBlock ≠ some g)
    (g5 : ((w4.alloc o1).alloc o2).grownBy w5 u6.ownBlock) {base z n : Nat} {e : TypeId} {xs : List Value} (h : wo.ownsRow base e z u7 n xs) : ((w5.setCell ⟨w4.heap.size, 2, none⟩ bv).alloc o3).ownsRow base e z u7 n xs := by
  have s5 := g5.size
  have s4 := hb4.size
  simp only [World.size_alloc] at s5
  refine own_of_block h fun g hg => ?_
  have hgl := l7 g hg
  have hsz := setCell_size' w5 ⟨w4.heap.size, 2, none⟩ bv
  refine (Below.heap_alloc _ _ g (by rw [hsz]; omega)).trans ((Below.heap_setCell w5 _ bv g (by show g ≠ w4.heap.size; omega)).trans ?_)
  exact (((g5.block g (by simp only [World.size_alloc]; omega) fun e => hne g e.symm hg).trans (Below.heap_alloc _ _ g (by simp only [World.size_alloc]; omega))).trans (Below.heap_alloc _ _ g (by omega))).trans (hb4.block g hgl)
theorem two_round {w1 wo w4 w5 w7 : World} {u6 u7 v6 v7 : Value} {sl bl : List CM} {x y : CM} {o1 o2 o3 : Obj} {bv : Value} (hs : w1.heap.size ≤ wo.heap.size) (hb1 : Below w1.heap.size w1 wo) (hb4 : Below wo.heap.size wo w4)
    (hor : ∀ z ∈ sl, VRowS wo (RTwo w1 wo u6 u7) z.A z.r) (hbr : ∀ z ∈ bl, VRowS wo (RTwo w1 wo u6 u7) z.A z.r)
    (l6 : ∀ g, u6.ownBlock = some g → w1.heap.size ≤ g ∧ g < wo.heap.size) (l7 : ∀ g, u7.ownBlock = some g → w1.heap.size ≤ g ∧ g < wo.heap.size) (hne : ∀ g, u6.ownBlock = some g → u7.ownBlock ≠ some g)
    (hx : VRowS w4 (NewS wo w4) x.A x.r) (hyA : y.A = x.A) (hyr : y.r = x.r)
    (g5 : ((w4.alloc o1).alloc o2).grownBy w5 u6.ownBlock) (a5 : v6.ownBlock = u6.ownBlock ∨ v6.ownBlock = some (w4.heap.size + 1 + 1))
    (g7 : ((w5.setCell ⟨w4.heap.size, 2, none⟩ bv).alloc o3).grownBy w7 u7.ownBlock) (a7 : v7.ownBlock = u7.ownBlock ∨ v7.ownBlock = some (w5.heap.size + 1)) :
    (∀ z ∈ sl ++ [x], VRowS w7 (RTwo w1 w7 v6 v7) z.A z.r) ∧ (∀ z ∈ bl ++ [y], VRowS w7 (RTwo w1 w7 v6 v7) z.A z.r) ∧ Below w1.heap.size w1 w7 ∧ (∀ g, v6.ownBlock = some g → v7.ownBlock ≠ some g) ∧
      ∀ {base z n : Nat} {e : TypeId} {xs : List Value}, w5.ownsRow base e z v6 n xs → w7.ownsRow base e z v6 n xs := by
  have s4 := hb4.size
  have s5 := g5.size
  have s7 := g7.size
  have hsz := setCell_size' w5 ⟨w4.heap.size, 2, none⟩ bv
  simp only [World.size_alloc, hsz] at s5 s7
  have n6 : ∀ g, g < w4.heap.size → u6.ownBlock ≠ some g → v6.ownBlock ≠ some g := fun g hg h e => by
    rcases a5 with q | q
    · exact h (q ▸ e)
    · rw [q] at e; have := Option.some.inj e; omega
  have n7 : ∀ g, g < w4.heap.size → u7.ownBlock ≠ some g → v7.ownBlock ≠ some g := fun g hg h e => by
    rcases a7 with q | q
    · exact h (q ▸ e)
    · rw [q] at e; have := Option.some.inj e; omega
  have hold : ∀ {A : Option Addr} {r : List V}, VRowS wo (RTwo w1 wo u6 u7) A r → VRowS w7 (RTwo w1 w7 v6 v7) A r := fun {A r} h => by
    have hk : ∀ g, RTwo w1 wo u6 u7 g → w7.heap[g]? = wo.heap[g]? := fun g hg => (two_keep g5 g7 (by have := hg.1.2.1; omega) hg.2.1 hg.2.2).trans (hb4.block g hg.1.2.1)
    refine (h.kept hk).mono fun g hg => ⟨⟨hg.1.1, by have := hg.1.2.1; omega, fun o => (frozen_of_block (hk g hg)).trans (hg.1.2.2 o)⟩, n6 g (by have := hg.1.2.1; omega) hg.2.1, n7 g (by have := hg.1.2.1; omega) hg.2.2⟩
  have hnew : VRowS w7 (RTwo w1 w7 v6 v7) x.A x.r := by
    have q6 : ∀ g, NewS wo w4 g → u6.ownBlock ≠ some g := fun g hg e => by have := (l6 g e).2; have := hg.1; omega
    have q7 : ∀ g, NewS wo w4 g → u7.ownBlock ≠ some g := fun g hg e => by have := (l7 g e).2; have := hg.1; omega
    have hk : ∀ g, NewS wo w4 g → w7.heap[g]? = w4.heap[g]? := fun g hg => two_keep g5 g7 hg.2.1 (q6 g hg) (q7 g hg)
    refine (hx.kept hk).mono fun g hg => ⟨⟨by have := hg.1; omega, by have := hg.2.1; omega, fun o => (frozen_of_block (hk g hg)).trans (hg.2.2 o)⟩, n6 g hg.2.1 (q6 g hg), n7 g hg.2.1 (q7 g hg)⟩
  refine ⟨fun z hz => ?_, fun z hz => ?_, ?_, fun g h6 h7 => ?_, fun {base z n e xs} h => ?_⟩
  · rcases List.mem_append.1 hz with hz | hz
    · exact hold (hor z hz)
    · rw [List.mem_singleton.1 hz]; exact hnew
  · rcases List.mem_append.1 hz with hz | hz
    · exact hold (hbr z hz)
    · rw [List.mem_singleton.1 hz, hyA, hyr]; exact hnew
  · have h1 := hb1.trans (hb4.mono hs)
    have h2 := ((h1.alloc (by omega) o1).alloc (by simp only [World.size_alloc]; omega) o2).grown g5 (by simp only [World.size_alloc]; omega) (fun g e => (l6 g e).1)
    have h3 := (h2.setCell (p := ⟨w4.heap.size, 2, none⟩) (by show w1.heap.size ≤ w4.heap.size; omega) bv).alloc (by rw [hsz]; omega) o3
    exact h3.grown g7 (by simp only [World.size_alloc, hsz]; omega) (fun g e => (l7 g e).1)
  · rcases a5 with q | q
    · rw [q] at h6
      have l := l6 g h6
      exact n7 g (by omega) (hne g h6) h7
    · rw [q] at h6
      have hg := Option.some.inj h6
      rcases a7 with r | r
      · rw [r] at h7; have := (l7 g h7).2; omega
      · rw [r] at h7; have := Option.some.inj h7; omega
  · have hlt := fun g hg => (h.lt g hg).2
    refine own_of_block h fun g hg => ?_
    have hgl := hlt g hg
    have hbox : g ≠ w4.heap.size := by
      rcases a5 with q | q
      · rw [q] at hg; have := (l6 g hg).2; omega
      · rw [q] at hg; have := Option.some.inj hg; omega
    have h7 : u7.ownBlock ≠ some g := by
      rcases a5 with q | q
      · rw [q] at hg; exact hne g hg
      · rw [q] at hg
        have := Option.some.inj hg
        intro e
        have := (l7 g e).2
        omega
    exact (g7.block g (by simp only [World.size_alloc, hsz]; omega) fun e => h7 e.symm).trans ((Below.heap_alloc _ _ g (by rw [hsz]; omega)).trans (Below.heap_setCell w5 _ bv g hbox))
end Go.Proofs.YtajnnkapgnmoaaaGreat
/-
  Adds in any order, and in two batches: the same tables. No program in sight.
-/
set_option linter.unusedVariables false
namespace Go.Proofs.YtajnnkapgnmoaaaGreat
open Go.RowKit

theorem good_map' (l : List CM) (b : Bool) : ∀ c ∈ l.map (fun x => tameC x b), GoodC c ∧ c.rem = b := fun c hc => by
  obtain ⟨x, _, rfl⟩ := List.mem_map.1 hc
  exact ⟨tameC_good x b, rfl⟩
theorem updS_perm (nm : ByteArray) {l l' : List Ch} (h : l.Perm l') {s : List It} (hs : SetOk s) (hg : ∀ c ∈ l, GoodC c) : updS nm l s = updS nm l' s := by
  have h1 := updS_both nm l hs hg
  have h2 := updS_both nm l' hs fun c hc => hg c (h.mem_iff.2 hc)
  exact set_eq h1.1 h2.1 fun q => by rw [h1.2, h2.2, netsL_perm nm h q]
theorem hasN_perm {nm : ByteArray} {l l' : List Ch} (h : l.Perm l') : hasN nm (l.map Ch.nm) = hasN nm (l'.map Ch.nm) := by
  rw [Bool.eq_iff_iff, hasN_names, hasN_names]
  exact ⟨fun ⟨c, hc, e⟩ => ⟨c, h.mem_iff.1 hc, e⟩, fun ⟨c, hc, e⟩ => ⟨c, h.mem_iff.2 hc, e⟩⟩
theorem tell_perm {a b a' b' : List It} {l l' : List Ch} (h : l.Perm l') : tellK a b a' b' l = tellK a b a' b' l' := by
  unfold tellK
  rw [hasN_perm h, hasN_perm h]
theorem updS_append (nm : ByteArray) (l l' : List Ch) (s : List It) : updS nm (l ++ l') s = updS nm l' (updS nm l s) := by
  unfold updS
  rw [List.foldl_append]
theorem updS_vol_le (nm : ByteArray) {l : List Ch} {s : List It} (hs : SetOk s) (hg : ∀ c ∈ l, GoodC c) : vol (updS nm l s) ≤ vol s + l.length := by
  have h := updS_both nm l hs hg
  have := SetOk.vol_le h.1.toOrd (l := s ++ netsL nm l) (fun q => by rw [h.2, look_append])
  rw [vol_append] at this
  have := vol_nets nm l
  omega
theorem order_plain {a b : List It} {l : List Ch} (ha : SetOk a) (hb : SetOk b) (va : vol a ≤ 20) (vb : vol b ≤ 20) (hg : ∀ c ∈ l, GoodC c ∧ c.rem = false) (hl : l.length ≤ 8) (h2 : 2 ≤ l.length) :
    applyK (st a b) l = (0, 0, st (updS nmU l a) (updS nmT l b), tellK a b (updS nmU l a) (updS nmT l b) l) ∧
    applyK (st a b) l.reverse = (0, 0, st (updS nmU l a) (updS nmT l b), tellK a b (updS nmU l a) (updS nmT l b) l) ∧
    ∀ r, 1 ≤ r → r < l.length → (∃ ts, applyK (st a b) (l.take r) = (0, 0, st (updS nmU (l.take r) a) (updS nmT (l.take r) b), ts)) ∧
      ∃ ts, applyK (st (updS nmU (l.take r) a) (updS nmT (l.take r) b)) (l.drop r) = (0, 0, st (updS nmU l a) (updS nmT l b), ts) := by
  have hp : l.reverse.Perm l := List.reverse_perm l
  have g1 : ∀ c ∈ l, GoodC c := fun c hc => (hg c hc).1
  refine ⟨apply_adds hl (by omega) ha hb (by omega) (by omega) hg, ?_, fun r h1 h3 => ⟨?_, ?_⟩⟩
  · have := apply_adds (l := l.reverse) (by simpa using hl) (by simp; omega) ha hb (by omega) (by omega) (fun c hc => hg c (hp.mem_iff.1 hc))
    rw [this, updS_perm nmU hp ha fun c hc => g1 c (hp.mem_iff.1 hc), updS_perm nmT hp hb fun c hc => g1 c (hp.mem_iff.1 hc), tell_perm hp]
  · exact ⟨_, apply_adds (by rw [List.length_take]; omega) (by rw [List.length_take]; omega) ha hb (by omega) (by omega) (fun c hc => hg c (List.mem_of_mem_take hc))⟩
  · have gt : ∀ c ∈ l.take r, GoodC c := fun c hc => g1 c (List.mem_of_mem_take hc)
    have u1 := updS_both nmU (l.take r) ha gt
    have u2 := updS_both nmT (l.take r) hb gt
    have v1 := updS_vol_le nmU ha gt
    have v2 := updS_vol_le nmT hb gt
    rw [List.length_take] at v1 v2
    have := apply_adds (l := l.drop r) (by rw [List.length_drop]; omega) (by rw [List.length_drop]; omega) u1.1 u2.1 (by omega) (by omega) (fun c hc => hg c (List.mem_of_mem_drop hc))
    rw [← updS_append, ← updS_append, List.take_append_drop] at this
    exact ⟨_, this⟩
theorem ChRow.take {w : World} {S : Nat → Prop} {A : Option Addr} {l : List CM} (h : ChRow w S A l) (r : Nat) : ChRow w S A (l.take r) :=
  ⟨by
    rcases h.at_ with rfl | ⟨b, off, hA, hS, h⟩
    · exact .inl (by simp)
    · exact .inr ⟨b, off, hA, hS, fun i x hx => h i x (by
        rw [List.getElem?_take] at hx
        split at hx
        · exact hx
        · cases hx)⟩, fun x hx => h.rows x (List.mem_of_mem_take hx)⟩
theorem ChRow.drop {w : World} {S : Nat → Prop} {b off : Nat} {l : List CM} (h : ChRow w S (some ⟨b, off, none⟩) l) (r : Nat) : ChRow w S (some ⟨b, off + r * 3, none⟩) (l.drop r) :=
  ⟨by
    rcases h.at_ with rfl | ⟨b', off', hA, hS, h⟩
    · exact .inl (by simp)
    · obtain ⟨rfl, rfl⟩ : b = b' ∧ off = off' := by simpa using hA
      refine .inr ⟨b, off + r * 3, rfl, hS, fun i x hx => ?_⟩
      rw [List.getElem?_drop] at hx
      obtain ⟨c1, c2, c3⟩ := h (r + i) x hx
      rw [show off + r * 3 + i * 3 = off + (r + i) * 3 by omega]
      exact ⟨c1, c2, c3⟩, fun x hx => h.rows x (List.mem_of_mem_drop hx)⟩
/-- two tables that Apply gives, and what it tells -/
theorem ret_two {w w' : World} {a b : List It} {ds : List (ByteArray × List It)} {v d : Value} (h : ApplyRet w w' (st a b) ds v d) :
    ∃ (g cap : Nat) (s0 s1 : TM) (A : Option Addr) (c : Nat) (xs : List XM), v = .slice (some ⟨g, 0, none⟩) 2 cap ∧ d = .slice A xs.length c ∧ TRow w' (fun k => k < w'.heap.size) (some ⟨g, 0, none⟩) [s0, s1] ∧ [s0, s1].map TM.key = st a b ∧ its s0.rows = a ∧ its s1.rows = b ∧ XRow w' (fun k => k < w'.heap.size) A xs ∧ xs.map XM.key = ds := by
  obtain ⟨⟨g2, cap2, s, hv, hg2, hNow, hsk⟩, ⟨A9, c9, xs, hd, hX, hxk⟩⟩ := h
  subst hv
  obtain ⟨s0, s1, rfl⟩ : ∃ s0 s1, s = [s0, s1] := by
    match s, hsk with
    | [s0, s1], _ => exact ⟨s0, s1, rfl⟩
    | [], h => simp [st] at h
    | [s0], h => simp [st] at h
    | s0 :: s1 :: s2 :: s, h => simp [st] at h
  have hk := hsk
  simp only [List.map_cons, List.map_nil, st, List.cons.injEq, and_true] at hk
  exact ⟨g2, cap2, s0, s1, A9, c9, xs, rfl, hd, hNow.row hg2, hsk, congrArg (fun k : Key => k.2.2) hk.1, congrArg (fun k : Key => k.2.2) hk.2, hX.mono fun k h => h.2.1, hxk⟩
/-- the rows' cells of two tables -/
theorem two_cells {w : World} {g : Nat} {s0 s1 : TM} (h : TRow w (fun k => k < w.heap.size) (some ⟨g, 0, none⟩) [s0, s1]) : ∀ j : Nat, j < 2 → ∃ tt ∈ [s0, s1], (j = 0 → tt = s0) ∧ (j = 1 → tt = s1) ∧ ∀ wz, Below w.heap.size w wz → wz.cell? ⟨g, j * 3 + 2, none⟩ = some (.slice tt.rA tt.rows.length tt.rc) ∧ SRow wz (fun k => k < wz.heap.size) tt.rA tt.rows := fun j hj => by
  obtain ⟨tt, ht⟩ : ∃ tt, [s0, s1][j]? = some tt := ⟨_, List.getElem?_eq_getElem (by simpa using hj)⟩
  have hm := List.mem_of_getElem? ht
  obtain ⟨b, o, e, hb, _, _, c2⟩ := h.get ht
  obtain ⟨rfl, rfl⟩ : g = b ∧ 0 = o := by simpa using e
  rw [Nat.zero_add] at c2
  refine ⟨tt, hm, fun e => ?_, fun e => ?_, fun wz hz => ⟨(hz.cell hb).trans c2, ((h.rows tt hm).below hz (fun k hk => hk)).mono fun k hk => Nat.lt_of_lt_of_le hk hz.size⟩⟩
  · subst e; simpa using ht.symm
  · subst e; simpa using ht.symm
def ApOk (w : World) (ks : List Key) (e : Ending) (w' : World) : Prop := ∃ v dv, e = .returned (.tuple #[v, dv, .int .i64 0, .int .i64 0]) ∧ Below w.heap.size w w' ∧ ∃ ts, ApplyRet w w' ks ts v dv
theorem tell_ok {a b a' b' : List It} {l : List Ch} (ha : KeysOk 208 (st a b)) (hb : KeysOk 208 (st a' b')) : ∀ d ∈ tellK a b a' b' l, SetOk d.2 ∧ vol d.2 ≤ 900 := by
  have hsa := ha.keys (nmU, uC, a) (by simp [st])
  have hsb := ha.keys (nmT, tC, b) (by simp [st])
  have hva := hb.keys (nmU, uC, a') (by simp [st])
  have hvb := hb.keys (nmT, tC, b') (by simp [st])
  intro d hd
  unfold tellK at hd
  have f1 : SetOk (sumS a' (flipS a)) ∧ ∀ q, look (sumS a' (flipS a)) q = look a' q + look (flipS a) q := sumS_both hva.set hsa.set.flip
  have f2 : SetOk (sumS b' (flipS b)) ∧ ∀ q, look (sumS b' (flipS b)) q = look b' q + look (flipS b) q := sumS_both hvb.set hsb.set.flip
  have v1 := SetOk.vol_le f1.1.toOrd (l := a' ++ flipS a) (fun q => by rw [f1.2, look_append])
  have v2 := SetOk.vol_le f2.1.toOrd (l := b' ++ flipS b) (fun q => by rw [f2.2, look_append])
  rw [vol_append, vol_flip] at v1 v2
  have x1 := hva.vol
  have x2 := hvb.vol
  have x3 := hsa.vol
  have x4 := hsb.vol
  dsimp only at x1 x2 x3 x4
  rcases List.mem_append.1 hd with hd | hd
  · split at hd
    · rw [List.mem_singleton.1 hd]; exact ⟨f2.1, by dsimp only; omega⟩
    · simp at hd
  · split at hd
    · rw [List.mem_singleton.1 hd]; exact ⟨f1.1, by dsimp only; omega⟩
    · simp at hd
theorem sok_of {l : List IM} {s : List It} (h : its l = s) (hs : SetOk s) (hv : vol s ≤ 1000) : SOk l ∧ l.length ≤ 1073741824 := by
  subst h
  have h2 := len_vol hs.nets
  rw [its_len] at h2
  exact ⟨⟨hs, by omega⟩, by omega⟩
end Go.Proofs.YtajnnkapgnmoaaaGreat
/-
  law 16's BatchOrder.
-/
set_option linter.unusedVariables false
set_option linter.unusedSimpArgs false
namespace Go.Proofs.YtajnnkapgnmoaaaGreat
open Go.RowKit

set_option maxHeartbeats 8000000 in
set_option maxRecDepth 100000 in
theorem batchOrder_any (A B : Option Addr) (c d : Nat) (l0 l1 : List CM) (cut : Int) (hcut1 : -9223372036854775808 ≤ cut) (hcut2 : cut ≤ 9223372036854775807) (W : World) (h0 : ChIn W A l0) (h1 : ChIn W B l1) :
    Calls Tryz.prog 7 #[.slice A l0.length c, .slice B l1.length d, .int .i64 cut] W fun e w' => e = .returned (.bool true) ∧ Below W.heap.size W w' := by
  obtain ⟨i2, hi, hz0, hz1, hz2⟩ := info_parts change_info
  have mixed : Tryz.prog.follows .mixedOrders = true := by kernel_rfl
  have H1 := Lib.hid h1
  have HT0 := Lib.hid (h0.tables (Below.refl _ _) 0 (by omega) (by omega) c)
  have hkn := Lib.hid (fun w3 => known16 w3)
  obtain ⟨n1, hn1⟩ : ∃ n1, l1.length = n1 := ⟨_, rfl⟩
  have HN1 := Lib.hid hn1
  have hn1b := h1.len
  rw [hn1] at hn1b ⊢
  obtain ⟨n0, hn0⟩ : ∃ n0, l0.length = n0 := ⟨_, rfl⟩
  rw [hn0] at HT0 ⊢
  clear h0 h1 hn1 hn0
  go_enter Tryz.func7, Tryz.ntmps7
  go_wp2_with fail
  refine HT0.out.mono ?_
  rintro e w1 ⟨⟨v, rfl, hT⟩, hb1⟩
  obtain ⟨g, t0, t1, rfl, hTR, k0, k1⟩ := hT.get
  have HTR := Lib.hid hTR
  have HK0 := Lib.hid k0
  have HK1 := Lib.hid k1
  have HB1 := Lib.hid hb1
  have hs1 := hb1.size
  clear hT hTR k0 k1 hb1 HT0
  go_wp2_with fail
  go_loopw [8, 10] (fun v i wr => ∃ (k : Nat) (sl : List CM), k ≤ n1 ∧ k ≤ 8 ∧ i = .int .i64 k ∧ wr.ownsRow w1.heap.size 28 3 v sl.length (flatK sl) ∧ Below w1.heap.size w1 wr ∧ Hid (∀ x ∈ sl, VRowS wr (fun g => NewS w1 wr g ∧ v.ownBlock ≠ some g) x.A x.r) ∧ Hid (sl.map CM.ch = (l1.take k).map fun x => tameC x false) ∧ sl.length = k) (fun _ i _ => n1 - (intOf i).toNat)
  case atStart => exact ⟨0, [], Nat.zero_le _, Nat.zero_le _, rfl, World.ownsRow_nil _ _ _ _, Below.refl _ _, Lib.hid (fun x hx => by simp at hx), Lib.hid rfl, rfl⟩
  case round =>
    rename World => wo
    obtain ⟨k, sl, hk, hk8, rfl, ho, hb, HSR, HSL, hsl⟩ := hrel
    have HO := Lib.hid ho
    have HB := Lib.hid hb
    have hs := hb.size
    clear ho hb
    go_upto_region 4 with (fail)
    go_cut [41] (fun sb wx => sb = .bool (decide (k < n1) && decide (k < 8)) ∧ wo = wx)
    case first =>
      by_cases h1 : k < n1
      · by_cases h2 : k < 8
        · have d1 : decide ((k : Int) < (n1 : Int)) = true := decide_eq_true (by omega)
          have d2 : decide ((k : Int) < 8) = true := decide_eq_true (by omega)
          have d3 : decide (k < n1) = true := decide_eq_true h1
          have d4 : decide (k < 8) = true := decide_eq_true h2
          go_wp2_with fail
          go_meet
          exact ⟨by rw [d3, d4]; rfl, rfl⟩
        · have d1 : decide ((k : Int) < (n1 : Int)) = true := decide_eq_true (by omega)
          have d2 : decide ((k : Int) < 8) = false := decide_eq_false (by omega)
          have d3 : decide (k < n1) = true := decide_eq_true h1
          have d4 : decide (k < 8) = false := decide_eq_false h2
          go_wp2_with fail
          go_meet
          exact ⟨by rw [d3, d4]; rfl, rfl⟩
      · have d1 : decide ((k : Int) < (n1 : Int)) = false := decide_eq_false (by omega)
        have d3 : decide (k < n1) = false := decide_eq_false h1
        go_wp2_with fail
        go_meet
        exact ⟨by rw [d3, Bool.false_and], rfl⟩
    case rest =>
    obtain ⟨rfl, rfl⟩ := hcut
    obtain ⟨q, hq⟩ : ∃ q, (decide (k < n1) && decide (k < 8)) = q := ⟨_, rfl⟩
    rw [hq]
    cases q
    case true =>
      have hlt := of_decide_eq_true (Bool.and_eq_true_iff.1 hq).1
      have hlt2 := of_decide_eq_true (Bool.and_eq_true_iff.1 hq).2
      clear hq
      obtain ⟨x, hx⟩ : ∃ x, l1[k]? = some x := ⟨_, List.getElem?_eq_getElem (by rw [HN1.out]; exact hlt)⟩
      have HBW : Hid (Below W.heap.size W wo) := Lib.hid (HB1.out.trans (HB.out.mono hs1))
      obtain ⟨b, off, rfl, hSb, hc1, hc2, hc3⟩ := (H1.out.row.below HBW.out (fun k hk => hk)).get hx
      have hm := List.mem_of_getElem? hx
      have HTM := Lib.hid (fun w1 (hb : Below W.heap.size W w1) => H1.out.tame hm hb)
      have HTK : Hid (((l1.take k).map fun x => tameC x false) ++ [tameC x false] = (l1.take (k + 1)).map fun x => tameC x false) := Lib.hid (by
        obtain ⟨h1, e1⟩ := List.getElem?_eq_some_iff.1 hx
        rw [List.take_succ_eq_append_getElem h1, List.map_append, e1]
        rfl)
      obtain ⟨xnm, xA, xc, xr, xrem⟩ := x
      dsimp only at hc1 hc2 hc3 HTM
      unfold TameRet at HTM
      obtain ⟨K, hK⟩ : ∃ K, tameK xnm xr = K := ⟨_, rfl⟩
      have hK3 := tameK_len xnm xr
      have HKK := Lib.hid hK
      rw [hK] at HTM hK3
      obtain ⟨xn, hxn⟩ : ∃ xn, xr.length = xn := ⟨_, rfl⟩
      rw [hxn] at hc2 HTM
      obtain ⟨nm', r'⟩ := K
      dsimp only at HTM hK3
      obtain ⟨rn, hrn⟩ : ∃ rn, r'.length = rn := ⟨_, rfl⟩
      have HRN := Lib.hid hrn
      rw [hrn] at HTM hK3
      clear hx hm hSb hK hxn hrn
      go_wp2_with fail
      refine (HTM.out _ HBW.out).mono ?_
      rintro e w4 ⟨g4, rfl, hg4, hcells, hb4⟩
      have HB4 := Lib.hid hb4
      have hs4 := hb4.size
      have HCE := Lib.hid hcells
      have hg4s : g4 < w4.heap.size := (Array.getElem?_eq_some_iff.1 hcells).1
      clear hb4 hcells HTM
      go_wp2_with (at_builtin; refine wpList_append_any _ rfl _ _ 22 rfl w1.heap.size 28 i2 _ 3 48 Tryz.underlying22 hi hz0 hz1 hz2 rfl (by decide) _ _ _ rfl (((ownM_below HO.out HB4.out).alloc _).alloc _) (w4.heap.size + 1 + 1) _ _ _ [.string nm', .slice (some ⟨g4, 0, none⟩) rn rn, .bool false] rfl ⟨rfl, fun _ => ⟨_, rfl, Nat.lt_succ_self _, World.news_of_block (by have h := heap_alloc_new (w4.alloc (.cells #[.string nm', .slice (some ⟨g4, 0, none⟩) rn rn, .bool false] 28)) (.cells #[.string nm', .slice (some ⟨g4, 0, none⟩) rn rn, .bool false] 28); simp only [World.size_alloc] at h; exact h)⟩⟩ ?c1 ?c2 ?c3 ?c4 ?_)
      case c1 => intro u hu; simp only [List.mem_cons, List.not_mem_nil, or_false] at hu; rcases hu with rfl | rfl | rfl <;> rfl
      case c2 => unfold maxLen; omega
      case c3 => omega
      case c4 => simp; omega
      intro v' w5 hown' hgrow hat
      obtain ⟨x', ex'⟩ : ∃ x' : CM, x' = ⟨nm', some ⟨g4, 0, none⟩, rn, r', false⟩ := ⟨_, rfl⟩
      obtain ⟨wb, hwb⟩ : ∃ wb, wb = w4.alloc (.cells #[.string nm', .slice (some ⟨g4, 0, none⟩) rn rn, .bool false] 28) := ⟨_, rfl⟩
      have hwbs : wb.heap.size = w4.heap.size + 1 := by rw [hwb]; simp
      have hb4b : Below wo.heap.size wo wb := by rw [hwb]; exact HB4.out.alloc hs4 _
      have hxr : VRowS wb (NewS wo wb) (toI x').A (toI x').r := by
        rw [ex']
        have hbk : Blk wb g4 49 (flat r').toArray := by rw [hwb]; exact Blk.alloc HCE.out _
        exact vals_of_blk hbk ⟨hg4, by omega, fun o => Blk.frozen hbk o⟩
      obtain ⟨q1, q2⟩ := snoc_items (w2 := w1) (wc := wo) (w4 := wb) (u := u8) (v' := v') (ol := sl.map toI) (x' := toI x') (fun z hz => by
        obtain ⟨y, hy, rfl⟩ := List.mem_map.1 hz
        exact HSR.out y hy) (fun g h => HO.out.lt g h) hs HB.out hb4b (Nat.le_refl _) hxr _ (by rw [hwb]; exact hgrow) (by rw [hwbs]; simpa using hat)
      have HO5 : Hid (w5.ownsRow w1.heap.size 28 3 v' (sl ++ [x']).length (flatK (sl ++ [x']))) := Lib.hid (by
        rw [flatK_append, flatK_one, List.length_append, ex', hsl]
        simp only [CM.cs, HRN.out]
        exact hown')
      have HSR5 : Hid (∀ x ∈ sl ++ [x'], VRowS w5 (fun g => NewS w1 w5 g ∧ v'.ownBlock ≠ some g) x.A x.r) := Lib.hid (fun y hy => by
        refine q1 (toI y) ?_
        rcases List.mem_append.1 hy with hy | hy
        · exact List.mem_append_left _ (List.mem_map.2 ⟨y, hy, rfl⟩)
        · rw [List.mem_singleton.1 hy]; exact List.mem_append_right _ (by simp))
      have HSL5 : Hid ((sl ++ [x']).map CM.ch = (l1.take (k + 1)).map fun x => tameC x false) := Lib.hid (by
        rw [List.map_append, HSL.out, ← HTK.out, ex']
        unfold tameC
        simp only [HKK.out]
        rfl)
      have HB5 := Lib.hid q2
      have hsl5 : (sl ++ [x']).length = k + 1 := by rw [List.length_append, hsl]; rfl
      generalize sl ++ [x'] = sl5 at HO5 HSR5 HSL5 hsl5
      clear hown' hgrow hat hxr q1 q2 ex' HCE HB4 HO HB HSR HSL hwb hwbs hb4b
      go_wp2_with fail
      go_roundw
      case rel => exact ⟨k + 1, sl5, by omega, by omega, by go_num, HO5.out, HB5.out, HSR5, HSL5, hsl5⟩
      case measure => simp [intOf]; omega
    · have hkl : k = 8 ∨ k = n1 := by
        have h1 := Bool.and_eq_false_iff.1 hq
        rcases h1 with h1 | h1
        · have := of_decide_eq_false h1; omega
        · have := of_decide_eq_false h1; omega
      clear hq
      have htk : l1.take k = l1.take 8 := by
        rcases hkl with h | h
        · rw [h]
        · rw [List.take_of_length_le (by rw [HN1.out]; omega), List.take_of_length_le (by rw [HN1.out]; omega)]
      obtain ⟨LS, hLS⟩ : ∃ LS, ((l1.take 8).map fun x => tameC x false) = LS := ⟨_, rfl⟩
      have hsm : sl.map CM.ch = LS := by rw [← hLS, ← htk]; exact HSL.out
      have hg : ∀ c ∈ LS, GoodC c ∧ c.rem = false := fun c hc => by rw [← hLS] at hc; exact good_map' _ false c hc
      have hLl : LS.length = k := by rw [← hsm, List.length_map, hsl]
      have HSM := Lib.hid hsm
      have HG := Lib.hid hg
      have HLL := Lib.hid hLl
      have HSLN := Lib.hid hsl
      have HWB : Hid (Below W.heap.size W wo) := Lib.hid (HB1.out.trans (HB.out.mono hs1))
      have hws := HWB.out.size
      rw [hsl]  at HO
      clear hLS htk hsm hg hLl hkl HSL H1
      rcases Nat.eq_zero_or_pos k with hk0 | hk0
      · subst hk0
        obtain rfl : sl = [] := List.eq_nil_of_length_eq_zero hsl
        obtain ⟨A8, c8, rfl, _⟩ := own_slice HO.out
        clear hsl
        go_wp2_with fail
        refine wp_loop_rounds 1 ?_
        rw [rounds_succ]
        go_wp2_with fail
        refine (hkn.out _).mono ?_
        rintro e w3 ⟨rfl, hb3⟩
        have HW3 := Lib.hid (HWB.out.trans (hb3.mono hws))
        clear hb3
        go_wp2_with fail
        go_ret
        exact ⟨rfl, HW3.out⟩
      obtain ⟨g8, cap8, rfl, hg81, hg82⟩ := HO.out.form hk0
      have hcap : k ≤ cap8 := by
        obtain ⟨A', c', hv, hc⟩ := own_slice HO.out
        simp only [Value.slice.injEq, true_and] at hv
        omega
      have HCH : Hid (ChRow wo (fun g => g < wo.heap.size) (some ⟨g8, 0, none⟩) sl) := Lib.hid (by
        obtain ⟨A8, c8, hv, _, hS⟩ := own_chs (S := fun g => NewS w1 wo g) (l := sl) (by rw [hsl]; exact HO.out) (fun g h1 h2 h3 => ⟨h1, h2, h3⟩) (fun x hx => (HSR.out x hx).mono fun g hg => hg.1)
        simp only [Value.slice.injEq] at hv
        rw [hv.1]
        exact hS.mono fun g h => h.2.1)
      have hwrap : IntKind.i64.wrap ((k : Int) - 1) = (k : Int) - 1 := by rw [IntKind.wrap_i64]; omega
      clear hsl HO HSR
      go_wp2_with fail
      go_loopw [9, 12] (fun v i wr => ∃ (p : Nat) (tl : List CM), p ≤ k ∧ i = .int .i64 ((p : Int) - 1) ∧ wr.ownsRow wo.heap.size 28 3 v tl.length (flatK tl) ∧ RowKit.Below wo.heap.size wo wr ∧ Hid (tl = (sl.drop p).reverse) ∧ tl.length = k - p) (fun _ i _ => (intOf i + 1).toNat)
      case atStart => exact ⟨k, [], Nat.le_refl _, rfl, World.ownsRow_nil _ _ _ _, Below.refl _ _, Lib.hid (by rw [List.drop_of_length_le (by rw [HSLN.out]; exact Nat.le_refl _)]; rfl), by simp⟩
      case round =>
        rename World => wr
        obtain ⟨p, tl, hp, rfl, hown, hbr, HTL, htl⟩ := hrel
        have HO := Lib.hid hown
        have HBR := Lib.hid hbr
        have hsr := hbr.size
        clear hown hbr
        by_cases hp0 : 0 < p
        · obtain ⟨p', rfl⟩ : ∃ p', p = p' + 1 := ⟨p - 1, by omega⟩
          have ep : ((p' + 1 : Nat) : Int) - 1 = (p' : Int) := by omega
          rw [ep]
          obtain ⟨x, hx⟩ : ∃ x, sl[p']? = some x := ⟨_, List.getElem?_eq_getElem (by rw [HSLN.out]; omega)⟩
          obtain ⟨b9, o9, e9, _, y0, y1, y2⟩ := (HCH.out.below HBR.out (fun g hg => hg)).get hx
          obtain ⟨rfl, rfl⟩ : g8 = b9 ∧ 0 = o9 := by simpa using e9
          rw [Nat.zero_add] at y0 y1 y2
          have HTL2 : Hid (tl ++ [x] = (sl.drop p').reverse) := Lib.hid (by
            obtain ⟨h1, e1⟩ := List.getElem?_eq_some_iff.1 hx
            rw [List.drop_eq_getElem_cons h1, e1, List.reverse_cons, HTL.out])
          obtain ⟨xnm, xA, xc, xr, xrem⟩ := x
          dsimp only at y0 y1 y2
          obtain ⟨xn, hxn⟩ : ∃ xn, xr.length = xn := ⟨_, rfl⟩
          have HXN := Lib.hid hxn
          rw [hxn] at y1
          have hpk : (p' : Int) < (k : Int) := by omega
          have hp0' : (0 : Int) ≤ (p' : Int) := by omega
          have HO2 := Lib.hid (HO.out.alloc (.cells #[.string xnm, .slice xA xn xc, .bool xrem] 28))
          clear hx hxn e9 HTL ep
          go_wp2_with (at_builtin; refine wpList_append_any _ rfl _ _ 22 rfl wo.heap.size 28 i2 _ 3 48 Tryz.underlying22 hi hz0 hz1 hz2 rfl (by decide) _ _ _ rfl HO2.out (wr.heap.size + 1) _ _ _ [.string xnm, .slice xA xn xc, .bool xrem] rfl ⟨rfl, fun _ => ⟨_, rfl, Nat.lt_succ_self _, World.news_of_block (heap_alloc_new wr _)⟩⟩ ?f1 ?f2 ?f3 ?f4 ?_)
          case f1 => intro u hu; simp only [List.mem_cons, List.not_mem_nil, or_false] at hu; rcases hu with rfl | rfl | rfl <;> rfl
          case f2 => unfold maxLen; omega
          case f3 => omega
          case f4 => simp; omega
          intro v' w5 hown' hgrow hat
          have HO5 : Hid (w5.ownsRow wo.heap.size 28 3 v' (tl ++ [(⟨xnm, xA, xc, xr, xrem⟩ : CM)]).length (flatK (tl ++ [(⟨xnm, xA, xc, xr, xrem⟩ : CM)]))) := Lib.hid (by
            rw [flatK_append, flatK_one, List.length_append, htl]
            simp only [CM.cs, HXN.out]
            exact hown')
          have HB5 : Hid (RowKit.Below wo.heap.size wo w5) := Lib.hid ((HBR.out.alloc hsr _).grown hgrow (by simp; omega) (fun g hg => (HO.out.lt g hg).1))
          have htl5 : (tl ++ [(⟨xnm, xA, xc, xr, xrem⟩ : CM)]).length = k - p' := by rw [List.length_append, htl]; simp only [List.length_cons, List.length_nil]; omega
          generalize tl ++ [(⟨xnm, xA, xc, xr, xrem⟩ : CM)] = tl5 at HO5 htl5 HTL2
          clear hown' hgrow hat HO2 HO HBR y0 y1 y2
          go_wp2_with fail
          go_roundw
          case rel => exact ⟨p', tl5, by omega, by go_num, HO5.out, HB5.out, HTL2, htl5⟩
          case measure => simp [intOf]
        · obtain rfl : p = 0 := by omega
          have htr : tl = sl.reverse := by rw [HTL.out, List.drop_zero]
          have htk0 : tl.length = k := by omega
          have HTR2 := Lib.hid htr
          obtain ⟨A9, c9, rfl, hc9, hS9⟩ := own_chs (S := fun g => g < wr.heap.size) (l := tl) HO.out (fun g h1 h2 h3 => h2) (fun x hx => by
            have hx2 : x ∈ sl := by rw [htr] at hx; exact List.mem_reverse.1 hx
            exact ((HCH.out.rows x hx2).kept fun g hg => HBR.out.block g hg).mono fun g hg => Nat.lt_of_lt_of_le hg hsr)
          have HS9 := Lib.hid hS9
          rw [htk0] at hc9 ⊢
          clear htr hS9 HO HTL
          by_cases hk2 : k < 2
          · have hkz : ((k : Int) < 2) := by omega
            go_wp2_with fail
            refine (hkn.out _).mono ?_
            rintro e w3 ⟨rfl, hb3⟩
            have HW3 := Lib.hid ((HWB.out.trans (HBR.out.mono hws)).trans (hb3.mono (by omega)))
            clear hb3
            go_wp2_with fail
            go_ret
            exact ⟨rfl, HW3.out⟩
          have hkz : ¬ ((k : Int) < 2) := by omega
          obtain ⟨a, ha⟩ : ∃ a, setOf (partU ((l0.map CM.ch).take 20) ++ moreU 0) = a := ⟨_, rfl⟩
          obtain ⟨b, hb⟩ : ∃ b, setOf (partT ((l0.map CM.ch).take 20)) = b := ⟨_, rfl⟩
          have hks : [t0, t1].map TM.key = st a b := by
            simp only [List.map_cons, List.map_nil, HK0.out, HK1.out, ha, hb]
            rfl
          have hkok : KeysOk 200 (st a b) := by
            have := KeysOk_tabs 0 (by omega) (l0.map CM.ch)
            unfold tabsK at this
            rw [ha, hb] at this
            exact this
          have hvol := tabs_vol (l0.map CM.ch)
          rw [ha, hb] at hvol
          have hsa := hkok.keys (nmU, uC, a) (by simp [st])
          have hsb := hkok.keys (nmT, tC, b) (by simp [st])
          obtain ⟨P1, P2, P3⟩ := order_plain (a := a) (b := b) (l := LS) hsa.set hsb.set (by omega) (by omega) HG.out (by rw [HLL.out]; omega) (by rw [HLL.out]; omega)
          obtain ⟨a', ha'⟩ : ∃ a', updS nmU LS a = a' := ⟨_, rfl⟩
          obtain ⟨b', hb'⟩ : ∃ b', updS nmT LS b = b' := ⟨_, rfl⟩
          obtain ⟨DS, hDS⟩ : ∃ DS, tellK a b a' b' LS = DS := ⟨_, rfl⟩
          have hkok2 : KeysOk 208 (st a' b') ∧ ∀ r, 1 ≤ r → r < k → KeysOk 208 (st (updS nmU (LS.take r) a) (updS nmT (LS.take r) b)) := by
            refine ⟨?_, fun r h1 h2 => ?_⟩
            · rcases apply_good (a := a) (b := b) (l := LS) (by rw [HLL.out]; omega) (fun c hc => (HG.out c hc).1) hkok with ⟨h, _⟩ | ⟨_, _, h⟩
              · rw [P1] at h; exact absurd rfl h
              · rw [ha', hb'] at h; exact h
            · obtain ⟨⟨ts, q⟩, _⟩ := P3 r h1 (by rw [HLL.out]; exact h2)
              rcases apply_good (a := a) (b := b) (l := LS.take r) (by rw [List.length_take]; omega) (fun c hc => (HG.out c (List.mem_of_mem_take hc)).1) hkok with ⟨h, _⟩ | ⟨_, _, h⟩
              · rw [q] at h; exact absurd rfl h
              · exact h
          have hrl : ∀ x ∈ sl, x.r.length ≤ 1000 := fun x hx => by
            have hm : x.ch ∈ LS := by rw [← HSM.out]; exact List.mem_map.2 ⟨x, hx, rfl⟩
            have := (rowOk_len (good_rowOk (HG.out _ hm).1)).2
            have e : x.ch.r = x.r := rfl
            rw [e] at this
            omega
          rw [ha', hb', hDS] at P1 P2
          rw [ha', hb'] at P3
          have hTwo : ∀ wz, RowKit.Below wo.heap.size wo wz → TRow wz (fun k => k < wz.heap.size) (some ⟨g, 0, none⟩) [t0, t1] := fun wz hz => (((HTR.out.below HB.out (fun k hk => hk.2)).mono (S' := fun k => k < wo.heap.size) fun k hk => Nat.lt_of_lt_of_le hk.2 hs).below hz (fun k hk => hk)).mono fun k hk => Nat.lt_of_lt_of_le hk hz.size
          have HAP1 := Lib.hid (fun wz (hz : RowKit.Below wo.heap.size wo wz) => by
            have h := bapply_any (some ⟨g, 0, none⟩) (some ⟨g8, 0, none⟩) 2 cap8 [t0, t1] sl wz (S := fun k => k < wz.heap.size) (hTwo wz hz) (fun k hk => hk) (by rw [hks]; exact hkok.more (by omega)) (by simp) ((HCH.out.below hz (fun k hk => hk)).mono fun k hk => Nat.lt_of_lt_of_le hk hz.size) (by rw [HSLN.out]; omega) hrl
            rw [hks, HSM.out, HSLN.out, P1] at h
            exact (h : Calls Tryz.prog 13 #[.slice (some ⟨g, 0, none⟩) 2 2, .slice (some ⟨g8, 0, none⟩) k cap8] wz _))
          have HAP2 := Lib.hid (fun wz (hz : RowKit.Below wr.heap.size wr wz) => by
            have hz0 : RowKit.Below wo.heap.size wo wz := HBR.out.trans (hz.mono hsr)
            have h := bapply_any (some ⟨g, 0, none⟩) A9 2 c9 [t0, t1] tl wz (S := fun k => k < wz.heap.size) (hTwo wz hz0) (fun k hk => hk) (by rw [hks]; exact hkok.more (by omega)) (by simp) ((HS9.out.below hz (fun k hk => hk)).mono fun k hk => Nat.lt_of_lt_of_le hk hz.size) (by omega) (fun x hx => hrl x (by rw [HTR2.out] at hx; exact List.mem_reverse.1 hx))
            have e : tl.map CM.ch = LS.reverse := by rw [HTR2.out, List.map_reverse, HSM.out]
            rw [hks, e, htk0, P2] at h
            exact (h : Calls Tryz.prog 13 #[.slice (some ⟨g, 0, none⟩) 2 2, .slice A9 k c9] wz _))
          have HAP3 := Lib.hid (fun (r : Nat) (h1 : 1 ≤ r) (h2 : r < k) wz (hz : RowKit.Below wo.heap.size wo wz) => by
            obtain ⟨ts, q⟩ := (P3 r h1 (by rw [HLL.out]; exact h2)).1
            have h := bapply_any (some ⟨g, 0, none⟩) (some ⟨g8, 0, none⟩) 2 cap8 [t0, t1] (sl.take r) wz (S := fun k => k < wz.heap.size) (hTwo wz hz) (fun k hk => hk) (by rw [hks]; exact hkok.more (by omega)) (by simp) (((HCH.out.take r).below hz (fun k hk => hk)).mono fun k hk => Nat.lt_of_lt_of_le hk hz.size) (by rw [List.length_take]; omega) (fun x hx => hrl x (List.mem_of_mem_take hx))
            have e : (sl.take r).length = r := by rw [List.length_take, HSLN.out]; omega
            rw [hks, List.map_take, HSM.out, e, q] at h
            have h2 : Calls Tryz.prog 13 #[.slice (some ⟨g, 0, none⟩) 2 2, .slice (some ⟨g8, 0, none⟩) r cap8] wz (ApOk wz (st (updS nmU (LS.take r) a) (updS nmT (LS.take r) b))) := h.mono fun e w' ⟨v, dv, q1, q2, _, q4⟩ => ⟨v, dv, q1, q2, _, q4 rfl⟩
            exact h2)
          have HAP4 := Lib.hid (fun (r : Nat) (h1 : 1 ≤ r) (h2 : r < k) wz (hz : RowKit.Below wo.heap.size wo wz) (g2 cap2 : Nat) (s0 s1 : TM) (hT : TRow wz (fun k => k < wz.heap.size) (some ⟨g2, 0, none⟩) [s0, s1]) (hk : [s0, s1].map TM.key = st (updS nmU (LS.take r) a) (updS nmT (LS.take r) b)) => by
            obtain ⟨ts, q⟩ := (P3 r h1 (by rw [HLL.out]; exact h2)).2
            have h := bapply_any (some ⟨g2, 0, none⟩) (some ⟨g8, 0 + r * 3, none⟩) cap2 (cap8 - r) [s0, s1] (sl.drop r) wz (S := fun k => k < wz.heap.size) hT (fun k hk => hk) (by rw [hk]; exact (hkok2.2 r h1 h2).more (by omega)) (by simp) (((HCH.out.drop r).below hz (fun k hk => hk)).mono fun k hk => Nat.lt_of_lt_of_le hk hz.size) (by rw [List.length_drop, HSLN.out]; omega) (fun x hx => hrl x (List.mem_of_mem_drop hx))
            have e : (sl.drop r).length = k - r := by rw [List.length_drop, HSLN.out]
            rw [hk, List.map_drop, HSM.out, e, q, Nat.zero_add] at h
            have h2 : Calls Tryz.prog 13 #[.slice (some ⟨g2, 0, none⟩) 2 cap2, .slice (some ⟨g8, r * 3, none⟩) (k - r) (cap8 - r)] wz (ApOk wz (st a' b')) := h.mono fun e w' ⟨v, dv, q1, q2, _, q4⟩ => ⟨v, dv, q1, q2, _, q4 rfl⟩
            exact h2)
          have HDL : Hid (DS.length ≤ 2) := Lib.hid (by
            rw [← hDS]
            unfold tellK
            rw [List.length_append]
            split <;> split <;> simp)
          have HTELL : Hid (∀ d ∈ DS, SetOk d.2 ∧ vol d.2 ≤ 900) := Lib.hid (by rw [← hDS]; exact tell_ok (hkok.more (by omega)) hkok2.1)
          have HKO2 := Lib.hid hkok2.1
          have HWR : Hid (Below W.heap.size W wr) := Lib.hid (HWB.out.trans (HBR.out.mono hws))
          clear P1 P2 P3 hkok hkok2 hsa hsb hvol hks ha hb ha' hb' hDS hrl hTwo HCH HSM HTR2 HS9 HG HLL HSLN HTR HB1 HK0 HK1 HB htl htk0 hp hp0
          go_wp2_with fail
          refine (HAP1.out wr HBR.out).mono ?_
          rintro e w2 ⟨v13, v14, rfl, hb2, _, hret2⟩
          obtain ⟨g2, cap2, s0, s1, A14, c14, xs, rfl, rfl, hTa, _, ea0, ea1, hXa, hxka⟩ := ret_two (hret2 (by first | rfl | trivial))
          have HBa : Hid (RowKit.Below wo.heap.size wo w2) := Lib.hid (HBR.out.trans (hb2.mono hsr))
          have HBa2 : Hid (RowKit.Below wr.heap.size wr w2) := Lib.hid hb2
          have hsA := hb2.size
          have HTa := Lib.hid hTa
          have HXa := Lib.hid hXa
          have HXKa := Lib.hid hxka
          have HEa0 := Lib.hid ea0
          have HEa1 := Lib.hid ea1
          obtain ⟨m, hm⟩ : ∃ m, xs.length = m := ⟨_, rfl⟩
          have hm8 : m ≤ 2 := by
            have h1 := congrArg List.length HXKa.out
            have h2 := HDL.out
            rw [List.length_map, hm] at h1
            omega
          have HM := Lib.hid hm
          rw [hm]
          clear hret2 hb2 hTa hXa hxka ea0 ea1 hm HAP1
          go_wp2_with fail
          refine (HAP2.out w2 HBa2.out).mono ?_
          rintro e w3 ⟨v17, v18, rfl, hb3, _, hret3⟩
          obtain ⟨g3, cap3, u0, u1, A18, c18, ys, rfl, rfl, hTb, _, eb0, eb1, hXb, hxkb⟩ := ret_two (hret3 (by first | rfl | trivial))
          have hs3 := hb3.size
          have HBb2 : Hid (RowKit.Below w2.heap.size w2 w3) := Lib.hid hb3
          have HBb : Hid (RowKit.Below wo.heap.size wo w3) := Lib.hid (HBa.out.trans (hb3.mono HBa.out.size))
          have HTb := Lib.hid hTb
          have HXb := Lib.hid hXb
          have HXKb := Lib.hid hxkb
          have HEb0 := Lib.hid eb0
          have HEb1 := Lib.hid eb1
          have hm2 : ys.length = m := by
            have h1 := congrArg List.length hxkb
            have h2 := congrArg List.length HXKa.out
            rw [List.length_map] at h1 h2
            rw [h1, ← h2, HM.out]
          have HM2 := Lib.hid hm2
          rw [hm2]
          clear hret3 hb3 hTb hXb hxkb eb0 eb1 hm2 HAP2
          have hw1 : cut < 0 → IntKind.i64.wrap (cut + 1) = cut + 1 := fun h => by rw [IntKind.wrap_i64]; omega
          have hw2 : cut < 0 → IntKind.i64.wrap (-(cut + 1)) = -(cut + 1) := fun h => by rw [IntKind.wrap_i64]; omega
          go_upto_if 89 with (fail)
          go_cut [2] (fun v wx => ∃ cv : Int, v = .int .i64 cv ∧ 0 ≤ cv ∧ cv ≤ 9223372036854775807 ∧ w3 = wx)
          case first =>
            by_cases hc0 : cut < 0
            · have q1 := hw1 hc0
              have q2 := hw2 hc0
              go_wp2_with fail
              go_meet
              refine ⟨-(cut + 1), ?_, by omega, by omega, rfl⟩
              first | rfl | (simp only [q1, q2]) | (rw [q1, q2])
            · go_wp2_with fail
              go_meet
              exact ⟨cut, rfl, by omega, by omega, rfl⟩
          case rest =>
          obtain ⟨cv, rfl, hcv1, hcv2, rfl⟩ := hcut
          obtain ⟨r, hr, hr1, hr2⟩ : ∃ r : Nat, cv.tmod ((k : Int) - 1) = (r : Int) - 1 ∧ 1 ≤ r ∧ r < k := by
            have h1 := Int.tmod_nonneg ((k : Int) - 1) hcv1
            have h2 := Int.tmod_lt_of_pos cv (b := (k : Int) - 1) (by omega)
            exact ⟨(cv.tmod ((k : Int) - 1)).toNat + 1, by omega, by omega, by omega⟩
          go_upto_region 19 with (fail)
          go_cut [21] (fun v wx => v = .int .i64 (r : Int) ∧ w3 = wx)
          case first =>
            have q0 : IntKind.i64.wrap ((k : Int) - 1) = (k : Int) - 1 := by rw [IntKind.wrap_i64]; omega
            have q1 : IntKind.i64.wrap ((r : Int) - 1) = (r : Int) - 1 := by rw [IntKind.wrap_i64]; omega
            have q2 : (1 : Int) + ((r : Int) - 1) = (r : Int) := by omega
            have q3 : IntKind.i64.wrap (r : Int) = (r : Int) := by rw [IntKind.wrap_i64]; omega
            have q4 : ((k : Int) - 1 == 0) = false := by rw [beq_eq_false_iff_ne]; omega
            have q5 : ¬ ((k : Int) - 1 = 0) := by omega
            go_wp2_with fail
            go_meet
            refine ⟨?_, rfl⟩
            first | rfl | (simp only [hr, q0, q1, q2, q3]; done) | (congr 1; omega)
          case rest =>
          obtain ⟨rfl, rfl⟩ := hcut
          have hqr : r ≤ cap8 := by omega
          have hqk : r ≤ k := by omega
          have hcr : ¬ cap8 = r := by omega
          clear hr hcv1 hcv2 hw1 hw2
          go_wp2_with fail
          refine (HAP3.out r hr1 hr2 w3 HBb.out).mono ?_
          rintro e w4 ⟨v22, v23, rfl, hb4, ts4, hret4⟩
          obtain ⟨g4, cap4, m0, m1, A23, c23, zs, rfl, rfl, hTc, hkc, _, _, _, _⟩ := ret_two hret4
          have hs4 := hb4.size
          have HBc : Hid (RowKit.Below wo.heap.size wo w4) := Lib.hid (HBb.out.trans (hb4.mono HBb.out.size))
          have HBc3 : Hid (RowKit.Below w3.heap.size w3 w4) := Lib.hid hb4
          have HQ4 := Lib.hid (HAP4.out r hr1 hr2 w4 HBc.out g4 cap4 m0 m1 hTc hkc)
          generalize zs.length = zn
          clear hret4 hb4 hTc hkc HAP3 HAP4
          go_wp2_with fail
          refine HQ4.out.mono ?_
          rintro e w5 ⟨v26, v27, rfl, hb5, ts5, hret5⟩
          obtain ⟨g5, cap5, o0, o1, A27, c27, os, rfl, rfl, hTd, _, ed0, ed1, _, _⟩ := ret_two hret5
          have hs5 := hb5.size
          have HBd4 : Hid (RowKit.Below w4.heap.size w4 w5) := Lib.hid hb5
          have HBd3 : Hid (RowKit.Below w3.heap.size w3 w5) := Lib.hid (HBc3.out.trans (hb5.mono hs4))
          have HTd := Lib.hid hTd
          have HEd0 := Lib.hid ed0
          have HEd1 := Lib.hid ed1
          generalize os.length = on
          clear hret5 hb5 hTd ed0 ed1 HQ4
          have hmm : ((m : Int) == (m : Int)) = true := beq_self_eq_true _
          go_wp2_with fail
          have HB25 : Hid (RowKit.Below w2.heap.size w2 w5) := Lib.hid (HBb2.out.trans (HBd3.out.mono hs3))
          have HALL : Hid (∀ j : Nat, j < 2 → ∃ tt uu nn : TM, (∀ wz, RowKit.Below w5.heap.size w5 wz → (wz.cell? ⟨g2, j * 3 + 2, none⟩ = some (.slice tt.rA tt.rows.length tt.rc) ∧ wz.cell? ⟨g3, j * 3 + 2, none⟩ = some (.slice uu.rA uu.rows.length uu.rc) ∧ wz.cell? ⟨g5, j * 3 + 2, none⟩ = some (.slice nn.rA nn.rows.length nn.rc)) ∧ SRow wz (fun g => g < wz.heap.size) tt.rA tt.rows ∧ SRow wz (fun g => g < wz.heap.size) uu.rA uu.rows ∧ SRow wz (fun g => g < wz.heap.size) nn.rA nn.rows) ∧
              its tt.rows = its uu.rows ∧ its tt.rows = its nn.rows ∧ (SOk tt.rows ∧ tt.rows.length ≤ 1073741824) ∧ (SOk uu.rows ∧ uu.rows.length ≤ 1073741824) ∧ (SOk nn.rows ∧ nn.rows.length ≤ 1073741824)) := Lib.hid (fun j hj => by
            obtain ⟨tt, _, t1, t2, tc⟩ := two_cells HTa.out j hj
            obtain ⟨uu, _, u1', u2', uc⟩ := two_cells HTb.out j hj
            obtain ⟨nn, _, n1', n2', nc⟩ := two_cells HTd.out j hj
            have hka := HKO2.out.keys (nmU, uC, a') (by simp [st])
            have hkb := HKO2.out.keys (nmT, tC, b') (by simp [st])
            have va := hka.vol
            have vb := hkb.vol
            dsimp only at va vb
            refine ⟨tt, uu, nn, fun wz hz => ?_, ?_⟩
            · obtain ⟨p1, p2⟩ := tc wz (HB25.out.trans (hz.mono HB25.out.size))
              obtain ⟨p3, p4⟩ := uc wz (HBd3.out.trans (hz.mono HBd3.out.size))
              obtain ⟨p5, p6⟩ := nc wz hz
              exact ⟨⟨p1, p3, p5⟩, p2, p4, p6⟩
            · have e01 : j = 0 ∨ j = 1 := by omega
              rcases e01 with e | e
              · have q1 : its tt.rows = a' := by rw [t1 e]; exact HEa0.out
                have q2 : its uu.rows = a' := by rw [u1' e]; exact HEb0.out
                have q3 : its nn.rows = a' := by rw [n1' e]; exact HEd0.out
                exact ⟨q1.trans q2.symm, q1.trans q3.symm, sok_of q1 hka.set (by omega), sok_of q2 hka.set (by omega), sok_of q3 hka.set (by omega)⟩
              · have q1 : its tt.rows = b' := by rw [t2 e]; exact HEa1.out
                have q2 : its uu.rows = b' := by rw [u2' e]; exact HEb1.out
                have q3 : its nn.rows = b' := by rw [n2' e]; exact HEd1.out
                exact ⟨q1.trans q2.symm, q1.trans q3.symm, sok_of q1 hkb.set (by omega), sok_of q2 hkb.set (by omega), sok_of q3 hkb.set (by omega)⟩)
          have hs25 := HB25.out.size
          have hs35 := HBd3.out.size
          have HW5 : Hid (Below W.heap.size W w5) := Lib.hid (HWR.out.trans ((HBa2.out.trans (HB25.out.mono hsA)).mono HWR.out.size))
          clear HTa HTb HTd HEa0 HEa1 HEb0 HEb1 HEd0 HEd1 HBc HBc3 HBd4 HBa HBa2 HBb HBb2 HKO2 HWR HWB
          go_loopw [30] (fun i wr => ∃ j : Nat, j ≤ m ∧ i = .int .i64 j ∧ RowKit.Below w5.heap.size w5 wr) (fun i _ => m - (intOf i).toNat)
          case atStart => exact ⟨0, Nat.zero_le _, rfl, Below.refl _ _⟩
          case round =>
            rename World => wm
            obtain ⟨j, hj, rfl, hbm⟩ := hrel
            have HBM := Lib.hid hbm
            have hsm := hbm.size
            clear hbm
            by_cases hlt : j < m
            · obtain ⟨x, hx⟩ : ∃ x, xs[j]? = some x := ⟨_, List.getElem?_eq_getElem (by rw [HM.out]; exact hlt)⟩
              obtain ⟨y, hy⟩ : ∃ y, ys[j]? = some y := ⟨_, List.getElem?_eq_getElem (by rw [HM2.out]; exact hlt)⟩
              have hxy : x.key = y.key := by
                have h1 : DS[j]? = some x.key := by rw [← HXKa.out, List.getElem?_map, hx]; rfl
                have h2 : DS[j]? = some y.key := by rw [← HXKb.out, List.getElem?_map, hy]; rfl
                rw [h1] at h2
                exact Option.some.inj h2
              have enm : y.nm = x.nm := (congrArg Prod.fst hxy).symm
              have ers : its x.rows = its y.rows := congrArg Prod.snd hxy
              have hxt := HTELL.out x.key (by rw [← HXKa.out]; exact List.mem_map.2 ⟨x, List.mem_of_getElem? hx, rfl⟩)
              have sx := sok_of (l := x.rows) rfl hxt.1 (by have := hxt.2; show vol x.key.2 ≤ 1000; omega)
              have sy := sok_of (l := y.rows) ers.symm hxt.1 (by have := hxt.2; show vol x.key.2 ≤ 1000; omega)
              have B2 : RowKit.Below w2.heap.size w2 wm := HB25.out.trans (HBM.out.mono hs25)
              have B3 : RowKit.Below w3.heap.size w3 wm := HBd3.out.trans (HBM.out.mono hs35)
              have hX := HXa.out.below B2 (fun k hk => hk)
              have hY := HXb.out.below B3 (fun k hk => hk)
              obtain ⟨b8, o8, rfl, _, y0, y1⟩ := hX.get hx
              obtain ⟨b9, o9, rfl, _, y2, y3⟩ := hY.get hy
              rw [enm] at y2
              have hsme := Lib.hid (fun wz (hb : RowKit.Below wm.heap.size wm wz) => zsame_any x.A y.A x.c y.c x.rows y.rows wz (S := fun k => k < wz.heap.size) (((hX.rows x (List.mem_of_getElem? hx)).below hb (fun k hk => Nat.lt_of_lt_of_le hk B2.size)).mono fun k hk => Nat.lt_of_lt_of_le (Nat.lt_of_lt_of_le hk B2.size) hb.size) (((hY.rows y (List.mem_of_getElem? hy)).below hb (fun k hk => Nat.lt_of_lt_of_le hk B3.size)).mono fun k hk => Nat.lt_of_lt_of_le (Nat.lt_of_lt_of_le hk B3.size) hb.size) (fun k hk => hk) sx.2 sy.2 sx.1 sy.1 true ⟨fun _ => ers, fun _ => rfl⟩)
              obtain ⟨xnm, xA, xc, xrows⟩ := x
              obtain ⟨ynm, yA, yc, yrows⟩ := y
              dsimp only at y0 y1 y2 y3 hsme
              generalize xrows.length = xn at y1 hsme
              generalize yrows.length = yn at y3 hsme
              have hnn : (xnm.toList == xnm.toList) = true := beq_self_eq_true _
              clear hx hy hxy enm ers hxt sx sy B2 B3 hX hY
              go_upto_region 27 with (fail)
              have e0 := fun d os => cell_regrown y0 d os
              have e1 := fun d os => cell_regrown y1 d os
              have e2 := fun d os => cell_regrown y2 d os
              have e3 := fun d os => cell_regrown y3 d os
              have C1 := Lib.hid (fun d os => Calls.regrown_of (hsme.out _ (below_regrown wm d os)))
              clear y0 y1 y2 y3 hsme
              refine wp_region_quiet_below (by assumption) (by kernel_rfl) ?_
              iterate 22 (quiet_step (first | (fail)))
              quiet_step (first | (go_at_call 17; exact C1.out _ _))
              iterate 2 (quiet_step (first | (fail)))
              refine wpQuiet_nil ?_
              intro _ hw'
              obtain ⟨⟨nq, osq⟩, hw''⟩ := hw'
              subst hw''
              have HB6 := Lib.hid (HBM.out.trans ((below_regrown wm nq osq).mono hsm))
              clear e0 e1 e2 e3 C1
              generalize Sort.grow (redrawn wm nq) osq = wf at HB6 ⊢
              go_wp2_with fail
              go_roundw
              case rel => exact ⟨j + 1, by omega, by go_num, HB6.out⟩
              case measure => simp [intOf]; omega
            · obtain rfl : j = m := by omega
              rename World => wl
              go_wp2_with fail
              go_loopw [31] (fun i wr => ∃ p : Nat, p ≤ 2 ∧ i = .int .i64 p ∧ RowKit.Below w5.heap.size w5 wr) (fun i _ => 2 - (intOf i).toNat)
              case atStart => exact ⟨0, by omega, rfl, HBM.out⟩
              case round =>
                rename World => wq
                obtain ⟨p, hp, rfl, hbq⟩ := hrel
                have HBQ := Lib.hid hbq
                have hsq := hbq.size
                clear hbq
                by_cases hp2 : p < 2
                · obtain ⟨tt, uu, nn, hF, hq1, hq2, st1, su1, sn1⟩ := HALL.out p hp2
                  obtain ⟨⟨y0, y1, y2⟩, _, _, _⟩ := hF wq HBQ.out
                  have hsm0 := Lib.hid (fun wz (hb : RowKit.Below wq.heap.size wq wz) => zsame_any tt.rA uu.rA tt.rc uu.rc tt.rows uu.rows wz (S := fun k => k < wz.heap.size) (hF wz (HBQ.out.trans (hb.mono hsq))).2.1 (hF wz (HBQ.out.trans (hb.mono hsq))).2.2.1 (fun k hk => hk) st1.2 su1.2 st1.1 su1.1 true ⟨fun _ => hq1, fun _ => rfl⟩)
                  have hsm1 := Lib.hid (fun wz (hb : RowKit.Below wq.heap.size wq wz) => zsame_any tt.rA nn.rA tt.rc nn.rc tt.rows nn.rows wz (S := fun k => k < wz.heap.size) (hF wz (HBQ.out.trans (hb.mono hsq))).2.1 (hF wz (HBQ.out.trans (hb.mono hsq))).2.2.2 (fun k hk => hk) st1.2 sn1.2 st1.1 sn1.1 true ⟨fun _ => hq2, fun _ => rfl⟩)
                  generalize tt.rows.length = tn at y0 hsm0 hsm1
                  generalize uu.rows.length = un at y1 hsm0
                  generalize nn.rows.length = nn' at y2 hsm1
                  have hpd : decide ((p : Int) < 2) = true := decide_eq_true (by omega)
                  have hpi : (p : Int) < 2 := by omega
                  have hpi0 : (0 : Int) ≤ (p : Int) := by omega
                  clear hF hq1 hq2 st1 su1 sn1
                  go_upto_region 32 with (fail)
                  have e0 := fun d os => cell_regrown y0 d os
                  have e1 := fun d os => cell_regrown y1 d os
                  have e2 := fun d os => cell_regrown y2 d os
                  have C1 := Lib.hid (fun d os => Calls.regrown_of (hsm0.out _ (below_regrown wq d os)))
                  have C2 := Lib.hid (fun d os => Calls.regrown_of (hsm1.out _ (below_regrown wq d os)))
                  clear y0 y1 y2 hsm0 hsm1
                  refine wp_region_quiet_below (by assumption) (by kernel_rfl) ?_
                  iterate 10 (quiet_step (first | (fail)))
                  quiet_step (first | (go_at_call 17; exact C1.out _ _))
                  iterate 12 (quiet_step (first | (fail)))
                  quiet_step (first | (go_at_call 17; exact C2.out _ _))
                  iterate 2 (quiet_step (first | (fail)))
                  refine wpQuiet_nil ?_
                  intro _ hw'
                  obtain ⟨⟨nq, osq⟩, hw''⟩ := hw'
                  subst hw''
                  have HB6 := Lib.hid (HBQ.out.trans ((below_regrown wq nq osq).mono hsq))
                  clear e0 e1 e2 C1 C2
                  generalize Sort.grow (redrawn wq nq) osq = wf at HB6 ⊢
                  go_wp2_with fail
                  go_roundw
                  case rel => exact ⟨p + 1, by omega, by go_num, HB6.out⟩
                  case measure => simp [intOf]; omega
                · obtain rfl : p = 2 := by omega
                  go_wp2_with fail
                  refine (hkn.out _).mono ?_
                  rintro e w10 ⟨rfl, hb10⟩
                  have HWF := Lib.hid (HW5.out.trans ((HBQ.out.trans (hb10.mono hsq)).mono HW5.out.size))
                  clear hb10
                  go_wp2_with fail
                  go_ret
                  exact ⟨rfl, HWF.out⟩
end Go.Proofs.YtajnnkapgnmoaaaGreat
