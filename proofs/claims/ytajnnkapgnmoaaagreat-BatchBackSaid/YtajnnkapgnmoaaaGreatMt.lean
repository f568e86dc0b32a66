/-
  Two growing rows of changes, beside a box: what a round leaves. No program in sight.
-/
import Derived.Test.YtajnnkapgnmoaaaGreatMs13
import Derived.Test.YtajnnkapgnmoaaaGreatMs37
import Derived.Deep.RegionHeld3
import Derived.Lib.QuietBelow
set_option linter.unusedVariables false
set_option linter.unusedSimpArgs false
set_option linter.unusedVariables false
namespace Go.Proofs.YtajnnkapgnmoaaaGreat
open Go.RowKit

theorem own_of_block {w w' : World} {base z n : Nat} {e : TypeId} {v : Value} {xs : List Value} (h : w.ownsRow base e z v n xs) (hk : ∀ g, v.ownBlock = some g → w'.heap[g]? = w.heap[g]?) : w'.ownsRow base e z v n xs := by
  refine ⟨h.1, ?_⟩
  rcases h.2 with hn | ⟨g, cap, cur, rfl, hb, hgg, rest⟩
  · exact .inl hn
  · exact .inr ⟨g, cap, cur, rfl, hb, (hk g rfl).trans hgg, rest⟩
def RTwo (w1 w : World) (u6 u7 : Value) (g : Nat) : Prop := NewS w1 w g ∧ u6.ownBlock ≠ some g ∧ u7.ownBlock ≠ some g
theorem two_keep {w4 w5 w7 : World} {u6 u7 : Value} {o1 o2 o3 : Obj} {bv : Value} (g5 : ((w4.alloc o1).alloc o2).grownBy w5 u6.ownBlock) (g7 : ((w5.setCell ⟨w4.heap.size, 2, none⟩ bv).alloc o3).grownBy w7 u7.ownBlock) {g : Nat} (hg : g < w4.heap.size) (h6 : u6.ownBlock ≠ some g) (h7 : u7.ownBlock ≠ some g) : w7.heap[g]? = w4.heap[g]? := by
  have s5 := g5.size
  simp only [World.size_alloc] at s5
  have e5 : w5.heap[g]? = w4.heap[g]? := ((g5.block g (by simp only [World.size_alloc]; omega) fun e => h6 e.symm).trans (Below.heap_alloc _ _ g (by simp only [World.size_alloc]; omega))).trans (Below.heap_alloc _ _ g hg)
  have e6 : (w5.setCell ⟨w4.heap.size, 2, none⟩ bv).heap[g]? = w5.heap[g]? := Below.heap_setCell w5 _ bv g (by show g ≠ w4.heap.size; omega)
  have hsz := setCell_size' w5 ⟨w4.heap.size, 2, none⟩ bv
  exact ((g7.block g (by simp only [World.size_alloc, hsz]; omega) fun e => h7 e.symm).trans (Below.heap_alloc _ _ g (by rw [hsz]; omega))).trans (e6.trans e5)
theorem two_own7 {wo w4 w5 : World} {u6 u7 : Value} {o1 o2 o3 : Obj} {bv : Value} (hb4 : Below wo.heap.size wo w4) (l7 : ∀ g, u7.ownBlock = some g → g < wo.heap.size) (hne : ∀ g, u6.ownBlock = some g → u7.ownBlock ≠ some g)
    (g5 : ((w4.alloc o1).alloc o2).grownBy w5 u6.ownBlock) {base z n : Nat} {e : TypeId} {xs : List Value} (h : wo.ownsRow base e z u7 n xs) : ((w5.setCell ⟨w4.heap.size, 2, none⟩ bv).alloc o3).ownsRow base e z u7 n xs := by
  have s5 := g5.size
  have s4 := hb4.size
  simp only [World.size_alloc] at s5
  refine own_of_block h fun g hg => ?_
  have hgl := l7 g hg
  have hsz := setCell_size' w5 ⟨w4.heap.size, 2, none⟩ bv
  refine (Below.heap_alloc _ _ g (by rw [hsz]; omega)).trans ((Below.heap_setCell w5 _ bv g (by show g ≠ w4.heap.size; omega)).trans ?_)
  exact (((g5.block g (by simp only [World.size_alloc]; omega) fun e => hne g e.symm hg).trans (Below.heap_alloc _ _ g (by simp only [World.size_alloc]; omega))).trans (Below.heap_alloc _ _ g (by omega))).trans (hb4.block g hgl)
theorem two_round {w1 wo w4 w5 w7 : World} {u6 u7 v6 v7 : Value} {sl bl : List CM} {x y : CM} {o1 o2 o3 : Obj} {bv : Value} (hs : w1.heap.size ≤ wo.heap.size) (hb1 : Below w1.heap.size w1 wo) (hb4 : Below wo.heap.size wo w4)
    (hor : ∀ z ∈ sl, VRowS wo (RTwo w1 wo u6 u7) z.A z.r) (hbr : ∀ z ∈ bl, VRowS wo (RTwo w1 wo u6 u7) z.A z.r)
    (l6 : ∀ g, u6.ownBlock = some g → w1.heap.size ≤ g ∧ g < wo.heap.size) (l7 : ∀ g, u7.ownBlock = some g → w1.heap.size ≤ g ∧ g < wo.heap.size) (hne : ∀ g, u6.ownBlock = some g → u7.ownBlock ≠ some g)
    (hx : VRowS w4 (NewS wo w4) x.A x.r) (hyA : y.A = x.A) (hyr : y.r = x.r)
    (g5 : ((w4.alloc o1).alloc o2).grownBy w5 u6.ownBlock) (a5 : v6.ownBlock = u6.ownBlock ∨ v6.ownBlock = some (w4.heap.size + 1 + 1))
    (g7 : ((w5.setCell ⟨w4.heap.size, 2, none⟩ bv).alloc o3).grownBy w7 u7.ownBlock) (a7 : v7.ownBlock = u7.ownBlock ∨ v7.ownBlock = some (w5.heap.size + 1)) :
    (∀ z ∈ sl ++ [x], VRowS w7 (RTwo w1 w7 v6 v7) z.A z.r) ∧ (∀ z ∈ bl ++ [y], VRowS w7 (RTwo w1 w7 v6 v7) z.A z.r) ∧ Below w1.heap.size w1 w7 ∧ (∀ g, v6.ownBlock = some g → v7.ownBlock ≠ some g) ∧
      ∀ {base z n : Nat} {e : TypeId} {xs : List Value}, w5.ownsRow base e z v6 n xs → w7.ownsRow base e z v6 n xs := by
  have s4 := hb4.size
  have s5 := g5.size
  have s7 := g7.size
  have hsz := setCell_size' w5 ⟨w4.heap.size, 2, none⟩ bv
  simp only [World.size_alloc, hsz] at s5 s7
  have n6 : ∀ g, g < w4.heap.size → u6.ownBlock ≠ some g → v6.ownBlock ≠ some g := fun g hg h e => by
    rcases a5 with q | q
    · exact h (q ▸ e)
    · rw [q] at e; have := Option.some.inj e; omega
  have n7 : ∀ g, g < w4.heap.size → u7.ownBlock ≠ some g → v7.ownBlock ≠ some g := fun g hg h e => by
    rcases a7 with q | q
    · exact h (q ▸ e)
    · rw [q] at e; have := Option.some.inj e; omega
  have hold : ∀ {A : Option Addr} {r : List V}, VRowS wo (RTwo w1 wo u6 u7) A r → VRowS w7 (RTwo w1 w7 v6 v7) A r := fun {A r} h => by
    have hk : ∀ g, RTwo w1 wo u6 u7 g → w7.heap[g]? = wo.heap[g]? := fun g hg => (two_keep g5 g7 (by have := hg.1.2.1; omega) hg.2.1 hg.2.2).trans (hb4.block g hg.1.2.1)
    refine (h.kept hk).mono fun g hg => ⟨⟨hg.1.1, by have := hg.1.2.1; omega, fun o => (frozen_of_block (hk g hg)).trans (hg.1.2.2 o)⟩, n6 g (by have := hg.1.2.1; omega) hg.2.1, n7 g (by have := hg.1.2.1; omega) hg.2.2⟩
  have hnew : VRowS w7 (RTwo w1 w7 v6 v7) x.A x.r := by
    have q6 : ∀ g, NewS wo w4 g → u6.ownBlock ≠ some g := fun g hg e => by have := (l6 g e).2; have := hg.1; omega
    have q7 : ∀ g, NewS wo w4 g → u7.ownBlock ≠ some g := fun g hg e => by have := (l7 g e).2; have := hg.1; omega
    have hk : ∀ g, NewS wo w4 g → w7.heap[g]? = w4.heap[g]? := fun g hg => two_keep g5 g7 hg.2.1 (q6 g hg) (q7 g hg)
    refine (hx.kept hk).mono fun g hg => ⟨⟨by have := hg.1; omega, by have := hg.2.1; omega, fun o => (frozen_of_block (hk g hg)).trans (hg.2.2 o)⟩, n6 g hg.2.1 (q6 g hg), n7 g hg.2.1 (q7 g hg)⟩
  refine ⟨fun z hz => ?_, fun z hz => ?_, ?_, fun g h6 h7 => ?_, fun {base z n e xs} h => ?_⟩
  · rcases List.mem_append.1 hz with hz | hz
    · exact hold (hor z hz)
    · rw [List.mem_singleton.1 hz]; exact hnew
  · rcases List.mem_append.1 hz with hz | hz
    · exact hold (hbr z hz)
    · rw [List.mem_singleton.1 hz, hyA, hyr]; exact hnew
  · have h1 := hb1.trans (hb4.mono hs)
    have h2 := ((h1.alloc (by omega) o1).alloc (by simp only [World.size_alloc]; omega) o2).grown g5 (by simp only [World.size_alloc]; omega) (fun g e => (l6 g e).1)
    have h3 := (h2.setCell (p := ⟨w4.heap.size, 2, none⟩) (by show w1.heap.size ≤ w4.heap.size; omega) bv).alloc (by rw [hsz]; omega) o3
    exact h3.grown g7 (by simp only [World.size_alloc, hsz]; omega) (fun g e => (l7 g e).1)
  · rcases a5 with q | q
    · rw [q] at h6
      have l := l6 g h6
      exact n7 g (by omega) (hne g h6) h7
    · rw [q] at h6
      have hg := Option.some.inj h6
      rcases a7 with r | r
      · rw [r] at h7; have := (l7 g h7).2; omega
      · rw [r] at h7; have := Option.some.inj h7; omega
  · have hlt := fun g hg => (h.lt g hg).2
    refine own_of_block h fun g hg => ?_
    have hgl := hlt g hg
    have hbox : g ≠ w4.heap.size := by
      rcases a5 with q | q
      · rw [q] at hg; have := (l6 g hg).2; omega
      · rw [q] at hg; have := Option.some.inj hg; omega
    have h7 : u7.ownBlock ≠ some g := by
      rcases a5 with q | q
      · rw [q] at hg; exact hne g hg
      · rw [q] at hg
        have := Option.some.inj hg
        intro e
        have := (l7 g e).2
        omega
    exact (g7.block g (by simp only [World.size_alloc, hsz]; omega) fun e => h7 e.symm).trans ((Below.heap_alloc _ _ g (by rw [hsz]; omega)).trans (Below.heap_setCell w5 _ bv g hbox))
end Go.Proofs.YtajnnkapgnmoaaaGreat
/-
  law 16's BatchBack.
-/
set_option linter.unusedVariables false
set_option linter.unusedSimpArgs false
namespace Go.Proofs.YtajnnkapgnmoaaaGreat
open Go.RowKit

theorem nets_flip (nm : ByteArray) : ∀ (l : List CM) (q : List V), look (netsL nm (l.map fun x => tameC x false)) q + look (netsL nm (l.map fun x => tameC x true)) q = 0
  | [], q => by simp [netsL, look]
  | x :: l, q => by
    have ih := nets_flip nm l q
    have e : isN nm (tameC x true) = isN nm (tameC x false) := rfl
    cases hc : isN nm (tameC x false) with
    | true =>
      have e1 : netsL nm ((x :: l).map fun x => tameC x false) = ((tameC x false).r, 1) :: netsL nm (l.map fun x => tameC x false) := by
        unfold netsL
        rw [List.map_cons, List.filter_cons, if_pos hc]
        rfl
      have e2 : netsL nm ((x :: l).map fun x => tameC x true) = ((tameC x false).r, -1) :: netsL nm (l.map fun x => tameC x true) := by
        unfold netsL
        rw [List.map_cons, List.filter_cons, if_pos (e.trans hc)]
        rfl
      rw [e1, e2]
      simp only [look]
      split <;> omega
    | false =>
      have e1 : netsL nm ((x :: l).map fun x => tameC x false) = netsL nm (l.map fun x => tameC x false) := by simp [netsL, hc]
      have e2 : netsL nm ((x :: l).map fun x => tameC x true) = netsL nm (l.map fun x => tameC x true) := by simp [netsL, hc, e]
      rw [e1, e2]
      exact ih
theorem good_map (l : List CM) (b : Bool) : ∀ c ∈ l.map (fun x => tameC x b), GoodC c ∧ c.rem = b := fun c hc => by
  obtain ⟨x, _, rfl⟩ := List.mem_map.1 hc
  exact ⟨tameC_good x b, rfl⟩
/-- what was added is removed -/
theorem back_plain {a b : List It} (l : List CM) (ha : SetOk a) (hb : SetOk b) (va : vol a ≤ 50) (vb : vol b ≤ 50) (pa : ∀ x ∈ a, 0 ≤ x.2) (pb : ∀ x ∈ b, 0 ≤ x.2) (hl : l.length ≤ 8) (h0 : 0 < l.length) :
    (∃ ts, applyK (st a b) (l.map fun x => tameC x false) = (0, 0, st (updS nmU (l.map fun x => tameC x false) a) (updS nmT (l.map fun x => tameC x false) b), ts)) ∧
    ∃ ts, applyK (st (updS nmU (l.map fun x => tameC x false) a) (updS nmT (l.map fun x => tameC x false) b)) (l.map fun x => tameC x true) = (0, 0, st a b, ts) := by
  have g1 := good_map l false
  have g2 := good_map l true
  have u1 := updS_both nmU (l.map fun x => tameC x false) ha fun c hc => (g1 c hc).1
  have u2 := updS_both nmT (l.map fun x => tameC x false) hb fun c hc => (g1 c hc).1
  have w1 := updS_both nmU (l.map fun x => tameC x true) u1.1 fun c hc => (g2 c hc).1
  have w2 := updS_both nmT (l.map fun x => tameC x true) u2.1 fun c hc => (g2 c hc).1
  have f1 := nets_flip nmU l
  have f2 := nets_flip nmT l
  have q := apply_subs (a := updS nmU (l.map fun x => tameC x false) a) (b := updS nmT (l.map fun x => tameC x false) b) (by simpa using hl) (by simpa using h0) u1.1 u2.1 g2 (fun q => by rw [u1.2]; have := look_pos pa q; have := f1 q; omega) (fun q => by rw [u2.2]; have := look_pos pb q; have := f2 q; omega)
  have e1 : updS nmU (l.map fun x => tameC x true) (updS nmU (l.map fun x => tameC x false) a) = a := set_eq w1.1 ha fun q => by rw [w1.2, u1.2]; have := f1 q; omega
  have e2 : updS nmT (l.map fun x => tameC x true) (updS nmT (l.map fun x => tameC x false) b) = b := set_eq w2.1 hb fun q => by rw [w2.2, u2.2]; have := f2 q; omega
  rw [e1, e2] at q
  exact ⟨⟨_, apply_adds (by simpa using hl) (by simpa using h0) ha hb va vb g1⟩, ⟨_, q⟩⟩
theorem tabs_vol (l : List Ch) : vol (setOf (partU (l.take 20) ++ moreU 0)) ≤ 20 ∧ vol (setOf (partT (l.take 20))) ≤ 20 := by
  obtain ⟨u1, u2⟩ := setOf_ok (partU_ok 0 (l.take 20))
  obtain ⟨t1, t2⟩ := setOf_ok (partT_ok (l.take 20))
  have hl : (l.take 20).length ≤ 20 := by rw [List.length_take]; omega
  have v1 := SetOk.vol_le u1.toOrd u2
  have v2 := SetOk.vol_le t1.toOrd t2
  have p1 := partU_vol (l.take 20)
  have p2 := partT_vol (l.take 20)
  have m0 : moreU 0 = [] := rfl
  rw [m0, List.append_nil] at v1 ⊢
  omega
set_option maxHeartbeats 8000000 in
set_option maxRecDepth 100000 in
theorem batchBack_any (A B : Option Addr) (c d : Nat) (l0 l1 : List CM) (W : World) (h0 : ChIn W A l0) (h1 : ChIn W B l1) :
    Calls Tryz.prog 6 #[.slice A l0.length c, .slice B l1.length d] W fun e w' => e = .returned (.bool true) ∧ Below W.heap.size W w' := by
  obtain ⟨i2, hi, hz0, hz1, hz2⟩ := info_parts change_info
  have mixed : Tryz.prog.follows .mixedOrders = true := by kernel_rfl
  have H1 := Lib.hid h1
  have HT0 := Lib.hid (h0.tables (Below.refl _ _) 0 (by omega) (by omega) c)
  have hkn := Lib.hid (fun w3 => known16 w3)
  obtain ⟨n1, hn1⟩ : ∃ n1, l1.length = n1 := ⟨_, rfl⟩
  have HN1 := Lib.hid hn1
  have hn1b := h1.len
  rw [hn1] at hn1b ⊢
  obtain ⟨n0, hn0⟩ : ∃ n0, l0.length = n0 := ⟨_, rfl⟩
  rw [hn0] at HT0 ⊢
  clear h0 h1 hn1 hn0
  go_enter Tryz.func6, Tryz.ntmps6
  go_wp2_with fail
  refine HT0.out.mono ?_
  rintro e w1 ⟨⟨v, rfl, hT⟩, hb1⟩
  obtain ⟨g, t0, t1, rfl, hTR, k0, k1⟩ := hT.get
  have HTR := Lib.hid hTR
  have HK0 := Lib.hid k0
  have HK1 := Lib.hid k1
  have HB1 := Lib.hid hb1
  have hs1 := hb1.size
  clear hT hTR k0 k1 hb1 HT0
  go_wp2_with fail
  go_loopw [6, 7, 8] (fun v6 v7 i wr => ∃ (k : Nat) (sl bl : List CM), k ≤ n1 ∧ k ≤ 8 ∧ i = .int .i64 k ∧ wr.ownsRow w1.heap.size 28 3 v6 sl.length (flatK sl) ∧ wr.ownsRow w1.heap.size 28 3 v7 bl.length (flatK bl) ∧ Below w1.heap.size w1 wr ∧ Hid (∀ g, v6.ownBlock = some g → v7.ownBlock ≠ some g) ∧ Hid (∀ x ∈ sl, VRowS wr (RTwo w1 wr v6 v7) x.A x.r) ∧ Hid (∀ x ∈ bl, VRowS wr (RTwo w1 wr v6 v7) x.A x.r) ∧ Hid (sl.map CM.ch = (l1.take k).map fun x => tameC x false) ∧ Hid (bl.map CM.ch = (l1.take k).map fun x => tameC x true) ∧ sl.length = k ∧ bl.length = k) (fun _ _ i _ => n1 - (intOf i).toNat)
  case atStart => exact ⟨0, [], [], Nat.zero_le _, Nat.zero_le _, rfl, World.ownsRow_nil _ _ _ _, World.ownsRow_nil _ _ _ _, Below.refl _ _, Lib.hid (fun g h => by simp [Value.ownBlock] at h), Lib.hid (fun x hx => by simp at hx), Lib.hid (fun x hx => by simp at hx), Lib.hid rfl, Lib.hid rfl, rfl, rfl⟩
  case round =>
    rename World => wo
    obtain ⟨k, sl, bl, hk, hk8, rfl, ho6, ho7, hb, HNE, HSR, HBR, HSL, HBL, hsl, hbl⟩ := hrel
    have HO6 := Lib.hid ho6
    have HO7 := Lib.hid ho7
    have HB := Lib.hid hb
    have hs := hb.size
    have HL6 : Hid (∀ g, u6.ownBlock = some g → w1.heap.size ≤ g ∧ g < wo.heap.size) := Lib.hid (fun g h => ho6.lt g h)
    have HL7 : Hid (∀ g, u7.ownBlock = some g → w1.heap.size ≤ g ∧ g < wo.heap.size) := Lib.hid (fun g h => ho7.lt g h)
    clear ho6 ho7 hb
    go_upto_region 4 with (fail)
    go_cut [27] (fun sb wx => sb = .bool (decide (k < n1) && decide (k < 8)) ∧ wo = wx)
    case first =>
      by_cases h1 : k < n1
      · by_cases h2 : k < 8
        · have d1 : decide ((k : Int) < (n1 : Int)) = true := decide_eq_true (by omega)
          have d2 : decide ((k : Int) < 8) = true := decide_eq_true (by omega)
          have d3 : decide (k < n1) = true := decide_eq_true h1
          have d4 : decide (k < 8) = true := decide_eq_true h2
          go_wp2_with fail
          go_meet
          exact ⟨by rw [d3, d4]; rfl, rfl⟩
        · have d1 : decide ((k : Int) < (n1 : Int)) = true := decide_eq_true (by omega)
          have d2 : decide ((k : Int) < 8) = false := decide_eq_false (by omega)
          have d3 : decide (k < n1) = true := decide_eq_true h1
          have d4 : decide (k < 8) = false := decide_eq_false h2
          go_wp2_with fail
          go_meet
          exact ⟨by rw [d3, d4]; rfl, rfl⟩
      · have d1 : decide ((k : Int) < (n1 : Int)) = false := decide_eq_false (by omega)
        have d3 : decide (k < n1) = false := decide_eq_false h1
        go_wp2_with fail
        go_meet
        exact ⟨by rw [d3, Bool.false_and], rfl⟩
    case rest =>
    obtain ⟨rfl, rfl⟩ := hcut
    obtain ⟨q, hq⟩ : ∃ q, (decide (k < n1) && decide (k < 8)) = q := ⟨_, rfl⟩
    rw [hq]
    cases q
    case true =>
      have hlt := of_decide_eq_true (Bool.and_eq_true_iff.1 hq).1
      have hlt2 := of_decide_eq_true (Bool.and_eq_true_iff.1 hq).2
      clear hq
      obtain ⟨x, hx⟩ : ∃ x, l1[k]? = some x := ⟨_, List.getElem?_eq_getElem (by rw [HN1.out]; exact hlt)⟩
      have HBW : Hid (Below W.heap.size W wo) := Lib.hid (HB1.out.trans (HB.out.mono hs1))
      obtain ⟨b, off, rfl, hSb, hc1, hc2, hc3⟩ := (H1.out.row.below HBW.out (fun k hk => hk)).get hx
      have hm := List.mem_of_getElem? hx
      have HTM := Lib.hid (fun w1 (hb : Below W.heap.size W w1) => H1.out.tame hm hb)
      have HTK : Hid (∀ b, ((l1.take k).map fun x => tameC x b) ++ [tameC x b] = (l1.take (k + 1)).map fun x => tameC x b) := Lib.hid (fun b => by
        obtain ⟨h1, e1⟩ := List.getElem?_eq_some_iff.1 hx
        rw [List.take_succ_eq_append_getElem h1, List.map_append, e1]
        rfl)
      obtain ⟨xnm, xA, xc, xr, xrem⟩ := x
      dsimp only at hc1 hc2 hc3 HTM
      unfold TameRet at HTM
      obtain ⟨K, hK⟩ : ∃ K, tameK xnm xr = K := ⟨_, rfl⟩
      have hK3 := tameK_len xnm xr
      have HKK := Lib.hid hK
      rw [hK] at HTM hK3
      obtain ⟨xn, hxn⟩ : ∃ xn, xr.length = xn := ⟨_, rfl⟩
      rw [hxn] at hc2 HTM
      obtain ⟨nm', r'⟩ := K
      dsimp only at HTM hK3
      obtain ⟨rn, hrn⟩ : ∃ rn, r'.length = rn := ⟨_, rfl⟩
      have HRN := Lib.hid hrn
      rw [hrn] at HTM hK3
      clear hx hm hSb hK hxn hrn
      go_wp2_with fail
      refine (HTM.out _ HBW.out).mono ?_
      rintro e w4 ⟨g4, rfl, hg4, hcells, hb4⟩
      have HB4 := Lib.hid hb4
      have hs4 := hb4.size
      have HCE := Lib.hid hcells
      have hg4s : g4 < w4.heap.size := (Array.getElem?_eq_some_iff.1 hcells).1
      clear hb4 hcells HTM
      go_wp2_with (at_builtin; refine wpList_append_any _ rfl _ _ 22 rfl w1.heap.size 28 i2 _ 3 48 Tryz.underlying22 hi hz0 hz1 hz2 rfl (by decide) _ _ _ rfl (((ownM_below HO6.out HB4.out).alloc _).alloc _) (w4.heap.size + 1 + 1) _ _ _ [.string nm', .slice (some ⟨g4, 0, none⟩) rn rn, .bool false] rfl ⟨rfl, fun _ => ⟨_, rfl, Nat.lt_succ_self _, World.news_of_block (by have h := heap_alloc_new (w4.alloc (.cells #[.string nm', .slice (some ⟨g4, 0, none⟩) rn rn, .bool false] 28)) (.cells #[.string nm', .slice (some ⟨g4, 0, none⟩) rn rn, .bool false] 28); simp only [World.size_alloc] at h; exact h)⟩⟩ ?c1 ?c2 ?c3 ?c4 ?_)
      case c1 => intro u hu; simp only [List.mem_cons, List.not_mem_nil, or_false] at hu; rcases hu with rfl | rfl | rfl <;> rfl
      case c2 => unfold maxLen; omega
      case c3 => omega
      case c4 => simp; omega
      intro v6' w5 hown6 hgrow6 hat6
      have G6 : Hid (((w4.alloc (.cells #[.string nm', .slice (some ⟨g4, 0, none⟩) rn rn, .bool false] 28)).alloc (.cells #[.string nm', .slice (some ⟨g4, 0, none⟩) rn rn, .bool false] 28)).grownBy w5 u6.ownBlock) := Lib.hid hgrow6
      have A6 : Hid (v6'.ownBlock = u6.ownBlock ∨ v6'.ownBlock = some (w4.heap.size + 1 + 1)) := Lib.hid (by simpa using hat6)
      have O6 := Lib.hid hown6
      have hs5 := hgrow6.size
      simp only [World.size_alloc] at hs5
      have hbk5 : Blk w5 w4.heap.size 28 #[.string nm', .slice (some ⟨g4, 0, none⟩) rn rn, .bool false] := (G6.out.block w4.heap.size (by simp only [World.size_alloc]; omega) (fun e => by have := (HL6.out _ e.symm).2; omega)).trans ((Blk.new w4 _ _).alloc _)
      have HBK := Lib.hid hbk5
      have z0 : w5.cell? ⟨w4.heap.size, 0, none⟩ = some (.string nm') := hbk5.cell 0
      have z1 : w5.cell? ⟨w4.heap.size, 1, none⟩ = some (.slice (some ⟨g4, 0, none⟩) rn rn) := hbk5.cell 1
      have z2 : w5.cell? ⟨w4.heap.size, 2, none⟩ = some (.bool false) := hbk5.cell 2
      have zf := hbk5.frozen 2
      clear hown6 hgrow6 hat6 hbk5
      go_wp2_with (at_builtin; refine wpList_append_any _ rfl _ _ 22 rfl w1.heap.size 28 i2 _ 3 48 Tryz.underlying22 hi hz0 hz1 hz2 rfl (by decide) _ _ _ rfl (two_own7 HB4.out (fun g h => (HL7.out g h).2) HNE.out G6.out HO7.out) (w5.heap.size + 1) _ _ _ [.string nm', .slice (some ⟨g4, 0, none⟩) rn rn, .bool true] rfl ⟨rfl, fun _ => ⟨_, rfl, Nat.lt_succ_self _, World.news_of_block (by have h := heap_alloc_new (w5.setCell ⟨w4.heap.size, 2, none⟩ (.bool true)) (.cells #[.string nm', .slice (some ⟨g4, 0, none⟩) rn rn, .bool true] 28); rw [setCell_size'] at h; exact h)⟩⟩ ?d1 ?d2 ?d3 ?d4 ?_)
      case d1 => intro u hu; simp only [List.mem_cons, List.not_mem_nil, or_false] at hu; rcases hu with rfl | rfl | rfl <;> rfl
      case d2 => unfold maxLen; omega
      case d3 => omega
      case d4 => first | omega | (simp only [World.size_alloc, setCell_size']; omega)
      intro v7' w7 hown7 hgrow7 hat7
      obtain ⟨x', ex'⟩ : ∃ x' : CM, x' = ⟨nm', some ⟨g4, 0, none⟩, rn, r', false⟩ := ⟨_, rfl⟩
      obtain ⟨y', ey'⟩ : ∃ y' : CM, y' = ⟨nm', some ⟨g4, 0, none⟩, rn, r', true⟩ := ⟨_, rfl⟩
      have hxr : VRowS w4 (NewS wo w4) x'.A x'.r := by
        rw [ex']
        have hbk : Blk w4 g4 49 (flat r').toArray := HCE.out
        exact vals_of_blk hbk ⟨hg4, hg4s, fun o => Blk.frozen hbk o⟩
      have A7 : v7'.ownBlock = u7.ownBlock ∨ v7'.ownBlock = some (w5.heap.size + 1) := by
        first | exact hat7 | simpa using hat7 | simpa [setCell_size'] using hat7
      obtain ⟨q1, q2, q3, q4, q5⟩ := two_round (x := x') (y := y') hs HB.out HB4.out HSR.out HBR.out HL6.out HL7.out HNE.out hxr (by rw [ex', ey']) (by rw [ex', ey']) G6.out A6.out hgrow7 A7
      have HO6' : Hid (w7.ownsRow w1.heap.size 28 3 v6' (sl ++ [x']).length (flatK (sl ++ [x']))) := Lib.hid (q5 (by
        rw [flatK_append, flatK_one, List.length_append, ex', hsl]
        simp only [CM.cs, HRN.out]
        exact O6.out))
      have HO7' : Hid (w7.ownsRow w1.heap.size 28 3 v7' (bl ++ [y']).length (flatK (bl ++ [y']))) := Lib.hid (by
        rw [flatK_append, flatK_one, List.length_append, ey', hbl]
        simp only [CM.cs, HRN.out]
        exact hown7)
      have HSL5 : Hid ((sl ++ [x']).map CM.ch = (l1.take (k + 1)).map fun x => tameC x false) := Lib.hid (by
        rw [List.map_append, HSL.out, ← HTK.out false, ex']
        unfold tameC
        simp only [HKK.out]
        rfl)
      have HBL5 : Hid ((bl ++ [y']).map CM.ch = (l1.take (k + 1)).map fun x => tameC x true) := Lib.hid (by
        rw [List.map_append, HBL.out, ← HTK.out true, ey']
        unfold tameC
        simp only [HKK.out]
        rfl)
      have HB7 := Lib.hid q3
      have HNE7 := Lib.hid q4
      have HSR7 := Lib.hid q1
      have HBR7 := Lib.hid q2
      have hsl5 : (sl ++ [x']).length = k + 1 := by rw [List.length_append, hsl]; rfl
      have hbl5 : (bl ++ [y']).length = k + 1 := by rw [List.length_append, hbl]; rfl
      generalize sl ++ [x'] = sl5 at HO6' HSR7 HSL5 hsl5
      generalize bl ++ [y'] = bl5 at HO7' HBR7 HBL5 hbl5
      clear hown7 hgrow7 hat7 hxr q1 q2 q3 q4 q5 ex' ey' HCE HB4 HO6 HO7 O6 G6 A6 A7 HB HSR HBR HSL HBL HNE HL6 HL7 HBK z0 z1 z2 zf
      go_wp2_with fail
      go_roundw
      case rel => exact ⟨k + 1, sl5, bl5, by omega, by omega, by go_num, HO6'.out, HO7'.out, HB7.out, HNE7, HSR7, HBR7, HSL5, HBL5, hsl5, hbl5⟩
      case measure => simp [intOf]; omega
    · have hkl : k = 8 ∨ k = n1 := by
        have h1 := Bool.and_eq_false_iff.1 hq
        rcases h1 with h1 | h1
        · have := of_decide_eq_false h1; omega
        · have := of_decide_eq_false h1; omega
      clear hq
      have htk : l1.take k = l1.take 8 := by
        rcases hkl with h | h
        · rw [h]
        · rw [List.take_of_length_le (by rw [HN1.out]; omega), List.take_of_length_le (by rw [HN1.out]; omega)]
      obtain ⟨LM, hLM⟩ : ∃ LM, l1.take 8 = LM := ⟨_, rfl⟩
      have hsm : sl.map CM.ch = LM.map fun x => tameC x false := by rw [← hLM, ← htk]; exact HSL.out
      have hbm : bl.map CM.ch = LM.map fun x => tameC x true := by rw [← hLM, ← htk]; exact HBL.out
      have hLl : LM.length = k := by have := congrArg List.length hsm; rw [List.length_map, List.length_map, hsl] at this; exact this.symm
      by_cases hk0 : k = 0
      · subst hk0
        obtain rfl : sl = [] := List.eq_nil_of_length_eq_zero hsl
        obtain ⟨A6, c6, rfl, _⟩ := own_slice HO6.out
        have hWB := HB1.out.trans (HB.out.mono hs1)
        have HWB := Lib.hid hWB
        clear htk hLM hsm hbm hLl hkl hWB
        go_wp2_with fail
        refine (hkn.out _).mono ?_
        rintro e w3 ⟨rfl, hb3⟩
        have HW3 := Lib.hid (HWB.out.trans (hb3.mono HWB.out.size))
        clear hb3
        go_wp2_with fail
        go_ret
        exact ⟨rfl, HW3.out⟩
      obtain ⟨a, ha⟩ : ∃ a, setOf (partU ((l0.map CM.ch).take 20) ++ moreU 0) = a := ⟨_, rfl⟩
      obtain ⟨b, hb⟩ : ∃ b, setOf (partT ((l0.map CM.ch).take 20)) = b := ⟨_, rfl⟩
      have hks : [t0, t1].map TM.key = st a b := by
        simp only [List.map_cons, List.map_nil, HK0.out, HK1.out, ha, hb]
        rfl
      have hkok : KeysOk 200 (st a b) := by
        have := KeysOk_tabs 0 (by omega) (l0.map CM.ch)
        unfold tabsK at this
        rw [ha, hb] at this
        exact this
      have hvol := tabs_vol (l0.map CM.ch)
      rw [ha, hb] at hvol
      have hsa := hkok.keys (nmU, uC, a) (by simp [st])
      have hsb := hkok.keys (nmT, tC, b) (by simp [st])
      obtain ⟨⟨ts1, hap1⟩, ⟨ts2, hap2⟩⟩ := back_plain (a := a) (b := b) LM hsa.set hsb.set (by omega) (by omega) hsa.plain hsb.plain (by omega) (by omega)
      have hkok2 : KeysOk 208 (st (updS nmU (LM.map fun x => tameC x false) a) (updS nmT (LM.map fun x => tameC x false) b)) := by
        rcases apply_good (a := a) (b := b) (l := LM.map fun x => tameC x false) (by simp; omega) (fun c hc => (good_map LM false c hc).1) hkok with ⟨h, _⟩ | ⟨_, _, h⟩
        · rw [hap1] at h; exact absurd rfl h
        · exact h
      obtain ⟨A6, c6, rfl, hc6, hS6⟩ := own_chs (S := fun g => NewS w1 wo g) HO6.out (fun g h1 h2 h3 => ⟨h1, h2, h3⟩) (fun x hx => (HSR.out x hx).mono fun g hg => hg.1)
      obtain ⟨A7, c7, rfl, hc7, hS7⟩ := own_chs (S := fun g => NewS w1 wo g) HO7.out (fun g h1 h2 h3 => ⟨h1, h2, h3⟩) (fun x hx => (HBR.out x hx).mono fun g hg => hg.1)
      have hlen6 : ∀ x ∈ sl, x.r.length ≤ 1000 := fun x hx => by
        have hm : x.ch ∈ LM.map fun x => tameC x false := by rw [← hsm]; exact List.mem_map.2 ⟨x, hx, rfl⟩
        have := (rowOk_len (good_rowOk (good_map LM false _ hm).1)).2
        have e : x.ch.r = x.r := rfl
        rw [e] at this
        omega
      have hlen7 : ∀ x ∈ bl, x.r.length ≤ 1000 := fun x hx => by
        have hm : x.ch ∈ LM.map fun x => tameC x true := by rw [← hbm]; exact List.mem_map.2 ⟨x, hx, rfl⟩
        have := (rowOk_len (good_rowOk (good_map LM true _ hm).1)).2
        have e : x.ch.r = x.r := rfl
        rw [e] at this
        omega
      have hTwo : TRow wo (fun k => k < wo.heap.size) (some ⟨g, 0, none⟩) [t0, t1] := (HTR.out.below HB.out (fun k hk => hk.2)).mono fun k hk => Nat.lt_of_lt_of_le hk.2 hs
      have hap := bapply_any (some ⟨g, 0, none⟩) A6 2 c6 [t0, t1] sl wo (S := fun k => k < wo.heap.size) hTwo (fun k hk => hk) (by rw [hks]; exact hkok.more (by omega)) (by simp) (hS6.mono fun g h => h.2.1) (by omega) hlen6
      rw [hks, hsm, hsl, hap1] at hap
      have hap3 : Calls Tryz.prog 13 #[.slice (some ⟨g, 0, none⟩) 2 2, .slice A6 k c6] wo _ := hap
      have HAP := Lib.hid hap3
      have HAP2 := Lib.hid (fun (w2 : World) (hb : Below wo.heap.size wo w2) (g2 cap2 : Nat) (s0 s1 : TM) (hT : TRow w2 (fun k => k < w2.heap.size) (some ⟨g2, 0, none⟩) [s0, s1]) (hk : [s0, s1].map TM.key = st (updS nmU (LM.map fun x => tameC x false) a) (updS nmT (LM.map fun x => tameC x false) b)) => by
        have h := bapply_any (some ⟨g2, 0, none⟩) A7 cap2 c7 [s0, s1] bl w2 (S := fun k => k < w2.heap.size) hT (fun k hk => hk) (by rw [hk]; exact hkok2.more (by omega)) (by simp) ((hS7.below hb (fun g h => h.2.1)).mono fun g h => Nat.lt_of_lt_of_le h.2.1 hb.size) (by omega) hlen7
        rw [hk, hbm, hbl, hap2] at h
        exact (h : Calls Tryz.prog 13 #[.slice (some ⟨g2, 0, none⟩) 2 cap2, .slice A7 k c7] w2 _))
      have HT2 := Lib.hid hTwo
      have HWB : Hid (Below W.heap.size W wo) := Lib.hid (HB1.out.trans (HB.out.mono hs1))
      have hws := HWB.out.size
      have HE0 : Hid (its t0.rows = a) := Lib.hid (by have := congrArg (fun k : Key => k.2.2) HK0.out; dsimp only [TM.key] at this; rw [this, ha])
      have HE1 : Hid (its t1.rows = b) := Lib.hid (by have := congrArg (fun k : Key => k.2.2) HK1.out; dsimp only [TM.key] at this; rw [this, hb])
      have HSA := Lib.hid hsa
      have HSB := Lib.hid hsb
      rw [hsl] at hc6 ⊢
      rw [hbl] at hc7 ⊢
      have hk0' : ((k : Int) == 0) = false := by rw [beq_eq_false_iff_ne]; omega
      clear hap hap3 hap1 hap2 hkok hkok2 hsm hbm hLl hks ha hb hLM htk hkl HO6 HO7 HSR HBR HSL HBL HTR HB HB1 hS6 hS7 HK0 HK1 H1 hsa hsb hlen6 hlen7 hTwo hvol HNE HL6 HL7
      go_wp2_with fail
      refine HAP.out.mono ?_
      rintro e w2 ⟨v, dv, rfl, hb2, _, hret⟩
      obtain ⟨⟨g2, cap2, s, hv, hg2, hNow, hsk⟩, _⟩ := hret (by first | rfl | trivial)
      subst hv
      obtain ⟨s0, s1, rfl⟩ : ∃ s0 s1, s = [s0, s1] := by
        match s, hsk with
        | [s0, s1], _ => exact ⟨s0, s1, rfl⟩
        | [], h => simp [st] at h
        | [s0], h => simp [st] at h
        | s0 :: s1 :: s2 :: s, h => simp [st] at h
      have HB2 := Lib.hid hb2
      have hs2 := hb2.size
      have hq := Lib.hid (HAP2.out w2 hb2 g2 cap2 s0 s1 (hNow.row hg2) hsk)
      clear hret hNow hsk hb2 HAP HAP2
      go_wp2_with fail
      refine hq.out.mono ?_
      rintro e w3 ⟨v, dv2, rfl, hb3, _, hret⟩
      obtain ⟨⟨g3, cap3, s, hv, hg3, hNow, hsk⟩, _⟩ := hret (by first | rfl | trivial)
      subst hv
      obtain ⟨r0, r1, rfl⟩ : ∃ s0 s1, s = [s0, s1] := by
        match s, hsk with
        | [s0, s1], _ => exact ⟨s0, s1, rfl⟩
        | [], h => simp [st] at h
        | [s0], h => simp [st] at h
        | s0 :: s1 :: s2 :: s, h => simp [st] at h
      have HB3 : Hid (RowKit.Below wo.heap.size wo w3) := Lib.hid (HB2.out.trans (hb3.mono hs2))
      have hs3 := HB3.out.size
      have hTR3 := hNow.row hg3
      simp only [List.map_cons, List.map_nil, st, List.cons.injEq, and_true] at hsk
      have er0 : its r0.rows = a := congrArg (fun k : Key => k.2.2) hsk.1
      have er1 : its r1.rows = b := congrArg (fun k : Key => k.2.2) hsk.2
      obtain ⟨b20, o20, e20, _, p0, p1, p2⟩ := hTR3.get (i := 0) rfl
      obtain ⟨rfl, rfl⟩ : g3 = b20 ∧ 0 = o20 := by simpa using e20
      obtain ⟨b21, o21, e21, _, p3, p4, p5⟩ := hTR3.get (i := 1) rfl
      obtain ⟨rfl, rfl⟩ : g3 = b21 ∧ 0 = o21 := by simpa using e21
      have hT3 := (HT2.out.below HB3.out (fun k hk => hk))
      obtain ⟨b30, o30, e30, _, _, _, z2⟩ := hT3.get (i := 0) rfl
      obtain ⟨rfl, rfl⟩ : g = b30 ∧ 0 = o30 := by simpa using e30
      obtain ⟨b31, o31, e31, _, _, _, z5⟩ := hT3.get (i := 1) rfl
      obtain ⟨rfl, rfl⟩ : g = b31 ∧ 0 = o31 := by simpa using e31
      simp only [Nat.zero_mul, Nat.zero_add, Nat.one_mul, Nat.reduceMul, Nat.reduceAdd] at p2 p5 z2 z5
      have sokA : ∀ l : List IM, its l = a → SOk l ∧ l.length ≤ 1073741824 := fun l h => by
        have h1 := HSA.out.vol
        have h2 := len_vol HSA.out.set.nets
        dsimp only at h1 h2
        rw [← h, its_len] at h2
        exact ⟨⟨by rw [h]; exact HSA.out.set, by rw [h]; omega⟩, by rw [← h] at h1; omega⟩
      have sokB : ∀ l : List IM, its l = b → SOk l ∧ l.length ≤ 1073741824 := fun l h => by
        have h1 := HSB.out.vol
        have h2 := len_vol HSB.out.set.nets
        dsimp only at h1 h2
        rw [← h, its_len] at h2
        exact ⟨⟨by rw [h]; exact HSB.out.set, by rw [h]; omega⟩, by rw [← h] at h1; omega⟩
      have hsm0 := Lib.hid (fun wz (hb : RowKit.Below w3.heap.size w3 wz) => zsame_any r0.rA t0.rA r0.rc t0.rc r0.rows t0.rows wz (S := fun k => k < wz.heap.size) (((hTR3.rows r0 (by simp)).below hb (fun k hk => hk)).mono fun k hk => Nat.lt_of_lt_of_le hk hb.size) (((hT3.rows t0 (by simp)).below hb (fun k hk => Nat.lt_of_lt_of_le hk hs3)).mono fun k hk => Nat.lt_of_lt_of_le (Nat.lt_of_lt_of_le hk hs3) hb.size) (fun k hk => hk) (sokA _ er0).2 (sokA _ HE0.out).2 (sokA _ er0).1 (sokA _ HE0.out).1 true ⟨fun _ => er0.trans HE0.out.symm, fun _ => rfl⟩)
      have hsm1 := Lib.hid (fun wz (hb : RowKit.Below w3.heap.size w3 wz) => zsame_any r1.rA t1.rA r1.rc t1.rc r1.rows t1.rows wz (S := fun k => k < wz.heap.size) (((hTR3.rows r1 (by simp)).below hb (fun k hk => hk)).mono fun k hk => Nat.lt_of_lt_of_le hk hb.size) (((hT3.rows t1 (by simp)).below hb (fun k hk => Nat.lt_of_lt_of_le hk hs3)).mono fun k hk => Nat.lt_of_lt_of_le (Nat.lt_of_lt_of_le hk hs3) hb.size) (fun k hk => hk) (sokB _ er1).2 (sokB _ HE1.out).2 (sokB _ er1).1 (sokB _ HE1.out).1 true ⟨fun _ => er1.trans HE1.out.symm, fun _ => rfl⟩)
      generalize r0.rows.length = m0 at hsm0 p2
      generalize t0.rows.length = m1 at hsm0 z2
      generalize r1.rows.length = m2 at hsm1 p5
      generalize t1.rows.length = m3 at hsm1 z5
      have HW3 := Lib.hid (HWB.out.trans (HB3.out.mono hws))
      clear hret hNow hsk hb3 hq er0 er1 sokA sokB hTR3 hT3 p0 p1 p3 p4 e20 e21 e30 e31
      go_upto_region 17 with (fail)
      have e1 := fun d os => cell_regrown p2 d os
      have e2 := fun d os => cell_regrown p5 d os
      have e3 := fun d os => cell_regrown z2 d os
      have e4 := fun d os => cell_regrown z5 d os
      have C1 := Lib.hid (fun d os => Calls.regrown_of (hsm0.out _ (below_regrown w3 d os)))
      have C2 := Lib.hid (fun d os => Calls.regrown_of (hsm1.out _ (below_regrown w3 d os)))
      have C3 := Lib.hid (fun d os => Calls.regrown_of (hkn.out (Sort.grow (redrawn w3 d) os)))
      clear hsm0 hsm1 hkn
      refine wp_region_quiet_below (by assumption) (by kernel_rfl) ?_
      iterate 8 (quiet_step (first | (fail)))
      quiet_step (first | (go_at_call 17; exact C1.out _ _))
      iterate 9 (quiet_step (first | (fail)))
      quiet_step (first | (go_at_call 17; exact C2.out _ _))
      iterate 2 (quiet_step (first | (fail)))
      quiet_step (first | (go_at_call 12; exact C3.out _ _))
      iterate 2 (quiet_step (first | (fail)))
      refine wpQuiet_nil ?_
      intro _ hw'
      obtain ⟨⟨nq, osq⟩, hw''⟩ := hw'
      subst hw''
      have HWF := Lib.hid (HW3.out.trans ((below_regrown w3 nq osq).mono (by omega)))
      clear e1 e2 e3 e4 C1 C2 C3
      generalize Sort.grow (redrawn w3 nq) osq = wf at HWF ⊢
      go_wp2_with fail
      go_ret
      exact ⟨rfl, HWF.out⟩
end Go.Proofs.YtajnnkapgnmoaaaGreat
