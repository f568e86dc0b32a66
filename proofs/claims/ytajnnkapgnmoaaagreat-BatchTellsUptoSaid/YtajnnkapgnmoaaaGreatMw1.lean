/-
  slices.swapRangeCmpFunc, slices.rotateCmpFunc at items (two cells each): what stands where behind them.
-/
import Derived.Test.YtajnnkapgnmoaaaGreatMw0
import Derived.Test.YtajnnkapgnmoaaaGreatRows
import Derived.WalkKit
import Derived.WalkSpells
import Derived.Lib.Hide
import Derived.Shelf.SlSortCmp.KitK
import Derived.Deep.LoopGhost
import Derived.BigRegion
import Derived.Deep.Onto
import Derived.WalkLawsBesides
import Derived.Lib.QuietBelow
set_option linter.unusedVariables false
set_option linter.unusedSimpArgs false
namespace Go.Proofs.YtajnnkapgnmoaaaGreat
open Go.RowKit Go.Sort
theorem run_store_complex (P : Program) (a : Addr) (k : FloatKind) (x y : Nat) (m : Mode) (w : World) : (store a (.complex k x y) m).run P w = stored P w a (.complex k x y) m := run_store P w a _ m rfl
/-- an item's two cells -/
structure ItemC where
  A : Option Addr
  n : Nat
  c : Nat
  x : Nat
  y : Nat
def ItemC.enc (t : ItemC) : List Value := [.slice t.A t.n t.c, .complex .f64 t.x t.y]
variable {α : Type} [Inhabited α] {f : α → ItemC} {w0 : World} {blk off : Nat} {d0 : Array α}

theorem swk_cells {d : Array α} {w : World} {t : ItemC} {i : Nat} (S : SWK (fun x => (f x).enc) 2 w0 blk off d w) (R : RowK (fun x => (f x).enc) 2 w0 blk off d0) (hs : d.size = d0.size) (hi : i < d.size) (e : f d[i]! = t) :
    (w.cell? ⟨blk, off + i * 2, none⟩ = some (.slice t.A t.n t.c) ∧ w.frozen? ⟨blk, off + i * 2, none⟩ = false) ∧ (w.cell? ⟨blk, off + i * 2 + 1, none⟩ = some (.complex .f64 t.x t.y) ∧ w.frozen? ⟨blk, off + i * 2 + 1, none⟩ = false) := by
  have h := S.holds R.hblk R.hH hs
  have h0 := HoldsK.cell h hi (c := 0) (by omega)
  have h1 := HoldsK.cell h hi (c := 1) (by omega)
  subst e
  exact ⟨h0, h1⟩
set_option maxHeartbeats 4000000 in
set_option maxRecDepth 1000000 in
theorem swapRange_any (R : RowK (fun x => (f x).enc) 2 w0 blk off d0) (cap a b n : Nat) (g : Value) (d : Array α) (hs : d.size = d0.size) (w : World) (S : SWK (fun x => (f x).enc) 2 w0 blk off d w) (hab : a + n ≤ b) (hb : b + n ≤ d.size) (hsz : d.size ≤ 1099511627776) :
    Calls Tryz.prog 150 #[.slice (some ⟨blk, off, none⟩) d.size cap, .int .i64 a, .int .i64 b, .int .i64 n, g] w fun e w' => e = .returned (.tuple #[]) ∧
      ∃ d', Xch d d' a b n ∧ (∀ lo hi, lo ≤ a → b + n ≤ hi → hi ≤ d.size → PermIn lo hi d d') ∧ SWK (fun x => (f x).enc) 2 w0 blk off d' w' := by
  have S0 : Aside (SWK (fun x => (f x).enc) 2 w0 blk off d w) := S
  clear S
  have mixed : Tryz.prog.follows .mixedOrders = true := by kernel_rfl
  go_enter Tryz.func150, Tryz.ntmps150
  go_wp2
  go_loopg [10] n (fun kx s10 wr => ∃ (i : Nat) (dk : Array α), s10 = .int .i64 i ∧ i ≤ n ∧ n - i ≤ kx ∧ Aside (SWK (fun x => (f x).enc) 2 w0 blk off dk wr) ∧ Hid (Xch d dk a b i) ∧ Hid (∀ lo hi, lo ≤ a → b + n ≤ hi → hi ≤ d.size → PermIn lo hi d dk))
  case atStart => exact ⟨0, d, rfl, by omega, by omega, S0, Lib.hid (Xch.zero _ _ _), Lib.hid (fun lo hi _ _ _ => permIn_refl _ _ _)⟩
  case round =>
    clear S0
    obtain ⟨i, dk, rfl, hin, hkx, S1, HX, HP⟩ := hrel
    by_cases hlt : i < n
    · have hltz : (i : Int) < (n : Int) := by omega
      have hds : dk.size = d.size := HX.out.1
      go_wp2_with fail
      have ea44 : ((a : Int) + (i : Int)).toNat = a + i := by omega
      have pa44 : (0 : Int) ≤ (a : Int) + (i : Int) := by omega
      have ba44 : (a : Int) + (i : Int) < (d.size : Int) := by omega
      have ra44 : IntKind.i64.wrap ((a : Int) + (i : Int)) = (a : Int) + (i : Int) := by rw [IntKind.wrap_i64]; omega
      have ec44 : ((b : Int) + (i : Int)).toNat = b + i := by omega
      have pc44 : (0 : Int) ≤ (b : Int) + (i : Int) := by omega
      have bc44 : (b : Int) + (i : Int) < (d.size : Int) := by omega
      have rc44 : IntKind.i64.wrap ((b : Int) + (i : Int)) = (b : Int) + (i : Int) := by rw [IntKind.wrap_i64]; omega
      have S2 : Aside (SWK (fun x => (f x).enc) 2 w0 blk off (swp dk (a + i) (b + i)) ((wr.drew.setCells blk (off + (a + i) * 2) ((f dk[b + i]!).enc)).setCells blk (off + (b + i) * 2) ((f dk[a + i]!).enc))) := S1.out.swapped R (a + i) (b + i) (by omega) (by omega)
      obtain ⟨⟨ci1, fi1⟩, ⟨ci2, fi2⟩⟩ := swk_cells S1.out R (by omega) (show a + i < dk.size by omega) rfl
      obtain ⟨⟨cj1, fj1⟩, ⟨cj2, fj2⟩⟩ := swk_cells S1.out R (by omega) (show b + i < dk.size by omega) rfl
      generalize f dk[a + i]! = I at S2 ci1 fi1 ci2 fi2
      generalize f dk[b + i]! = J at S2 cj1 fj1 cj2 fj2
      obtain ⟨A1, n1, c1, x1, y1⟩ := I
      obtain ⟨A2, n2, c2, x2, y2⟩ := J
      dsimp only [ItemC.enc] at ci1 fi1 ci2 fi2 cj1 fj1 cj2 fj2 S2
      have HX2 := Lib.hid (HX.out.step hlt hab hb)
      have HP2 : Hid (∀ lo hi, lo ≤ a → b + n ≤ hi → hi ≤ d.size → PermIn lo hi d (swp dk (a + i) (b + i))) := Lib.hid (fun lo hi h1 h2 h3 => Xch.perm (HP.out lo hi h1 h2 h3) hlt hab h2 h1 h3)
      clear S1 HX HP
      go_wp2_with fail
      have hsc := run_store_complex Tryz.prog
      go_big_region
      go_wp2
      go_roundg (n - (i + 1))
      case measure => omega
      case rel => exact ⟨i + 1, swp dk (a + i) (b + i), by go_num, by omega, Nat.le_refl _, S2, HX2, HP2⟩
    · obtain rfl : i = n := by omega
      go_wp2
      go_end0
      exact ⟨rfl, dk, HX.out, HP.out, S1.out⟩

set_option maxHeartbeats 4000000 in
set_option maxRecDepth 1000000 in
theorem rotate_any (R : RowK (fun x => (f x).enc) 2 w0 blk off d0) (cap a m b : Nat) (g : Value) (d : Array α) (hs : d.size = d0.size) (w : World) (S : SWK (fun x => (f x).enc) 2 w0 blk off d w) (ham : a < m) (hmb : m < b) (hb : b ≤ d.size) (hsz : d.size ≤ 1099511627776) :
    Calls Tryz.prog 145 #[.slice (some ⟨blk, off, none⟩) d.size cap, .int .i64 a, .int .i64 m, .int .i64 b, g] w fun e w' => e = .returned (.tuple #[]) ∧
      ∃ d', Rot d d' a m b ∧ PermIn a b d d' ∧ SWK (fun x => (f x).enc) 2 w0 blk off d' w' := by
  have S0 : Aside (SWK (fun x => (f x).enc) 2 w0 blk off d w) := S
  have HS : Hid (d.size = d0.size) := hs
  clear S hs
  have em : ((m - a : Nat) : Int) = (m : Int) - (a : Int) := by omega
  have eb : ((b - m : Nat) : Int) = (b : Int) - (m : Int) := by omega
  go_enter Tryz.func145, Tryz.ntmps145
  go_wp2
  go_loopg [10, 11] (m - a + (b - m)) (fun kx s10 s11 wr => ∃ (i j : Nat) (dk : Array α), s10 = .int .i64 i ∧ s11 = .int .i64 j ∧ 0 < i ∧ 0 < j ∧ i ≤ m - a ∧ j ≤ b - m ∧ i + j ≤ kx ∧ Aside (SWK (fun x => (f x).enc) 2 w0 blk off dk wr) ∧ Hid (∀ f, Rot dk f (m - i) m (m + j) → Rot d f a m b) ∧ Hid (PermIn a b d dk))
  case atStart => exact ⟨m - a, b - m, d, by rw [em], by rw [eb], by omega, by omega, Nat.le_refl _, Nat.le_refl _, Nat.le_refl _, S0, Lib.hid (fun f hf => by
    rw [show m - (m - a) = a by omega, show m + (b - m) = b by omega] at hf
    exact hf), Lib.hid (permIn_refl _ _ _)⟩
  case round =>
    clear S0
    obtain ⟨i, j, dk, rfl, rfl, hi, hj, him, hjb, hkx, S1, HR, HP⟩ := hrel
    have hds : dk.size = d.size := HP.out.1
    have eim : ((m - i : Nat) : Int) = (m : Int) - (i : Int) := by omega
    by_cases hij : i = j
    · subst hij
      have b1 : m - i + i ≤ m := by omega
      have b2 : m + i ≤ dk.size := by omega
      have b3 : dk.size ≤ 1099511627776 := by omega
      have hc := Lib.hid (swapRange_any R cap (m - i) m i g dk (hds.trans HS.out) wr S1.out b1 b2 b3)
      rw [hds, eim] at hc
      clear S1 b1 b2 b3
      go_wp2_with (go_at_call 150; refine hc.out.mono ?_; rintro e w2 ⟨rfl, d2, hx, hp, hS⟩)
      go_end0
      refine ⟨rfl, d2, HR.out d2 (Rot.same (by omega) hx), permIn_trans d dk d2 a b HP.out (hp a b (by omega) (by omega) (by omega)), hS⟩
    · have hne : ((i : Int) ≠ (j : Int)) := by omega
      by_cases hlt : j < i
      · have hc := Lib.hid (swapRange_any R cap (m - i) m j g dk (hds.trans HS.out) wr S1.out (by omega) (by omega) (by omega))
        rw [hds, eim] at hc
        have hltz : (j : Int) < (i : Int) := by omega
        clear S1
        go_wp2_with (go_at_call 150; refine hc.out.mono ?_; rintro e w2 ⟨rfl, d2, hx, hp, hS⟩)
        have S2 : Aside (SWK (fun x => (f x).enc) 2 w0 blk off d2 w2) := hS
        have HR2 : Hid (∀ f, Rot d2 f (m - (i - j)) m (m + j) → Rot d f a m b) := Lib.hid (fun f hf => HR.out f (Rot.more (by omega) hlt hj hx hf))
        have HP2 := Lib.hid (permIn_trans d dk d2 a b HP.out (hp a b (by omega) (by omega) (by omega)))
        clear hS hx hp HR HP hc
        go_wp2
        go_roundg (i - j + j)
        case measure => omega
        case rel => exact ⟨i - j, j, d2, by congr 1; omega, rfl, by omega, hj, by omega, hjb, Nat.le_refl _, S2, HR2, HP2⟩
      · have hc := Lib.hid (swapRange_any R cap (m - i) (m + j - i) i g dk (hds.trans HS.out) wr S1.out (by omega) (by omega) (by omega))
        have e2 : ((m + j - i : Nat) : Int) = (m : Int) + (j : Int) - (i : Int) := by omega
        rw [hds, eim, e2] at hc
        have hltz : ¬ (j : Int) < (i : Int) := by omega
        clear S1
        go_wp2_with (go_at_call 150; refine hc.out.mono ?_; rintro e w2 ⟨rfl, d2, hx, hp, hS⟩)
        have S2 : Aside (SWK (fun x => (f x).enc) 2 w0 blk off d2 w2) := hS
        have HR2 : Hid (∀ f, Rot d2 f (m - i) m (m + (j - i)) → Rot d f a m b) := Lib.hid (fun f hf => HR.out f (Rot.less (by omega) (by omega) hi hx hf))
        have HP2 := Lib.hid (permIn_trans d dk d2 a b HP.out (hp a b (by omega) (by omega) (by omega)))
        clear hS hx hp HR HP hc
        go_wp2
        go_roundg (i + (j - i))
        case measure => omega
        case rel => exact ⟨i, j - i, d2, rfl, by congr 1; omega, hi, by omega, him, by omega, Nat.le_refl _, S2, HR2, HP2⟩
end Go.Proofs.YtajnnkapgnmoaaaGreat
/-
  slices.Clone at items and at values; zset.item.
-/
namespace Go.Proofs.YtajnnkapgnmoaaaGreat
open Go.RowKit

theorem item_info : (Tryz.prog.info? 47).map (fun i => (i.zero, i.size, i.bytes)) = some (some (.agg #[.slice none 0 0, .complex .f64 0 0]), 2, 40) := by kernel_rfl
theorem value_info : (Tryz.prog.info? 49).map (fun i => (i.zero, i.size, i.bytes)) = some (some (.agg #[.int .i64 0, .int .i64 0, .string ByteArray.empty]), 3, 32) := by kernel_rfl
theorem own_empty_z (w0 : World) (e : TypeId) {base : Nat} (h : base ≤ w0.heap.size) (z : Nat) : (w0.alloc (.cells #[] e)).ownsRow base e z (.slice (some ⟨w0.heap.size, 0, none⟩) 0 0) 0 [] :=
  ⟨by simp, .inr ⟨w0.heap.size, 0, #[], rfl, h, heap_alloc_new w0 _, Nat.le_refl _, by decide, by simp, by simp⟩⟩

set_option maxHeartbeats 1000000 in
set_option maxRecDepth 100000 in
theorem cloneItems (A : Option Addr) (c : Nat) (l : List IM) (w : World) {S : Nat → Prop} (hA : SRow w S A l) (hS : ∀ k, S k → k < w.heap.size) (hl : l.length ≤ 1099511627776) :
    Calls Tryz.prog 79 #[.slice A l.length c] w fun e w' => (∃ v', e = .returned v' ∧ w'.ownsRow w.heap.size 47 2 v' l.length (flatM l)) ∧ Below w.heap.size w w' := by
  obtain ⟨i0, hi, hz0, hz1, hz2⟩ := info_parts item_info
  have HR := Lib.hid (hA.reads hS)
  have q22 : ∀ (w : World) (a : Option Addr) (n c n' c' : Nat), (binOp .eql 41 (.slice a n c) (.slice none n' c')).run Tryz.prog w = .ok (.bool a.isNone) w := fun w a n c n' c' => Lib.run_eql_slice_nil w 41 47 a n c n' c' Tryz.underlying41
  obtain ⟨n, hn⟩ : ∃ n, l.length = n := ⟨_, rfl⟩
  have HN := Lib.hid hn
  rw [hn] at hl ⊢
  rw [hn] at HR
  clear hA hn
  rcases A with _ | ad
  · have hn0 : n = 0 := by
      rcases Nat.eq_zero_or_pos n with h | h
      · exact h
      · obtain ⟨ad, h, _⟩ := HR.out.2 h; cases h
    subst hn0
    have hl0 : l = [] := List.eq_nil_of_length_eq_zero HN.out
    subst hl0
    go_enter Tryz.func79, Tryz.ntmps79
    go_wp2
    go_ret
    exact ⟨⟨_, rfl, World.ownsRow_nil _ _ _ _⟩, Below.refl _ _⟩
  · go_enter Tryz.func79, Tryz.ntmps79
    go_wp2_with (at_builtin; refine wpList_append_any _ rfl _ _ 41 rfl w.heap.size 47 i0 _ 2 40 Tryz.underlying41 hi hz0 hz1 hz2 rfl (by decide) _ _ _ rfl (own_empty_z w 47 (Nat.le_refl _) 2) w.heap.size _ _ _ (flatM l) rfl (HR.out.alloc (Nat.le_refl _) _) ?c1 ?c2 ?c3 ?c4 ?_)
    case c1 => exact flatM_ones _
    case c2 => unfold maxLen; omega
    case c3 => omega
    case c4 => simp
    intro v' w1 hown hgrow _
    have hb := Lib.hid (((Below.refl w.heap.size w).alloc (Nat.le_refl _) _).grown hgrow (by simp) (fun k e => by have := Option.some.inj e; simp at this; omega))
    have ho := Lib.hid hown
    clear hown hgrow
    go_wp2_with fail
    go_ret
    exact ⟨⟨_, rfl, by simpa using ho.out⟩, hb.out⟩

set_option maxHeartbeats 1000000 in
set_option maxRecDepth 100000 in
theorem cloneRow (A : Option Addr) (c : Nat) (l : List V) (w : World) (hA : VRow w w.heap.size A l) (hl : l.length ≤ 1099511627776) :
    Calls Tryz.prog 114 #[.slice A l.length c] w fun e w' => (∃ v', e = .returned v' ∧ w'.ownsRow w.heap.size 49 3 v' l.length (flat l)) ∧ Below w.heap.size w w' := by
  obtain ⟨i0, hi, hz0, hz1, hz2⟩ := info_parts value_info
  have HR := Lib.hid hA.reads
  have q22 : ∀ (w : World) (a : Option Addr) (n c n' c' : Nat), (binOp .eql 26 (.slice a n c) (.slice none n' c')).run Tryz.prog w = .ok (.bool a.isNone) w := fun w a n c n' c' => Lib.run_eql_slice_nil w 26 49 a n c n' c' Tryz.underlying26
  obtain ⟨n, hn⟩ : ∃ n, l.length = n := ⟨_, rfl⟩
  have HN := Lib.hid hn
  rw [hn] at hl ⊢
  rw [hn] at HR
  clear hA hn
  rcases A with _ | ad
  · have hn0 : n = 0 := by
      rcases Nat.eq_zero_or_pos n with h | h
      · exact h
      · obtain ⟨ad, h, _⟩ := HR.out.2 h; cases h
    subst hn0
    have hl0 : l = [] := List.eq_nil_of_length_eq_zero HN.out
    subst hl0
    go_enter Tryz.func114, Tryz.ntmps114
    go_wp2
    go_ret
    exact ⟨⟨_, rfl, World.ownsRow_nil _ _ _ _⟩, Below.refl _ _⟩
  · go_enter Tryz.func114, Tryz.ntmps114
    go_wp2_with (at_builtin; refine wpList_append_any _ rfl _ _ 26 rfl w.heap.size 49 i0 _ 3 32 Tryz.underlying26 hi hz0 hz1 hz2 rfl (by decide) _ _ _ rfl (own_empty_z w 49 (Nat.le_refl _) 3) w.heap.size _ _ _ (flat l) rfl (HR.out.alloc (Nat.le_refl _) _) ?c1 ?c2 ?c3 ?c4 ?_)
    case c1 => exact flat_ones _
    case c2 => unfold maxLen; omega
    case c3 => omega
    case c4 => simp
    intro v' w1 hown hgrow _
    have hb := Lib.hid (((Below.refl w.heap.size w).alloc (Nat.le_refl _) _).grown hgrow (by simp) (fun k e => by have := Option.some.inj e; simp at this; omega))
    have ho := Lib.hid hown
    clear hown hgrow
    go_wp2_with fail
    go_ret
    exact ⟨⟨_, rfl, by simpa using ho.out⟩, hb.out⟩

theorem ownM_keep {w w' : World} {B n : Nat} {e : TypeId} {z : Nat} {v : Value} {xs : List Value} (h : w.ownsRow B e z v n xs) (hk : ∀ g, B ≤ g → w'.heap[g]? = w.heap[g]?) : w'.ownsRow B e z v n xs := by
  refine ⟨h.1, ?_⟩
  rcases h.2 with hn | ⟨g, cap, cur, rfl, hg, hgg, rest⟩
  · exact .inl hn
  · exact .inr ⟨g, cap, cur, rfl, hg, by rw [hk g hg]; exact hgg, rest⟩
theorem set2c {w : World} {g k : Nat} {a b u : Value} {t : TypeId} (h : w.heap[g]? = some (.cells #[a, b] t (0, 0))) : (w.setCell ⟨g, k, none⟩ u).heap[g]? = some (.cells (#[a, b].set! k u) t (0, 0)) := by
  show (w.heap.modify g _)[g]? = _
  rw [Array.getElem?_modify]
  simp [h]
/-- an item stored into a box of the call's own -/
def put2 (w : World) (p : Nat) (x0 x1 : Value) : World := (w.setCell ⟨p, 0, none⟩ x0).setCell ⟨p, 1, none⟩ x1
theorem put2_block {w : World} {p : Nat} {a b x0 x1 : Value} {t : TypeId} (h : w.heap[p]? = some (.cells #[a, b] t (0, 0))) : (put2 w p x0 x1).heap[p]? = some (.cells #[x0, x1] t (0, 0)) :=
  set2c (k := 1) (set2c (k := 0) h)
theorem put2_below {w a : World} {p B : Nat} {x0 x1 : Value} (h : Below B a w) (hp : B ≤ p) : Below B a (put2 w p x0 x1) :=
  (h.setCell (p := ⟨p, 0, none⟩) hp x0).setCell (p := ⟨p, 1, none⟩) hp x1
theorem put2_other {w : World} {p k : Nat} {x0 x1 : Value} (h : k ≠ p) : (put2 w p x0 x1).heap[k]? = w.heap[k]? := by
  simp only [put2, World.setCell, Array.getElem?_modify]
  rw [if_neg (by omega), if_neg (by omega)]
theorem put2_size {w : World} {p : Nat} {x0 x1 : Value} : (put2 w p x0 x1).heap.size = w.heap.size := by simp [put2, World.setCell]
/-- an item in a cell: what is returned -/
theorem results_item {fn : Func} {p : Tmp} (h : fn.results = #[.cell p 47]) {tmps : Array Value} {w : World} {g : Nat} {x0 x1 : Value} {t : TypeId}
    (hp : tmps.getD p undef = .pointer (some ⟨g, 0, none⟩)) (hg : w.heap[g]? = some (.cells #[x0, x1] t (0, 0))) : (results fn tmps).run Tryz.prog w = .ok (.agg #[x0, x1]) w := by
  have hp' : tmps[p]?.getD undef = .pointer (some ⟨g, 0, none⟩) := by simpa using hp
  have hl := run_loadVar_row (P := Tryz.prog) w g t 47 #[x0, x1] (0, 0) _ hg Tryz.underlying47 rfl (by show _ = some 2; kernel_rfl)
  simp [results, h, hp', asAddr, hl]

/-- an item of the call's own memory -/
theorem item_any (A : Option Addr) (c : Nat) (r : List V) (k : Int) (w : World) (hA : VRow w w.heap.size A r) (hl : r.length ≤ 1099511627776) :
    Calls Tryz.prog 75 #[.slice A r.length c, tal k] w fun e w' => ∃ x : IM, e = .returned x.val ∧ x.r = r ∧ x.k = k ∧ r.length ≤ x.c ∧ VRowS w' (NewS w w') x.A r ∧
      w'.ownsRow w.heap.size 49 3 (.slice x.A r.length x.c) r.length (flat r) ∧ Below w.heap.size w w' := by
  have hc := Lib.hid (fun w1 (hb : Below w.heap.size w w1) => cloneRow A c r w1 ((hA.below hb).more hb.size) hl)
  obtain ⟨n, hn⟩ : ∃ n, r.length = n := ⟨_, rfl⟩
  have HN := Lib.hid hn
  rw [hn] at hc ⊢
  unfold tal
  obtain ⟨px, hp⟩ : ∃ px, Fl.F (pos k) = px := ⟨_, rfl⟩
  obtain ⟨qx, hq⟩ : ∃ qx, Fl.F (pos (-k)) = qx := ⟨_, rfl⟩
  have HK := Lib.hid (And.intro hp hq)
  rw [hp, hq]
  clear hp hq
  clear hA hl hn
  go_enter Tryz.func75, Tryz.ntmps75
  have hsc := run_store_complex Tryz.prog
  go_wp2_with fail
  refine (hc.out _ ((Below.refl w.heap.size w).alloc (Nat.le_refl _) _)).mono ?_
  rintro e w1 ⟨⟨v, rfl, hown⟩, hb⟩
  have hs : w.heap.size + 1 ≤ w1.heap.size := by have := hb.size; simpa using this
  have hown2 : w1.ownsRow (w.heap.size + 1) 49 3 v r.length (flat r) := by rw [HN.out]; simpa using hown
  obtain ⟨A', c', rfl, hcc, hV⟩ := own_vals (S := fun q => w.heap.size < q ∧ q < w1.heap.size ∧ ∀ o, w1.frozen? ⟨q, o, none⟩ = false) (by rw [HN.out]; exact hown) (fun g h1 h2 h3 => ⟨by simp at h1; omega, h2, h3⟩)
  rw [HN.out] at hown2
  have HO := Lib.hid hown2
  have HV := Lib.hid hV
  have HC := Lib.hid hcc
  have hbw : Hid (w1.heap[w.heap.size]? = some (.cells #[.slice none 0 0, .complex .f64 0 0] 47 (0, 0))) := Lib.hid ((hb.block w.heap.size (by simp)).trans (heap_alloc_new w _))
  have hb1 := Lib.hid (((Below.refl w.heap.size w).alloc (Nat.le_refl _) _).trans (hb.mono (by simp)))
  have k0 := cell_of_row w1 w.heap.size 0 _ _ _ hbw.out
  have k1 := cell_of_row w1 w.heap.size 1 _ _ _ hbw.out
  have f0 : w1.frozen? ⟨w.heap.size, 0, none⟩ = false := Blk.frozen hbw.out 0
  have f1 : w1.frozen? ⟨w.heap.size, 1, none⟩ = false := Blk.frozen hbw.out 1
  simp only [List.getElem?_toArray, List.getElem?_cons_zero, List.getElem?_cons_succ] at k0 k1
  rw [HN.out]
  clear hown hown2 hV hcc hb
  go_wp2
  refine bodyPost_ret (results_item rfl rfl (put2_block hbw.out)) rfl ?_
  refine ⟨⟨A', c', r, k⟩, by simp only [IM.val, tal, HN.out, HK.out.1, HK.out.2], rfl, rfl, by have := HC.out; have := HN.out; show n ≤ c'; omega, ?_, ?_, put2_below hb1.out (Nat.le_refl _)⟩
  · refine (HV.out.kept fun q hq => put2_other (by omega)).mono fun q hq => ⟨by omega, ?_, fun o => ?_⟩
    · show q < (put2 w1 w.heap.size (.slice A' n c') (.complex .f64 px qx)).heap.size
      rw [put2_size]; exact hq.2.1
    · have : (put2 w1 w.heap.size (.slice A' n c') (.complex .f64 px qx)).heap[q]? = w1.heap[q]? := put2_other (by omega)
      exact (frozen_of_block this).trans (hq.2.2 o)
  · have := ownM_keep (w' := put2 w1 w.heap.size (.slice A' n c') (.complex .f64 px qx)) HO.out fun g hg => put2_other (by omega)
    exact this.mono (Nat.le_succ _)
end Go.Proofs.YtajnnkapgnmoaaaGreat
/-
  slices.symMergeCmpFunc at items, where one of the two runs is a single item.
-/
namespace Go.Proofs.YtajnnkapgnmoaaaGreat
open Go.RowKit Go.Sort
variable {α : Type} [Inhabited α] {f : α → ItemC} {w0 : World} {blk off : Nat} {d0 : Array α} {cf : α → α → Int}

/-- what is asked of the comparison: of what was there it turns nothing -/
structure CmpB (f : α → ItemC) (cf : α → α → Int) (w0 : World) (blk off size : Nat) : Prop where
  z : w0.drawn = 0
  run : ∀ (dk : Array α) (w : World), dk.size = size → SWK (fun x => (f x).enc) 2 w0 blk off dk w → ∀ x y : α,
    Calls Tryz.prog 81 #[.agg #[.slice (f x).A (f x).n (f x).c, .complex .f64 (f x).x (f x).y], .agg #[.slice (f y).A (f y).n (f y).c, .complex .f64 (f y).x (f y).y]] w fun e w' => e = .returned (.int .i64 (cf x y)) ∧ Below w.heap.size w w'
theorem swk_regrown {d : Array α} {w : World} (hz : w0.drawn = 0) (S : SWK (fun x => (f x).enc) 2 w0 blk off d w) (n : Nat) (os : Array Obj) : SWK (fun x => (f x).enc) 2 w0 blk off d (grow (redrawn w n) os) := by
  obtain ⟨m, os0, rfl⟩ := S
  refine ⟨n, os0 ++ os, ?_⟩
  unfold sortWorldK
  have e : redrawn (grow (putRowK (fun x => (f x).enc) 2 (Sort.ahead w0 m) blk off d) os0) n = grow (putRowK (fun x => (f x).enc) 2 (Sort.ahead w0 n) blk off d) os0 := by
    unfold redrawn grow putRowK putRow mapBlock Sort.ahead
    simp only [hz, Nat.zero_add]
  rw [e, grow_grow]
/-- what the comparison does, in a world of the sort's, and its arguments' cells -/
theorem cmp_step {d : Array α} {w : World} (S : SWK (fun x => (f x).enc) 2 w0 blk off d w) (R : RowK (fun x => (f x).enc) 2 w0 blk off d0) (hC : CmpB f cf w0 blk off d0.size) (hs : d.size = d0.size) (i j : Nat) (hi : i < d.size) (hj : j < d.size) :
    ∃ (t u : ItemC) (r : Int), Hid (ltOf cf d[i]! d[j]! = decide (r < 0)) ∧ (∀ n os, (grow (redrawn w n) os).cell? ⟨blk, off + i * 2, none⟩ = some (.slice t.A t.n t.c) ∧ (grow (redrawn w n) os).cell? ⟨blk, off + i * 2 + 1, none⟩ = some (.complex .f64 t.x t.y) ∧
      (grow (redrawn w n) os).cell? ⟨blk, off + j * 2, none⟩ = some (.slice u.A u.n u.c) ∧ (grow (redrawn w n) os).cell? ⟨blk, off + j * 2 + 1, none⟩ = some (.complex .f64 u.x u.y)) ∧
      (∀ n os, Calls Tryz.prog 81 #[.agg #[.slice t.A t.n t.c, .complex .f64 t.x t.y], .agg #[.slice u.A u.n u.c, .complex .f64 u.x u.y]] (grow (redrawn w n) os) fun e w' => e = .returned (.int .i64 r) ∧ ∃ p : Regrown, w' = grow (redrawn w p.d) p.os) := by
  refine ⟨f d[i]!, f d[j]!, cf d[i]! d[j]!, rfl, fun n os => ?_, fun n os => ?_⟩
  · have h1 := swk_cells (swk_regrown hC.z S n os) R hs hi rfl
    have h2 := swk_cells (swk_regrown hC.z S n os) R hs hj rfl
    exact ⟨h1.1.1, h1.2.1, h2.1.1, h2.2.1⟩
  · exact Calls.regrown_of (hC.run d _ hs (swk_regrown hC.z S n os) d[i]! d[j]!)

set_option maxHeartbeats 4000000 in
set_option maxRecDepth 1000000 in
theorem symMerge_left (R : RowK (fun x => (f x).enc) 2 w0 blk off d0) (hC : CmpB f cf w0 blk off d0.size) (hlt : SWO (ltOf cf)) (cap a m b : Nat) (d : Array α) (hs : d.size = d0.size) (w : World) (S : SWK (fun x => (f x).enc) 2 w0 blk off d w) (ham : m = a + 1) (hmb : m < b) (hb : b ≤ d.size) (hsz : d.size ≤ 1099511627776) :
    Calls Tryz.prog 138 #[.slice (some ⟨blk, off, none⟩) d.size cap, .int .i64 a, .int .i64 m, .int .i64 b, .func (.func 81) #[] #[]] w fun e w' => e = .returned (.tuple #[]) ∧
      ∃ d', Sym (ltOf cf) a m b d d' ∧ SWK (fun x => (f x).enc) 2 w0 blk off d' w' := by
  have S0 : Aside (SWK (fun x => (f x).enc) 2 w0 blk off d w) := S
  have HS : Hid (d.size = d0.size) := hs
  have HC : Aside _ := hC
  clear S hs hC
  have mixed : Tryz.prog.follows .mixedOrders = true := by kernel_rfl
  have em : (m : Int) - (a : Int) = 1 := by omega
  have b4 : a < d.size := by omega
  have HAM : Hid (m = a + 1) := ham
  clear ham
  go_enter Tryz.func138, Tryz.ntmps138
  go_wp2
  go_loopg [10, 11] (b - m) (fun kx s10 s11 wr => ∃ (i j : Nat), s10 = .int .i64 i ∧ s11 = .int .i64 j ∧ m ≤ i ∧ i ≤ j ∧ j ≤ b ∧ j - i ≤ kx ∧ Aside (SWK (fun x => (f x).enc) 2 w0 blk off d wr) ∧ Hid (i = m ∨ ltOf cf d[i - 1]! d[a]! = true) ∧ Hid (j = b ∨ ltOf cf d[j]! d[a]! = false))
  case atStart => exact ⟨m, b, rfl, rfl, Nat.le_refl _, by omega, Nat.le_refl _, Nat.le_refl _, S0, Lib.hid (.inl rfl), Lib.hid (.inl rfl)⟩
  case round =>
    clear S0
    obtain ⟨i, j, rfl, rfl, hmi, hij, hjb, hkx, S1, HI, HJ⟩ := hrel
    by_cases hlt2 : i < j
    · have hltz : (i : Int) < (j : Int) := by omega
      obtain ⟨h, eh, b1, b2⟩ : ∃ h : Nat, ((i : Int) + (j : Int)) / 2 = (h : Int) ∧ i ≤ h ∧ h < j := ⟨(i + j) / 2, by omega, by omega, by omega⟩
      have b3 : h < d.size := by omega
      obtain ⟨t, u, r, HLT, hcell, hcall⟩ := cmp_step S1.out R HC.out HS.out h a b3 b4
      have z1 := fun n os => (hcell n os).1
      have z2 := fun n os => (hcell n os).2.1
      have z3 := fun n os => (hcell n os).2.2.1
      have z4 := fun n os => (hcell n os).2.2.2
      have HCL := Lib.hid hcall
      clear hcell hcall
      obtain ⟨A1, n1, c1, x1, y1⟩ := t
      obtain ⟨A2, n2, c2, x2, y2⟩ := u
      dsimp only at z1 z2 z3 z4 HCL
      go_wp2_with fail
      refine wp_region_quiet_below (by assumption) (by kernel_rfl) ?_
      repeat (quiet_step (first | (go_at_call 81; refine (HCL.out _ _))))
      refine wpQuiet_nil ?_
      intro _ hw'
      obtain ⟨⟨nq, osq⟩, hw''⟩ := hw'
      subst hw''
      have S2 : Aside (SWK (fun x => (f x).enc) 2 w0 blk off d (grow (redrawn wr nq) osq)) := swk_regrown HC.out.z S1.out nq osq
      clear S1 z1 z2 z3 z4 HCL
      generalize grow (redrawn wr nq) osq = wy at S2 ⊢
      by_cases hl : r < 0
      · rw [decide_eq_true hl] at HLT
        go_wp2
        go_roundg (j - (h + 1))
        case measure => omega
        case rel => exact ⟨h + 1, j, by go_num, rfl, by omega, by omega, hjb, Nat.le_refl _, S2, Lib.hid (.inr HLT.out), HJ⟩
      · rw [decide_eq_false hl] at HLT
        go_wp2
        go_roundg (h - i)
        case measure => omega
        case rel => exact ⟨i, h, rfl, rfl, hmi, b1, by omega, Nat.le_refl _, S2, HI, Lib.hid (.inr HLT.out)⟩
    · obtain rfl : i = j := by omega
      have hltz : ¬ (i : Int) < (i : Int) := by omega
      have c0 : a ≤ i - 1 := by have := HAM.out; omega
      have ei : ((i - 1 : Nat) : Int) = (i : Int) - 1 := by have := HAM.out; omega
      go_wp2
      go_loopg [13] (i - 1 - a) (fun kx s13 wr => ∃ (k : Nat) (dk : Array α), s13 = .int .i64 k ∧ a ≤ k ∧ k ≤ i - 1 ∧ i - 1 - k ≤ kx ∧ Aside (SWK (fun x => (f x).enc) 2 w0 blk off dk wr) ∧ Hid (UpTo d dk a k) ∧ Hid (PermIn a b d dk))
      case atStart => exact ⟨a, d, rfl, Nat.le_refl _, c0, Nat.le_refl _, S1, Lib.hid (UpTo.zero _ _), Lib.hid (permIn_refl _ _ _)⟩
      case round =>
        clear S1
        obtain ⟨k, dk, rfl, hak, hki, hkx, S1, HU, HP⟩ := hrel
        have HDS : Hid (dk.size = d.size) := HU.out.1
        by_cases hlt3 : k < i - 1
        · have hltk : (k : Int) < (i : Int) - 1 := by omega
          go_wp2_with fail
          have k1 : k < dk.size := by have := HDS.out; omega
          have k2 : k + 1 < dk.size := by have := HDS.out; omega
          have hz : dk.size = d0.size := HDS.out.trans HS.out
          have ea44 : ((k : Int)).toNat = k := by omega
          have ec44 : ((k : Int) + 1).toNat = k + 1 := by omega
          have pc44 : (0 : Int) ≤ (k : Int) + 1 := by omega
          have ba44 : (k : Int) < (d.size : Int) := by omega
          have bc44 : (k : Int) + 1 < (d.size : Int) := by omega
          have rc44 : IntKind.i64.wrap ((k : Int) + 1) = (k : Int) + 1 := by rw [IntKind.wrap_i64]; omega
          have S2 : Aside (SWK (fun x => (f x).enc) 2 w0 blk off (swp dk k (k + 1)) ((wr.drew.setCells blk (off + k * 2) ((f dk[k + 1]!).enc)).setCells blk (off + (k + 1) * 2) ((f dk[k]!).enc))) := S1.out.swapped R k (k + 1) k1 k2
          obtain ⟨⟨ci1, fi1⟩, ⟨ci2, fi2⟩⟩ := swk_cells S1.out R hz k1 rfl
          obtain ⟨⟨cj1, fj1⟩, ⟨cj2, fj2⟩⟩ := swk_cells S1.out R hz k2 rfl
          generalize f dk[k]! = I at S2 ci1 fi1 ci2 fi2
          generalize f dk[k + 1]! = J at S2 cj1 fj1 cj2 fj2
          obtain ⟨A1, n1, c1, x1, y1⟩ := I
          obtain ⟨A2, n2, c2, x2, y2⟩ := J
          dsimp only [ItemC.enc] at ci1 fi1 ci2 fi2 cj1 fj1 cj2 fj2 S2
          have HU2 := Lib.hid (HU.out.step hak (by omega))
          have HP2 := Lib.hid (permIn_trans d dk _ a b HP.out (swp_permIn dk a b k (k + 1) hak (by omega) (by omega) (by omega) (by have := HDS.out; omega)))
          clear S1 HU HP k1 k2 hz
          have hsc := run_store_complex Tryz.prog
          go_big_region
          go_wp2
          go_roundg (i - 1 - (k + 1))
          case measure => omega
          case rel => exact ⟨k + 1, swp dk k (k + 1), by go_num, by omega, by omega, Nat.le_refl _, S2, HU2, HP2⟩
        · obtain rfl : k = i - 1 := by omega
          have hltk : ¬ ((i - 1 : Nat) : Int) < (i : Int) - 1 := by omega
          go_wp2
          (try simp only [Exit.inBlock, Exit.then])
          refine bodyPost_ret (results_none rfl _ _ _) rfl ?_
          refine ⟨rfl, dk, ⟨HP.out, fun _ s2 => ?_⟩, S1.out⟩
          have := HAM.out
          subst this
          exact up_sorted hlt HU.out hmi hjb s2 HI.out HJ.out
end Go.Proofs.YtajnnkapgnmoaaaGreat
/-
  slices.symMergeCmpFunc at items, where the second run is a single item.
-/
namespace Go.Proofs.YtajnnkapgnmoaaaGreat
open Go.RowKit Go.Sort
variable {α : Type} [Inhabited α] {f : α → ItemC} {w0 : World} {blk off : Nat} {d0 : Array α} {cf : α → α → Int}

set_option maxHeartbeats 4000000 in
set_option maxRecDepth 1000000 in
theorem symMerge_right (R : RowK (fun x => (f x).enc) 2 w0 blk off d0) (hC : CmpB f cf w0 blk off d0.size) (hlt : SWO (ltOf cf)) (cap a m b : Nat) (d : Array α) (hs : d.size = d0.size) (w : World) (S : SWK (fun x => (f x).enc) 2 w0 blk off d w) (ham : a + 1 < m) (hmb : b = m + 1) (hb : b ≤ d.size) (hsz : d.size ≤ 1099511627776) :
    Calls Tryz.prog 138 #[.slice (some ⟨blk, off, none⟩) d.size cap, .int .i64 a, .int .i64 m, .int .i64 b, .func (.func 81) #[] #[]] w fun e w' => e = .returned (.tuple #[]) ∧
      ∃ d', Sym (ltOf cf) a m b d d' ∧ SWK (fun x => (f x).enc) 2 w0 blk off d' w' := by
  have S0 : Aside (SWK (fun x => (f x).enc) 2 w0 blk off d w) := S
  have HS : Hid (d.size = d0.size) := hs
  have HC : Aside _ := hC
  clear S hs hC
  have mixed : Tryz.prog.follows .mixedOrders = true := by kernel_rfl
  have em : ((m : Int) - (a : Int) == 1) = false := by simp; omega
  have em2 : (b : Int) - (m : Int) = 1 := by omega
  have b4 : m < d.size := by omega
  have HAM : Hid (b = m + 1) := hmb
  clear hmb
  go_enter Tryz.func138, Tryz.ntmps138
  go_wp2
  go_loopg [14, 15] (m - a) (fun kx s14 s15 wr => ∃ (i j : Nat), s14 = .int .i64 i ∧ s15 = .int .i64 j ∧ a ≤ i ∧ i ≤ j ∧ j ≤ m ∧ j - i ≤ kx ∧ Aside (SWK (fun x => (f x).enc) 2 w0 blk off d wr) ∧ Hid (i = a ∨ ltOf cf d[m]! d[i - 1]! = false) ∧ Hid (j = m ∨ ltOf cf d[m]! d[j]! = true))
  case atStart => exact ⟨a, m, rfl, rfl, Nat.le_refl _, by omega, Nat.le_refl _, Nat.le_refl _, S0, Lib.hid (.inl rfl), Lib.hid (.inl rfl)⟩
  case round =>
    clear S0
    obtain ⟨i, j, rfl, rfl, hmi, hij, hjb, hkx, S1, HI, HJ⟩ := hrel
    by_cases hlt2 : i < j
    · have hltz : (i : Int) < (j : Int) := by omega
      obtain ⟨h, eh, b1, b2⟩ : ∃ h : Nat, ((i : Int) + (j : Int)) / 2 = (h : Int) ∧ i ≤ h ∧ h < j := ⟨(i + j) / 2, by omega, by omega, by omega⟩
      have b3 : h < d.size := by omega
      obtain ⟨t, u, r, HLT, hcell, hcall⟩ := cmp_step S1.out R HC.out HS.out m h b4 b3
      have z1 := fun n os => (hcell n os).1
      have z2 := fun n os => (hcell n os).2.1
      have z3 := fun n os => (hcell n os).2.2.1
      have z4 := fun n os => (hcell n os).2.2.2
      have HCL := Lib.hid hcall
      clear hcell hcall
      obtain ⟨A1, n1, c1, x1, y1⟩ := t
      obtain ⟨A2, n2, c2, x2, y2⟩ := u
      dsimp only at z1 z2 z3 z4 HCL
      by_cases hl : r < 0
      · rw [decide_eq_true hl] at HLT
        go_wp2_with fail
        refine wp_region_quiet_below (by assumption) (by kernel_rfl) ?_
        repeat (quiet_step (first | (go_at_call 81; refine (HCL.out _ _))))
        refine wpQuiet_nil ?_
        intro _ hw'
        obtain ⟨⟨nq, osq⟩, hw''⟩ := hw'
        subst hw''
        have S2 : Aside (SWK (fun x => (f x).enc) 2 w0 blk off d (grow (redrawn wr nq) osq)) := swk_regrown HC.out.z S1.out nq osq
        clear S1 z1 z2 z3 z4 HCL
        generalize grow (redrawn wr nq) osq = wy at S2 ⊢
        go_wp2
        go_roundg (h - i)
        case measure => omega
        case rel => exact ⟨i, h, rfl, rfl, hmi, b1, by omega, Nat.le_refl _, S2, HI, Lib.hid (.inr HLT.out)⟩
      · rw [decide_eq_false hl] at HLT
        have dl : decide (r < 0) = false := decide_eq_false hl
        go_wp2_with fail
        refine wp_region_quiet_below (by assumption) (by kernel_rfl) ?_
        repeat (quiet_step (first | (go_at_call 81; refine (HCL.out _ _))))
        refine wpQuiet_nil ?_
        intro _ hw'
        obtain ⟨⟨nq, osq⟩, hw''⟩ := hw'
        subst hw''
        have S2 : Aside (SWK (fun x => (f x).enc) 2 w0 blk off d (grow (redrawn wr nq) osq)) := swk_regrown HC.out.z S1.out nq osq
        clear S1 z1 z2 z3 z4 HCL
        generalize grow (redrawn wr nq) osq = wy at S2 ⊢
        go_wp2
        go_roundg (j - (h + 1))
        case measure => omega
        case rel => exact ⟨h + 1, j, by go_num, rfl, by omega, by omega, hjb, Nat.le_refl _, S2, Lib.hid (.inr HLT.out), HJ⟩
    · obtain rfl : i = j := by omega
      have hltz : ¬ (i : Int) < (i : Int) := by omega
      go_wp2
      go_loopg [17] (m - i) (fun kx s17 wr => ∃ (k : Nat) (dk : Array α), s17 = .int .i64 k ∧ i ≤ k ∧ k ≤ m ∧ k - i ≤ kx ∧ Aside (SWK (fun x => (f x).enc) 2 w0 blk off dk wr) ∧ Hid (DownTo d dk m k) ∧ Hid (PermIn a b d dk))
      case atStart => exact ⟨m, d, rfl, hjb, Nat.le_refl _, Nat.le_refl _, S1, Lib.hid (DownTo.zero _ _), Lib.hid (permIn_refl _ _ _)⟩
      case round =>
        clear S1
        obtain ⟨k, dk, rfl, hik, hkm, hkx, S1, HU, HP⟩ := hrel
        have HDS : Hid (dk.size = d.size) := HU.out.1
        by_cases hlt3 : i < k
        · obtain ⟨kp, rfl⟩ : ∃ kp, k = kp + 1 := ⟨k - 1, by omega⟩
          have hltk : (i : Int) < (kp : Int) + 1 := by omega
          go_wp2_with fail
          have k1 : kp < dk.size := by have := HDS.out; omega
          have k2 : kp + 1 < dk.size := by have := HDS.out; omega
          have hz : dk.size = d0.size := HDS.out.trans HS.out
          have ea44 : ((kp : Int)).toNat = kp := by omega
          have ec44 : ((kp : Int) + 1).toNat = kp + 1 := by omega
          have pc44 : (0 : Int) ≤ (kp : Int) + 1 := by omega
          have ba44 : (kp : Int) < (d.size : Int) := by omega
          have bc44 : (kp : Int) + 1 < (d.size : Int) := by omega
          have rc44 : IntKind.i64.wrap ((kp : Int) + 1) = (kp : Int) + 1 := by rw [IntKind.wrap_i64]; omega
          have ra44 : IntKind.i64.wrap (kp : Int) = (kp : Int) := by rw [IntKind.wrap_i64]; omega
          have S2 : Aside (SWK (fun x => (f x).enc) 2 w0 blk off (swp dk (kp + 1) kp) ((wr.drew.setCells blk (off + (kp + 1) * 2) ((f dk[kp]!).enc)).setCells blk (off + kp * 2) ((f dk[kp + 1]!).enc))) := S1.out.swapped R (kp + 1) kp k2 k1
          obtain ⟨⟨ci1, fi1⟩, ⟨ci2, fi2⟩⟩ := swk_cells S1.out R hz k1 rfl
          obtain ⟨⟨cj1, fj1⟩, ⟨cj2, fj2⟩⟩ := swk_cells S1.out R hz k2 rfl
          generalize f dk[kp]! = I at S2 ci1 fi1 ci2 fi2
          generalize f dk[kp + 1]! = J at S2 cj1 fj1 cj2 fj2
          obtain ⟨A1, n1, c1, x1, y1⟩ := I
          obtain ⟨A2, n2, c2, x2, y2⟩ := J
          dsimp only [ItemC.enc] at ci1 fi1 ci2 fi2 cj1 fj1 cj2 fj2 S2
          have HU2 := Lib.hid (HU.out.step (by omega) b4)
          have HP2 := Lib.hid (permIn_trans d dk _ a b HP.out (swp_permIn dk a b (kp + 1) kp (by omega) (by have := HAM.out; omega) (by omega) (by have := HAM.out; omega) (by have := HDS.out; omega)))
          clear S1 HU HP k1 k2 hz
          have hsc := run_store_complex Tryz.prog
          go_big_region
          go_wp2
          go_roundg (kp - i)
          case measure => omega
          case rel => exact ⟨kp, swp dk (kp + 1) kp, by first | rfl | go_num | (congr 1; omega), by omega, by omega, Nat.le_refl _, S2, HU2, HP2⟩
        · obtain rfl : k = i := by omega
          have hltk : ¬ (k : Int) < (k : Int) := by omega
          go_wp2
          (try simp only [Exit.inBlock, Exit.then])
          refine bodyPost_ret (results_none rfl _ _ _) rfl ?_
          refine ⟨rfl, dk, ⟨HP.out, fun s1 _ => ?_⟩, S1.out⟩
          have := HAM.out
          subst this
          exact down_sorted hlt HU.out hmi hjb s1 HI.out HJ.out
end Go.Proofs.YtajnnkapgnmoaaaGreat
