/-
  maps.Values' iterator over a map whose values are structs of two cells: the values come, each once, in some order.
-/
import Derived.Test.YtloolljoelngcaaGreatProg
import Derived.Test.YtloolljoelngcaaGreatRows
import Derived.RangeFuncGives
import Derived.RangeFuncMany
import Derived.RangeFuncLeaves
import Derived.Maps.AppendAt
import Derived.Sort.MapsRangeIn
import Derived.Sort.KeysCollected
import Derived.WalkKit
import Derived.OwnWalkIn
import Derived.TacticsInMore
import Derived.LoopIn
set_option linter.unusedVariables false
namespace Go.Proofs.YtloolljoelngcaaGreat
open Go.RowKit Go.Maps Go.Sort Go.Proofs
structure VV where
  p : Option Addr
  n : Nat
  k : Nat
  q : Option Addr
  m : Nat
  j : Nat
abbrev encG (c : VV) : Value := .agg #[.slice c.p c.n c.k, .slice c.q c.m c.j]
def datG (c : VV) : DataW Value := .agg [.held (.slice c.p c.n c.k), .held (.slice c.q c.m c.j)]
def rdG : Value → Option (DataW Value × List MemPlace)
  | .agg ⟨[.slice p n k, .slice q m j]⟩ => some (datG ⟨p, n, k, q, m, j⟩, [])
  | _ => none
theorem rdG_inv {v : Value} {y : DataW Value × List MemPlace} (h : rdG v = some y) : ∃ c : VV, v = encG c ∧ y = (datG c, []) := by
  unfold rdG at h
  split at h
  · rename_i p n k q m j
    exact ⟨⟨p, n, k, q, m, j⟩, rfl, (Option.some.inj h).symm⟩
  · cases h
theorem encG_inj {c d : VV} (h : encG c = encG d) : c = d := by
  obtain ⟨p, n, k, q, m, j⟩ := c
  obtain ⟨p', n', k', q', m', j'⟩ := d
  simp [encG] at h
  simp [h]
def ValG (D0 : DataW Value) (p : List UInt8 × VV) : Prop := ∀ zd, D0.atKey (.string p.1) zd = datG p.2
def AllG (D0 : DataW Value) (ps : List (List UInt8 × VV)) : Prop := (ps.map (·.1)).Perm (strKeys D0) ∧ ∀ p ∈ ps, ValG D0 p

set_option maxRecDepth 100000 in
set_option maxHeartbeats 2000000 in
theorem vals_in (F : Fence) (n : Nat) (hf : F.fn 109) (hro : F.round = none) (hn : 1 ≤ n) (l Bm off b nn : Nat) (D0 : DataW Value) (J : List VV → World → Prop)
    (hY : ∀ pre x W, J pre W → pre.length < Maps.size D0 → YieldAt F (n - 1) Tryz.prog l #[encG x] W fun e W' => e = .returned (.bool true) ∧ J (pre ++ [x]) W' ∧ KeepsWalks W W')
    (W : World) (hJ : AbidesFrom W.heap.size J) (hm : W.cell? ⟨Bm, off, none⟩ = some (.map (some b))) (hown : W.ownsMap Tryz.prog 9 rdG b nn D0) (h0 : J [] W) :
    CallsIn F n Tryz.prog 109 #[.func (.yield l) #[] #[], .pointer (some ⟨Bm, off, none⟩)] W fun e W' => (∃ v, e = .returned v) ∧ ∃ xs, (∃ ps, AllG D0 ps ∧ xs = ps.map (·.2)) ∧ J xs W' := by
  refine callsIn_of_wp Tryz.func109 rfl hf ?_ hro
  simp only [Tryz.ntmps109, List.size_toArray, List.length_cons, List.length_nil, Nat.reduceAdd, Nat.reduceSub, Array.replicate_succ, Array.replicate_zero, List.push_toArray, List.append_toArray, List.nil_append, List.cons_append]
  gi_wp2_with (first
    | (gi_at_range; refine wpListIn_range_own _ rfl _ 61 rfl 9 68 (string_keyed Tryz.underlying9) Tryz.underlying61 _ b nn _ rfl hown ?_; intro w0 hrg0 hg0 hs0)
    | gi_in)
  go_frame
  gi_loopw [] (fun wr => ∃ (left : Lit → Bool) (cnt : Nat) (ps : List (List UInt8 × VV)), wr.ranges Tryz.prog 9 rdG b W.heap.size nn D0 left cnt ∧ ps.length + cnt ≤ Maps.size D0 ∧ Collected D0 left (ps.map (·.1)) ∧ (∀ p ∈ ps, ValG D0 p) ∧ J (ps.map (·.2)) wr)
    (fun wr => wr.rangeLeft b W.heap.size)
  case atStart =>
    exact ⟨_, _, [], hrg0, by simp, Collected.start D0, by simp, hJ [] W w0 none h0 hg0 (fun r e => by cases e)⟩
  case round =>
    obtain ⟨left, cnt, ps, hrg, hcs, hC, hV, hJs⟩ := hrel
    gi_wp2_with (first
      | (gi_at_next; refine wpListIn_next_ranges _ rfl _ rfl 9 (string_keyed Tryz.underlying9) rdG encStr encG (fun key kl hk => by obtain ⟨x, hx, _⟩ := Maps.keyOf_str Tryz.underlying9 hk; exact ⟨x, hx⟩) (fun v y hv => by obtain ⟨c, rfl, _⟩ := rdG_inv hv; exact ⟨c, rfl⟩) b W.heap.size nn _ _ _ rfl hrg ?_ ?_)
      | gi_in)
    · intro hc0 hl0
      gi_wp2
      go_end0
      exact ⟨⟨_, rfl⟩, _, ⟨ps, ⟨hC.perm hown (string_keyed Tryz.underlying9) Tryz.underlying9 hl0, hV⟩, rfl⟩, hJs⟩
    · intro x c kl yd yp w2 cnt2 hkey hlk hv hat hrg2 hlt hg2 hs2 hen
      obtain ⟨x', ex, rfl, _⟩ := Maps.keyOf_str Tryz.underlying9 hkey
      obtain rfl : x = x' := encStr_inj ex
      obtain ⟨c', ec, ez⟩ := rdG_inv hv
      obtain rfl : c = c' := encG_inj ec
      obtain rfl : yd = datG c := (Prod.mk.inj ez).1
      have hJ2 : J (ps.map (·.2)) w2 := hJ _ wr w2 (some W.heap.size) hJs hg2 (fun r e => by cases e; exact ⟨Nat.le_refl _, hrg.iter_walk⟩)
      clear hs2
      have hJ3 : J (ps.map (·.2)) (w2.alloc (.cells #[.slice c.p c.n c.k, .slice c.q c.m c.j] 68)) := hJ _ _ _ none hJ2 (World.grownBy_alloc _ _ none) (fun r e => by cases e)
      obtain ⟨fn, tmps, assign, body, hy, hR⟩ := hY (ps.map (·.2)) c _ hJ3 (by simp; omega)
      have hC2 : Collected D0 (fun z => left z && !z.sameKey (.string x)) ((ps ++ [(x, c)]).map (·.1)) := by simpa using hC.step hlk hat
      have hV2 : ∀ p ∈ ps ++ [(x, c)], ValG D0 p := fun p hp => (List.mem_append.1 hp).elim (hV p) (fun e => by simp at e; subst e; exact hat)
      gi_wp2_with (rw [Oper.semAt_eq _ _ _ (fun c h => by cases h)]; go_simp)
      refine hR.mono ?_
      rintro e W3 ⟨rfl, hJ4, hk3⟩
      gi_wp2
      have hrg3 := (hrg2.of_walks (KeepsWalks.alloc w2 _)).of_walks hk3
      go_roundw
      case rel => exact ⟨_, cnt2, ps ++ [(x, c)], hrg3, by simp; omega, hC2, hV2, by simpa using hJ4⟩
      case measure => rw [hrg3.left_eq, hrg.left_eq]; exact hlt
end Go.Proofs.YtloolljoelngcaaGreat
