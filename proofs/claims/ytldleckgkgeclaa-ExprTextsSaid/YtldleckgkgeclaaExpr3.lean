/-
  Package expr's contracts: all, result.
-/
import Derived.Test.YtldleckgkgeclaaExpr2
namespace Go.Proofs.Ytldleckgkgeclaa
open Go.RowKit
/-- a slice of ints -/
def IRow (w : World) (B : Nat) (A : Option Addr) (l : List Int) : Prop := l = [] ∨ ∃ b off, A = some ⟨b, off, none⟩ ∧ b < B ∧ ∀ i z, l[i]? = some z → w.cell? ⟨b, off + i, none⟩ = some (.int .i64 z)
def ints (l : List Int) : List Value := l.map fun z => .int .i64 z
theorem IRow.below {w w' : World} {B : Nat} {A : Option Addr} {l : List Int} (h : IRow w B A l) (hb : Below B w w') : IRow w' B A l := by
  rcases h with h | ⟨b, o, hA, hB, h⟩
  · exact .inl h
  · exact .inr ⟨b, o, hA, hB, fun i z hz => (hb.cell hB).trans (h i z hz)⟩
theorem IRow.more {w : World} {B B' : Nat} {A : Option Addr} {l : List Int} (h : IRow w B A l) (hB : B ≤ B') : IRow w B' A l := by
  rcases h with h | ⟨b, o, hA, hb, h⟩
  · exact .inl h
  · exact .inr ⟨b, o, hA, by omega, h⟩
theorem own_below {w w' : World} {B n : Nat} {e : TypeId} {z : Nat} {v : Value} {xs : List Value} (h : w.ownsRow B e z v n xs) (hb : Below w.heap.size w w') : w'.ownsRow B e z v n xs := by
  refine ⟨h.1, ?_⟩
  rcases h.2 with hn | ⟨g, cap, cur, rfl, hg, hgg, rest⟩
  · exact .inl hn
  · exact .inr ⟨g, cap, cur, rfl, hg, by rw [hb.block g (Array.getElem?_eq_some_iff.1 hgg).1]; exact hgg, rest⟩
theorem own_ints {w : World} {base : Nat} {e : TypeId} {v : Value} {l : List Int} (h : w.ownsRow base e 1 v l.length (ints l)) : ∃ A c, v = .slice A l.length c ∧ l.length ≤ c ∧ IRow w w.heap.size A l := by
  obtain ⟨_, hcase⟩ := id h
  rcases hcase with ⟨rfl, h0⟩ | ⟨g, cap, cur, rfl, hg, hh, hn, hcap, hsz, htake⟩
  · exact ⟨none, 0, by rw [h0], by omega, .inl (List.eq_nil_of_length_eq_zero h0)⟩
  · refine ⟨some ⟨g, 0, none⟩, cap, rfl, hn, .inr ⟨g, 0, rfl, ?_, ?_⟩⟩
    · rcases Nat.lt_or_ge g w.heap.size with hlt | hge
      · exact hlt
      · rw [Array.getElem?_eq_none hge] at hh; cases hh
    · intro i z hz
      have hi : i < l.length := (List.getElem?_eq_some_iff.1 hz).1
      rw [Nat.zero_add, h.cellAt _ (by omega), ints, List.getElem?_map, hz]
      rfl

theorem all_closure (z k : Int) (b o : Nat) (w : World) (h0 : w.cell? ⟨b, o, none⟩ = some (.int .i64 k)) :
    Calls Try.prog 155 #[.int .i64 z, .pointer (some ⟨b, o, none⟩)] w fun e w' => e = .returned (.bool (z != k)) ∧ w = w' := by
  have hp := block_lt_of_cell h0
  go_enter Try.func155, Try.ntmps155
  go_wp2
  go_ret
  exact ⟨rfl, rfl⟩

set_option maxHeartbeats 400000 in
theorem indexFunc_ints (A : Option Addr) (c : Nat) (l : List Int) (hn : l.length ≤ 9223372036854775807) (k0 : Int) (pb po : Nat) (w : World) (hA : IRow w w.heap.size A l) (h0 : w.cell? ⟨pb, po, none⟩ = some (.int .i64 k0)) :
    Calls Try.prog 166 #[.slice A l.length c, .func (.func 155) #[] #[.pointer (some ⟨pb, po, none⟩)]] w fun e w' =>
      e = .returned (.int .i64 (idx (fun z => z != k0) l 0)) ∧ w = w' := by
  have HL := Lib.hid hA
  obtain ⟨n, en⟩ : ∃ n, n = l.length := ⟨_, rfl⟩
  have Hl := Lib.hid en
  have hcl := Lib.hid (fun z => all_closure z k0 pb po w h0)
  rw [← en] at hn ⊢
  clear hA en h0
  go_enter Try.func166, Try.ntmps166
  go_wp2_with fail
  go_loop [8] (fun i => ∃ k : Nat, k ≤ n ∧ i = .int .i64 k ∧ Hid (idx (fun z => z != k0) l 0 = idx (fun z => z != k0) (l.drop k) k)) (fun i => n - (intOf i).toNat)
  case atStart => exact ⟨0, Nat.zero_le _, rfl, rfl⟩
  case round =>
    obtain ⟨k, hk, rfl, hz⟩ := hrel
    by_cases hlt : k < n
    · obtain ⟨x, hx⟩ : ∃ x, l[k]? = some x := ⟨_, List.getElem?_eq_getElem (by rw [← Hl.out]; exact hlt)⟩
      have hst := Lib.hid (hz.out.trans (idx_step (p := fun z => z != k0) hx))
      rcases HL.out with hnil | ⟨b, o, rfl, hb, hc⟩
      · rw [hnil] at hx; simp at hx
      have c1 := hc k x hx
      clear hx hz hc
      by_cases he : (x != k0) = true
      · have hst' : Hid (idx (fun z => z != k0) l 0 = (k : Int)) := by
          have := hst.out
          rwa [if_pos he] at this
        clear hst
        go_wp2_with fail
        refine (hcl.out x).mono ?_
        rintro e w' ⟨rfl, rfl⟩
        rw [he]
        go_wp2_with fail
        go_ret
        exact ⟨by rw [hst'.out]; rfl, rfl⟩
      · have he' : (x != k0) = false := by simpa using he
        have hst' : Hid (idx (fun z => z != k0) l 0 = idx (fun z => z != k0) (l.drop (k + 1)) (k + 1)) := by
          have := hst.out
          rwa [if_neg he] at this
        clear he hst
        go_wp2_with fail
        refine (hcl.out x).mono ?_
        rintro e w' ⟨rfl, rfl⟩
        rw [he']
        go_wp2_with fail
        go_round
        case rel => exact ⟨k + 1, by omega, by go_num, hst'⟩
        case measure => simp [intOf]; omega
    · go_wp2_with fail
      go_ret
      have e : k = n := by omega
      subst e
      exact ⟨by rw [hz.out, List.drop_of_length_le (by rw [← Hl.out]; omega)]; rfl, rfl⟩

theorem all_any (A : Option Addr) (c : Nat) (l : List Int) (hn : l.length ≤ 9223372036854775807) (k : Int) (w : World) (hA : IRow w w.heap.size A l) :
    Calls Try.prog 128 #[.slice A l.length c, .int .i64 k] w fun e w' => e = .returned (.bool (l.all (· == k))) ∧ Below w.heap.size w w' := by
  have hb0 : Below w.heap.size w (w.alloc (.cells #[.int .i64 k] 3)) := (Below.refl _ _).alloc (Nat.le_refl _) _
  have hc := Lib.hid (indexFunc_ints A c l hn k w.heap.size 0 (w.alloc (.cells #[.int .i64 k] 3)) ((hA.below hb0).more hb0.size) (by simp))
  have e0 : l.all (· == k) = !decide (0 ≤ idx (fun z => z != k) l 0) := by
    rw [idx_any, ← Bool.not_not (l.all (· == k)), not_all_]; rfl
  rw [e0]
  clear hA e0 hn
  generalize idx (fun z => z != k) l 0 = r at *
  generalize l.length = m at *
  have hmf : ∀ (fn : Fn) (first cap : Array Value) (w : World), (Instr.makeFunc fn first cap).run Try.prog w = .ok (.func fn first cap) w := fun _ _ _ _ => rfl
  have hcf : Hid (Calls Try.prog 154 #[.slice A m c, .func (.func 155) #[] #[.pointer (some ⟨w.heap.size, 0, none⟩)]] (w.alloc (.cells #[.int .i64 k] 3)) fun e w' => e = .returned (.bool (decide (0 ≤ r))) ∧ (w.alloc (.cells #[.int .i64 k] 3)) = w') := by
    refine Lib.hid ?_
    generalize (w.alloc (.cells #[.int .i64 k] 3)) = w1 at *
    go_enter Try.func154, Try.ntmps154
    go_wp2_with fail
    refine (hc.out).mono ?_
    rintro e w' ⟨rfl, rfl⟩
    go_wp2_with fail
    go_ret
    exact ⟨rfl, rfl⟩
  clear hc
  go_enter Try.func128, Try.ntmps128
  go_wp2_with fail
  refine (hcf.out).mono ?_
  rintro e w' ⟨rfl, rfl⟩
  go_wp2_with fail
  go_ret
  exact ⟨rfl, hb0⟩
end Go.Proofs.Ytldleckgkgeclaa
