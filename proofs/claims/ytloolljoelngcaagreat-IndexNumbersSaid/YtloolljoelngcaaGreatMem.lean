/-
  Values, rows and columns as they lie in memory; what stays of them while the world grows. No program in sight.
-/
import Derived.WalkKit
import Derived.WalkSpells
import Derived.Lib.Hide
import Derived.Deep.Draws
import Derived.RegionTactic
namespace Go.Proofs.YtloolljoelngcaaGreat
open Go.RowKit

/-- a value: kind, number, text -/
structure V where
  k : Int
  n : Int
  s : ByteArray
/-- a column: name, kind -/
structure C where
  nm : ByteArray
  k : Int

def V.val (v : V) : Value := .agg #[.int .i64 v.k, .int .i64 v.n, .string v.s]
def V.okB (v : V) : Bool := (v.k == 1 && v.s.toList.isEmpty) || (v.k == 2 && (v.n == 0 && decide ((v.s.size : Int) ≤ 40)))

/-- the values l lie at block b from off on -/
def VAt (w : World) (b off : Nat) (l : List V) : Prop := ∀ i v, l[i]? = some v →
  w.cell? ⟨b, off + i * 3, none⟩ = some (.int .i64 v.k) ∧ w.cell? ⟨b, off + i * 3 + 1, none⟩ = some (.int .i64 v.n) ∧ w.cell? ⟨b, off + i * 3 + 2, none⟩ = some (.string v.s)
def CAt (w : World) (b off : Nat) (l : List C) : Prop := ∀ i c, l[i]? = some c →
  w.cell? ⟨b, off + i * 2, none⟩ = some (.string c.nm) ∧ w.cell? ⟨b, off + i * 2 + 1, none⟩ = some (.int .i64 c.k)
/-- a slice at address A holds the values l, below block B -/
def VRow (w : World) (B : Nat) (A : Option Addr) (l : List V) : Prop := l = [] ∨ ∃ b off, A = some ⟨b, off, none⟩ ∧ b < B ∧ VAt w b off l
def CRow (w : World) (B : Nat) (A : Option Addr) (l : List C) : Prop := l = [] ∨ ∃ b off, A = some ⟨b, off, none⟩ ∧ b < B ∧ CAt w b off l

section
variable {w w' : World} {B B' b off : Nat} {A : Option Addr} {l : List V} {m : List C}
theorem VAt.below (h : VAt w b off l) (hb : Below B w w') (hB : b < B) : VAt w' b off l := fun i v hv => by
  obtain ⟨h1, h2, h3⟩ := h i v hv
  exact ⟨(hb.cell hB).trans h1, (hb.cell hB).trans h2, (hb.cell hB).trans h3⟩
theorem CAt.below (h : CAt w b off m) (hb : Below B w w') (hB : b < B) : CAt w' b off m := fun i v hv => by
  obtain ⟨h1, h2⟩ := h i v hv
  exact ⟨(hb.cell hB).trans h1, (hb.cell hB).trans h2⟩
theorem VRow.below (h : VRow w B A l) (hb : Below B w w') : VRow w' B A l := by
  rcases h with h | ⟨b, off, hA, hB, h⟩
  · exact .inl h
  · exact .inr ⟨b, off, hA, hB, h.below hb hB⟩
theorem CRow.below (h : CRow w B A m) (hb : Below B w w') : CRow w' B A m := by
  rcases h with h | ⟨b, off, hA, hB, h⟩
  · exact .inl h
  · exact .inr ⟨b, off, hA, hB, h.below hb hB⟩
theorem VRow.more (h : VRow w B A l) (hB : B ≤ B') : VRow w B' A l := by
  rcases h with h | ⟨b, off, hA, hb, h⟩
  · exact .inl h
  · exact .inr ⟨b, off, hA, by omega, h⟩
theorem CRow.more (h : CRow w B A m) (hB : B ≤ B') : CRow w B' A m := by
  rcases h with h | ⟨b, off, hA, hb, h⟩
  · exact .inl h
  · exact .inr ⟨b, off, hA, by omega, h⟩
end
theorem below_drewN {B : Nat} {a w : World} (h : Below B a w) (n : Nat) : Below B a (w.drewN n) := ⟨h.os, h.tape, h.output, h.size, h.block⟩

section
variable {P : Program} {md : Region.Mode} {ops : Array Oper} {Q : Exit → Act → World → Prop}
/-- one operation of a region that draws its order, where it alone may come up -/
theorem wpAny_one {i fuel : Nat} {o : Oper} {listed : Array Bool} {a : Act} {w : World} (hr : Region.ready md ops listed = [i]) (hi : ops[i]? = some o)
    (h : ∀ K' : Act → World → Prop, (∀ a w, wpAny P md ops Q fuel (listed.setIfInBounds i true) a w → K' a w) → if Region.wanted o (yielded ops a.tmps) = true then Oper.wp P o a w K' Q else K' (a.put o.dst undef) w) :
    wpAny P md ops Q (fuel + 1) listed a w := wpAny_ready hr (by simp) (AllReady.cons hi h AllReady.nil)
/-- an operation whose guard says no, passed over -/
theorem wpAny_skip {i fuel : Nat} {o : Oper} {listed : Array Bool} {a : Act} {w : World} (hi : ops[i]? = some o)
    (hs : Region.noSelect ops = true) (hf : Region.free md ops listed i = true) (hr : (Region.ready md ops listed).contains i = true)
    (hQ : ∀ c a w, Q (.panic c) (a.put o.dst undef) w → Q (.panic c) a w) (hw : Region.wanted o (yielded ops a.tmps) = false)
    (h : wpAny P md ops Q fuel (listed.setIfInBounds i true) (a.put o.dst undef) w) : wpAny P md ops Q (fuel + 1) listed a w :=
  wpAny_take hi hs hf hr hQ (Or.inr ⟨hw, rfl⟩) h
end

/-! ### rows that the call itself has made -/
def V.cs (v : V) : List Value := [.int .i64 v.k, .int .i64 v.n, .string v.s]
def flat (l : List V) : List Value := l.flatMap V.cs
theorem flat_len (l : List V) : (flat l).length = l.length * 3 := by
  induction l with
  | nil => rfl
  | cons v l ih => show ((V.cs v) ++ flat l).length = _; simp [ih, V.cs]; omega
theorem flat_get (l : List V) : ∀ (i : Nat) (v : V), l[i]? = some v → (flat l)[i * 3]? = some (.int .i64 v.k) ∧ (flat l)[i * 3 + 1]? = some (.int .i64 v.n) ∧ (flat l)[i * 3 + 2]? = some (.string v.s) := by
  induction l with
  | nil => intro i v h; simp at h
  | cons x l ih =>
    intro i v h
    have e : flat (x :: l) = V.cs x ++ flat l := rfl
    rw [e]
    cases i with
    | zero =>
      obtain rfl : x = v := by simpa using h
      exact ⟨rfl, rfl, rfl⟩
    | succ i =>
      have := ih i v (by simpa using h)
      have hl : (V.cs x).length = 3 := rfl
      rw [List.getElem?_append_right (by omega), List.getElem?_append_right (by omega), List.getElem?_append_right (by omega), hl]
      rw [show (i + 1) * 3 - 3 = i * 3 from by omega, show (i + 1) * 3 + 1 - 3 = i * 3 + 1 from by omega, show (i + 1) * 3 + 2 - 3 = i * 3 + 2 from by omega]
      exact this
theorem flat_one (v : V) : flat [v] = V.cs v := by simp [flat]
theorem flat_append (a b : List V) : flat (a ++ b) = flat a ++ flat b := by simp [flat]
theorem flat_snoc {l : List V} {k : Nat} {v : V} (h : l[k]? = some v) : flat (l.take (k + 1)) = flat (l.take k) ++ V.cs v := by
  obtain ⟨h1, e1⟩ := List.getElem?_eq_some_iff.1 h
  rw [List.take_succ_eq_append_getElem h1, flat_append, flat_one, e1]
theorem flat_ones (l : List V) : ∀ u ∈ flat l, u.oneCell' = true := by
  intro u hu
  obtain ⟨v, _, hv⟩ := List.mem_flatMap.1 hu
  simp only [V.cs, List.mem_cons, List.not_mem_nil, or_false] at hv
  rcases hv with rfl | rfl | rfl <;> rfl

/-- what is owned is a row -/
theorem own_row {w : World} {base : Nat} {e : TypeId} {v : Value} {l : List V} (h : w.ownsRow base e 3 v l.length (flat l)) :
    ∃ A c, v = .slice A l.length c ∧ l.length ≤ c ∧ VRow w w.heap.size A l ∧ (∀ b o, A = some ⟨b, o, none⟩ → base ≤ b) := by
  obtain ⟨_, hcase⟩ := id h
  rcases hcase with ⟨rfl, h0⟩ | ⟨g, cap, cur, rfl, hg, hh, hn, hcap, hsz, htake⟩
  · have e0 : l = [] := List.eq_nil_of_length_eq_zero h0
    exact ⟨none, 0, by rw [h0], by omega, .inl e0, fun b o hb => by cases hb⟩
  · refine ⟨some ⟨g, 0, none⟩, cap, rfl, hn, .inr ⟨g, 0, rfl, ?_, ?_⟩, ?_⟩
    · rcases Nat.lt_or_ge g w.heap.size with hlt | hge
      · exact hlt
      · rw [Array.getElem?_eq_none hge] at hh; cases hh
    · intro i x hx
      obtain ⟨f1, f2, f3⟩ := flat_get l i x hx
      have hi : i < l.length := (List.getElem?_eq_some_iff.1 hx).1
      rw [Nat.zero_add, h.cellAt _ (by omega), h.cellAt _ (by omega), h.cellAt _ (by omega)]
      exact ⟨f1, f2, f3⟩
    · intro b o hb
      injection hb with hb
      injection hb with hb _
      omega
end Go.Proofs.YtloolljoelngcaaGreat
