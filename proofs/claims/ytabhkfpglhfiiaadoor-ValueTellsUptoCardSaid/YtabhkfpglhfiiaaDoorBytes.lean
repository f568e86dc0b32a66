/-
  Bytes that are read; bytes in new memory.
-/
import Derived.Test.YtabhkfpglhfiiaaDoorWords
import Derived.Test.YtabhkfpglhfiiaaDoorWriter2
namespace Go.Proofs.YtabhkfpglhfiiaaDoor
open Go.RowKit
/-- bytes that are read -/
def BR (w : World) (A : Option Addr) (l : List UInt8) : Prop := Reads w w.heap.size 1 A l.length (u8s l)
/-- bytes in new memory -/
def OwnB (B : Nat) (w : World) (v : Value) (l : List UInt8) : Prop := w.ownsRow B 5 1 v l.length (u8s l)
theorem BR.nil_ (w : World) (A : Option Addr) : BR w A [] := ⟨rfl, fun h => absurd h (by simp)⟩
theorem BR.kept {w w' : World} {A : Option Addr} {l : List UInt8} (h : BR w A l) (hw : Below w.heap.size w w') : BR w' A l := (h.below hw).more hw.size
theorem OwnB.slice {B : Nat} {w : World} {v : Value} {l : List UInt8} (h : OwnB B w v l) : ∃ A c, v = .slice A l.length c ∧ l.length ≤ c ∧ BR w A l ∧ (∀ k, v.ownBlock = some k → B ≤ k ∧ k < w.heap.size) := by
  rcases id h.2 with ⟨rfl, h0⟩ | ⟨g, cap, cur, rfl, h1, hh, hle, _, _⟩
  · obtain rfl : l = [] := List.eq_nil_of_length_eq_zero h0
    exact ⟨none, 0, rfl, Nat.le_refl _, BR.nil_ _ _, h.lt⟩
  · exact ⟨_, _, rfl, hle, Reads.of_own h, h.lt⟩
theorem OwnB.gets {B : Nat} {w : World} {v : Value} {l : List UInt8} (h : OwnB B w v l) : ∃ A c, v = .slice A l.length c ∧ ∀ (k : Nat) (x : UInt8), l[k]? = some x → ∃ b o, A = some ⟨b, o, none⟩ ∧ w.cell? ⟨b, o + k, none⟩ = some (.int .u8 x.toNat) := by
  rcases id h.2 with ⟨rfl, h0⟩ | ⟨g, cap, cur, rfl, h1, hh, hle, _, _⟩
  · obtain rfl : l = [] := List.eq_nil_of_length_eq_zero h0
    exact ⟨none, 0, rfl, fun k x hx => by simp at hx⟩
  · refine ⟨_, _, rfl, fun k x hx => ⟨g, 0, rfl, ?_⟩⟩
    have := h.cells (g := g) rfl k (.int .u8 x.toNat) (by rw [u8s, List.getElem?_map, hx]; rfl)
    rwa [add_at] at this
theorem OwnB.form {B : Nat} {w : World} {v : Value} {l : List UInt8} (h : OwnB B w v l) : ∃ A n c, v = .slice A n c := by
  obtain ⟨A, c, e, _⟩ := h.slice
  exact ⟨A, _, c, e⟩
theorem own_base {w : World} {B B' n : Nat} {e : TypeId} {z : Nat} {v : Value} {xs : List Value} (h : w.ownsRow B e z v n xs) (hB : B' ≤ B) : w.ownsRow B' e z v n xs := by
  rcases h with ⟨h1, h2⟩
  refine ⟨h1, ?_⟩
  rcases h2 with h2 | ⟨g, cap, cur, rfl, h3, h4⟩
  · exact .inl h2
  · exact .inr ⟨g, cap, cur, rfl, by omega, h4⟩
theorem own_up {w : World} {B B' n : Nat} {e : TypeId} {z : Nat} {v : Value} {xs : List Value} (h : w.ownsRow B e z v n xs) (hB : ∀ k, v.ownBlock = some k → B' ≤ k) : w.ownsRow B' e z v n xs := by
  rcases h with ⟨h1, h2⟩
  refine ⟨h1, ?_⟩
  rcases h2 with h2 | ⟨g, cap, cur, rfl, h3, h4⟩
  · exact .inl h2
  · exact .inr ⟨g, cap, cur, rfl, hB g rfl, h4⟩
theorem ownB_of {w : World} {B m : Nat} {v : Value} {xs : List Value} {l : List UInt8} (h : w.ownsRow B 5 1 v m xs) (hx : xs = u8s l) : OwnB B w v l := by
  subst hx
  have h1 := h.1
  rw [u8s_len, Nat.mul_one] at h1
  subst h1
  exact h
end Go.Proofs.YtabhkfpglhfiiaaDoor
