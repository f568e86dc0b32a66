/-
  Rows of numbers, columns of confluencekeep, as literals.
-/
import Derived.Test.YtabhkfpglhfiiaaRowOrder
namespace Go.Proofs.Ytabhkfpglhfiiaa
open Go.RowKit
theorem keepT (w : World) : Calls Try.prog 33 #[] w fun e w' => e = .returned (.slice (some ⟨w.heap.size, 0, none⟩) 3 3) ∧ w.alloc (.cells #[.string ⟨#[97]⟩, .int .i64 1, .string ⟨#[98]⟩, .int .i64 1, .string ⟨#[115]⟩, .int .i64 2] 43) = w' := by
  go_enter Try.func33, Try.ntmps33
  go_wp2
  go_ret
  exact ⟨rfl, rfl⟩
theorem nums_lit (zs : List Int) (n : Nat) (hz : zs.length = n) (hn : n ≤ 1000) (w : World) (t : TypeId) :
    Calls Try.prog 32 #[.slice (some ⟨w.heap.size, 0, none⟩) n n] (w.alloc (.cells (zs.map fun z => Value.int .i64 z).toArray t)) fun e w' => ∃ A c, e = .returned (.slice A n c) ∧ VRow w' w'.heap.size A (zs.map numV) ∧ Below w.heap.size w w' :=
  (nums_any w.heap.size 0 n zs n hz hn (w.alloc (.cells (zs.map fun z => Value.int .i64 z).toArray t)) (by simp) (fun k hk => by
    have hh : (w.alloc (.cells (zs.map fun z => Value.int .i64 z).toArray t)).heap[w.heap.size]? = some (.cells (zs.map fun z => Value.int .i64 z).toArray t) := heap_alloc_new w _
    simp only [World.cell?, hh, Nat.zero_add, List.getElem?_toArray, List.getElem?_map, List.getD_eq_getElem?_getD]
    rw [List.getElem?_eq_getElem (by omega)]
    rfl)).mono fun e w' ⟨v, he, hown, hb⟩ => by
      obtain ⟨A, c, rfl, hr⟩ := own_row2 hown
      exact ⟨A, c, by rw [he, List.length_map, hz], hr, ((Below.refl _ _).alloc (Nat.le_refl _) _).trans (hb.mono (by simp))⟩
end Go.Proofs.Ytabhkfpglhfiiaa
