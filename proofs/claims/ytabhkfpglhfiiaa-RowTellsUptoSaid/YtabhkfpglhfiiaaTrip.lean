/-
  What was written is read: no Go in sight.
-/
import Derived.Test.YtabhkfpglhfiiaaRowGet
import Derived.Test.YtabhkfpglhfiiaaValTrip
import Derived.Test.YtabhkfpglhfiiaaRowLaws
namespace Go.Proofs.Ytabhkfpglhfiiaa
open Go.RowKit
theorem rows_trip : ∀ (l : List V), (∀ v ∈ l, V.okB v = true) → (∀ v ∈ l, -9223372036854775808 ≤ v.n ∧ v.n ≤ 9223372036854775807) → ∀ (p q : List UInt8) (f : Int),
    getRows l.length (At p (l.flatMap vB ++ q) f) = (l, At (p ++ l.flatMap vB) q f)
  | [], _, _, p, q, f => by simp [getRows]
  | v :: l, h1, h2, p, q, f => by
    rw [List.flatMap_cons, List.append_assoc, List.length_cons, getRows]
    obtain ⟨e1, e2⟩ := getV_trip v (h1 v List.mem_cons_self) (h2 v List.mem_cons_self) p (l.flatMap vB ++ q) f
    rw [e1, e2, rows_trip l (fun x hx => h1 x (List.mem_cons_of_mem _ hx)) (fun x hx => h2 x (List.mem_cons_of_mem _ hx))]
    simp only [List.append_assoc]
theorem row_trip (a : List V) (ha : rowOk a = true) (hw : ∀ v ∈ a, -9223372036854775808 ≤ v.n ∧ v.n ≤ 9223372036854775807) :
    (RS.mk (rowB a) 0 0 0).getRow = a ∧ (RS.mk (rowB a) 0 0 0).rowRaw.2.endE = 0 := by
  have h6 : 0 < a.length ∧ a.length ≤ 6 := by
    unfold rowOk at ha
    simp only [Bool.and_eq_true, decide_eq_true_eq] at ha
    exact ha.1
  have e0 : RS.mk (rowB a) 0 0 0 = At [] (leI a.length 1 ++ (a.flatMap vB ++ [])) 0 := by simp [At, rowB]
  obtain ⟨g1, g2⟩ := get_leI [] (a.flatMap vB ++ []) 0 a.length 1
  rw [small_wrap a.length 1 (by have h : (256 : Nat) ^ 1 = 256 := rfl; rw [h]; omega) (by omega)] at g1
  have hb : (At [] (leI a.length 1 ++ (a.flatMap vB ++ [])) 0).fewBad 1 6 = false := by
    unfold RS.fewBad
    rw [g1, g2, At.why]
    simp
    omega
  have hraw : (RS.mk (rowB a) 0 0 0).rowRaw = (a, At ([] ++ leI a.length 1 ++ a.flatMap vB) [] 0) := by
    unfold RS.rowRaw RS.fewN RS.few
    rw [e0, hb, if_neg (by decide), if_neg (by decide), g1, g2, Int.toNat_natCast]
    exact rows_trip a (rowOk_all ha) hw _ _ _
  constructor
  · unfold RS.getRow
    rw [hraw]
    rfl
  · rw [hraw]
    simp [RS.endE, At]
end Go.Proofs.Ytabhkfpglhfiiaa
