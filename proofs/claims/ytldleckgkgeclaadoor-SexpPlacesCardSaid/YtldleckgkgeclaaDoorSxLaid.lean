/-
  What the listed tables give: strconv's two errors are there; a world for the witness.
-/
import Derived.Test.YtldleckgkgeclaaDoorSxB
import Derived.Test.YtldleckgkgeclaaDoorCards
import Derived.Test.YtldleckgkgeclaaDoorTie
import Derived.WalkKit
import Derived.ProofKit
import Derived.OpenShut
import Derived.Deep.DeepHandedRow
import Derived.Lib.LaidTab
import Derived.Lib.AppendIntMem
set_option linter.unusedVariables false
set_option linter.unusedSimpArgs false
namespace Go.Proofs.YtldleckgkgeclaaDoor
open Go.ChangeShapes Go.WideShapes Go.ChangeAt Go.RowKit
theorem gRange : Tryd.prog.globalNamed "strconv.ErrRange" = some 3 := by kernel_rfl
theorem gSyntax : Tryd.prog.globalNamed "strconv.ErrSyntax" = some 2 := by kernel_rfl
theorem gRangeType : (Tryd.prog.globals[3]?).map (·.type) = some 101 := by kernel_rfl
theorem gSyntaxType : (Tryd.prog.globals[2]?).map (·.type) = some 101 := by kernel_rfl
theorem trod_err {H : Type} {enc : TypeId × Value → H} {P : Program} {w : World} {base : Nat} {sp : Nat → Bool} {held : Bool} {fuel : Nat} {t : TypeId} {cs : List Value} {d : DataW H} {p : List MemPlace} {ms}
    (hu : P.underlying t = some (.interface ms)) (h : DataW.trod enc P w base sp held fuel t cs = some (d, p)) : ∃ u, cs = [u] ∧ (u = .nilIface ∨ ∃ te pe, u = .iface te pe) := by
  cases fuel with
  | zero => simp [DataW.trod] at h
  | succ f =>
    unfold DataW.trod at h
    split at h <;> first | exact ⟨_, rfl, .inl rfl⟩ | exact ⟨_, rfl, .inr ⟨_, _, rfl⟩⟩ | simp_all
theorem var_at {W : World} {n : String} {g : Nat} {cs : Array Value} (hg : Tryd.prog.globalNamed n = some g) (h : W.var? Tryd.prog n = some cs) : g < W.heap.size ∧ ∀ (i : Nat) v, cs[i]? = some v → W.cell? ⟨g, i, none⟩ = some v := by
  unfold World.var? at h
  rw [hg] at h
  simp only [Option.bind_some] at h
  split at h
  · rename_i c t fr hc
    obtain rfl := Option.some.inj h
    refine ⟨(Array.getElem?_eq_some_iff.1 hc).1, fun i v hv => ?_⟩
    unfold World.cell?
    rw [hc]
    simpa using hv
  · cases h
theorem errsLaid {W : World} (h : laidMetH Tryd.prog Rows.sexpPlacesRow.laid W) : Errs W := by
  have h : laidMet Tryd.prog [("math/bits.deBruijn32tab", Rows.laid_math_bits_deBruijn32tab), ("math/bits.deBruijn64tab", Rows.laid_math_bits_deBruijn64tab), ("internal/strconv.uint64pow10", Rows.laid_internal_strconv_uint64pow10), ("strconv.ErrRange", Rows.laid_strconv_ErrRange), ("strconv.ErrSyntax", Rows.laid_strconv_ErrSyntax)] W := h
  obtain ⟨ps, ⟨_, _, _, _, _, q1, _, _, _, _, h1, _⟩, _⟩ := h
  obtain ⟨_, _, _, _, _, q2, _, _, _, _, h2, _⟩ := h1
  obtain ⟨_, _, _, _, _, q, _, _, _, _, h3, _⟩ := h2
  obtain ⟨g3, t3, cs3, fuel3, p3, q3, hg3, ht3, hvar3, hd3, h4, _⟩ := h3
  obtain ⟨g4, t4, cs4, fuel4, p4, q4, hg4, ht4, hvar4, hd4, _, _⟩ := h4
  obtain rfl := Option.some.inj (gRange.symm.trans hg3)
  obtain rfl := Option.some.inj (gRangeType.symm.trans ht3)
  obtain rfl := Option.some.inj (gSyntax.symm.trans hg4)
  obtain rfl := Option.some.inj (gSyntaxType.symm.trans ht4)
  have hr := var_at gRange hvar3
  have hs := var_at gSyntax hvar4
  obtain ⟨u3, hu3, ho3⟩ := trod_err Tryd.underlying101 hd3
  obtain ⟨u4, hu4, ho4⟩ := trod_err Tryd.underlying101 hd4
  exact ⟨⟨hs.1, u4, hs.2 0 u4 (by rw [← Array.getElem?_toList, hu4]; rfl), ho4⟩, ⟨hr.1, u3, hr.2 0 u3 (by rw [← Array.getElem?_toList, hu3]; rfl), ho3⟩⟩
def cellsOfData {H : Type} : DataW H → List Value
  | .agg parts => parts.map fun d => match d with | .lit (.int k n) => Value.int k n | _ => undef
  | _ => []
def setBlock (w : World) (g : Nat) (cs : Array Value) : World := { w with heap := w.heap.modify g fun
  | .cells _ t frozen => .cells cs t frozen
  | o => o }
def textOf {H : Type} : DataW H → ByteArray
  | .iface _ (.ptr (.agg [.lit (.string l)])) => ⟨l.toArray⟩
  | _ => ⟨#[]⟩
/-- a new block that holds the error's text; the variable holds its address -/
def setErr (w : World) (g : Nat) (s : ByteArray) : World :=
  let w1 : World := { w with heap := w.heap.push (.cells #[.string s] 163 (0, 0)) }
  setBlock w1 g #[.iface 161 (.pointer (some ⟨w.heap.size, 0, none⟩))]
noncomputable def laidWorld (os : Os) : World :=
  setErr (setErr (setBlock (setBlock (setBlock (World.holding Tryd.prog os ⟨#[], #[], []⟩) 4 (cellsOfData (H := Unit) Rows.laid_math_bits_deBruijn32tab).toArray) 5 (cellsOfData (H := Unit) Rows.laid_math_bits_deBruijn64tab).toArray) 0 (cellsOfData (H := Unit) Rows.laid_internal_strconv_uint64pow10).toArray)
    3 (textOf (H := Unit) Rows.laid_strconv_ErrRange)) 2 (textOf (H := Unit) Rows.laid_strconv_ErrSyntax)
theorem laid_try (os : Os) : laidMet Tryd.prog Rows.sexpPlacesRow.laid ((laidWorld os).forCall (fun _ _ => 0) ⟨#[], #[], []⟩).memory :=
  laidMet_of_run' 8 (by kernel_rfl) (by kernel_rfl)
end Go.Proofs.YtldleckgkgeclaaDoor
