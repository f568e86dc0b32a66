/-
  What the listed tables give: the powers of ten, whatever new blocks come.
-/
import Derived.Test.YtjbdkdgeceggbaaGreatDoorEvalNumbersS
import Derived.Test.YtjbdkdgeceggbaaGreatDoorGreatLaid
import Derived.WalkKit
import Derived.ProofKit
import Derived.OpenShut
import Derived.Deep.DeepHandedRow
import Derived.Lib.LaidTab
import Derived.Lib.AppendIntMem
namespace Go.Proofs.YtjbdkdgeceggbaaGreatDoor
open Go.ChangeShapes Go.WideShapes Go.ChangeAt Go.RowKit
theorem gPow : Tryz.prog.globalNamed "internal/strconv.uint64pow10" = some 0 := by kernel_rfl
theorem gPowType : (Tryz.prog.globals[0]?).map (·.type) = some 415 := by kernel_rfl
theorem cellsPow : Tryz.prog.cellsOf 415 = 20 := by kernel_rfl
theorem cellsU64 : Tryz.prog.cellsOf 216 = 1 := by kernel_rfl
theorem powData : (Rows.laid_internal_strconv_uint64pow10 : DataW Unit) = Lib.tabData .u64 Lib.pow10Tab := by kernel_rfl
theorem gRange : Tryz.prog.globalNamed "strconv.ErrRange" = some 6 := by kernel_rfl
theorem gSyntax : Tryz.prog.globalNamed "strconv.ErrSyntax" = some 5 := by kernel_rfl
theorem gRangeType : (Tryz.prog.globals[6]?).map (·.type) = some 311 := by kernel_rfl
theorem gSyntaxType : (Tryz.prog.globals[5]?).map (·.type) = some 311 := by kernel_rfl
theorem trod_one {H : Type} {enc : TypeId × Value → H} {P : Program} {w : World} {base : Nat} {sp : Nat → Bool} {held : Bool} {fuel : Nat} {t : TypeId} {cs : List Value} {d : DataW H} {p : List MemPlace} {ms}
    (hu : P.underlying t = some (.interface ms)) (h : DataW.trod enc P w base sp held fuel t cs = some (d, p)) : ∃ u, cs = [u] ∧ oneC u = true := by
  cases fuel with
  | zero => simp [DataW.trod] at h
  | succ f =>
    unfold DataW.trod at h
    split at h <;> first | exact ⟨_, rfl, rfl⟩ | simp_all
theorem var_at {W : World} {n : String} {g : Nat} {cs : Array Value} (hg : Tryz.prog.globalNamed n = some g) (h : W.var? Tryz.prog n = some cs) : g < W.heap.size ∧ ∀ (i : Nat) v, cs[i]? = some v → W.cell? ⟨g, i, none⟩ = some v := by
  unfold World.var? at h
  rw [hg] at h
  simp only [Option.bind_some] at h
  split at h
  · rename_i c t fr hc
    obtain rfl := Option.some.inj h
    refine ⟨(Array.getElem?_eq_some_iff.1 hc).1, fun i v hv => ?_⟩
    unfold World.cell?
    rw [hc]
    simpa using hv
  · cases h
theorem evalTabs {W : World} (h : laidMetH Tryz.prog Rows.evalNumbersRow.laid W) : TabsAt W enTabs := by
  have h : laidMet Tryz.prog [("math/bits.deBruijn32tab", Rows.laid_math_bits_deBruijn32tab), ("math/bits.deBruijn64tab", Rows.laid_math_bits_deBruijn64tab), ("internal/strconv.uint64pow10", Rows.laid_internal_strconv_uint64pow10), ("strconv.ErrRange", Rows.laid_strconv_ErrRange), ("strconv.ErrSyntax", Rows.laid_strconv_ErrSyntax)] W := h
  obtain ⟨ps, ⟨_, _, _, _, _, q1, _, _, _, _, h1, _⟩, _⟩ := h
  obtain ⟨_, _, _, _, _, q2, _, _, _, _, h2, _⟩ := h1
  obtain ⟨g', t', cs, fuel, p, q, hg', ht', hvar, hd, h3, _⟩ := h2
  obtain ⟨g3, t3, cs3, fuel3, p3, q3, hg3, ht3, hvar3, hd3, h4, _⟩ := h3
  obtain ⟨g4, t4, cs4, fuel4, p4, q4, hg4, ht4, hvar4, hd4, _, _⟩ := h4
  obtain rfl := Option.some.inj (gPow.symm.trans hg')
  obtain rfl := Option.some.inj (gPowType.symm.trans ht')
  obtain rfl := Option.some.inj (gRange.symm.trans hg3)
  obtain rfl := Option.some.inj (gRangeType.symm.trans ht3)
  obtain rfl := Option.some.inj (gSyntax.symm.trans hg4)
  obtain rfl := Option.some.inj (gSyntaxType.symm.trans ht4)
  rw [powData] at hd
  have hcs := Lib.cells_of_tab Tryz.underlying415 Tryz.underlying216 cellsU64 cellsPow hd
  have hp := var_at gPow hvar
  have hr := var_at gRange hvar3
  have hs := var_at gSyntax hvar4
  obtain ⟨u3, hu3, ho3⟩ := trod_one Tryz.underlying311 hd3
  obtain ⟨u4, hu4, ho4⟩ := trod_one Tryz.underlying311 hd4
  have hsn : enTabs = [(6, [.chan (some 6)]), (5, [.chan (some 5)]), (0, Lib.pow10Tab.map fun z => Value.int .u64 z)] := by kernel_rfl
  intro g cs' hm
  rw [hsn] at hm
  simp only [List.mem_cons, List.not_mem_nil, or_false, Prod.mk.injEq] at hm
  rcases hm with ⟨rfl, rfl⟩ | ⟨rfl, rfl⟩ | ⟨rfl, rfl⟩
  · exact ⟨hr.1, fun hf => absurd hf (by decide), fun _ => ⟨u3, hr.2 0 u3 (by rw [← Array.getElem?_toList, hu3]; rfl), ho3⟩⟩
  · exact ⟨hs.1, fun hf => absurd hf (by decide), fun _ => ⟨u4, hs.2 0 u4 (by rw [← Array.getElem?_toList, hu4]; rfl), ho4⟩⟩
  · refine ⟨hp.1, fun _ i v hv => hp.2 i v ?_, fun hf => ?_⟩
    · rw [← Array.getElem?_toList, hcs]; exact hv
    · exact absurd hf (by intro hh; exact nomatch hh)

end Go.Proofs.YtjbdkdgeceggbaaGreatDoor
