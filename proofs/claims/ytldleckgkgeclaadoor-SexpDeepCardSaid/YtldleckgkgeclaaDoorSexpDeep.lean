/-
  SexpDeep: the walk up to where both numbers are known.
-/
import Derived.Test.YtldleckgkgeclaaDoorSexpDeepZ
import Derived.WalkKit
import Derived.Lib.Hide
import Derived.RegionTactic
import Derived.ChangeAlike
import Derived.Deep.DeepCutAuto
namespace Go.Proofs.YtldleckgkgeclaaDoor
open Go.RowKit
theorem rest20 {m : Int} (h : 0 ≤ m) : ∃ k : Nat, m.tmod 20 = (k : Int) ∧ k < 20 :=
  ⟨(m.tmod 20).toNat, by rw [Int.tmod_eq_emod_of_nonneg h]; omega, by rw [Int.tmod_eq_emod_of_nonneg h]; omega⟩
theorem rest20n {m : Int} (h : m < 0) : ∃ k : Nat, -(m + 1).tmod 20 = (k : Int) ∧ k < 20 := by
  rw [← Int.neg_tmod]
  exact rest20 (by omega)
theorem sdSize : sdFn.ntmps = 136 := by kernel_rfl
set_option maxRecDepth 100000 in
theorem sdEnd {W : World} {e : Exit} {a : Act} {w : World} (h : Ends Tryd.prog W sdFn (.bool true) e a w) : bodyPost Tryd.prog Tryd.f4 (fun e w' => e = .returned (.bool true) ∧ Below W.heap.size W w') e a w := by
  obtain ⟨rfl, h1, h2, h3⟩ := h
  exact ⟨h1, _, h2, rfl, h3⟩
set_option maxRecDepth 100000 in
set_option maxHeartbeats 2000000 in
theorem sexpDeep_main [ExtOk Tryd.prog] (n c : Int) (hn1 : -9223372036854775808 ≤ n) (hn2 : n ≤ 9223372036854775807) (hc1 : -9223372036854775808 ≤ c) (hc2 : c ≤ 9223372036854775807) (W : World) (hw : TabsAt W sdTabs) :
    Calls Tryd.prog 4 #[.int .i64 n, .int .i64 c] W fun e w' => e = .returned (.bool true) ∧ Below W.heap.size W w' := by
  by_cases h1 : n < 0
  · obtain ⟨k, ek, hk⟩ := rest20n h1
    by_cases h2 : c < 0
    · obtain ⟨k', ek', hk'⟩ := rest20n h2
      go_enter Tryd.func4, Tryd.ntmps4
      go_upto_region 6 with (fail)
      rename_i K hK
      have HK := Lib.hid hK
      clear hK
      go_wp2_with fail
      refine HK.out _ _ ?_
      refine wp_mono (sd_wp hw hk hk' ?hp rfl ?hs ?h0 ?h1 rfl) fun e a w h => sdEnd h
      case hp => kernel_rfl
      case hs => rw [sdSize]; rfl
      case h0 => rw [← ek]; rfl
      case h1 => rw [← ek']; rfl
    · obtain ⟨k', ek', hk'⟩ := rest20 (m := c) (by omega)
      go_enter Tryd.func4, Tryd.ntmps4
      go_upto_region 6 with (fail)
      rename_i K hK
      have HK := Lib.hid hK
      clear hK
      go_wp2_with fail
      refine HK.out _ _ ?_
      refine wp_mono (sd_wp hw hk hk' ?hp rfl ?hs ?h0 ?h1 rfl) fun e a w h => sdEnd h
      case hp => kernel_rfl
      case hs => rw [sdSize]; rfl
      case h0 => rw [← ek]; rfl
      case h1 => rw [← ek']; rfl
  · obtain ⟨k, ek, hk⟩ := rest20 (m := n) (by omega)
    by_cases h2 : c < 0
    · obtain ⟨k', ek', hk'⟩ := rest20n h2
      go_enter Tryd.func4, Tryd.ntmps4
      go_upto_region 6 with (fail)
      rename_i K hK
      have HK := Lib.hid hK
      clear hK
      go_wp2_with fail
      refine HK.out _ _ ?_
      refine wp_mono (sd_wp hw hk hk' ?hp rfl ?hs ?h0 ?h1 rfl) fun e a w h => sdEnd h
      case hp => kernel_rfl
      case hs => rw [sdSize]; rfl
      case h0 => rw [← ek]; rfl
      case h1 => rw [← ek']; rfl
    · obtain ⟨k', ek', hk'⟩ := rest20 (m := c) (by omega)
      go_enter Tryd.func4, Tryd.ntmps4
      go_upto_region 6 with (fail)
      rename_i K hK
      have HK := Lib.hid hK
      clear hK
      go_wp2_with fail
      refine HK.out _ _ ?_
      refine wp_mono (sd_wp hw hk hk' ?hp rfl ?hs ?h0 ?h1 rfl) fun e a w h => sdEnd h
      case hp => kernel_rfl
      case hs => rw [sdSize]; rfl
      case h0 => rw [← ek]; rfl
      case h1 => rw [← ek']; rfl
end Go.Proofs.YtldleckgkgeclaaDoor
