/-
  IndexKnown: the pieces together.
-/
import Derived.Test.YtloolljoelngcaaGreatIndexKnownA
import Derived.Test.YtloolljoelngcaaGreatIndexKnownB
namespace Go.Proofs.YtloolljoelngcaaGreat
open Go.RowKit
set_option maxRecDepth 1000000
theorem ikStart : startsM (start ikFn) = true := by kernel_rfl
theorem ik_111_safe [ExtOk Tryz.prog] (hm : (Tryz.prog).follows .mixedOrders = true) (hK : EnvOk Tryz.prog ⟨none, []⟩) {M0 : Map} {W : World} {Q : Exit → Act → World → Prop} (hQ : Q = Ends Tryz.prog W ikFn (.bool true)) : SafeNO 0 M0 Tryz.prog W Q ik_11PN ik_111S0 := by
  subst hQ
  refine chunkO_ok hK hm ik_111C1 ?_
  exact SafeNO.ofN (lastM_ok hm ik_111Last)
theorem ik_112_safe [ExtOk Tryz.prog] (hm : (Tryz.prog).follows .mixedOrders = true) (hK : EnvOk Tryz.prog ⟨none, []⟩) {M0 : Map} {W : World} {Q : Exit → Act → World → Prop} (hQ : Q = Ends Tryz.prog W ikFn (.bool true)) : SafeNO 0 M0 Tryz.prog W Q ik_11PN ik_112S0 := by
  subst hQ
  refine chunkO_ok hK hm ik_112C1 ?_
  exact SafeNO.ofN (lastM_ok hm ik_112Last)
theorem ik_11_safe [ExtOk Tryz.prog] (hm : (Tryz.prog).follows .mixedOrders = true) (hK : EnvOk Tryz.prog ⟨none, []⟩) {M0 : Map} {W : World} {Q : Exit → Act → World → Prop} (hQ : Q = Ends Tryz.prog W ikFn (.bool true)) : SafeNO 0 M0 Tryz.prog W Q ik_1PN ik_11S0 := by
  subst hQ
  refine chunkO_ok hK hm ik_11C1 ?_
  exact seq2O_ok ik_11X (ik_111_safe hm hK rfl) (ik_112_safe hm hK rfl)
theorem ik_121_safe [ExtOk Tryz.prog] (hm : (Tryz.prog).follows .mixedOrders = true) (hK : EnvOk Tryz.prog ⟨none, []⟩) {M0 : Map} {W : World} {Q : Exit → Act → World → Prop} (hQ : Q = Ends Tryz.prog W ikFn (.bool true)) : SafeNO 0 M0 Tryz.prog W Q ik_12PN ik_121S0 := by
  subst hQ
  refine chunkO_ok hK hm ik_121C1 ?_
  exact SafeNO.ofN (lastM_ok hm ik_121Last)
theorem ik_122_safe [ExtOk Tryz.prog] (hm : (Tryz.prog).follows .mixedOrders = true) (hK : EnvOk Tryz.prog ⟨none, []⟩) {M0 : Map} {W : World} {Q : Exit → Act → World → Prop} (hQ : Q = Ends Tryz.prog W ikFn (.bool true)) : SafeNO 0 M0 Tryz.prog W Q ik_12PN ik_122S0 := by
  subst hQ
  refine chunkO_ok hK hm ik_122C1 ?_
  exact SafeNO.ofN (lastM_ok hm ik_122Last)
theorem ik_12_safe [ExtOk Tryz.prog] (hm : (Tryz.prog).follows .mixedOrders = true) (hK : EnvOk Tryz.prog ⟨none, []⟩) {M0 : Map} {W : World} {Q : Exit → Act → World → Prop} (hQ : Q = Ends Tryz.prog W ikFn (.bool true)) : SafeNO 0 M0 Tryz.prog W Q ik_1PN ik_12S0 := by
  subst hQ
  refine chunkO_ok hK hm ik_12C1 ?_
  exact seq2O_ok ik_12X (ik_121_safe hm hK rfl) (ik_122_safe hm hK rfl)
theorem ik_1_safe [ExtOk Tryz.prog] (hm : (Tryz.prog).follows .mixedOrders = true) (hK : EnvOk Tryz.prog ⟨none, []⟩) {M0 : Map} {W : World} {Q : Exit → Act → World → Prop} (hQ : Q = Ends Tryz.prog W ikFn (.bool true)) : SafeNO 0 M0 Tryz.prog W Q ikPN ik_1S0 := by
  subst hQ
  refine chunkO_ok hK hm ik_1C1 ?_
  exact forkO_ok ik_1X (ik_11_safe hm hK rfl) (ik_12_safe hm hK rfl)
theorem ik_211_safe [ExtOk Tryz.prog] (hm : (Tryz.prog).follows .mixedOrders = true) (hK : EnvOk Tryz.prog ⟨none, []⟩) {M0 : Map} {W : World} {Q : Exit → Act → World → Prop} (hQ : Q = Ends Tryz.prog W ikFn (.bool true)) : SafeNO 0 M0 Tryz.prog W Q ik_21PN ik_211S0 := by
  subst hQ
  refine chunkO_ok hK hm ik_211C1 ?_
  exact SafeNO.ofN (lastM_ok hm ik_211Last)
theorem ik_212_safe [ExtOk Tryz.prog] (hm : (Tryz.prog).follows .mixedOrders = true) (hK : EnvOk Tryz.prog ⟨none, []⟩) {M0 : Map} {W : World} {Q : Exit → Act → World → Prop} (hQ : Q = Ends Tryz.prog W ikFn (.bool true)) : SafeNO 0 M0 Tryz.prog W Q ik_21PN ik_212S0 := by
  subst hQ
  refine chunkO_ok hK hm ik_212C1 ?_
  exact SafeNO.ofN (lastM_ok hm ik_212Last)
theorem ik_21_safe [ExtOk Tryz.prog] (hm : (Tryz.prog).follows .mixedOrders = true) (hK : EnvOk Tryz.prog ⟨none, []⟩) {M0 : Map} {W : World} {Q : Exit → Act → World → Prop} (hQ : Q = Ends Tryz.prog W ikFn (.bool true)) : SafeNO 0 M0 Tryz.prog W Q ik_2PN ik_21S0 := by
  subst hQ
  refine chunkO_ok hK hm ik_21C1 ?_
  exact seq2O_ok ik_21X (ik_211_safe hm hK rfl) (ik_212_safe hm hK rfl)
theorem ik_221_safe [ExtOk Tryz.prog] (hm : (Tryz.prog).follows .mixedOrders = true) (hK : EnvOk Tryz.prog ⟨none, []⟩) {M0 : Map} {W : World} {Q : Exit → Act → World → Prop} (hQ : Q = Ends Tryz.prog W ikFn (.bool true)) : SafeNO 0 M0 Tryz.prog W Q ik_22PN ik_221S0 := by
  subst hQ
  refine chunkO_ok hK hm ik_221C1 ?_
  exact SafeNO.ofN (lastM_ok hm ik_221Last)
theorem ik_222_safe [ExtOk Tryz.prog] (hm : (Tryz.prog).follows .mixedOrders = true) (hK : EnvOk Tryz.prog ⟨none, []⟩) {M0 : Map} {W : World} {Q : Exit → Act → World → Prop} (hQ : Q = Ends Tryz.prog W ikFn (.bool true)) : SafeNO 0 M0 Tryz.prog W Q ik_22PN ik_222S0 := by
  subst hQ
  refine chunkO_ok hK hm ik_222C1 ?_
  exact SafeNO.ofN (lastM_ok hm ik_222Last)
theorem ik_22_safe [ExtOk Tryz.prog] (hm : (Tryz.prog).follows .mixedOrders = true) (hK : EnvOk Tryz.prog ⟨none, []⟩) {M0 : Map} {W : World} {Q : Exit → Act → World → Prop} (hQ : Q = Ends Tryz.prog W ikFn (.bool true)) : SafeNO 0 M0 Tryz.prog W Q ik_2PN ik_22S0 := by
  subst hQ
  refine chunkO_ok hK hm ik_22C1 ?_
  exact seq2O_ok ik_22X (ik_221_safe hm hK rfl) (ik_222_safe hm hK rfl)
theorem ik_2_safe [ExtOk Tryz.prog] (hm : (Tryz.prog).follows .mixedOrders = true) (hK : EnvOk Tryz.prog ⟨none, []⟩) {M0 : Map} {W : World} {Q : Exit → Act → World → Prop} (hQ : Q = Ends Tryz.prog W ikFn (.bool true)) : SafeNO 0 M0 Tryz.prog W Q ikPN ik_2S0 := by
  subst hQ
  refine chunkO_ok hK hm ik_2C1 ?_
  exact forkO_ok ik_2X (ik_21_safe hm hK rfl) (ik_22_safe hm hK rfl)
theorem indexKnown_main [ExtOk Tryz.prog] (W : World) : Calls Tryz.prog 14 #[] W fun e w' => e = .returned (.bool true) ∧ Below W.heap.size W w' := by
  have hm : (Tryz.prog).follows .mixedOrders = true := by kernel_rfl
  have hK : EnvOk Tryz.prog ⟨none, []⟩ := ⟨(fun g h => nomatch h), fun e h => (List.not_mem_nil h).elim⟩
  refine closed_ok (fn := ikFn) (c := ikBody) (by kernel_rfl) (by kernel_rfl) W ?_
  refine startM_ok (f := 14) ikStart ?_
  refine SafeN.ofO (M0 := fun _ => ⟨0, 0, 0, 0, undef⟩) ?_
  refine chunkO_ok hK hm ikC1 ?_
  refine chunkO_ok hK hm ikC2 ?_
  exact forkO_ok ikX (ik_1_safe hm hK rfl) (ik_2_safe hm hK rfl)
end Go.Proofs.YtloolljoelngcaaGreat
