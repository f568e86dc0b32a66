/-
  IndexNumbers: the pieces together.
-/
import Derived.Test.YtloolljoelngcaaGreatIndexKnown
import Derived.Test.YtloolljoelngcaaGreatIndexNumbersA
import Derived.Test.YtloolljoelngcaaGreatIndexNumbersB
import Derived.Test.YtloolljoelngcaaGreatIndexNumbersC
import Derived.Test.YtloolljoelngcaaGreatIndexNumbersD
namespace Go.Proofs.YtloolljoelngcaaGreat
open Go.RowKit
set_option maxRecDepth 1000000
theorem ixnStart : startsM (start ixnFn) = true := by kernel_rfl
theorem ixn_1111_safe [ExtOk Tryz.prog] (hm : (Tryz.prog).follows .mixedOrders = true) (hK : EnvOk Tryz.prog ⟨some 14, []⟩) {M0 : Map} {W : World} {Q : Exit → Act → World → Prop} (hQ : Q = Ends Tryz.prog W ixnFn (.bool true)) : SafeNO 0 M0 Tryz.prog W Q ixn_111PN ixn_1111S0 := by
  subst hQ
  refine chunkO_ok hK hm ixn_1111C1 ?_
  exact SafeNO.ofN (lastM_ok hm ixn_1111Last)
theorem ixn_1112_safe [ExtOk Tryz.prog] (hm : (Tryz.prog).follows .mixedOrders = true) (hK : EnvOk Tryz.prog ⟨some 14, []⟩) {M0 : Map} {W : World} {Q : Exit → Act → World → Prop} (hQ : Q = Ends Tryz.prog W ixnFn (.bool true)) : SafeNO 0 M0 Tryz.prog W Q ixn_111PN ixn_1112S0 := by
  subst hQ
  refine chunkO_ok hK hm ixn_1112C1 ?_
  exact SafeNO.ofN (lastM_ok hm ixn_1112Last)
theorem ixn_111_safe [ExtOk Tryz.prog] (hm : (Tryz.prog).follows .mixedOrders = true) (hK : EnvOk Tryz.prog ⟨some 14, []⟩) {M0 : Map} {W : World} {Q : Exit → Act → World → Prop} (hQ : Q = Ends Tryz.prog W ixnFn (.bool true)) : SafeNO 0 M0 Tryz.prog W Q ixn_11PN ixn_111S0 := by
  subst hQ
  refine chunkO_ok hK hm ixn_111C1 ?_
  exact seq2O_ok ixn_111X (ixn_1111_safe hm hK rfl) (ixn_1112_safe hm hK rfl)
theorem ixn_1121_safe [ExtOk Tryz.prog] (hm : (Tryz.prog).follows .mixedOrders = true) (hK : EnvOk Tryz.prog ⟨some 14, []⟩) {M0 : Map} {W : World} {Q : Exit → Act → World → Prop} (hQ : Q = Ends Tryz.prog W ixnFn (.bool true)) : SafeNO 0 M0 Tryz.prog W Q ixn_112PN ixn_1121S0 := by
  subst hQ
  refine chunkO_ok hK hm ixn_1121C1 ?_
  exact SafeNO.ofN (lastM_ok hm ixn_1121Last)
theorem ixn_1122_safe [ExtOk Tryz.prog] (hm : (Tryz.prog).follows .mixedOrders = true) (hK : EnvOk Tryz.prog ⟨some 14, []⟩) {M0 : Map} {W : World} {Q : Exit → Act → World → Prop} (hQ : Q = Ends Tryz.prog W ixnFn (.bool true)) : SafeNO 0 M0 Tryz.prog W Q ixn_112PN ixn_1122S0 := by
  subst hQ
  refine chunkO_ok hK hm ixn_1122C1 ?_
  exact SafeNO.ofN (lastM_ok hm ixn_1122Last)
theorem ixn_112_safe [ExtOk Tryz.prog] (hm : (Tryz.prog).follows .mixedOrders = true) (hK : EnvOk Tryz.prog ⟨some 14, []⟩) {M0 : Map} {W : World} {Q : Exit → Act → World → Prop} (hQ : Q = Ends Tryz.prog W ixnFn (.bool true)) : SafeNO 0 M0 Tryz.prog W Q ixn_11PN ixn_112S0 := by
  subst hQ
  refine chunkO_ok hK hm ixn_112C1 ?_
  exact seq2O_ok ixn_112X (ixn_1121_safe hm hK rfl) (ixn_1122_safe hm hK rfl)
theorem ixn_11_safe [ExtOk Tryz.prog] (hm : (Tryz.prog).follows .mixedOrders = true) (hK : EnvOk Tryz.prog ⟨some 14, []⟩) {M0 : Map} {W : World} {Q : Exit → Act → World → Prop} (hQ : Q = Ends Tryz.prog W ixnFn (.bool true)) : SafeNO 0 M0 Tryz.prog W Q ixn_1PN ixn_11S0 := by
  subst hQ
  refine chunkO_ok hK hm ixn_11C1 ?_
  exact forkO_ok ixn_11X (ixn_111_safe hm hK rfl) (ixn_112_safe hm hK rfl)
theorem ixn_1211_safe [ExtOk Tryz.prog] (hm : (Tryz.prog).follows .mixedOrders = true) (hK : EnvOk Tryz.prog ⟨some 14, []⟩) {M0 : Map} {W : World} {Q : Exit → Act → World → Prop} (hQ : Q = Ends Tryz.prog W ixnFn (.bool true)) : SafeNO 0 M0 Tryz.prog W Q ixn_121PN ixn_1211S0 := by
  subst hQ
  refine chunkO_ok hK hm ixn_1211C1 ?_
  exact SafeNO.ofN (lastM_ok hm ixn_1211Last)
theorem ixn_1212_safe [ExtOk Tryz.prog] (hm : (Tryz.prog).follows .mixedOrders = true) (hK : EnvOk Tryz.prog ⟨some 14, []⟩) {M0 : Map} {W : World} {Q : Exit → Act → World → Prop} (hQ : Q = Ends Tryz.prog W ixnFn (.bool true)) : SafeNO 0 M0 Tryz.prog W Q ixn_121PN ixn_1212S0 := by
  subst hQ
  refine chunkO_ok hK hm ixn_1212C1 ?_
  exact SafeNO.ofN (lastM_ok hm ixn_1212Last)
theorem ixn_121_safe [ExtOk Tryz.prog] (hm : (Tryz.prog).follows .mixedOrders = true) (hK : EnvOk Tryz.prog ⟨some 14, []⟩) {M0 : Map} {W : World} {Q : Exit → Act → World → Prop} (hQ : Q = Ends Tryz.prog W ixnFn (.bool true)) : SafeNO 0 M0 Tryz.prog W Q ixn_12PN ixn_121S0 := by
  subst hQ
  refine chunkO_ok hK hm ixn_121C1 ?_
  exact seq2O_ok ixn_121X (ixn_1211_safe hm hK rfl) (ixn_1212_safe hm hK rfl)
theorem ixn_1221_safe [ExtOk Tryz.prog] (hm : (Tryz.prog).follows .mixedOrders = true) (hK : EnvOk Tryz.prog ⟨some 14, []⟩) {M0 : Map} {W : World} {Q : Exit → Act → World → Prop} (hQ : Q = Ends Tryz.prog W ixnFn (.bool true)) : SafeNO 0 M0 Tryz.prog W Q ixn_122PN ixn_1221S0 := by
  subst hQ
  refine chunkO_ok hK hm ixn_1221C1 ?_
  exact SafeNO.ofN (lastM_ok hm ixn_1221Last)
theorem ixn_1222_safe [ExtOk Tryz.prog] (hm : (Tryz.prog).follows .mixedOrders = true) (hK : EnvOk Tryz.prog ⟨some 14, []⟩) {M0 : Map} {W : World} {Q : Exit → Act → World → Prop} (hQ : Q = Ends Tryz.prog W ixnFn (.bool true)) : SafeNO 0 M0 Tryz.prog W Q ixn_122PN ixn_1222S0 := by
  subst hQ
  refine chunkO_ok hK hm ixn_1222C1 ?_
  exact SafeNO.ofN (lastM_ok hm ixn_1222Last)
theorem ixn_122_safe [ExtOk Tryz.prog] (hm : (Tryz.prog).follows .mixedOrders = true) (hK : EnvOk Tryz.prog ⟨some 14, []⟩) {M0 : Map} {W : World} {Q : Exit → Act → World → Prop} (hQ : Q = Ends Tryz.prog W ixnFn (.bool true)) : SafeNO 0 M0 Tryz.prog W Q ixn_12PN ixn_122S0 := by
  subst hQ
  refine chunkO_ok hK hm ixn_122C1 ?_
  exact seq2O_ok ixn_122X (ixn_1221_safe hm hK rfl) (ixn_1222_safe hm hK rfl)
theorem ixn_12_safe [ExtOk Tryz.prog] (hm : (Tryz.prog).follows .mixedOrders = true) (hK : EnvOk Tryz.prog ⟨some 14, []⟩) {M0 : Map} {W : World} {Q : Exit → Act → World → Prop} (hQ : Q = Ends Tryz.prog W ixnFn (.bool true)) : SafeNO 0 M0 Tryz.prog W Q ixn_1PN ixn_12S0 := by
  subst hQ
  refine chunkO_ok hK hm ixn_12C1 ?_
  exact forkO_ok ixn_12X (ixn_121_safe hm hK rfl) (ixn_122_safe hm hK rfl)
theorem ixn_1_safe [ExtOk Tryz.prog] (hm : (Tryz.prog).follows .mixedOrders = true) (hK : EnvOk Tryz.prog ⟨some 14, []⟩) {M0 : Map} {W : World} {Q : Exit → Act → World → Prop} (hQ : Q = Ends Tryz.prog W ixnFn (.bool true)) : SafeNO 0 M0 Tryz.prog W Q ixnPN ixn_1S0 := by
  subst hQ
  refine chunkO_ok hK hm ixn_1C1 ?_
  refine chunkO_ok hK hm ixn_1C2 ?_
  exact forkO_ok ixn_1X (ixn_11_safe hm hK rfl) (ixn_12_safe hm hK rfl)
theorem indexNumbers_main [ExtOk Tryz.prog] (W : World) : Calls Tryz.prog 3 #[] W fun e w' => e = .returned (.bool true) ∧ Below W.heap.size W w' := by
  have hm : (Tryz.prog).follows .mixedOrders = true := by kernel_rfl
  have hK : EnvOk Tryz.prog ⟨some 14, []⟩ := ⟨fun g h W => by (obtain rfl := Option.some.inj h; exact indexKnown_main W), fun e h => (List.not_mem_nil h).elim⟩
  refine closed_ok (fn := ixnFn) (c := ixnBody) (by kernel_rfl) (by kernel_rfl) W ?_
  refine startM_ok (f := 3) ixnStart ?_
  refine SafeN.ofO (M0 := fun _ => ⟨0, 0, 0, 0, undef⟩) ?_
  refine chunkO_ok hK hm ixnC1 ?_
  refine chunkO_ok hK hm ixnC2 ?_
  refine chunkO_ok hK hm ixnC3 ?_
  refine chunkO_ok hK hm ixnC4 ?_
  refine chunkO_ok hK hm ixnC5 ?_
  exact seq0O_ok ixnX (ixn_1_safe hm hK rfl)
end Go.Proofs.YtloolljoelngcaaGreat
