/-
  FoldKnown: states between pieces of its run.
-/
import Derived.Test.YtloolljoelngcaaGreatKeysIn
import Derived.Test.YtloolljoelngcaaGreatChecked
namespace Go.Proofs.YtloolljoelngcaaGreat
open Go.RowKit
set_option maxRecDepth 1000000
noncomputable def fkFn : Func := match Tryz.prog.funcs[21]? with
  | some fn => fn
  | none => default
noncomputable def fkBody : Code := match fkFn.body with
  | some c => c
  | none => .skip
noncomputable def fkP0 : Option Pos := some [(21, [.code fkBody])]
noncomputable def fkS0 : SnapO := ⟨ofSnap (start fkFn), []⟩
noncomputable def fkD1 : List DirO := [dO, dR, dO, dG, dP 3, dC 15, dO, dR, dO, dO, dR, dF, dR, dO, dG, dP 2, .mop, dP 3, dX, dO, dO, dR, dO, dE 0, dO, dR, dL, dP 5, dX, dO, dO, dR, dF, dR, dO, dG, dP 4, dC 16, dO, dR, dO, dO, dR, dF, dR, dO, dG, dP 2, dC 42, dO, dR, dO, dG, .mop, dP 1, dX, dO, dO, dR, dO, dO, dO, dR, dO, dT, dR, dO, dO, dO, dR, dO, dR, dO, dO, dR, dF, dR, dO, dR, dG, dP 5, .mop, dP 5, .mop, dX, dO, dR, dO, dO, dR, dO, dF, dE 0, dO, dR, dL, dP 5, dX, dO, dO, dR, dF, dR, dO, dO, dG, dP 2, dC 43, dO, dR, dO, dO, dG, dP 1, .mop, dX, dO, dO, dO, dG, .mop, dP 1, dX, dO, dT, dR, dO, dO, dG, .mop, dP 5, dX, dO, .drw false [.take 0, .take 1, .take 2, .take 3, .take 4, .take 5, .take 6, .take 7, .take 8, .go 9, .take 10, .take 11, .take 12, .take 13, .take 14], dO, dO, dR, dF, dR, dG, dP 6, .mop, dX, dO, dO, dO, dG, .mop, dP 1, dX, dO, dF, dE 0, dO, dO, dG, dP 2, dC 79, dO, dR, dO, dR, dO, dR, dO, dO, dG, dP 4, .mop, dX, dO, dO, dO, dG, .mop, dP 1, dX, dO, dF, dE 0, dO, dO, dG, dP 1, .mop, dX, dO, dO, dO, dG, .mop, dP 1, dX, dO, dT, dR, dO, dO, dG, .mop, dP 3, dX, dR, dO, dO, dO, dG, .mop, dP 1, dX, dO, dF, dE 2, dO, dR, dL, dX, dF, dR, dO, dO, dG, dP 1, .srt, dP 2, dX, dO, dO, dO, dR, dO, dT, dR, dO, dO, dO, dR, dO, dG, dP 2, .mop, dP 1]
noncomputable def fkP1 : Option Pos := thenNavsO Tryz.prog fkD1 fkP0
noncomputable def fkS1 : SnapO := ⟨⟨[([(0, .pointer (some ⟨1048581, 0, none⟩)), (1, .chan (some 1048594)), (10, .string ⟨⟨[1, 1, 1, 0, 0, 0, 0, 0, 0, 0]⟩⟩), (11, .pointer (some ⟨1048668, 0, none⟩)), (52, .slice (some ⟨1048667, 0, none⟩) 1 18446744073709551616), (53, .int .i64 (.ofNat 1)), (54, .int .i64 (.ofNat 0)), (60, .agg ⟨[.slice (some ⟨1048599, 0, none⟩) 1 18446744073709551616, .slice (some ⟨1048656, 0, none⟩) 1 18446744073709551616, .slice none 0 0]⟩)], 89),
  ([(0, .pointer (some ⟨1048581, 0, none⟩)), (6, .chan (some 1048594))], 80),
  ([(1, .pointer (some ⟨1048581, 0, none⟩))], 56)],
  [(1048579, ⟨1, true, [.int .i64 (.ofNat 0)]⟩),
   (1048581, ⟨0, true, [.slice (some ⟨1048579, 0, none⟩) 1 18446744073709551616, .slice (some ⟨1048585, 0, none⟩) 1 18446744073709551616, .chan (some 1048580)]⟩),
   (1048585, ⟨2, true, [.string ⟨⟨[99, 111, 117, 110, 116]⟩⟩, .int .i64 (.ofNat 0)]⟩),
   (1048599, ⟨3, true, [.int .i64 (.ofNat 1), .int .i64 (.ofNat 1), .string ⟨⟨[]⟩⟩]⟩),
   (1048654, ⟨3, true, [.int .i64 (.ofNat 1), .int .i64 (.ofNat 1), .string ⟨⟨[]⟩⟩]⟩),
   (1048656, ⟨2, true, [.slice (some ⟨1048654, 0, none⟩) 1 18446744073709551616, .complex .f64 4611686018427387904 0]⟩),
   (1048667, ⟨1, false, [.string ⟨⟨[1, 1, 1, 0, 0, 0, 0, 0, 0, 0]⟩⟩]⟩),
   (1048668, ⟨0, true, [.slice none 0 0, .slice none 0 0, .slice none 0 0]⟩)],
  1048669⟩,
  [(1048580, .map [] 0),
   (1048594, .map [⟨[1, 1, 1, 0, 0, 0, 0, 0, 0, 0], .agg ⟨[.slice (some ⟨1048599, 0, none⟩) 1 18446744073709551616, .slice (some ⟨1048656, 0, none⟩) 1 18446744073709551616, .slice none 0 0]⟩, 0⟩] 1)]⟩
noncomputable def fkD2 : List DirO := [dP 1, dX, dO, dO, dR, dF, dR, dO, dR, dO, dO, dR, dF, dR, dG, dP 8, .mop, dX, dO, dR, dO, dO, dR, dO, dF, dE 2, dO, dR, dL, dP 1, dX, dO, dR, dF, dR, dO, dR, dO, dO, dG, dP 1, .mop, dX, dO, dO, dO, dG, .mop, dP 1, dX, dO, dT, dR, dO, dO, dG, .mop, dP 5, dX, dO, dO, dG, dP 5, .mop, dP 2, dX, dO, dR, dF, dR, dO, dO, dR, dF, dR, dO, .drw true [.take 0, .take 1, .take 2, .take 3, .take 4, .take 5, .go 6], dR, dO, dO, dO, dG, .mop, dP 1, dX, dO, dF, dE 0, dO, dR, dL, dP 5, dX, dO, dG, dP 4, dC 16, dO, dR, dO, dO, dR, dF, dR, dO, dG, dP 2, dC 42, dO, dR, dO, dG, .mop, dP 1, dX, dO, dO, dR, dO, dO, dO, dR, dO, dT, dR, dO, dO, dO, dR, dO, dR, dO, dO, dR, dF, dR, dO, dR, dG, dP 5, .mop, dP 5, .mop, dX, dO, dR, dO, dO, dR, dO, dF, dE 0, dO, dR, dL, dP 5, dX, dO, dO, dR, dF, dR, dO, dO, dG, dP 2, dC 43, dO, dR, dO, dO, dG, dP 1, .mop, dX, dO, dO, dO, dG, .mop, dP 1, dX, dO, dT, dR, dO, dO, dG, .mop, dP 5, dX, dO, .drw false [.take 0, .take 1, .take 2, .take 3, .take 4, .take 5, .take 6, .take 7, .take 8, .go 9, .take 10, .take 11, .take 12, .take 13, .take 14], dO, dO, dR, dF, dR, dG, dP 6, .mop, dX, dO, dO, dO, dG, .mop, dP 1, dX, dO, dF, dE 0, dO, dO, dG, dP 2, dC 79, dO, dR, dO, dR, dO, dR, dO, dO, dG, dP 4, .mop, dX, dO, dO, dO, dG, .mop, dP 1, dX, dO, dT, dR, dO, dO, dG, .mop, dP 5, dX, dO, dG, dP 2, .mop, dP 6, dX, dO, dR, dF, dR, dO, dO, dO, dG, .mop, dP 1, dX, dO, dF, dE 0, dO, dO, dG, dP 1, .mop, dX, dO, dO, dO, dG, .mop, dP 1, dX, dO, dT, dR, dO, dO, dG, .mop, dP 3, dX, dR, dO, dO, dO, dG, .mop, dP 1, dX, dO, dF, dE 2, dO, dR, dL, dX, dF, dR, dO, dO, dG, dP 1, .srt, dP 2, dX, dO, dO, dO, dR, dO, dT, dR, dO, dO, dO, dR, dO, dG, dP 2, .mop, dP 2, dX, dO, dO, dR, dF, dR, dO, dR, dO, dO, dR, dF, dR, dG, dP 8, .mop, dX, dO, dR, dO, dO, dR, dO, dF, dE 2, dO, dR, dL, dP 1, dX, dO, dR, dF, dR, dO, dR, dO, dO, dG, dP 1, .mop, dX, dO, dO, dO, dG, .mop, dP 1, dX, dO, dT, dR, dO, dO, dG, .mop, dP 5, dX, dO, dO, dG, dP 5, .mop, dP 2, dX, dO, dR, dT, dR, dO, dO, dR, dF, dR, dO, .drw true [.take 0, .take 1, .take 2, .take 3, .take 4, .take 5, .go 6], dR, dO, dO, dO, dG, .mop, dP 1, dX, dO, dF, dE 0, dO, dR, dL, dP 5, dX, dO, dR]
noncomputable def fkP2 : Option Pos := thenNavsO Tryz.prog fkD2 fkP1
noncomputable def fkS2 : SnapO := ⟨⟨[([(0, .bool true)], 56)],
  [],
  1049040⟩,
  []⟩
end Go.Proofs.YtloolljoelngcaaGreat
