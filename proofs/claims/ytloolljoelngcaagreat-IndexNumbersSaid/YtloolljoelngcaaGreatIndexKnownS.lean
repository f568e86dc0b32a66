/-
  IndexKnown: states between pieces of its run.
-/
import Derived.Test.YtloolljoelngcaaGreatKeysIn
import Derived.Test.YtloolljoelngcaaGreatSeqIn
import Derived.Test.YtloolljoelngcaaGreatChecked
namespace Go.Proofs.YtloolljoelngcaaGreat
open Go.RowKit
set_option maxRecDepth 1000000
noncomputable def ikFn : Func := match Tryz.prog.funcs[14]? with
  | some fn => fn
  | none => default
noncomputable def ikBody : Code := match ikFn.body with
  | some c => c
  | none => .skip
noncomputable def ikP0 : Option Pos := some [(14, [.code ikBody])]
noncomputable def ikS0 : SnapO := ⟨ofSnap (start ikFn), []⟩
noncomputable def ikD1 : List DirO := [dO, dR, dO, dG, dP 1, dC 5, dO, dR, dO, dO, dR, dF, dR, dO, dG, dP 2, .mop, dP 4, dX, dL, dP 5, dX, dO, dO, dR, dF, dR, dO, dG, dP 11, dC 6, dO, dR, dO, dO, dR]
noncomputable def ikP1 : Option Pos := thenNavsO Tryz.prog ikD1 ikP0
noncomputable def ikS1 : SnapO := ⟨⟨[([(0, .pointer (some ⟨1048580, 0, none⟩)), (1, .slice (some ⟨1048602, 0, none⟩) 3 3), (19, .bool false)], 102),
  ([(1, .pointer (some ⟨1048580, 0, none⟩))], 49)],
  [(1048578, ⟨1, true, [.int .i64 (.ofNat 1)]⟩),
   (1048580, ⟨0, true, [.slice (some ⟨1048578, 0, none⟩) 1 18446744073709551616, .chan (some 1048579)]⟩),
   (1048587, ⟨3, true, [.int .i64 (.ofNat 1), .int .i64 (.ofNat 1), .string ⟨⟨[]⟩⟩, .int .i64 (.ofNat 1), .int .i64 (.ofNat 5), .string ⟨⟨[]⟩⟩]⟩),
   (1048594, ⟨3, true, [.int .i64 (.ofNat 1), .int .i64 (.ofNat 2), .string ⟨⟨[]⟩⟩, .int .i64 (.ofNat 1), .int .i64 (.ofNat 5), .string ⟨⟨[]⟩⟩]⟩),
   (1048601, ⟨3, true, [.int .i64 (.ofNat 1), .int .i64 (.ofNat 3), .string ⟨⟨[]⟩⟩, .int .i64 (.ofNat 1), .int .i64 (.ofNat 6), .string ⟨⟨[]⟩⟩]⟩),
   (1048602, ⟨2, true, [.slice (some ⟨1048587, 0, none⟩) 2 18446744073709551616, .complex .f64 4607182418800017408 0, .slice (some ⟨1048594, 0, none⟩) 2 18446744073709551616, .complex .f64 4607182418800017408 0, .slice (some ⟨1048601, 0, none⟩) 2 18446744073709551616, .complex .f64 4607182418800017408 0]⟩)],
  1048650⟩,
  [(1048579, .map [] 0)]⟩
noncomputable def ikD2 : List DirO := [dF, dR, dO, dG, .mop, dP 1, dX, dO, dO, dR, dO, dO, dO, dR, dO, dT, dR, dO, dO, dO, dR, dO, dR, dO, dO, dR, dF, dR, dO, dG, dP 3, .mop, dP 2, dX, .pop, dO, dR, dO, dO, dR, dO, dT, dR, dO, dO, dO, dR, dO, dR, dO, dO, dR, dF, dR, dO, dG, dP 3, .mop, dP 2, dX, .pop, dO, dR, dO, dO, dR, dO, dT, dR, dO, dO, dO, dR, dO, dR, dO, dO, dR, dF, dR, dO, dG, dP 3, .mop, dP 2, dX, .pop, dO, dR, dO, dO, dR, dO, dF, dE 0, dO, dO, dG, dP 1, .mop, dX, dO, dO, dO, dG]
noncomputable def ikP2 : Option Pos := thenNavsO Tryz.prog ikD2 ikP1
noncomputable def ikS2 : SnapO := ⟨⟨[([(0, .pointer (some ⟨1048580, 0, none⟩)), (5, .chan (some 1048650)), (52, .chan (some 1048819))], 102),
  ([(1, .pointer (some ⟨1048580, 0, none⟩))], 49)],
  [(1048578, ⟨1, true, [.int .i64 (.ofNat 1)]⟩),
   (1048580, ⟨0, true, [.slice (some ⟨1048578, 0, none⟩) 1 18446744073709551616, .chan (some 1048579)]⟩),
   (1048587, ⟨3, true, [.int .i64 (.ofNat 1), .int .i64 (.ofNat 1), .string ⟨⟨[]⟩⟩, .int .i64 (.ofNat 1), .int .i64 (.ofNat 5), .string ⟨⟨[]⟩⟩]⟩),
   (1048594, ⟨3, true, [.int .i64 (.ofNat 1), .int .i64 (.ofNat 2), .string ⟨⟨[]⟩⟩, .int .i64 (.ofNat 1), .int .i64 (.ofNat 5), .string ⟨⟨[]⟩⟩]⟩),
   (1048601, ⟨3, true, [.int .i64 (.ofNat 1), .int .i64 (.ofNat 3), .string ⟨⟨[]⟩⟩, .int .i64 (.ofNat 1), .int .i64 (.ofNat 6), .string ⟨⟨[]⟩⟩]⟩),
   (1048709, ⟨3, true, [.int .i64 (.ofNat 1), .int .i64 (.ofNat 5), .string ⟨⟨[]⟩⟩]⟩),
   (1048762, ⟨2, true, [.slice (some ⟨1048587, 0, none⟩) 2 18446744073709551616, .complex .f64 4607182418800017408 0, .slice (some ⟨1048594, 0, none⟩) 2 18446744073709551616, .complex .f64 4607182418800017408 0]⟩),
   (1048765, ⟨3, true, [.int .i64 (.ofNat 1), .int .i64 (.ofNat 6), .string ⟨⟨[]⟩⟩]⟩),
   (1048818, ⟨2, true, [.slice (some ⟨1048601, 0, none⟩) 2 18446744073709551616, .complex .f64 4607182418800017408 0]⟩)],
  1048820⟩,
  [(1048579, .map [] 0),
   (1048650, .map [⟨[1, 1, 5, 0, 0, 0, 0, 0, 0, 0], .agg ⟨[.slice (some ⟨1048709, 0, none⟩) 1 18446744073709551616, .slice (some ⟨1048762, 0, none⟩) 2 18446744073709551616]⟩, 0⟩, ⟨[1, 1, 6, 0, 0, 0, 0, 0, 0, 0], .agg ⟨[.slice (some ⟨1048765, 0, none⟩) 1 18446744073709551616, .slice (some ⟨1048818, 0, none⟩) 1 18446744073709551616]⟩, 1⟩] 2),
   (1048819, .iter 1048650 2 [] 2)]⟩
noncomputable def ikPN : Option Pos := thenNavsO Tryz.prog [.mop] ikP2
noncomputable def ik_1S0 : SnapO := ⟨⟨[([(0, .pointer (some ⟨1048580, 0, none⟩)), (5, .chan (some 1048650)), (52, .chan (some 1048819)), (53, .tuple ⟨[.bool true, .string ⟨⟨[1, 1, 5, 0, 0, 0, 0, 0, 0, 0]⟩⟩, .agg ⟨[.slice (some ⟨1048709, 0, none⟩) 1 18446744073709551616, .slice (some ⟨1048762, 0, none⟩) 2 18446744073709551616]⟩]⟩)], 102),
  ([(1, .pointer (some ⟨1048580, 0, none⟩))], 49)],
  [(1048578, ⟨1, true, [.int .i64 (.ofNat 1)]⟩),
   (1048580, ⟨0, true, [.slice (some ⟨1048578, 0, none⟩) 1 18446744073709551616, .chan (some 1048579)]⟩),
   (1048587, ⟨3, true, [.int .i64 (.ofNat 1), .int .i64 (.ofNat 1), .string ⟨⟨[]⟩⟩, .int .i64 (.ofNat 1), .int .i64 (.ofNat 5), .string ⟨⟨[]⟩⟩]⟩),
   (1048594, ⟨3, true, [.int .i64 (.ofNat 1), .int .i64 (.ofNat 2), .string ⟨⟨[]⟩⟩, .int .i64 (.ofNat 1), .int .i64 (.ofNat 5), .string ⟨⟨[]⟩⟩]⟩),
   (1048601, ⟨3, true, [.int .i64 (.ofNat 1), .int .i64 (.ofNat 3), .string ⟨⟨[]⟩⟩, .int .i64 (.ofNat 1), .int .i64 (.ofNat 6), .string ⟨⟨[]⟩⟩]⟩),
   (1048709, ⟨3, true, [.int .i64 (.ofNat 1), .int .i64 (.ofNat 5), .string ⟨⟨[]⟩⟩]⟩),
   (1048762, ⟨2, true, [.slice (some ⟨1048587, 0, none⟩) 2 18446744073709551616, .complex .f64 4607182418800017408 0, .slice (some ⟨1048594, 0, none⟩) 2 18446744073709551616, .complex .f64 4607182418800017408 0]⟩),
   (1048765, ⟨3, true, [.int .i64 (.ofNat 1), .int .i64 (.ofNat 6), .string ⟨⟨[]⟩⟩]⟩),
   (1048818, ⟨2, true, [.slice (some ⟨1048601, 0, none⟩) 2 18446744073709551616, .complex .f64 4607182418800017408 0]⟩)],
  1048820⟩,
  [(1048579, .map [] 0),
   (1048650, .map [⟨[1, 1, 5, 0, 0, 0, 0, 0, 0, 0], .agg ⟨[.slice (some ⟨1048709, 0, none⟩) 1 18446744073709551616, .slice (some ⟨1048762, 0, none⟩) 2 18446744073709551616]⟩, 0⟩, ⟨[1, 1, 6, 0, 0, 0, 0, 0, 0, 0], .agg ⟨[.slice (some ⟨1048765, 0, none⟩) 1 18446744073709551616, .slice (some ⟨1048818, 0, none⟩) 1 18446744073709551616]⟩, 1⟩] 2),
   (1048819, .iter 1048650 2 [0] 2)]⟩
noncomputable def ik_1D1 : List DirO := [dP 1, dX, dO, dT, dR, dO, dO, dG, .mop, dP 5, dX, dO, .drw false [.take 0, .take 1, .take 2, .take 3, .take 4, .take 5, .take 6, .take 7, .take 8, .go 9, .take 10, .take 11, .take 12, .take 13, .take 14], dO, dO, dR, dF, dR, dG, dP 6, .mop, dX, dO, dO, dO, dG, .mop, dP 1, dX, dO, dT, dR, dO, dO, dG, .mop, dP 5, dX, dO, .drw false [.take 0, .take 1, .take 2, .take 3, .take 4, .take 5, .take 6, .take 7, .take 8, .go 9, .take 10, .take 11, .take 12, .take 13, .take 14], dO, dO, dR, dF, dR, dG, dP 6, .mop, dX, dO, dO, dO, dG, .mop, dP 1, dX, dO, dF, dE 2, dO, dO, dG, dP 1, .mop, dX, dO, dO, dO, dG]
noncomputable def ik_1P1 : Option Pos := thenNavsO Tryz.prog ik_1D1 ikPN
noncomputable def ik_1S1 : SnapO := ⟨⟨[([(0, .pointer (some ⟨1048580, 0, none⟩)), (81, .chan (some 1048990))], 102),
  ([(1, .pointer (some ⟨1048580, 0, none⟩))], 49)],
  [(1048578, ⟨1, true, [.int .i64 (.ofNat 1)]⟩),
   (1048580, ⟨0, true, [.slice (some ⟨1048578, 0, none⟩) 1 18446744073709551616, .chan (some 1048579)]⟩),
   (1048709, ⟨3, true, [.int .i64 (.ofNat 1), .int .i64 (.ofNat 5), .string ⟨⟨[]⟩⟩]⟩),
   (1048765, ⟨3, true, [.int .i64 (.ofNat 1), .int .i64 (.ofNat 6), .string ⟨⟨[]⟩⟩]⟩),
   (1048903, ⟨3, true, [.int .i64 (.ofNat 1), .int .i64 (.ofNat 1), .string ⟨⟨[]⟩⟩, .int .i64 (.ofNat 1), .int .i64 (.ofNat 5), .string ⟨⟨[]⟩⟩]⟩),
   (1048940, ⟨3, true, [.int .i64 (.ofNat 1), .int .i64 (.ofNat 2), .string ⟨⟨[]⟩⟩, .int .i64 (.ofNat 1), .int .i64 (.ofNat 5), .string ⟨⟨[]⟩⟩]⟩),
   (1048942, ⟨2, true, [.slice (some ⟨1048903, 0, none⟩) 2 18446744073709551616, .complex .f64 4607182418800017408 0, .slice (some ⟨1048940, 0, none⟩) 2 18446744073709551616, .complex .f64 4607182418800017408 0]⟩),
   (1048987, ⟨3, true, [.int .i64 (.ofNat 1), .int .i64 (.ofNat 3), .string ⟨⟨[]⟩⟩, .int .i64 (.ofNat 1), .int .i64 (.ofNat 6), .string ⟨⟨[]⟩⟩]⟩),
   (1048989, ⟨2, true, [.slice (some ⟨1048987, 0, none⟩) 2 18446744073709551616, .complex .f64 4607182418800017408 0]⟩)],
  1048991⟩,
  [(1048579, .map [] 0),
   (1048650, .map [⟨[1, 1, 5, 0, 0, 0, 0, 0, 0, 0], .agg ⟨[.slice (some ⟨1048709, 0, none⟩) 1 18446744073709551616, .slice (some ⟨1048942, 0, none⟩) 2 18446744073709551616]⟩, 0⟩, ⟨[1, 1, 6, 0, 0, 0, 0, 0, 0, 0], .agg ⟨[.slice (some ⟨1048765, 0, none⟩) 1 18446744073709551616, .slice (some ⟨1048989, 0, none⟩) 1 18446744073709551616]⟩, 1⟩] 2),
   (1048990, .iter 1048650 2 [] 2)]⟩
noncomputable def ik_1PN : Option Pos := thenNavsO Tryz.prog [.mop] ik_1P1
noncomputable def ik_11S0 : SnapO := ⟨⟨[([(0, .pointer (some ⟨1048580, 0, none⟩)), (81, .chan (some 1048990)), (82, .tuple ⟨[.bool true, .string ⟨⟨[1, 1, 5, 0, 0, 0, 0, 0, 0, 0]⟩⟩, .agg ⟨[.slice (some ⟨1048709, 0, none⟩) 1 18446744073709551616, .slice (some ⟨1048942, 0, none⟩) 2 18446744073709551616]⟩]⟩)], 102),
  ([(1, .pointer (some ⟨1048580, 0, none⟩))], 49)],
  [(1048578, ⟨1, true, [.int .i64 (.ofNat 1)]⟩),
   (1048580, ⟨0, true, [.slice (some ⟨1048578, 0, none⟩) 1 18446744073709551616, .chan (some 1048579)]⟩),
   (1048709, ⟨3, true, [.int .i64 (.ofNat 1), .int .i64 (.ofNat 5), .string ⟨⟨[]⟩⟩]⟩),
   (1048765, ⟨3, true, [.int .i64 (.ofNat 1), .int .i64 (.ofNat 6), .string ⟨⟨[]⟩⟩]⟩),
   (1048903, ⟨3, true, [.int .i64 (.ofNat 1), .int .i64 (.ofNat 1), .string ⟨⟨[]⟩⟩, .int .i64 (.ofNat 1), .int .i64 (.ofNat 5), .string ⟨⟨[]⟩⟩]⟩),
   (1048940, ⟨3, true, [.int .i64 (.ofNat 1), .int .i64 (.ofNat 2), .string ⟨⟨[]⟩⟩, .int .i64 (.ofNat 1), .int .i64 (.ofNat 5), .string ⟨⟨[]⟩⟩]⟩),
   (1048942, ⟨2, true, [.slice (some ⟨1048903, 0, none⟩) 2 18446744073709551616, .complex .f64 4607182418800017408 0, .slice (some ⟨1048940, 0, none⟩) 2 18446744073709551616, .complex .f64 4607182418800017408 0]⟩),
   (1048987, ⟨3, true, [.int .i64 (.ofNat 1), .int .i64 (.ofNat 3), .string ⟨⟨[]⟩⟩, .int .i64 (.ofNat 1), .int .i64 (.ofNat 6), .string ⟨⟨[]⟩⟩]⟩),
   (1048989, ⟨2, true, [.slice (some ⟨1048987, 0, none⟩) 2 18446744073709551616, .complex .f64 4607182418800017408 0]⟩)],
  1048991⟩,
  [(1048579, .map [] 0),
   (1048650, .map [⟨[1, 1, 5, 0, 0, 0, 0, 0, 0, 0], .agg ⟨[.slice (some ⟨1048709, 0, none⟩) 1 18446744073709551616, .slice (some ⟨1048942, 0, none⟩) 2 18446744073709551616]⟩, 0⟩, ⟨[1, 1, 6, 0, 0, 0, 0, 0, 0, 0], .agg ⟨[.slice (some ⟨1048765, 0, none⟩) 1 18446744073709551616, .slice (some ⟨1048989, 0, none⟩) 1 18446744073709551616]⟩, 1⟩] 2),
   (1048990, .iter 1048650 2 [0] 2)]⟩
noncomputable def ik_11D1 : List DirO := [dP 1, dX, dO, dT, dR, dO, dO, dG, .mop, dP 5, dX, dO, dO, dR, dF, dR, .drw true [.take 0, .take 1, .take 2, .take 3, .take 4, .take 5, .go 6], dO, dO, dO, dG, .mop, dP 1, dX, dO, dT, dR, dO, dO, dG, .mop, dP 5, dX, dO, dO, dR, dF, dR, .drw true [.take 0, .take 1, .take 2, .take 3, .take 4, .take 5, .go 6], dO, dO, dO, dG, .mop, dP 1, dX, dO, dF, dE 4, dO, dR, dL, dP 1, dX, dO, dG, dP 6, dC 39, dO, dR, dO, .drw false [.take 0, .take 1, .take 2, .take 3, .take 4, .go 5, .go 6, .take 7, .go 8, .take 9], dL, dP 11, dC 13, dO, dR, dO, dR, dO, dO, dG, dP 1, dC 37, dO, dR, dO, dG, dP 5, dC 71, dO, dR, dO, dG, dP 1, dC 107, dO, dR, dO, dG, dP 1]
noncomputable def ik_11P1 : Option Pos := thenNavsO Tryz.prog ik_11D1 ik_1PN
noncomputable def ik_11S1 : SnapO := ⟨⟨[([(3, .func (.func 109) ⟨[]⟩ ⟨[.pointer (some ⟨1049049, 0, none⟩)]⟩)], 5),
  ([(1, .func (.func 73) ⟨[]⟩ ⟨[]⟩)], 12),
  ([], 9),
  ([(3, .slice none 0 0)], 21),
  ([(43, .bool true)], 49)],
  [(1048709, ⟨3, true, [.int .i64 (.ofNat 1), .int .i64 (.ofNat 5), .string ⟨⟨[]⟩⟩]⟩),
   (1048765, ⟨3, true, [.int .i64 (.ofNat 1), .int .i64 (.ofNat 6), .string ⟨⟨[]⟩⟩]⟩),
   (1048903, ⟨3, true, [.int .i64 (.ofNat 1), .int .i64 (.ofNat 1), .string ⟨⟨[]⟩⟩, .int .i64 (.ofNat 1), .int .i64 (.ofNat 5), .string ⟨⟨[]⟩⟩]⟩),
   (1048940, ⟨3, true, [.int .i64 (.ofNat 1), .int .i64 (.ofNat 2), .string ⟨⟨[]⟩⟩, .int .i64 (.ofNat 1), .int .i64 (.ofNat 5), .string ⟨⟨[]⟩⟩]⟩),
   (1048942, ⟨2, true, [.slice (some ⟨1048903, 0, none⟩) 2 18446744073709551616, .complex .f64 4607182418800017408 0, .slice (some ⟨1048940, 0, none⟩) 2 18446744073709551616, .complex .f64 4607182418800017408 0]⟩),
   (1048987, ⟨3, true, [.int .i64 (.ofNat 1), .int .i64 (.ofNat 3), .string ⟨⟨[]⟩⟩, .int .i64 (.ofNat 1), .int .i64 (.ofNat 6), .string ⟨⟨[]⟩⟩]⟩),
   (1048989, ⟨2, true, [.slice (some ⟨1048987, 0, none⟩) 2 18446744073709551616, .complex .f64 4607182418800017408 0]⟩),
   (1049049, ⟨0, true, [.chan (some 1048579)]⟩)],
  1049050⟩,
  [(1048579, .map [⟨[1, 1, 5, 0, 0, 0, 0, 0, 0, 0], .agg ⟨[.slice (some ⟨1048709, 0, none⟩) 1 18446744073709551616, .slice (some ⟨1048942, 0, none⟩) 2 18446744073709551616]⟩, 0⟩, ⟨[1, 1, 6, 0, 0, 0, 0, 0, 0, 0], .agg ⟨[.slice (some ⟨1048765, 0, none⟩) 1 18446744073709551616, .slice (some ⟨1048989, 0, none⟩) 1 18446744073709551616]⟩, 1⟩] 2)]⟩
noncomputable def ik_11PN : Option Pos := thenNavsO Tryz.prog [.mop] ik_11P1
noncomputable def ik_111S0 : SnapO := ⟨⟨[([(4, .slice (some ⟨1049050, 0, none⟩) 2 18446744073709551616)], 5),
  ([(1, .func (.func 73) ⟨[]⟩ ⟨[]⟩)], 12),
  ([], 9),
  ([(3, .slice none 0 0)], 21),
  ([(43, .bool true)], 49)],
  [(1048709, ⟨3, true, [.int .i64 (.ofNat 1), .int .i64 (.ofNat 5), .string ⟨⟨[]⟩⟩]⟩),
   (1048765, ⟨3, true, [.int .i64 (.ofNat 1), .int .i64 (.ofNat 6), .string ⟨⟨[]⟩⟩]⟩),
   (1048903, ⟨3, true, [.int .i64 (.ofNat 1), .int .i64 (.ofNat 1), .string ⟨⟨[]⟩⟩, .int .i64 (.ofNat 1), .int .i64 (.ofNat 5), .string ⟨⟨[]⟩⟩]⟩),
   (1048940, ⟨3, true, [.int .i64 (.ofNat 1), .int .i64 (.ofNat 2), .string ⟨⟨[]⟩⟩, .int .i64 (.ofNat 1), .int .i64 (.ofNat 5), .string ⟨⟨[]⟩⟩]⟩),
   (1048942, ⟨2, true, [.slice (some ⟨1048903, 0, none⟩) 2 18446744073709551616, .complex .f64 4607182418800017408 0, .slice (some ⟨1048940, 0, none⟩) 2 18446744073709551616, .complex .f64 4607182418800017408 0]⟩),
   (1048987, ⟨3, true, [.int .i64 (.ofNat 1), .int .i64 (.ofNat 3), .string ⟨⟨[]⟩⟩, .int .i64 (.ofNat 1), .int .i64 (.ofNat 6), .string ⟨⟨[]⟩⟩]⟩),
   (1048989, ⟨2, true, [.slice (some ⟨1048987, 0, none⟩) 2 18446744073709551616, .complex .f64 4607182418800017408 0]⟩),
   (1049050, ⟨2, true, [.slice (some ⟨1048709, 0, none⟩) 1 18446744073709551616, .slice (some ⟨1048942, 0, none⟩) 2 18446744073709551616, .slice (some ⟨1048765, 0, none⟩) 1 18446744073709551616, .slice (some ⟨1048989, 0, none⟩) 1 18446744073709551616]⟩)],
  1049051⟩,
  []⟩
noncomputable def ik_111D1 : List DirO := [dP 1, dX, dL, dP 1, dX, dO, dR, dO, dR, dL, dP 1, dX, dL, dP 2, dX, dO, dE 0, dO, dR, dL, dP 4, dX]
noncomputable def ik_111P1 : Option Pos := thenNavsO Tryz.prog ik_111D1 ik_11PN
noncomputable def ik_111S1 : SnapO := ⟨⟨[([(0, .bool true)], 49)],
  [],
  1049075⟩,
  []⟩
noncomputable def ik_112S0 : SnapO := ⟨⟨[([(4, .slice (some ⟨1049050, 0, none⟩) 2 18446744073709551616)], 5),
  ([(1, .func (.func 73) ⟨[]⟩ ⟨[]⟩)], 12),
  ([], 9),
  ([(3, .slice none 0 0)], 21),
  ([(43, .bool true)], 49)],
  [(1048709, ⟨3, true, [.int .i64 (.ofNat 1), .int .i64 (.ofNat 5), .string ⟨⟨[]⟩⟩]⟩),
   (1048765, ⟨3, true, [.int .i64 (.ofNat 1), .int .i64 (.ofNat 6), .string ⟨⟨[]⟩⟩]⟩),
   (1048903, ⟨3, true, [.int .i64 (.ofNat 1), .int .i64 (.ofNat 1), .string ⟨⟨[]⟩⟩, .int .i64 (.ofNat 1), .int .i64 (.ofNat 5), .string ⟨⟨[]⟩⟩]⟩),
   (1048940, ⟨3, true, [.int .i64 (.ofNat 1), .int .i64 (.ofNat 2), .string ⟨⟨[]⟩⟩, .int .i64 (.ofNat 1), .int .i64 (.ofNat 5), .string ⟨⟨[]⟩⟩]⟩),
   (1048942, ⟨2, true, [.slice (some ⟨1048903, 0, none⟩) 2 18446744073709551616, .complex .f64 4607182418800017408 0, .slice (some ⟨1048940, 0, none⟩) 2 18446744073709551616, .complex .f64 4607182418800017408 0]⟩),
   (1048987, ⟨3, true, [.int .i64 (.ofNat 1), .int .i64 (.ofNat 3), .string ⟨⟨[]⟩⟩, .int .i64 (.ofNat 1), .int .i64 (.ofNat 6), .string ⟨⟨[]⟩⟩]⟩),
   (1048989, ⟨2, true, [.slice (some ⟨1048987, 0, none⟩) 2 18446744073709551616, .complex .f64 4607182418800017408 0]⟩),
   (1049050, ⟨2, true, [.slice (some ⟨1048765, 0, none⟩) 1 18446744073709551616, .slice (some ⟨1048989, 0, none⟩) 1 18446744073709551616, .slice (some ⟨1048709, 0, none⟩) 1 18446744073709551616, .slice (some ⟨1048942, 0, none⟩) 2 18446744073709551616]⟩)],
  1049051⟩,
  []⟩
noncomputable def ik_112D1 : List DirO := [dP 1, dX, dL, dP 1, dX, dO, dR, dO, dR, dL, dP 1, dX, dL, dP 2, dX, dO, dE 0, dO, dR, dL, dP 4, dX]
noncomputable def ik_112P1 : Option Pos := thenNavsO Tryz.prog ik_112D1 ik_11PN
noncomputable def ik_112S1 : SnapO := ⟨⟨[([(0, .bool true)], 49)],
  [],
  1049071⟩,
  []⟩
noncomputable def ik_12S0 : SnapO := ⟨⟨[([(0, .pointer (some ⟨1048580, 0, none⟩)), (81, .chan (some 1048990)), (82, .tuple ⟨[.bool true, .string ⟨⟨[1, 1, 6, 0, 0, 0, 0, 0, 0, 0]⟩⟩, .agg ⟨[.slice (some ⟨1048765, 0, none⟩) 1 18446744073709551616, .slice (some ⟨1048989, 0, none⟩) 1 18446744073709551616]⟩]⟩)], 102),
  ([(1, .pointer (some ⟨1048580, 0, none⟩))], 49)],
  [(1048578, ⟨1, true, [.int .i64 (.ofNat 1)]⟩),
   (1048580, ⟨0, true, [.slice (some ⟨1048578, 0, none⟩) 1 18446744073709551616, .chan (some 1048579)]⟩),
   (1048709, ⟨3, true, [.int .i64 (.ofNat 1), .int .i64 (.ofNat 5), .string ⟨⟨[]⟩⟩]⟩),
   (1048765, ⟨3, true, [.int .i64 (.ofNat 1), .int .i64 (.ofNat 6), .string ⟨⟨[]⟩⟩]⟩),
   (1048903, ⟨3, true, [.int .i64 (.ofNat 1), .int .i64 (.ofNat 1), .string ⟨⟨[]⟩⟩, .int .i64 (.ofNat 1), .int .i64 (.ofNat 5), .string ⟨⟨[]⟩⟩]⟩),
   (1048940, ⟨3, true, [.int .i64 (.ofNat 1), .int .i64 (.ofNat 2), .string ⟨⟨[]⟩⟩, .int .i64 (.ofNat 1), .int .i64 (.ofNat 5), .string ⟨⟨[]⟩⟩]⟩),
   (1048942, ⟨2, true, [.slice (some ⟨1048903, 0, none⟩) 2 18446744073709551616, .complex .f64 4607182418800017408 0, .slice (some ⟨1048940, 0, none⟩) 2 18446744073709551616, .complex .f64 4607182418800017408 0]⟩),
   (1048987, ⟨3, true, [.int .i64 (.ofNat 1), .int .i64 (.ofNat 3), .string ⟨⟨[]⟩⟩, .int .i64 (.ofNat 1), .int .i64 (.ofNat 6), .string ⟨⟨[]⟩⟩]⟩),
   (1048989, ⟨2, true, [.slice (some ⟨1048987, 0, none⟩) 2 18446744073709551616, .complex .f64 4607182418800017408 0]⟩)],
  1048991⟩,
  [(1048579, .map [] 0),
   (1048650, .map [⟨[1, 1, 5, 0, 0, 0, 0, 0, 0, 0], .agg ⟨[.slice (some ⟨1048709, 0, none⟩) 1 18446744073709551616, .slice (some ⟨1048942, 0, none⟩) 2 18446744073709551616]⟩, 0⟩, ⟨[1, 1, 6, 0, 0, 0, 0, 0, 0, 0], .agg ⟨[.slice (some ⟨1048765, 0, none⟩) 1 18446744073709551616, .slice (some ⟨1048989, 0, none⟩) 1 18446744073709551616]⟩, 1⟩] 2),
   (1048990, .iter 1048650 2 [1] 2)]⟩
noncomputable def ik_12D1 : List DirO := [dP 1, dX, dO, dT, dR, dO, dO, dG, .mop, dP 5, dX, dO, dO, dR, dF, dR, .drw true [.take 0, .take 1, .take 2, .take 3, .take 4, .take 5, .go 6], dO, dO, dO, dG, .mop, dP 1, dX, dO, dT, dR, dO, dO, dG, .mop, dP 5, dX, dO, dO, dR, dF, dR, .drw true [.take 0, .take 1, .take 2, .take 3, .take 4, .take 5, .go 6], dO, dO, dO, dG, .mop, dP 1, dX, dO, dF, dE 4, dO, dR, dL, dP 1, dX, dO, dG, dP 6, dC 39, dO, dR, dO, .drw false [.take 0, .take 1, .take 2, .take 3, .take 4, .go 5, .go 6, .take 7, .go 8, .take 9], dL, dP 11, dC 13, dO, dR, dO, dR, dO, dO, dG, dP 1, dC 37, dO, dR, dO, dG, dP 5, dC 71, dO, dR, dO, dG, dP 1, dC 107, dO, dR, dO, dG, dP 1]
noncomputable def ik_12P1 : Option Pos := thenNavsO Tryz.prog ik_12D1 ik_1PN
noncomputable def ik_12S1 : SnapO := ⟨⟨[([(3, .func (.func 109) ⟨[]⟩ ⟨[.pointer (some ⟨1049049, 0, none⟩)]⟩)], 5),
  ([(1, .func (.func 73) ⟨[]⟩ ⟨[]⟩)], 12),
  ([], 9),
  ([(3, .slice none 0 0)], 21),
  ([(43, .bool true)], 49)],
  [(1048709, ⟨3, true, [.int .i64 (.ofNat 1), .int .i64 (.ofNat 5), .string ⟨⟨[]⟩⟩]⟩),
   (1048765, ⟨3, true, [.int .i64 (.ofNat 1), .int .i64 (.ofNat 6), .string ⟨⟨[]⟩⟩]⟩),
   (1048903, ⟨3, true, [.int .i64 (.ofNat 1), .int .i64 (.ofNat 1), .string ⟨⟨[]⟩⟩, .int .i64 (.ofNat 1), .int .i64 (.ofNat 5), .string ⟨⟨[]⟩⟩]⟩),
   (1048940, ⟨3, true, [.int .i64 (.ofNat 1), .int .i64 (.ofNat 2), .string ⟨⟨[]⟩⟩, .int .i64 (.ofNat 1), .int .i64 (.ofNat 5), .string ⟨⟨[]⟩⟩]⟩),
   (1048942, ⟨2, true, [.slice (some ⟨1048903, 0, none⟩) 2 18446744073709551616, .complex .f64 4607182418800017408 0, .slice (some ⟨1048940, 0, none⟩) 2 18446744073709551616, .complex .f64 4607182418800017408 0]⟩),
   (1048987, ⟨3, true, [.int .i64 (.ofNat 1), .int .i64 (.ofNat 3), .string ⟨⟨[]⟩⟩, .int .i64 (.ofNat 1), .int .i64 (.ofNat 6), .string ⟨⟨[]⟩⟩]⟩),
   (1048989, ⟨2, true, [.slice (some ⟨1048987, 0, none⟩) 2 18446744073709551616, .complex .f64 4607182418800017408 0]⟩),
   (1049049, ⟨0, true, [.chan (some 1048579)]⟩)],
  1049050⟩,
  [(1048579, .map [⟨[1, 1, 6, 0, 0, 0, 0, 0, 0, 0], .agg ⟨[.slice (some ⟨1048765, 0, none⟩) 1 18446744073709551616, .slice (some ⟨1048989, 0, none⟩) 1 18446744073709551616]⟩, 0⟩, ⟨[1, 1, 5, 0, 0, 0, 0, 0, 0, 0], .agg ⟨[.slice (some ⟨1048709, 0, none⟩) 1 18446744073709551616, .slice (some ⟨1048942, 0, none⟩) 2 18446744073709551616]⟩, 1⟩] 2)]⟩
noncomputable def ik_12PN : Option Pos := thenNavsO Tryz.prog [.mop] ik_12P1
noncomputable def ik_121S0 : SnapO := ⟨⟨[([(4, .slice (some ⟨1049050, 0, none⟩) 2 18446744073709551616)], 5),
  ([(1, .func (.func 73) ⟨[]⟩ ⟨[]⟩)], 12),
  ([], 9),
  ([(3, .slice none 0 0)], 21),
  ([(43, .bool true)], 49)],
  [(1048709, ⟨3, true, [.int .i64 (.ofNat 1), .int .i64 (.ofNat 5), .string ⟨⟨[]⟩⟩]⟩),
   (1048765, ⟨3, true, [.int .i64 (.ofNat 1), .int .i64 (.ofNat 6), .string ⟨⟨[]⟩⟩]⟩),
   (1048903, ⟨3, true, [.int .i64 (.ofNat 1), .int .i64 (.ofNat 1), .string ⟨⟨[]⟩⟩, .int .i64 (.ofNat 1), .int .i64 (.ofNat 5), .string ⟨⟨[]⟩⟩]⟩),
   (1048940, ⟨3, true, [.int .i64 (.ofNat 1), .int .i64 (.ofNat 2), .string ⟨⟨[]⟩⟩, .int .i64 (.ofNat 1), .int .i64 (.ofNat 5), .string ⟨⟨[]⟩⟩]⟩),
   (1048942, ⟨2, true, [.slice (some ⟨1048903, 0, none⟩) 2 18446744073709551616, .complex .f64 4607182418800017408 0, .slice (some ⟨1048940, 0, none⟩) 2 18446744073709551616, .complex .f64 4607182418800017408 0]⟩),
   (1048987, ⟨3, true, [.int .i64 (.ofNat 1), .int .i64 (.ofNat 3), .string ⟨⟨[]⟩⟩, .int .i64 (.ofNat 1), .int .i64 (.ofNat 6), .string ⟨⟨[]⟩⟩]⟩),
   (1048989, ⟨2, true, [.slice (some ⟨1048987, 0, none⟩) 2 18446744073709551616, .complex .f64 4607182418800017408 0]⟩),
   (1049050, ⟨2, true, [.slice (some ⟨1048765, 0, none⟩) 1 18446744073709551616, .slice (some ⟨1048989, 0, none⟩) 1 18446744073709551616, .slice (some ⟨1048709, 0, none⟩) 1 18446744073709551616, .slice (some ⟨1048942, 0, none⟩) 2 18446744073709551616]⟩)],
  1049051⟩,
  []⟩
noncomputable def ik_121D1 : List DirO := [dP 1, dX, dL, dP 1, dX, dO, dR, dO, dR, dL, dP 1, dX, dL, dP 2, dX, dO, dE 0, dO, dR, dL, dP 4, dX]
noncomputable def ik_121P1 : Option Pos := thenNavsO Tryz.prog ik_121D1 ik_12PN
noncomputable def ik_121S1 : SnapO := ⟨⟨[([(0, .bool true)], 49)],
  [],
  1049071⟩,
  []⟩
noncomputable def ik_122S0 : SnapO := ⟨⟨[([(4, .slice (some ⟨1049050, 0, none⟩) 2 18446744073709551616)], 5),
  ([(1, .func (.func 73) ⟨[]⟩ ⟨[]⟩)], 12),
  ([], 9),
  ([(3, .slice none 0 0)], 21),
  ([(43, .bool true)], 49)],
  [(1048709, ⟨3, true, [.int .i64 (.ofNat 1), .int .i64 (.ofNat 5), .string ⟨⟨[]⟩⟩]⟩),
   (1048765, ⟨3, true, [.int .i64 (.ofNat 1), .int .i64 (.ofNat 6), .string ⟨⟨[]⟩⟩]⟩),
   (1048903, ⟨3, true, [.int .i64 (.ofNat 1), .int .i64 (.ofNat 1), .string ⟨⟨[]⟩⟩, .int .i64 (.ofNat 1), .int .i64 (.ofNat 5), .string ⟨⟨[]⟩⟩]⟩),
   (1048940, ⟨3, true, [.int .i64 (.ofNat 1), .int .i64 (.ofNat 2), .string ⟨⟨[]⟩⟩, .int .i64 (.ofNat 1), .int .i64 (.ofNat 5), .string ⟨⟨[]⟩⟩]⟩),
   (1048942, ⟨2, true, [.slice (some ⟨1048903, 0, none⟩) 2 18446744073709551616, .complex .f64 4607182418800017408 0, .slice (some ⟨1048940, 0, none⟩) 2 18446744073709551616, .complex .f64 4607182418800017408 0]⟩),
   (1048987, ⟨3, true, [.int .i64 (.ofNat 1), .int .i64 (.ofNat 3), .string ⟨⟨[]⟩⟩, .int .i64 (.ofNat 1), .int .i64 (.ofNat 6), .string ⟨⟨[]⟩⟩]⟩),
   (1048989, ⟨2, true, [.slice (some ⟨1048987, 0, none⟩) 2 18446744073709551616, .complex .f64 4607182418800017408 0]⟩),
   (1049050, ⟨2, true, [.slice (some ⟨1048709, 0, none⟩) 1 18446744073709551616, .slice (some ⟨1048942, 0, none⟩) 2 18446744073709551616, .slice (some ⟨1048765, 0, none⟩) 1 18446744073709551616, .slice (some ⟨1048989, 0, none⟩) 1 18446744073709551616]⟩)],
  1049051⟩,
  []⟩
noncomputable def ik_122D1 : List DirO := [dP 1, dX, dL, dP 1, dX, dO, dR, dO, dR, dL, dP 1, dX, dL, dP 2, dX, dO, dE 0, dO, dR, dL, dP 4, dX]
noncomputable def ik_122P1 : Option Pos := thenNavsO Tryz.prog ik_122D1 ik_12PN
noncomputable def ik_122S1 : SnapO := ⟨⟨[([(0, .bool true)], 49)],
  [],
  1049075⟩,
  []⟩
noncomputable def ik_2S0 : SnapO := ⟨⟨[([(0, .pointer (some ⟨1048580, 0, none⟩)), (5, .chan (some 1048650)), (52, .chan (some 1048819)), (53, .tuple ⟨[.bool true, .string ⟨⟨[1, 1, 6, 0, 0, 0, 0, 0, 0, 0]⟩⟩, .agg ⟨[.slice (some ⟨1048765, 0, none⟩) 1 18446744073709551616, .slice (some ⟨1048818, 0, none⟩) 1 18446744073709551616]⟩]⟩)], 102),
  ([(1, .pointer (some ⟨1048580, 0, none⟩))], 49)],
  [(1048578, ⟨1, true, [.int .i64 (.ofNat 1)]⟩),
   (1048580, ⟨0, true, [.slice (some ⟨1048578, 0, none⟩) 1 18446744073709551616, .chan (some 1048579)]⟩),
   (1048587, ⟨3, true, [.int .i64 (.ofNat 1), .int .i64 (.ofNat 1), .string ⟨⟨[]⟩⟩, .int .i64 (.ofNat 1), .int .i64 (.ofNat 5), .string ⟨⟨[]⟩⟩]⟩),
   (1048594, ⟨3, true, [.int .i64 (.ofNat 1), .int .i64 (.ofNat 2), .string ⟨⟨[]⟩⟩, .int .i64 (.ofNat 1), .int .i64 (.ofNat 5), .string ⟨⟨[]⟩⟩]⟩),
   (1048601, ⟨3, true, [.int .i64 (.ofNat 1), .int .i64 (.ofNat 3), .string ⟨⟨[]⟩⟩, .int .i64 (.ofNat 1), .int .i64 (.ofNat 6), .string ⟨⟨[]⟩⟩]⟩),
   (1048709, ⟨3, true, [.int .i64 (.ofNat 1), .int .i64 (.ofNat 5), .string ⟨⟨[]⟩⟩]⟩),
   (1048762, ⟨2, true, [.slice (some ⟨1048587, 0, none⟩) 2 18446744073709551616, .complex .f64 4607182418800017408 0, .slice (some ⟨1048594, 0, none⟩) 2 18446744073709551616, .complex .f64 4607182418800017408 0]⟩),
   (1048765, ⟨3, true, [.int .i64 (.ofNat 1), .int .i64 (.ofNat 6), .string ⟨⟨[]⟩⟩]⟩),
   (1048818, ⟨2, true, [.slice (some ⟨1048601, 0, none⟩) 2 18446744073709551616, .complex .f64 4607182418800017408 0]⟩)],
  1048820⟩,
  [(1048579, .map [] 0),
   (1048650, .map [⟨[1, 1, 5, 0, 0, 0, 0, 0, 0, 0], .agg ⟨[.slice (some ⟨1048709, 0, none⟩) 1 18446744073709551616, .slice (some ⟨1048762, 0, none⟩) 2 18446744073709551616]⟩, 0⟩, ⟨[1, 1, 6, 0, 0, 0, 0, 0, 0, 0], .agg ⟨[.slice (some ⟨1048765, 0, none⟩) 1 18446744073709551616, .slice (some ⟨1048818, 0, none⟩) 1 18446744073709551616]⟩, 1⟩] 2),
   (1048819, .iter 1048650 2 [1] 2)]⟩
noncomputable def ik_2D1 : List DirO := [dP 1, dX, dO, dT, dR, dO, dO, dG, .mop, dP 5, dX, dO, .drw false [.take 0, .take 1, .take 2, .take 3, .take 4, .take 5, .take 6, .take 7, .take 8, .go 9, .take 10, .take 11, .take 12, .take 13, .take 14], dO, dO, dR, dF, dR, dG, dP 6, .mop, dX, dO, dO, dO, dG, .mop, dP 1, dX, dO, dT, dR, dO, dO, dG, .mop, dP 5, dX, dO, .drw false [.take 0, .take 1, .take 2, .take 3, .take 4, .take 5, .take 6, .take 7, .take 8, .go 9, .take 10, .take 11, .take 12, .take 13, .take 14], dO, dO, dR, dF, dR, dG, dP 6, .mop, dX, dO, dO, dO, dG, .mop, dP 1, dX, dO, dF, dE 2, dO, dO, dG, dP 1, .mop, dX, dO, dO, dO, dG]
noncomputable def ik_2P1 : Option Pos := thenNavsO Tryz.prog ik_2D1 ikPN
noncomputable def ik_2S1 : SnapO := ⟨⟨[([(0, .pointer (some ⟨1048580, 0, none⟩)), (81, .chan (some 1048990))], 102),
  ([(1, .pointer (some ⟨1048580, 0, none⟩))], 49)],
  [(1048578, ⟨1, true, [.int .i64 (.ofNat 1)]⟩),
   (1048580, ⟨0, true, [.slice (some ⟨1048578, 0, none⟩) 1 18446744073709551616, .chan (some 1048579)]⟩),
   (1048709, ⟨3, true, [.int .i64 (.ofNat 1), .int .i64 (.ofNat 5), .string ⟨⟨[]⟩⟩]⟩),
   (1048765, ⟨3, true, [.int .i64 (.ofNat 1), .int .i64 (.ofNat 6), .string ⟨⟨[]⟩⟩]⟩),
   (1048864, ⟨3, true, [.int .i64 (.ofNat 1), .int .i64 (.ofNat 3), .string ⟨⟨[]⟩⟩, .int .i64 (.ofNat 1), .int .i64 (.ofNat 6), .string ⟨⟨[]⟩⟩]⟩),
   (1048866, ⟨2, true, [.slice (some ⟨1048864, 0, none⟩) 2 18446744073709551616, .complex .f64 4607182418800017408 0]⟩),
   (1048950, ⟨3, true, [.int .i64 (.ofNat 1), .int .i64 (.ofNat 1), .string ⟨⟨[]⟩⟩, .int .i64 (.ofNat 1), .int .i64 (.ofNat 5), .string ⟨⟨[]⟩⟩]⟩),
   (1048987, ⟨3, true, [.int .i64 (.ofNat 1), .int .i64 (.ofNat 2), .string ⟨⟨[]⟩⟩, .int .i64 (.ofNat 1), .int .i64 (.ofNat 5), .string ⟨⟨[]⟩⟩]⟩),
   (1048989, ⟨2, true, [.slice (some ⟨1048950, 0, none⟩) 2 18446744073709551616, .complex .f64 4607182418800017408 0, .slice (some ⟨1048987, 0, none⟩) 2 18446744073709551616, .complex .f64 4607182418800017408 0]⟩)],
  1048991⟩,
  [(1048579, .map [] 0),
   (1048650, .map [⟨[1, 1, 5, 0, 0, 0, 0, 0, 0, 0], .agg ⟨[.slice (some ⟨1048709, 0, none⟩) 1 18446744073709551616, .slice (some ⟨1048989, 0, none⟩) 2 18446744073709551616]⟩, 0⟩, ⟨[1, 1, 6, 0, 0, 0, 0, 0, 0, 0], .agg ⟨[.slice (some ⟨1048765, 0, none⟩) 1 18446744073709551616, .slice (some ⟨1048866, 0, none⟩) 1 18446744073709551616]⟩, 1⟩] 2),
   (1048990, .iter 1048650 2 [] 2)]⟩
noncomputable def ik_2PN : Option Pos := thenNavsO Tryz.prog [.mop] ik_2P1
noncomputable def ik_21S0 : SnapO := ⟨⟨[([(0, .pointer (some ⟨1048580, 0, none⟩)), (81, .chan (some 1048990)), (82, .tuple ⟨[.bool true, .string ⟨⟨[1, 1, 5, 0, 0, 0, 0, 0, 0, 0]⟩⟩, .agg ⟨[.slice (some ⟨1048709, 0, none⟩) 1 18446744073709551616, .slice (some ⟨1048989, 0, none⟩) 2 18446744073709551616]⟩]⟩)], 102),
  ([(1, .pointer (some ⟨1048580, 0, none⟩))], 49)],
  [(1048578, ⟨1, true, [.int .i64 (.ofNat 1)]⟩),
   (1048580, ⟨0, true, [.slice (some ⟨1048578, 0, none⟩) 1 18446744073709551616, .chan (some 1048579)]⟩),
   (1048709, ⟨3, true, [.int .i64 (.ofNat 1), .int .i64 (.ofNat 5), .string ⟨⟨[]⟩⟩]⟩),
   (1048765, ⟨3, true, [.int .i64 (.ofNat 1), .int .i64 (.ofNat 6), .string ⟨⟨[]⟩⟩]⟩),
   (1048864, ⟨3, true, [.int .i64 (.ofNat 1), .int .i64 (.ofNat 3), .string ⟨⟨[]⟩⟩, .int .i64 (.ofNat 1), .int .i64 (.ofNat 6), .string ⟨⟨[]⟩⟩]⟩),
   (1048866, ⟨2, true, [.slice (some ⟨1048864, 0, none⟩) 2 18446744073709551616, .complex .f64 4607182418800017408 0]⟩),
   (1048950, ⟨3, true, [.int .i64 (.ofNat 1), .int .i64 (.ofNat 1), .string ⟨⟨[]⟩⟩, .int .i64 (.ofNat 1), .int .i64 (.ofNat 5), .string ⟨⟨[]⟩⟩]⟩),
   (1048987, ⟨3, true, [.int .i64 (.ofNat 1), .int .i64 (.ofNat 2), .string ⟨⟨[]⟩⟩, .int .i64 (.ofNat 1), .int .i64 (.ofNat 5), .string ⟨⟨[]⟩⟩]⟩),
   (1048989, ⟨2, true, [.slice (some ⟨1048950, 0, none⟩) 2 18446744073709551616, .complex .f64 4607182418800017408 0, .slice (some ⟨1048987, 0, none⟩) 2 18446744073709551616, .complex .f64 4607182418800017408 0]⟩)],
  1048991⟩,
  [(1048579, .map [] 0),
   (1048650, .map [⟨[1, 1, 5, 0, 0, 0, 0, 0, 0, 0], .agg ⟨[.slice (some ⟨1048709, 0, none⟩) 1 18446744073709551616, .slice (some ⟨1048989, 0, none⟩) 2 18446744073709551616]⟩, 0⟩, ⟨[1, 1, 6, 0, 0, 0, 0, 0, 0, 0], .agg ⟨[.slice (some ⟨1048765, 0, none⟩) 1 18446744073709551616, .slice (some ⟨1048866, 0, none⟩) 1 18446744073709551616]⟩, 1⟩] 2),
   (1048990, .iter 1048650 2 [0] 2)]⟩
noncomputable def ik_21D1 : List DirO := [dP 1, dX, dO, dT, dR, dO, dO, dG, .mop, dP 5, dX, dO, dO, dR, dF, dR, .drw true [.take 0, .take 1, .take 2, .take 3, .take 4, .take 5, .go 6], dO, dO, dO, dG, .mop, dP 1, dX, dO, dT, dR, dO, dO, dG, .mop, dP 5, dX, dO, dO, dR, dF, dR, .drw true [.take 0, .take 1, .take 2, .take 3, .take 4, .take 5, .go 6], dO, dO, dO, dG, .mop, dP 1, dX, dO, dF, dE 4, dO, dR, dL, dP 1, dX, dO, dG, dP 6, dC 39, dO, dR, dO, .drw false [.take 0, .take 1, .take 2, .take 3, .take 4, .go 5, .go 6, .take 7, .go 8, .take 9], dL, dP 11, dC 13, dO, dR, dO, dR, dO, dO, dG, dP 1, dC 37, dO, dR, dO, dG, dP 5, dC 71, dO, dR, dO, dG, dP 1, dC 107, dO, dR, dO, dG, dP 1]
noncomputable def ik_21P1 : Option Pos := thenNavsO Tryz.prog ik_21D1 ik_2PN
noncomputable def ik_21S1 : SnapO := ⟨⟨[([(3, .func (.func 109) ⟨[]⟩ ⟨[.pointer (some ⟨1049049, 0, none⟩)]⟩)], 5),
  ([(1, .func (.func 73) ⟨[]⟩ ⟨[]⟩)], 12),
  ([], 9),
  ([(3, .slice none 0 0)], 21),
  ([(43, .bool true)], 49)],
  [(1048709, ⟨3, true, [.int .i64 (.ofNat 1), .int .i64 (.ofNat 5), .string ⟨⟨[]⟩⟩]⟩),
   (1048765, ⟨3, true, [.int .i64 (.ofNat 1), .int .i64 (.ofNat 6), .string ⟨⟨[]⟩⟩]⟩),
   (1048864, ⟨3, true, [.int .i64 (.ofNat 1), .int .i64 (.ofNat 3), .string ⟨⟨[]⟩⟩, .int .i64 (.ofNat 1), .int .i64 (.ofNat 6), .string ⟨⟨[]⟩⟩]⟩),
   (1048866, ⟨2, true, [.slice (some ⟨1048864, 0, none⟩) 2 18446744073709551616, .complex .f64 4607182418800017408 0]⟩),
   (1048950, ⟨3, true, [.int .i64 (.ofNat 1), .int .i64 (.ofNat 1), .string ⟨⟨[]⟩⟩, .int .i64 (.ofNat 1), .int .i64 (.ofNat 5), .string ⟨⟨[]⟩⟩]⟩),
   (1048987, ⟨3, true, [.int .i64 (.ofNat 1), .int .i64 (.ofNat 2), .string ⟨⟨[]⟩⟩, .int .i64 (.ofNat 1), .int .i64 (.ofNat 5), .string ⟨⟨[]⟩⟩]⟩),
   (1048989, ⟨2, true, [.slice (some ⟨1048950, 0, none⟩) 2 18446744073709551616, .complex .f64 4607182418800017408 0, .slice (some ⟨1048987, 0, none⟩) 2 18446744073709551616, .complex .f64 4607182418800017408 0]⟩),
   (1049049, ⟨0, true, [.chan (some 1048579)]⟩)],
  1049050⟩,
  [(1048579, .map [⟨[1, 1, 5, 0, 0, 0, 0, 0, 0, 0], .agg ⟨[.slice (some ⟨1048709, 0, none⟩) 1 18446744073709551616, .slice (some ⟨1048989, 0, none⟩) 2 18446744073709551616]⟩, 0⟩, ⟨[1, 1, 6, 0, 0, 0, 0, 0, 0, 0], .agg ⟨[.slice (some ⟨1048765, 0, none⟩) 1 18446744073709551616, .slice (some ⟨1048866, 0, none⟩) 1 18446744073709551616]⟩, 1⟩] 2)]⟩
noncomputable def ik_21PN : Option Pos := thenNavsO Tryz.prog [.mop] ik_21P1
noncomputable def ik_211S0 : SnapO := ⟨⟨[([(4, .slice (some ⟨1049050, 0, none⟩) 2 18446744073709551616)], 5),
  ([(1, .func (.func 73) ⟨[]⟩ ⟨[]⟩)], 12),
  ([], 9),
  ([(3, .slice none 0 0)], 21),
  ([(43, .bool true)], 49)],
  [(1048709, ⟨3, true, [.int .i64 (.ofNat 1), .int .i64 (.ofNat 5), .string ⟨⟨[]⟩⟩]⟩),
   (1048765, ⟨3, true, [.int .i64 (.ofNat 1), .int .i64 (.ofNat 6), .string ⟨⟨[]⟩⟩]⟩),
   (1048864, ⟨3, true, [.int .i64 (.ofNat 1), .int .i64 (.ofNat 3), .string ⟨⟨[]⟩⟩, .int .i64 (.ofNat 1), .int .i64 (.ofNat 6), .string ⟨⟨[]⟩⟩]⟩),
   (1048866, ⟨2, true, [.slice (some ⟨1048864, 0, none⟩) 2 18446744073709551616, .complex .f64 4607182418800017408 0]⟩),
   (1048950, ⟨3, true, [.int .i64 (.ofNat 1), .int .i64 (.ofNat 1), .string ⟨⟨[]⟩⟩, .int .i64 (.ofNat 1), .int .i64 (.ofNat 5), .string ⟨⟨[]⟩⟩]⟩),
   (1048987, ⟨3, true, [.int .i64 (.ofNat 1), .int .i64 (.ofNat 2), .string ⟨⟨[]⟩⟩, .int .i64 (.ofNat 1), .int .i64 (.ofNat 5), .string ⟨⟨[]⟩⟩]⟩),
   (1048989, ⟨2, true, [.slice (some ⟨1048950, 0, none⟩) 2 18446744073709551616, .complex .f64 4607182418800017408 0, .slice (some ⟨1048987, 0, none⟩) 2 18446744073709551616, .complex .f64 4607182418800017408 0]⟩),
   (1049050, ⟨2, true, [.slice (some ⟨1048709, 0, none⟩) 1 18446744073709551616, .slice (some ⟨1048989, 0, none⟩) 2 18446744073709551616, .slice (some ⟨1048765, 0, none⟩) 1 18446744073709551616, .slice (some ⟨1048866, 0, none⟩) 1 18446744073709551616]⟩)],
  1049051⟩,
  []⟩
noncomputable def ik_211D1 : List DirO := [dP 1, dX, dL, dP 1, dX, dO, dR, dO, dR, dL, dP 1, dX, dL, dP 2, dX, dO, dE 0, dO, dR, dL, dP 4, dX]
noncomputable def ik_211P1 : Option Pos := thenNavsO Tryz.prog ik_211D1 ik_21PN
noncomputable def ik_211S1 : SnapO := ⟨⟨[([(0, .bool true)], 49)],
  [],
  1049075⟩,
  []⟩
noncomputable def ik_212S0 : SnapO := ⟨⟨[([(4, .slice (some ⟨1049050, 0, none⟩) 2 18446744073709551616)], 5),
  ([(1, .func (.func 73) ⟨[]⟩ ⟨[]⟩)], 12),
  ([], 9),
  ([(3, .slice none 0 0)], 21),
  ([(43, .bool true)], 49)],
  [(1048709, ⟨3, true, [.int .i64 (.ofNat 1), .int .i64 (.ofNat 5), .string ⟨⟨[]⟩⟩]⟩),
   (1048765, ⟨3, true, [.int .i64 (.ofNat 1), .int .i64 (.ofNat 6), .string ⟨⟨[]⟩⟩]⟩),
   (1048864, ⟨3, true, [.int .i64 (.ofNat 1), .int .i64 (.ofNat 3), .string ⟨⟨[]⟩⟩, .int .i64 (.ofNat 1), .int .i64 (.ofNat 6), .string ⟨⟨[]⟩⟩]⟩),
   (1048866, ⟨2, true, [.slice (some ⟨1048864, 0, none⟩) 2 18446744073709551616, .complex .f64 4607182418800017408 0]⟩),
   (1048950, ⟨3, true, [.int .i64 (.ofNat 1), .int .i64 (.ofNat 1), .string ⟨⟨[]⟩⟩, .int .i64 (.ofNat 1), .int .i64 (.ofNat 5), .string ⟨⟨[]⟩⟩]⟩),
   (1048987, ⟨3, true, [.int .i64 (.ofNat 1), .int .i64 (.ofNat 2), .string ⟨⟨[]⟩⟩, .int .i64 (.ofNat 1), .int .i64 (.ofNat 5), .string ⟨⟨[]⟩⟩]⟩),
   (1048989, ⟨2, true, [.slice (some ⟨1048950, 0, none⟩) 2 18446744073709551616, .complex .f64 4607182418800017408 0, .slice (some ⟨1048987, 0, none⟩) 2 18446744073709551616, .complex .f64 4607182418800017408 0]⟩),
   (1049050, ⟨2, true, [.slice (some ⟨1048765, 0, none⟩) 1 18446744073709551616, .slice (some ⟨1048866, 0, none⟩) 1 18446744073709551616, .slice (some ⟨1048709, 0, none⟩) 1 18446744073709551616, .slice (some ⟨1048989, 0, none⟩) 2 18446744073709551616]⟩)],
  1049051⟩,
  []⟩
noncomputable def ik_212D1 : List DirO := [dP 1, dX, dL, dP 1, dX, dO, dR, dO, dR, dL, dP 1, dX, dL, dP 2, dX, dO, dE 0, dO, dR, dL, dP 4, dX]
noncomputable def ik_212P1 : Option Pos := thenNavsO Tryz.prog ik_212D1 ik_21PN
noncomputable def ik_212S1 : SnapO := ⟨⟨[([(0, .bool true)], 49)],
  [],
  1049071⟩,
  []⟩
noncomputable def ik_22S0 : SnapO := ⟨⟨[([(0, .pointer (some ⟨1048580, 0, none⟩)), (81, .chan (some 1048990)), (82, .tuple ⟨[.bool true, .string ⟨⟨[1, 1, 6, 0, 0, 0, 0, 0, 0, 0]⟩⟩, .agg ⟨[.slice (some ⟨1048765, 0, none⟩) 1 18446744073709551616, .slice (some ⟨1048866, 0, none⟩) 1 18446744073709551616]⟩]⟩)], 102),
  ([(1, .pointer (some ⟨1048580, 0, none⟩))], 49)],
  [(1048578, ⟨1, true, [.int .i64 (.ofNat 1)]⟩),
   (1048580, ⟨0, true, [.slice (some ⟨1048578, 0, none⟩) 1 18446744073709551616, .chan (some 1048579)]⟩),
   (1048709, ⟨3, true, [.int .i64 (.ofNat 1), .int .i64 (.ofNat 5), .string ⟨⟨[]⟩⟩]⟩),
   (1048765, ⟨3, true, [.int .i64 (.ofNat 1), .int .i64 (.ofNat 6), .string ⟨⟨[]⟩⟩]⟩),
   (1048864, ⟨3, true, [.int .i64 (.ofNat 1), .int .i64 (.ofNat 3), .string ⟨⟨[]⟩⟩, .int .i64 (.ofNat 1), .int .i64 (.ofNat 6), .string ⟨⟨[]⟩⟩]⟩),
   (1048866, ⟨2, true, [.slice (some ⟨1048864, 0, none⟩) 2 18446744073709551616, .complex .f64 4607182418800017408 0]⟩),
   (1048950, ⟨3, true, [.int .i64 (.ofNat 1), .int .i64 (.ofNat 1), .string ⟨⟨[]⟩⟩, .int .i64 (.ofNat 1), .int .i64 (.ofNat 5), .string ⟨⟨[]⟩⟩]⟩),
   (1048987, ⟨3, true, [.int .i64 (.ofNat 1), .int .i64 (.ofNat 2), .string ⟨⟨[]⟩⟩, .int .i64 (.ofNat 1), .int .i64 (.ofNat 5), .string ⟨⟨[]⟩⟩]⟩),
   (1048989, ⟨2, true, [.slice (some ⟨1048950, 0, none⟩) 2 18446744073709551616, .complex .f64 4607182418800017408 0, .slice (some ⟨1048987, 0, none⟩) 2 18446744073709551616, .complex .f64 4607182418800017408 0]⟩)],
  1048991⟩,
  [(1048579, .map [] 0),
   (1048650, .map [⟨[1, 1, 5, 0, 0, 0, 0, 0, 0, 0], .agg ⟨[.slice (some ⟨1048709, 0, none⟩) 1 18446744073709551616, .slice (some ⟨1048989, 0, none⟩) 2 18446744073709551616]⟩, 0⟩, ⟨[1, 1, 6, 0, 0, 0, 0, 0, 0, 0], .agg ⟨[.slice (some ⟨1048765, 0, none⟩) 1 18446744073709551616, .slice (some ⟨1048866, 0, none⟩) 1 18446744073709551616]⟩, 1⟩] 2),
   (1048990, .iter 1048650 2 [1] 2)]⟩
noncomputable def ik_22D1 : List DirO := [dP 1, dX, dO, dT, dR, dO, dO, dG, .mop, dP 5, dX, dO, dO, dR, dF, dR, .drw true [.take 0, .take 1, .take 2, .take 3, .take 4, .take 5, .go 6], dO, dO, dO, dG, .mop, dP 1, dX, dO, dT, dR, dO, dO, dG, .mop, dP 5, dX, dO, dO, dR, dF, dR, .drw true [.take 0, .take 1, .take 2, .take 3, .take 4, .take 5, .go 6], dO, dO, dO, dG, .mop, dP 1, dX, dO, dF, dE 4, dO, dR, dL, dP 1, dX, dO, dG, dP 6, dC 39, dO, dR, dO, .drw false [.take 0, .take 1, .take 2, .take 3, .take 4, .go 5, .go 6, .take 7, .go 8, .take 9], dL, dP 11, dC 13, dO, dR, dO, dR, dO, dO, dG, dP 1, dC 37, dO, dR, dO, dG, dP 5, dC 71, dO, dR, dO, dG, dP 1, dC 107, dO, dR, dO, dG, dP 1]
noncomputable def ik_22P1 : Option Pos := thenNavsO Tryz.prog ik_22D1 ik_2PN
noncomputable def ik_22S1 : SnapO := ⟨⟨[([(3, .func (.func 109) ⟨[]⟩ ⟨[.pointer (some ⟨1049049, 0, none⟩)]⟩)], 5),
  ([(1, .func (.func 73) ⟨[]⟩ ⟨[]⟩)], 12),
  ([], 9),
  ([(3, .slice none 0 0)], 21),
  ([(43, .bool true)], 49)],
  [(1048709, ⟨3, true, [.int .i64 (.ofNat 1), .int .i64 (.ofNat 5), .string ⟨⟨[]⟩⟩]⟩),
   (1048765, ⟨3, true, [.int .i64 (.ofNat 1), .int .i64 (.ofNat 6), .string ⟨⟨[]⟩⟩]⟩),
   (1048864, ⟨3, true, [.int .i64 (.ofNat 1), .int .i64 (.ofNat 3), .string ⟨⟨[]⟩⟩, .int .i64 (.ofNat 1), .int .i64 (.ofNat 6), .string ⟨⟨[]⟩⟩]⟩),
   (1048866, ⟨2, true, [.slice (some ⟨1048864, 0, none⟩) 2 18446744073709551616, .complex .f64 4607182418800017408 0]⟩),
   (1048950, ⟨3, true, [.int .i64 (.ofNat 1), .int .i64 (.ofNat 1), .string ⟨⟨[]⟩⟩, .int .i64 (.ofNat 1), .int .i64 (.ofNat 5), .string ⟨⟨[]⟩⟩]⟩),
   (1048987, ⟨3, true, [.int .i64 (.ofNat 1), .int .i64 (.ofNat 2), .string ⟨⟨[]⟩⟩, .int .i64 (.ofNat 1), .int .i64 (.ofNat 5), .string ⟨⟨[]⟩⟩]⟩),
   (1048989, ⟨2, true, [.slice (some ⟨1048950, 0, none⟩) 2 18446744073709551616, .complex .f64 4607182418800017408 0, .slice (some ⟨1048987, 0, none⟩) 2 18446744073709551616, .complex .f64 4607182418800017408 0]⟩),
   (1049049, ⟨0, true, [.chan (some 1048579)]⟩)],
  1049050⟩,
  [(1048579, .map [⟨[1, 1, 6, 0, 0, 0, 0, 0, 0, 0], .agg ⟨[.slice (some ⟨1048765, 0, none⟩) 1 18446744073709551616, .slice (some ⟨1048866, 0, none⟩) 1 18446744073709551616]⟩, 0⟩, ⟨[1, 1, 5, 0, 0, 0, 0, 0, 0, 0], .agg ⟨[.slice (some ⟨1048709, 0, none⟩) 1 18446744073709551616, .slice (some ⟨1048989, 0, none⟩) 2 18446744073709551616]⟩, 1⟩] 2)]⟩
noncomputable def ik_22PN : Option Pos := thenNavsO Tryz.prog [.mop] ik_22P1
noncomputable def ik_221S0 : SnapO := ⟨⟨[([(4, .slice (some ⟨1049050, 0, none⟩) 2 18446744073709551616)], 5),
  ([(1, .func (.func 73) ⟨[]⟩ ⟨[]⟩)], 12),
  ([], 9),
  ([(3, .slice none 0 0)], 21),
  ([(43, .bool true)], 49)],
  [(1048709, ⟨3, true, [.int .i64 (.ofNat 1), .int .i64 (.ofNat 5), .string ⟨⟨[]⟩⟩]⟩),
   (1048765, ⟨3, true, [.int .i64 (.ofNat 1), .int .i64 (.ofNat 6), .string ⟨⟨[]⟩⟩]⟩),
   (1048864, ⟨3, true, [.int .i64 (.ofNat 1), .int .i64 (.ofNat 3), .string ⟨⟨[]⟩⟩, .int .i64 (.ofNat 1), .int .i64 (.ofNat 6), .string ⟨⟨[]⟩⟩]⟩),
   (1048866, ⟨2, true, [.slice (some ⟨1048864, 0, none⟩) 2 18446744073709551616, .complex .f64 4607182418800017408 0]⟩),
   (1048950, ⟨3, true, [.int .i64 (.ofNat 1), .int .i64 (.ofNat 1), .string ⟨⟨[]⟩⟩, .int .i64 (.ofNat 1), .int .i64 (.ofNat 5), .string ⟨⟨[]⟩⟩]⟩),
   (1048987, ⟨3, true, [.int .i64 (.ofNat 1), .int .i64 (.ofNat 2), .string ⟨⟨[]⟩⟩, .int .i64 (.ofNat 1), .int .i64 (.ofNat 5), .string ⟨⟨[]⟩⟩]⟩),
   (1048989, ⟨2, true, [.slice (some ⟨1048950, 0, none⟩) 2 18446744073709551616, .complex .f64 4607182418800017408 0, .slice (some ⟨1048987, 0, none⟩) 2 18446744073709551616, .complex .f64 4607182418800017408 0]⟩),
   (1049050, ⟨2, true, [.slice (some ⟨1048765, 0, none⟩) 1 18446744073709551616, .slice (some ⟨1048866, 0, none⟩) 1 18446744073709551616, .slice (some ⟨1048709, 0, none⟩) 1 18446744073709551616, .slice (some ⟨1048989, 0, none⟩) 2 18446744073709551616]⟩)],
  1049051⟩,
  []⟩
noncomputable def ik_221D1 : List DirO := [dP 1, dX, dL, dP 1, dX, dO, dR, dO, dR, dL, dP 1, dX, dL, dP 2, dX, dO, dE 0, dO, dR, dL, dP 4, dX]
noncomputable def ik_221P1 : Option Pos := thenNavsO Tryz.prog ik_221D1 ik_22PN
noncomputable def ik_221S1 : SnapO := ⟨⟨[([(0, .bool true)], 49)],
  [],
  1049071⟩,
  []⟩
noncomputable def ik_222S0 : SnapO := ⟨⟨[([(4, .slice (some ⟨1049050, 0, none⟩) 2 18446744073709551616)], 5),
  ([(1, .func (.func 73) ⟨[]⟩ ⟨[]⟩)], 12),
  ([], 9),
  ([(3, .slice none 0 0)], 21),
  ([(43, .bool true)], 49)],
  [(1048709, ⟨3, true, [.int .i64 (.ofNat 1), .int .i64 (.ofNat 5), .string ⟨⟨[]⟩⟩]⟩),
   (1048765, ⟨3, true, [.int .i64 (.ofNat 1), .int .i64 (.ofNat 6), .string ⟨⟨[]⟩⟩]⟩),
   (1048864, ⟨3, true, [.int .i64 (.ofNat 1), .int .i64 (.ofNat 3), .string ⟨⟨[]⟩⟩, .int .i64 (.ofNat 1), .int .i64 (.ofNat 6), .string ⟨⟨[]⟩⟩]⟩),
   (1048866, ⟨2, true, [.slice (some ⟨1048864, 0, none⟩) 2 18446744073709551616, .complex .f64 4607182418800017408 0]⟩),
   (1048950, ⟨3, true, [.int .i64 (.ofNat 1), .int .i64 (.ofNat 1), .string ⟨⟨[]⟩⟩, .int .i64 (.ofNat 1), .int .i64 (.ofNat 5), .string ⟨⟨[]⟩⟩]⟩),
   (1048987, ⟨3, true, [.int .i64 (.ofNat 1), .int .i64 (.ofNat 2), .string ⟨⟨[]⟩⟩, .int .i64 (.ofNat 1), .int .i64 (.ofNat 5), .string ⟨⟨[]⟩⟩]⟩),
   (1048989, ⟨2, true, [.slice (some ⟨1048950, 0, none⟩) 2 18446744073709551616, .complex .f64 4607182418800017408 0, .slice (some ⟨1048987, 0, none⟩) 2 18446744073709551616, .complex .f64 4607182418800017408 0]⟩),
   (1049050, ⟨2, true, [.slice (some ⟨1048709, 0, none⟩) 1 18446744073709551616, .slice (some ⟨1048989, 0, none⟩) 2 18446744073709551616, .slice (some ⟨1048765, 0, none⟩) 1 18446744073709551616, .slice (some ⟨1048866, 0, none⟩) 1 18446744073709551616]⟩)],
  1049051⟩,
  []⟩
noncomputable def ik_222D1 : List DirO := [dP 1, dX, dL, dP 1, dX, dO, dR, dO, dR, dL, dP 1, dX, dL, dP 2, dX, dO, dE 0, dO, dR, dL, dP 4, dX]
noncomputable def ik_222P1 : Option Pos := thenNavsO Tryz.prog ik_222D1 ik_22PN
noncomputable def ik_222S1 : SnapO := ⟨⟨[([(0, .bool true)], 49)],
  [],
  1049075⟩,
  []⟩
end Go.Proofs.YtloolljoelngcaaGreat
