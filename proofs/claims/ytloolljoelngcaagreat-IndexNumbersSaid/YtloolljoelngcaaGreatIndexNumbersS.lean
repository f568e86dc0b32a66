/-
  IndexNumbers: states between pieces of its run.
-/
import Derived.Test.YtloolljoelngcaaGreatKeysIn
import Derived.Test.YtloolljoelngcaaGreatSeqIn
import Derived.Test.YtloolljoelngcaaGreatChecked
namespace Go.Proofs.YtloolljoelngcaaGreat
open Go.RowKit
set_option maxRecDepth 1000000
noncomputable def ixnFn : Func := match Tryz.prog.funcs[3]? with
  | some fn => fn
  | none => default
noncomputable def ixnBody : Code := match ixnFn.body with
  | some c => c
  | none => .skip
noncomputable def ixnP0 : Option Pos := some [(3, [.code ixnBody])]
noncomputable def ixnS0 : SnapO := ⟨ofSnap (start ixnFn), []⟩
noncomputable def ixnD1 : List DirO := [dO, dR, dO, dR, dO, dR, dO, dR, dO, dG, dP 1, dC 5, dO, dR, dO, dO, dR, dF, dR, dO, dG, dP 2, .mop, dP 4, dX, dL, dP 5, dX, dO, dO, dR, dF, dR, dO, dR, dO, dG, dP 1, dC 5, dO, dR, dO, dO, dR, dF, dR, dO, dG, dP 2, .mop, dP 4, dX, dL, dP 5, dX, dO, dO, dR, dF, dR, dO, dG, dP 4, dC 6, dO, dR, dO, dO, dR, dF, dR, dO, dG, .mop, dP 1, dX, dO, dO, dR, dO, dL, dP 1, dX, dO, dR, dO, dG]
noncomputable def ixnP1 : Option Pos := thenNavsO Tryz.prog ixnD1 ixnP0
noncomputable def ixnS1 : SnapO := ⟨⟨[([(2, .int .i64 (.ofNat 1)), (4, .int .i64 (.ofNat 1)), (6, .int .i64 (.ofNat 1)), (7, .pointer (some ⟨1048582, 0, none⟩)), (9, .int .i64 (.ofNat 1)), (12, .int .i64 (.ofNat 1)), (13, .slice (some ⟨1048610, 0, none⟩) 1 1)], 131)],
  [(1048580, ⟨1, true, [.int .i64 (.ofNat 0)]⟩),
   (1048582, ⟨0, true, [.slice (some ⟨1048580, 0, none⟩) 1 18446744073709551616, .chan (some 1048581)]⟩),
   (1048609, ⟨3, true, [.int .i64 (.ofNat 1), .int .i64 (.ofNat 1), .string ⟨⟨[]⟩⟩]⟩),
   (1048610, ⟨2, true, [.slice (some ⟨1048609, 0, none⟩) 1 18446744073709551616, .complex .f64 4832362400168542208 0]⟩)],
  1048611⟩,
  [(1048581, .map [] 0)]⟩
noncomputable def ixnD2 : List DirO := [dP 2, dC 6, dO, dR, dO, dO, dR, dF, dR, dO, dG, .mop, dP 1, dX, dO, dO, dR, dO, dO, dO, dR, dO, dT, dR, dO, dO, dO, dR, dO, dR, dO, dO, dR, dF, dR, dO, dG, dP 3, .mop, dP 2, dX, .pop, dO, dR, dO, dO, dR, dO, dF, dE 0, dO, dO, dG, dP 1, .mop, dX, dO, dO, dO, dG, .mop, dP 1, dX, dO, dT, dR, dO, dO, dG, .mop, dP 5, dX, dO, .drw false [.take 0, .take 1, .take 2, .take 3, .take 4, .take 5, .take 6, .take 7, .take 8, .go 9, .take 10, .take 11, .take 12, .take 13, .take 14], dO, dO, dR, dF, dR, dG, dP 6, .mop, dX, dO, dO, dO, dG, .mop, dP 1, dX, dO, dF, dE 2, dO, dO, dG, dP 1, .mop, dX, dO, dO, dO, dG, .mop, dP 1, dX, dO, dT, dR, dO, dO, dG, .mop, dP 5, dX, dO, dO, dR, dF, dR, .drw true [.take 0, .take 1, .take 2, .take 3, .take 4, .take 5, .go 6], dO, dO, dO, dG, .mop, dP 1, dX, dO, dF, dE 4, dO, dR, dL, dX, dO, dG, dP 3]
noncomputable def ixnP2 : Option Pos := thenNavsO Tryz.prog ixnD2 ixnP1
noncomputable def ixnS2 : SnapO := ⟨⟨[([(2, .int .i64 (.ofNat 1)), (4, .int .i64 (.ofNat 1)), (6, .int .i64 (.ofNat 1)), (7, .pointer (some ⟨1048582, 0, none⟩)), (9, .int .i64 (.ofNat 1)), (12, .int .i64 (.ofNat 1)), (13, .slice (some ⟨1048610, 0, none⟩) 1 1), (68, .pointer (some ⟨1048582, 0, none⟩)), (70, .slice (some ⟨1048706, 0, none⟩) 1 18446744073709551616)], 131)],
  [(1048580, ⟨1, true, [.int .i64 (.ofNat 0)]⟩),
   (1048582, ⟨0, true, [.slice (some ⟨1048580, 0, none⟩) 1 18446744073709551616, .chan (some 1048581)]⟩),
   (1048609, ⟨3, true, [.int .i64 (.ofNat 1), .int .i64 (.ofNat 1), .string ⟨⟨[]⟩⟩]⟩),
   (1048610, ⟨2, true, [.slice (some ⟨1048609, 0, none⟩) 1 18446744073709551616, .complex .f64 4832362400168542208 0]⟩),
   (1048617, ⟨3, true, [.int .i64 (.ofNat 1), .int .i64 (.ofNat 1), .string ⟨⟨[]⟩⟩]⟩),
   (1048698, ⟨3, true, [.int .i64 (.ofNat 1), .int .i64 (.ofNat 1), .string ⟨⟨[]⟩⟩]⟩),
   (1048700, ⟨2, true, [.slice (some ⟨1048698, 0, none⟩) 1 18446744073709551616, .complex .f64 4832362400168542208 0]⟩),
   (1048706, ⟨3, true, [.int .i64 (.ofNat 1), .int .i64 (.ofNat 1), .string ⟨⟨[]⟩⟩]⟩)],
  1048707⟩,
  [(1048581, .map [⟨[1, 1, 1, 0, 0, 0, 0, 0, 0, 0], .agg ⟨[.slice (some ⟨1048617, 0, none⟩) 1 18446744073709551616, .slice (some ⟨1048700, 0, none⟩) 1 18446744073709551616]⟩, 0⟩] 1)]⟩
noncomputable def ixnD3 : List DirO := [dP 1, dC 6, dO, dR, dO, dO, dR, dF, dR, dO, dG, .mop, dP 1, dX, dO, dO, dR, dO, dO, dO, dR, dO, dT, dR, dO, dO, dO, dR, dO, dR, dO, dO, dR, dF, dR, dO, dG, dP 3, .mop, dP 2, dX, .pop, dO, dR, dO, dO, dR, dO, dF, dE 0, dO, dO, dG, dP 1, .mop, dX, dO, dO, dO, dG, .mop, dP 1, dX, dO, dT, dR, dO, dO, dG, .mop, dP 5, dX, dO, .drw false [.take 0, .take 1, .take 2, .take 3, .take 4, .take 5, .take 6, .take 7, .take 8, .go 9, .take 10, .take 11, .take 12, .take 13, .take 14], dO, dO, dR, dT, dO, dR, dL, dP 1, dX, dO, dG, dP 1, dC 9, dO, dR, dO, dR, dO, dO, dG, dP 4, .mop, dX, dO, dO, dO, dG, .mop, dP 1, dX, dO, dT, dR, dO, dO, dG, .mop, dP 3, dX, dR, dO, dO, dO, dG, .mop, dP 1, dX, dO, dF, dE 0, dO, dR]
noncomputable def ixnP3 : Option Pos := thenNavsO Tryz.prog ixnD3 ixnP2
noncomputable def ixnS3 : SnapO := ⟨⟨[([(6, .slice (some ⟨1048854, 0, none⟩) 1 18446744073709551616)], 27),
  ([(2, .int .i64 (.ofNat 1)), (4, .int .i64 (.ofNat 1)), (6, .int .i64 (.ofNat 1)), (7, .pointer (some ⟨1048582, 0, none⟩)), (9, .int .i64 (.ofNat 1)), (12, .int .i64 (.ofNat 1)), (13, .slice (some ⟨1048610, 0, none⟩) 1 1), (14, .int .i64 (.ofNat 27))], 131)],
  [(1048580, ⟨1, true, [.int .i64 (.ofNat 0)]⟩),
   (1048582, ⟨0, true, [.slice (some ⟨1048580, 0, none⟩) 1 18446744073709551616, .chan (some 1048581)]⟩),
   (1048609, ⟨3, true, [.int .i64 (.ofNat 1), .int .i64 (.ofNat 1), .string ⟨⟨[]⟩⟩]⟩),
   (1048610, ⟨2, true, [.slice (some ⟨1048609, 0, none⟩) 1 18446744073709551616, .complex .f64 4832362400168542208 0]⟩),
   (1048617, ⟨3, true, [.int .i64 (.ofNat 1), .int .i64 (.ofNat 1), .string ⟨⟨[]⟩⟩]⟩),
   (1048698, ⟨3, true, [.int .i64 (.ofNat 1), .int .i64 (.ofNat 1), .string ⟨⟨[]⟩⟩]⟩),
   (1048700, ⟨2, true, [.slice (some ⟨1048698, 0, none⟩) 1 18446744073709551616, .complex .f64 4832362400168542208 0]⟩),
   (1048852, ⟨3, true, [.int .i64 (.ofNat 1), .int .i64 (.ofNat 1), .string ⟨⟨[]⟩⟩]⟩),
   (1048854, ⟨2, true, [.slice (some ⟨1048852, 0, none⟩) 1 18446744073709551616, .complex .f64 4832362400168542208 0]⟩)],
  1048855⟩,
  [(1048581, .map [⟨[1, 1, 1, 0, 0, 0, 0, 0, 0, 0], .agg ⟨[.slice (some ⟨1048617, 0, none⟩) 1 18446744073709551616, .slice (some ⟨1048700, 0, none⟩) 1 18446744073709551616]⟩, 0⟩] 1)]⟩
noncomputable def ixnD4 : List DirO := [dO, dR, dL, dP 1, dX, dO, dG, dP 3, dC 6, dO, dR, dO, dO, dR, dF, dR, dO, dG, .mop, dP 1, dX, dO, dO, dR, dO, dO, dO, dR, dO, dT, dR, dO, dO, dO, dR, dO, dR, dO, dO, dR, dF, dR, dO, dG, dP 3, .mop, dP 2, dX, .pop, dO, dR, dO, dO, dR, dO, dF, dE 0, dO, dO, dG, dP 1, .mop, dX, dO, dO, dO, dG, .mop, dP 1, dX, dO, dT, dR, dO, dO, dG, .mop, dP 5, dX, dO, .drw false [.take 0, .take 1, .take 2, .take 3, .take 4, .take 5, .take 6, .take 7, .take 8, .go 9, .take 10, .take 11, .take 12, .take 13, .take 14]]
noncomputable def ixnP4 : Option Pos := thenNavsO Tryz.prog ixnD4 ixnP3
noncomputable def ixnS4 : SnapO := ⟨⟨[([(0, .pointer (some ⟨1048582, 0, none⟩)), (5, .chan (some 1048867)), (11, .string ⟨⟨[1, 1, 1, 0, 0, 0, 0, 0, 0, 0]⟩⟩), (12, .pointer (some ⟨1048925, 0, none⟩)), (13, .slice none 0 0), (14, .int .i64 (.ofNat 0)), (52, .chan (some 1048924))], 102),
  ([(2, .int .i64 (.ofNat 1)), (4, .int .i64 (.ofNat 1)), (6, .int .i64 (.ofNat 1)), (7, .pointer (some ⟨1048582, 0, none⟩)), (9, .int .i64 (.ofNat 1)), (12, .int .i64 (.ofNat 1)), (13, .slice (some ⟨1048610, 0, none⟩) 1 1), (14, .int .i64 (.ofNat 27)), (15, .slice (some ⟨1048854, 0, none⟩) 1 18446744073709551616)], 131)],
  [(1048580, ⟨1, true, [.int .i64 (.ofNat 0)]⟩),
   (1048582, ⟨0, true, [.slice (some ⟨1048580, 0, none⟩) 1 18446744073709551616, .chan (some 1048581)]⟩),
   (1048609, ⟨3, true, [.int .i64 (.ofNat 1), .int .i64 (.ofNat 1), .string ⟨⟨[]⟩⟩]⟩),
   (1048610, ⟨2, true, [.slice (some ⟨1048609, 0, none⟩) 1 18446744073709551616, .complex .f64 4832362400168542208 0]⟩),
   (1048617, ⟨3, true, [.int .i64 (.ofNat 1), .int .i64 (.ofNat 1), .string ⟨⟨[]⟩⟩]⟩),
   (1048698, ⟨3, true, [.int .i64 (.ofNat 1), .int .i64 (.ofNat 1), .string ⟨⟨[]⟩⟩]⟩),
   (1048700, ⟨2, true, [.slice (some ⟨1048698, 0, none⟩) 1 18446744073709551616, .complex .f64 4832362400168542208 0]⟩),
   (1048852, ⟨3, true, [.int .i64 (.ofNat 1), .int .i64 (.ofNat 1), .string ⟨⟨[]⟩⟩]⟩),
   (1048854, ⟨2, true, [.slice (some ⟨1048852, 0, none⟩) 1 18446744073709551616, .complex .f64 4832362400168542208 0]⟩),
   (1048861, ⟨3, true, [.int .i64 (.ofNat 1), .int .i64 (.ofNat 1), .string ⟨⟨[]⟩⟩]⟩),
   (1048870, ⟨3, true, [.int .i64 (.ofNat 1), .int .i64 (.ofNat 1), .string ⟨⟨[]⟩⟩]⟩),
   (1048923, ⟨2, true, [.slice (some ⟨1048861, 0, none⟩) 1 18446744073709551616, .complex .f64 0 4832362400168542208]⟩),
   (1048925, ⟨0, true, [.slice (some ⟨1048870, 0, none⟩) 1 18446744073709551616, .slice (some ⟨1048923, 0, none⟩) 1 18446744073709551616]⟩)],
  1048982⟩,
  [(1048581, .map [⟨[1, 1, 1, 0, 0, 0, 0, 0, 0, 0], .agg ⟨[.slice (some ⟨1048617, 0, none⟩) 1 18446744073709551616, .slice (some ⟨1048700, 0, none⟩) 1 18446744073709551616]⟩, 0⟩] 1),
   (1048867, .map [⟨[1, 1, 1, 0, 0, 0, 0, 0, 0, 0], .agg ⟨[.slice (some ⟨1048870, 0, none⟩) 1 18446744073709551616, .slice (some ⟨1048923, 0, none⟩) 1 18446744073709551616]⟩, 0⟩] 1),
   (1048924, .iter 1048867 1 [0] 1)]⟩
noncomputable def ixnD5 : List DirO := [dO, dO, dR, dF, dR, dG, dP 6, .mop, dX, dO, dO, dO, dG, .mop, dP 1, dX, dO, dF, dE 2, dO, dO, dG, dP 1, .mop, dX, dO, dO, dO, dG, .mop, dP 1, dX, dO, dT, dR, dO, dO, dG, .mop, dP 5, dX, dO, dO, dR, dT, dO, dG, dP 5, .mop, dX, dE 5, dO, dO, dG, .mop, dP 1, dX, dO, dF, dE 4, dO, dR, dL, dX, dO, dR, dO, dG, dP 29, dC 9, dO, dR, dO, dR, dO, dO, dG, dP 4, .mop, dX, dO, dO, dO, dG, .mop, dP 1, dX, dO, dF, dE 0, dO, dR, dO, dR, dL, dP 5, dC 13, dO, dR, dO, dR, dO, dO, dG, dP 1, dC 37, dO, dR, dO, dG, dP 5, dC 71, dO, dR, dO, dG, dP 1, dC 107, dO, dR, dO, dG, dP 1]
noncomputable def ixnP5 : Option Pos := thenNavsO Tryz.prog ixnD5 ixnP4
noncomputable def ixnS5 : SnapO := ⟨⟨[([(3, .func (.func 109) ⟨[]⟩ ⟨[.pointer (some ⟨1049209, 0, none⟩)]⟩)], 5),
  ([(1, .func (.func 73) ⟨[]⟩ ⟨[]⟩)], 12),
  ([], 9),
  ([(3, .slice none 0 0)], 21),
  ([(17, .int .i64 (.ofNat 12)), (118, .bool true)], 131)],
  [(1049209, ⟨0, true, [.chan (some 1048581)]⟩)],
  1049210⟩,
  [(1048581, .map [] 1)]⟩
noncomputable def ixnPN : Option Pos := thenNavsO Tryz.prog [.mop] ixnP5
noncomputable def ixn_1S0 : SnapO := ⟨⟨[([(4, .slice none 0 0)], 5),
  ([(1, .func (.func 73) ⟨[]⟩ ⟨[]⟩)], 12),
  ([], 9),
  ([(3, .slice none 0 0)], 21),
  ([(17, .int .i64 (.ofNat 12)), (118, .bool true)], 131)],
  [],
  1049210⟩,
  []⟩
noncomputable def ixn_1D1 : List DirO := [dP 1, dX, dL, dP 1, dX, dO, dR, dO, dR, dL, dP 1, dX, dL, dP 2, dX, dO, dE 0, dO, dR, dL, dP 8, dC 14, dO, dR, dO, dG, dP 1, dC 5, dO, dR, dO, dO, dR, dF, dR, dO, dG, dP 2, .mop, dP 4, dX, dL, dP 5, dX, dO, dO, dR, dF, dR, dO, dG, dP 11, dC 6, dO, dR, dO, dO, dR]
noncomputable def ixn_1P1 : Option Pos := thenNavsO Tryz.prog ixn_1D1 ixnPN
noncomputable def ixn_1S1 : SnapO := ⟨⟨[([(0, .pointer (some ⟨1049214, 0, none⟩)), (1, .slice (some ⟨1049236, 0, none⟩) 3 3), (19, .bool false)], 102),
  ([(1, .pointer (some ⟨1049214, 0, none⟩))], 49),
  ([(128, .bool true)], 131)],
  [(1049212, ⟨1, true, [.int .i64 (.ofNat 1)]⟩),
   (1049214, ⟨0, true, [.slice (some ⟨1049212, 0, none⟩) 1 18446744073709551616, .chan (some 1049213)]⟩),
   (1049221, ⟨3, true, [.int .i64 (.ofNat 1), .int .i64 (.ofNat 1), .string ⟨⟨[]⟩⟩, .int .i64 (.ofNat 1), .int .i64 (.ofNat 5), .string ⟨⟨[]⟩⟩]⟩),
   (1049228, ⟨3, true, [.int .i64 (.ofNat 1), .int .i64 (.ofNat 2), .string ⟨⟨[]⟩⟩, .int .i64 (.ofNat 1), .int .i64 (.ofNat 5), .string ⟨⟨[]⟩⟩]⟩),
   (1049235, ⟨3, true, [.int .i64 (.ofNat 1), .int .i64 (.ofNat 3), .string ⟨⟨[]⟩⟩, .int .i64 (.ofNat 1), .int .i64 (.ofNat 6), .string ⟨⟨[]⟩⟩]⟩),
   (1049236, ⟨2, true, [.slice (some ⟨1049221, 0, none⟩) 2 18446744073709551616, .complex .f64 4607182418800017408 0, .slice (some ⟨1049228, 0, none⟩) 2 18446744073709551616, .complex .f64 4607182418800017408 0, .slice (some ⟨1049235, 0, none⟩) 2 18446744073709551616, .complex .f64 4607182418800017408 0]⟩)],
  1049284⟩,
  [(1049213, .map [] 0)]⟩
noncomputable def ixn_1D2 : List DirO := [dF, dR, dO, dG, .mop, dP 1, dX, dO, dO, dR, dO, dO, dO, dR, dO, dT, dR, dO, dO, dO, dR, dO, dR, dO, dO, dR, dF, dR, dO, dG, dP 3, .mop, dP 2, dX, .pop, dO, dR, dO, dO, dR, dO, dT, dR, dO, dO, dO, dR, dO, dR, dO, dO, dR, dF, dR, dO, dG, dP 3, .mop, dP 2, dX, .pop, dO, dR, dO, dO, dR, dO, dT, dR, dO, dO, dO, dR, dO, dR, dO, dO, dR, dF, dR, dO, dG, dP 3, .mop, dP 2, dX, .pop, dO, dR, dO, dO, dR, dO, dF, dE 0, dO, dO, dG, dP 1, .mop, dX, dO, dO, dO, dG]
noncomputable def ixn_1P2 : Option Pos := thenNavsO Tryz.prog ixn_1D2 ixn_1P1
noncomputable def ixn_1S2 : SnapO := ⟨⟨[([(0, .pointer (some ⟨1049214, 0, none⟩)), (5, .chan (some 1049284)), (52, .chan (some 1049453))], 102),
  ([(1, .pointer (some ⟨1049214, 0, none⟩))], 49),
  ([(128, .bool true)], 131)],
  [(1049212, ⟨1, true, [.int .i64 (.ofNat 1)]⟩),
   (1049214, ⟨0, true, [.slice (some ⟨1049212, 0, none⟩) 1 18446744073709551616, .chan (some 1049213)]⟩),
   (1049221, ⟨3, true, [.int .i64 (.ofNat 1), .int .i64 (.ofNat 1), .string ⟨⟨[]⟩⟩, .int .i64 (.ofNat 1), .int .i64 (.ofNat 5), .string ⟨⟨[]⟩⟩]⟩),
   (1049228, ⟨3, true, [.int .i64 (.ofNat 1), .int .i64 (.ofNat 2), .string ⟨⟨[]⟩⟩, .int .i64 (.ofNat 1), .int .i64 (.ofNat 5), .string ⟨⟨[]⟩⟩]⟩),
   (1049235, ⟨3, true, [.int .i64 (.ofNat 1), .int .i64 (.ofNat 3), .string ⟨⟨[]⟩⟩, .int .i64 (.ofNat 1), .int .i64 (.ofNat 6), .string ⟨⟨[]⟩⟩]⟩),
   (1049343, ⟨3, true, [.int .i64 (.ofNat 1), .int .i64 (.ofNat 5), .string ⟨⟨[]⟩⟩]⟩),
   (1049396, ⟨2, true, [.slice (some ⟨1049221, 0, none⟩) 2 18446744073709551616, .complex .f64 4607182418800017408 0, .slice (some ⟨1049228, 0, none⟩) 2 18446744073709551616, .complex .f64 4607182418800017408 0]⟩),
   (1049399, ⟨3, true, [.int .i64 (.ofNat 1), .int .i64 (.ofNat 6), .string ⟨⟨[]⟩⟩]⟩),
   (1049452, ⟨2, true, [.slice (some ⟨1049235, 0, none⟩) 2 18446744073709551616, .complex .f64 4607182418800017408 0]⟩)],
  1049454⟩,
  [(1049213, .map [] 0),
   (1049284, .map [⟨[1, 1, 5, 0, 0, 0, 0, 0, 0, 0], .agg ⟨[.slice (some ⟨1049343, 0, none⟩) 1 18446744073709551616, .slice (some ⟨1049396, 0, none⟩) 2 18446744073709551616]⟩, 0⟩, ⟨[1, 1, 6, 0, 0, 0, 0, 0, 0, 0], .agg ⟨[.slice (some ⟨1049399, 0, none⟩) 1 18446744073709551616, .slice (some ⟨1049452, 0, none⟩) 1 18446744073709551616]⟩, 1⟩] 2),
   (1049453, .iter 1049284 2 [] 2)]⟩
noncomputable def ixn_1PN : Option Pos := thenNavsO Tryz.prog [.mop] ixn_1P2
noncomputable def ixn_11S0 : SnapO := ⟨⟨[([(0, .pointer (some ⟨1049214, 0, none⟩)), (5, .chan (some 1049284)), (52, .chan (some 1049453)), (53, .tuple ⟨[.bool true, .string ⟨⟨[1, 1, 5, 0, 0, 0, 0, 0, 0, 0]⟩⟩, .agg ⟨[.slice (some ⟨1049343, 0, none⟩) 1 18446744073709551616, .slice (some ⟨1049396, 0, none⟩) 2 18446744073709551616]⟩]⟩)], 102),
  ([(1, .pointer (some ⟨1049214, 0, none⟩))], 49),
  ([(128, .bool true)], 131)],
  [(1049212, ⟨1, true, [.int .i64 (.ofNat 1)]⟩),
   (1049214, ⟨0, true, [.slice (some ⟨1049212, 0, none⟩) 1 18446744073709551616, .chan (some 1049213)]⟩),
   (1049221, ⟨3, true, [.int .i64 (.ofNat 1), .int .i64 (.ofNat 1), .string ⟨⟨[]⟩⟩, .int .i64 (.ofNat 1), .int .i64 (.ofNat 5), .string ⟨⟨[]⟩⟩]⟩),
   (1049228, ⟨3, true, [.int .i64 (.ofNat 1), .int .i64 (.ofNat 2), .string ⟨⟨[]⟩⟩, .int .i64 (.ofNat 1), .int .i64 (.ofNat 5), .string ⟨⟨[]⟩⟩]⟩),
   (1049235, ⟨3, true, [.int .i64 (.ofNat 1), .int .i64 (.ofNat 3), .string ⟨⟨[]⟩⟩, .int .i64 (.ofNat 1), .int .i64 (.ofNat 6), .string ⟨⟨[]⟩⟩]⟩),
   (1049343, ⟨3, true, [.int .i64 (.ofNat 1), .int .i64 (.ofNat 5), .string ⟨⟨[]⟩⟩]⟩),
   (1049396, ⟨2, true, [.slice (some ⟨1049221, 0, none⟩) 2 18446744073709551616, .complex .f64 4607182418800017408 0, .slice (some ⟨1049228, 0, none⟩) 2 18446744073709551616, .complex .f64 4607182418800017408 0]⟩),
   (1049399, ⟨3, true, [.int .i64 (.ofNat 1), .int .i64 (.ofNat 6), .string ⟨⟨[]⟩⟩]⟩),
   (1049452, ⟨2, true, [.slice (some ⟨1049235, 0, none⟩) 2 18446744073709551616, .complex .f64 4607182418800017408 0]⟩)],
  1049454⟩,
  [(1049213, .map [] 0),
   (1049284, .map [⟨[1, 1, 5, 0, 0, 0, 0, 0, 0, 0], .agg ⟨[.slice (some ⟨1049343, 0, none⟩) 1 18446744073709551616, .slice (some ⟨1049396, 0, none⟩) 2 18446744073709551616]⟩, 0⟩, ⟨[1, 1, 6, 0, 0, 0, 0, 0, 0, 0], .agg ⟨[.slice (some ⟨1049399, 0, none⟩) 1 18446744073709551616, .slice (some ⟨1049452, 0, none⟩) 1 18446744073709551616]⟩, 1⟩] 2),
   (1049453, .iter 1049284 2 [0] 2)]⟩
noncomputable def ixn_11D1 : List DirO := [dP 1, dX, dO, dT, dR, dO, dO, dG, .mop, dP 5, dX, dO, .drw false [.take 0, .take 1, .take 2, .take 3, .take 4, .take 5, .take 6, .take 7, .take 8, .go 9, .take 10, .take 11, .take 12, .take 13, .take 14], dO, dO, dR, dF, dR, dG, dP 6, .mop, dX, dO, dO, dO, dG, .mop, dP 1, dX, dO, dT, dR, dO, dO, dG, .mop, dP 5, dX, dO, .drw false [.take 0, .take 1, .take 2, .take 3, .take 4, .take 5, .take 6, .take 7, .take 8, .go 9, .take 10, .take 11, .take 12, .take 13, .take 14], dO, dO, dR, dF, dR, dG, dP 6, .mop, dX, dO, dO, dO, dG, .mop, dP 1, dX, dO, dF, dE 2, dO, dO, dG, dP 1, .mop, dX, dO, dO, dO, dG]
noncomputable def ixn_11P1 : Option Pos := thenNavsO Tryz.prog ixn_11D1 ixn_1PN
noncomputable def ixn_11S1 : SnapO := ⟨⟨[([(0, .pointer (some ⟨1049214, 0, none⟩)), (81, .chan (some 1049624))], 102),
  ([(1, .pointer (some ⟨1049214, 0, none⟩))], 49),
  ([(128, .bool true)], 131)],
  [(1049212, ⟨1, true, [.int .i64 (.ofNat 1)]⟩),
   (1049214, ⟨0, true, [.slice (some ⟨1049212, 0, none⟩) 1 18446744073709551616, .chan (some 1049213)]⟩),
   (1049343, ⟨3, true, [.int .i64 (.ofNat 1), .int .i64 (.ofNat 5), .string ⟨⟨[]⟩⟩]⟩),
   (1049399, ⟨3, true, [.int .i64 (.ofNat 1), .int .i64 (.ofNat 6), .string ⟨⟨[]⟩⟩]⟩),
   (1049537, ⟨3, true, [.int .i64 (.ofNat 1), .int .i64 (.ofNat 1), .string ⟨⟨[]⟩⟩, .int .i64 (.ofNat 1), .int .i64 (.ofNat 5), .string ⟨⟨[]⟩⟩]⟩),
   (1049574, ⟨3, true, [.int .i64 (.ofNat 1), .int .i64 (.ofNat 2), .string ⟨⟨[]⟩⟩, .int .i64 (.ofNat 1), .int .i64 (.ofNat 5), .string ⟨⟨[]⟩⟩]⟩),
   (1049576, ⟨2, true, [.slice (some ⟨1049537, 0, none⟩) 2 18446744073709551616, .complex .f64 4607182418800017408 0, .slice (some ⟨1049574, 0, none⟩) 2 18446744073709551616, .complex .f64 4607182418800017408 0]⟩),
   (1049621, ⟨3, true, [.int .i64 (.ofNat 1), .int .i64 (.ofNat 3), .string ⟨⟨[]⟩⟩, .int .i64 (.ofNat 1), .int .i64 (.ofNat 6), .string ⟨⟨[]⟩⟩]⟩),
   (1049623, ⟨2, true, [.slice (some ⟨1049621, 0, none⟩) 2 18446744073709551616, .complex .f64 4607182418800017408 0]⟩)],
  1049625⟩,
  [(1049213, .map [] 0),
   (1049284, .map [⟨[1, 1, 5, 0, 0, 0, 0, 0, 0, 0], .agg ⟨[.slice (some ⟨1049343, 0, none⟩) 1 18446744073709551616, .slice (some ⟨1049576, 0, none⟩) 2 18446744073709551616]⟩, 0⟩, ⟨[1, 1, 6, 0, 0, 0, 0, 0, 0, 0], .agg ⟨[.slice (some ⟨1049399, 0, none⟩) 1 18446744073709551616, .slice (some ⟨1049623, 0, none⟩) 1 18446744073709551616]⟩, 1⟩] 2),
   (1049624, .iter 1049284 2 [] 2)]⟩
noncomputable def ixn_11PN : Option Pos := thenNavsO Tryz.prog [.mop] ixn_11P1
noncomputable def ixn_111S0 : SnapO := ⟨⟨[([(0, .pointer (some ⟨1049214, 0, none⟩)), (81, .chan (some 1049624)), (82, .tuple ⟨[.bool true, .string ⟨⟨[1, 1, 5, 0, 0, 0, 0, 0, 0, 0]⟩⟩, .agg ⟨[.slice (some ⟨1049343, 0, none⟩) 1 18446744073709551616, .slice (some ⟨1049576, 0, none⟩) 2 18446744073709551616]⟩]⟩)], 102),
  ([(1, .pointer (some ⟨1049214, 0, none⟩))], 49),
  ([(128, .bool true)], 131)],
  [(1049212, ⟨1, true, [.int .i64 (.ofNat 1)]⟩),
   (1049214, ⟨0, true, [.slice (some ⟨1049212, 0, none⟩) 1 18446744073709551616, .chan (some 1049213)]⟩),
   (1049343, ⟨3, true, [.int .i64 (.ofNat 1), .int .i64 (.ofNat 5), .string ⟨⟨[]⟩⟩]⟩),
   (1049399, ⟨3, true, [.int .i64 (.ofNat 1), .int .i64 (.ofNat 6), .string ⟨⟨[]⟩⟩]⟩),
   (1049537, ⟨3, true, [.int .i64 (.ofNat 1), .int .i64 (.ofNat 1), .string ⟨⟨[]⟩⟩, .int .i64 (.ofNat 1), .int .i64 (.ofNat 5), .string ⟨⟨[]⟩⟩]⟩),
   (1049574, ⟨3, true, [.int .i64 (.ofNat 1), .int .i64 (.ofNat 2), .string ⟨⟨[]⟩⟩, .int .i64 (.ofNat 1), .int .i64 (.ofNat 5), .string ⟨⟨[]⟩⟩]⟩),
   (1049576, ⟨2, true, [.slice (some ⟨1049537, 0, none⟩) 2 18446744073709551616, .complex .f64 4607182418800017408 0, .slice (some ⟨1049574, 0, none⟩) 2 18446744073709551616, .complex .f64 4607182418800017408 0]⟩),
   (1049621, ⟨3, true, [.int .i64 (.ofNat 1), .int .i64 (.ofNat 3), .string ⟨⟨[]⟩⟩, .int .i64 (.ofNat 1), .int .i64 (.ofNat 6), .string ⟨⟨[]⟩⟩]⟩),
   (1049623, ⟨2, true, [.slice (some ⟨1049621, 0, none⟩) 2 18446744073709551616, .complex .f64 4607182418800017408 0]⟩)],
  1049625⟩,
  [(1049213, .map [] 0),
   (1049284, .map [⟨[1, 1, 5, 0, 0, 0, 0, 0, 0, 0], .agg ⟨[.slice (some ⟨1049343, 0, none⟩) 1 18446744073709551616, .slice (some ⟨1049576, 0, none⟩) 2 18446744073709551616]⟩, 0⟩, ⟨[1, 1, 6, 0, 0, 0, 0, 0, 0, 0], .agg ⟨[.slice (some ⟨1049399, 0, none⟩) 1 18446744073709551616, .slice (some ⟨1049623, 0, none⟩) 1 18446744073709551616]⟩, 1⟩] 2),
   (1049624, .iter 1049284 2 [0] 2)]⟩
noncomputable def ixn_111D1 : List DirO := [dP 1, dX, dO, dT, dR, dO, dO, dG, .mop, dP 5, dX, dO, dO, dR, dF, dR, .drw true [.take 0, .take 1, .take 2, .take 3, .take 4, .take 5, .go 6], dO, dO, dO, dG, .mop, dP 1, dX, dO, dT, dR, dO, dO, dG, .mop, dP 5, dX, dO, dO, dR, dF, dR, .drw true [.take 0, .take 1, .take 2, .take 3, .take 4, .take 5, .go 6], dO, dO, dO, dG, .mop, dP 1, dX, dO, dF, dE 4, dO, dR, dL, dP 1, dX, dO, dG, dP 6, dC 39, dO, dR, dO, .drw false [.take 0, .take 1, .take 2, .take 3, .take 4, .go 5, .go 6, .take 7, .go 8, .take 9], dL, dP 11, dC 13, dO, dR, dO, dR, dO, dO, dG, dP 1, dC 37, dO, dR, dO, dG, dP 5, dC 71, dO, dR, dO, dG, dP 1, dC 107, dO, dR, dO, dG, dP 1]
noncomputable def ixn_111P1 : Option Pos := thenNavsO Tryz.prog ixn_111D1 ixn_11PN
noncomputable def ixn_111S1 : SnapO := ⟨⟨[([(3, .func (.func 109) ⟨[]⟩ ⟨[.pointer (some ⟨1049683, 0, none⟩)]⟩)], 5),
  ([(1, .func (.func 73) ⟨[]⟩ ⟨[]⟩)], 12),
  ([], 9),
  ([(3, .slice none 0 0)], 21),
  ([(43, .bool true)], 49),
  ([(128, .bool true)], 131)],
  [(1049343, ⟨3, true, [.int .i64 (.ofNat 1), .int .i64 (.ofNat 5), .string ⟨⟨[]⟩⟩]⟩),
   (1049399, ⟨3, true, [.int .i64 (.ofNat 1), .int .i64 (.ofNat 6), .string ⟨⟨[]⟩⟩]⟩),
   (1049537, ⟨3, true, [.int .i64 (.ofNat 1), .int .i64 (.ofNat 1), .string ⟨⟨[]⟩⟩, .int .i64 (.ofNat 1), .int .i64 (.ofNat 5), .string ⟨⟨[]⟩⟩]⟩),
   (1049574, ⟨3, true, [.int .i64 (.ofNat 1), .int .i64 (.ofNat 2), .string ⟨⟨[]⟩⟩, .int .i64 (.ofNat 1), .int .i64 (.ofNat 5), .string ⟨⟨[]⟩⟩]⟩),
   (1049576, ⟨2, true, [.slice (some ⟨1049537, 0, none⟩) 2 18446744073709551616, .complex .f64 4607182418800017408 0, .slice (some ⟨1049574, 0, none⟩) 2 18446744073709551616, .complex .f64 4607182418800017408 0]⟩),
   (1049621, ⟨3, true, [.int .i64 (.ofNat 1), .int .i64 (.ofNat 3), .string ⟨⟨[]⟩⟩, .int .i64 (.ofNat 1), .int .i64 (.ofNat 6), .string ⟨⟨[]⟩⟩]⟩),
   (1049623, ⟨2, true, [.slice (some ⟨1049621, 0, none⟩) 2 18446744073709551616, .complex .f64 4607182418800017408 0]⟩),
   (1049683, ⟨0, true, [.chan (some 1049213)]⟩)],
  1049684⟩,
  [(1049213, .map [⟨[1, 1, 5, 0, 0, 0, 0, 0, 0, 0], .agg ⟨[.slice (some ⟨1049343, 0, none⟩) 1 18446744073709551616, .slice (some ⟨1049576, 0, none⟩) 2 18446744073709551616]⟩, 0⟩, ⟨[1, 1, 6, 0, 0, 0, 0, 0, 0, 0], .agg ⟨[.slice (some ⟨1049399, 0, none⟩) 1 18446744073709551616, .slice (some ⟨1049623, 0, none⟩) 1 18446744073709551616]⟩, 1⟩] 2)]⟩
noncomputable def ixn_111PN : Option Pos := thenNavsO Tryz.prog [.mop] ixn_111P1
noncomputable def ixn_1111S0 : SnapO := ⟨⟨[([(4, .slice (some ⟨1049684, 0, none⟩) 2 18446744073709551616)], 5),
  ([(1, .func (.func 73) ⟨[]⟩ ⟨[]⟩)], 12),
  ([], 9),
  ([(3, .slice none 0 0)], 21),
  ([(43, .bool true)], 49),
  ([(128, .bool true)], 131)],
  [(1049343, ⟨3, true, [.int .i64 (.ofNat 1), .int .i64 (.ofNat 5), .string ⟨⟨[]⟩⟩]⟩),
   (1049399, ⟨3, true, [.int .i64 (.ofNat 1), .int .i64 (.ofNat 6), .string ⟨⟨[]⟩⟩]⟩),
   (1049537, ⟨3, true, [.int .i64 (.ofNat 1), .int .i64 (.ofNat 1), .string ⟨⟨[]⟩⟩, .int .i64 (.ofNat 1), .int .i64 (.ofNat 5), .string ⟨⟨[]⟩⟩]⟩),
   (1049574, ⟨3, true, [.int .i64 (.ofNat 1), .int .i64 (.ofNat 2), .string ⟨⟨[]⟩⟩, .int .i64 (.ofNat 1), .int .i64 (.ofNat 5), .string ⟨⟨[]⟩⟩]⟩),
   (1049576, ⟨2, true, [.slice (some ⟨1049537, 0, none⟩) 2 18446744073709551616, .complex .f64 4607182418800017408 0, .slice (some ⟨1049574, 0, none⟩) 2 18446744073709551616, .complex .f64 4607182418800017408 0]⟩),
   (1049621, ⟨3, true, [.int .i64 (.ofNat 1), .int .i64 (.ofNat 3), .string ⟨⟨[]⟩⟩, .int .i64 (.ofNat 1), .int .i64 (.ofNat 6), .string ⟨⟨[]⟩⟩]⟩),
   (1049623, ⟨2, true, [.slice (some ⟨1049621, 0, none⟩) 2 18446744073709551616, .complex .f64 4607182418800017408 0]⟩),
   (1049684, ⟨2, true, [.slice (some ⟨1049343, 0, none⟩) 1 18446744073709551616, .slice (some ⟨1049576, 0, none⟩) 2 18446744073709551616, .slice (some ⟨1049399, 0, none⟩) 1 18446744073709551616, .slice (some ⟨1049623, 0, none⟩) 1 18446744073709551616]⟩)],
  1049685⟩,
  []⟩
noncomputable def ixn_1111D1 : List DirO := [dP 1, dX, dL, dP 1, dX, dO, dR, dO, dR, dL, dP 1, dX, dL, dP 2, dX, dO, dE 0, dO, dR, dL, dP 4, dX, dL, dP 2, dX]
noncomputable def ixn_1111P1 : Option Pos := thenNavsO Tryz.prog ixn_1111D1 ixn_111PN
noncomputable def ixn_1111S1 : SnapO := ⟨⟨[([(0, .bool true)], 131)],
  [],
  1049709⟩,
  []⟩
noncomputable def ixn_1112S0 : SnapO := ⟨⟨[([(4, .slice (some ⟨1049684, 0, none⟩) 2 18446744073709551616)], 5),
  ([(1, .func (.func 73) ⟨[]⟩ ⟨[]⟩)], 12),
  ([], 9),
  ([(3, .slice none 0 0)], 21),
  ([(43, .bool true)], 49),
  ([(128, .bool true)], 131)],
  [(1049343, ⟨3, true, [.int .i64 (.ofNat 1), .int .i64 (.ofNat 5), .string ⟨⟨[]⟩⟩]⟩),
   (1049399, ⟨3, true, [.int .i64 (.ofNat 1), .int .i64 (.ofNat 6), .string ⟨⟨[]⟩⟩]⟩),
   (1049537, ⟨3, true, [.int .i64 (.ofNat 1), .int .i64 (.ofNat 1), .string ⟨⟨[]⟩⟩, .int .i64 (.ofNat 1), .int .i64 (.ofNat 5), .string ⟨⟨[]⟩⟩]⟩),
   (1049574, ⟨3, true, [.int .i64 (.ofNat 1), .int .i64 (.ofNat 2), .string ⟨⟨[]⟩⟩, .int .i64 (.ofNat 1), .int .i64 (.ofNat 5), .string ⟨⟨[]⟩⟩]⟩),
   (1049576, ⟨2, true, [.slice (some ⟨1049537, 0, none⟩) 2 18446744073709551616, .complex .f64 4607182418800017408 0, .slice (some ⟨1049574, 0, none⟩) 2 18446744073709551616, .complex .f64 4607182418800017408 0]⟩),
   (1049621, ⟨3, true, [.int .i64 (.ofNat 1), .int .i64 (.ofNat 3), .string ⟨⟨[]⟩⟩, .int .i64 (.ofNat 1), .int .i64 (.ofNat 6), .string ⟨⟨[]⟩⟩]⟩),
   (1049623, ⟨2, true, [.slice (some ⟨1049621, 0, none⟩) 2 18446744073709551616, .complex .f64 4607182418800017408 0]⟩),
   (1049684, ⟨2, true, [.slice (some ⟨1049399, 0, none⟩) 1 18446744073709551616, .slice (some ⟨1049623, 0, none⟩) 1 18446744073709551616, .slice (some ⟨1049343, 0, none⟩) 1 18446744073709551616, .slice (some ⟨1049576, 0, none⟩) 2 18446744073709551616]⟩)],
  1049685⟩,
  []⟩
noncomputable def ixn_1112D1 : List DirO := [dP 1, dX, dL, dP 1, dX, dO, dR, dO, dR, dL, dP 1, dX, dL, dP 2, dX, dO, dE 0, dO, dR, dL, dP 4, dX, dL, dP 2, dX]
noncomputable def ixn_1112P1 : Option Pos := thenNavsO Tryz.prog ixn_1112D1 ixn_111PN
noncomputable def ixn_1112S1 : SnapO := ⟨⟨[([(0, .bool true)], 131)],
  [],
  1049705⟩,
  []⟩
noncomputable def ixn_112S0 : SnapO := ⟨⟨[([(0, .pointer (some ⟨1049214, 0, none⟩)), (81, .chan (some 1049624)), (82, .tuple ⟨[.bool true, .string ⟨⟨[1, 1, 6, 0, 0, 0, 0, 0, 0, 0]⟩⟩, .agg ⟨[.slice (some ⟨1049399, 0, none⟩) 1 18446744073709551616, .slice (some ⟨1049623, 0, none⟩) 1 18446744073709551616]⟩]⟩)], 102),
  ([(1, .pointer (some ⟨1049214, 0, none⟩))], 49),
  ([(128, .bool true)], 131)],
  [(1049212, ⟨1, true, [.int .i64 (.ofNat 1)]⟩),
   (1049214, ⟨0, true, [.slice (some ⟨1049212, 0, none⟩) 1 18446744073709551616, .chan (some 1049213)]⟩),
   (1049343, ⟨3, true, [.int .i64 (.ofNat 1), .int .i64 (.ofNat 5), .string ⟨⟨[]⟩⟩]⟩),
   (1049399, ⟨3, true, [.int .i64 (.ofNat 1), .int .i64 (.ofNat 6), .string ⟨⟨[]⟩⟩]⟩),
   (1049537, ⟨3, true, [.int .i64 (.ofNat 1), .int .i64 (.ofNat 1), .string ⟨⟨[]⟩⟩, .int .i64 (.ofNat 1), .int .i64 (.ofNat 5), .string ⟨⟨[]⟩⟩]⟩),
   (1049574, ⟨3, true, [.int .i64 (.ofNat 1), .int .i64 (.ofNat 2), .string ⟨⟨[]⟩⟩, .int .i64 (.ofNat 1), .int .i64 (.ofNat 5), .string ⟨⟨[]⟩⟩]⟩),
   (1049576, ⟨2, true, [.slice (some ⟨1049537, 0, none⟩) 2 18446744073709551616, .complex .f64 4607182418800017408 0, .slice (some ⟨1049574, 0, none⟩) 2 18446744073709551616, .complex .f64 4607182418800017408 0]⟩),
   (1049621, ⟨3, true, [.int .i64 (.ofNat 1), .int .i64 (.ofNat 3), .string ⟨⟨[]⟩⟩, .int .i64 (.ofNat 1), .int .i64 (.ofNat 6), .string ⟨⟨[]⟩⟩]⟩),
   (1049623, ⟨2, true, [.slice (some ⟨1049621, 0, none⟩) 2 18446744073709551616, .complex .f64 4607182418800017408 0]⟩)],
  1049625⟩,
  [(1049213, .map [] 0),
   (1049284, .map [⟨[1, 1, 5, 0, 0, 0, 0, 0, 0, 0], .agg ⟨[.slice (some ⟨1049343, 0, none⟩) 1 18446744073709551616, .slice (some ⟨1049576, 0, none⟩) 2 18446744073709551616]⟩, 0⟩, ⟨[1, 1, 6, 0, 0, 0, 0, 0, 0, 0], .agg ⟨[.slice (some ⟨1049399, 0, none⟩) 1 18446744073709551616, .slice (some ⟨1049623, 0, none⟩) 1 18446744073709551616]⟩, 1⟩] 2),
   (1049624, .iter 1049284 2 [1] 2)]⟩
noncomputable def ixn_112D1 : List DirO := [dP 1, dX, dO, dT, dR, dO, dO, dG, .mop, dP 5, dX, dO, dO, dR, dF, dR, .drw true [.take 0, .take 1, .take 2, .take 3, .take 4, .take 5, .go 6], dO, dO, dO, dG, .mop, dP 1, dX, dO, dT, dR, dO, dO, dG, .mop, dP 5, dX, dO, dO, dR, dF, dR, .drw true [.take 0, .take 1, .take 2, .take 3, .take 4, .take 5, .go 6], dO, dO, dO, dG, .mop, dP 1, dX, dO, dF, dE 4, dO, dR, dL, dP 1, dX, dO, dG, dP 6, dC 39, dO, dR, dO, .drw false [.take 0, .take 1, .take 2, .take 3, .take 4, .go 5, .go 6, .take 7, .go 8, .take 9], dL, dP 11, dC 13, dO, dR, dO, dR, dO, dO, dG, dP 1, dC 37, dO, dR, dO, dG, dP 5, dC 71, dO, dR, dO, dG, dP 1, dC 107, dO, dR, dO, dG, dP 1]
noncomputable def ixn_112P1 : Option Pos := thenNavsO Tryz.prog ixn_112D1 ixn_11PN
noncomputable def ixn_112S1 : SnapO := ⟨⟨[([(3, .func (.func 109) ⟨[]⟩ ⟨[.pointer (some ⟨1049683, 0, none⟩)]⟩)], 5),
  ([(1, .func (.func 73) ⟨[]⟩ ⟨[]⟩)], 12),
  ([], 9),
  ([(3, .slice none 0 0)], 21),
  ([(43, .bool true)], 49),
  ([(128, .bool true)], 131)],
  [(1049343, ⟨3, true, [.int .i64 (.ofNat 1), .int .i64 (.ofNat 5), .string ⟨⟨[]⟩⟩]⟩),
   (1049399, ⟨3, true, [.int .i64 (.ofNat 1), .int .i64 (.ofNat 6), .string ⟨⟨[]⟩⟩]⟩),
   (1049537, ⟨3, true, [.int .i64 (.ofNat 1), .int .i64 (.ofNat 1), .string ⟨⟨[]⟩⟩, .int .i64 (.ofNat 1), .int .i64 (.ofNat 5), .string ⟨⟨[]⟩⟩]⟩),
   (1049574, ⟨3, true, [.int .i64 (.ofNat 1), .int .i64 (.ofNat 2), .string ⟨⟨[]⟩⟩, .int .i64 (.ofNat 1), .int .i64 (.ofNat 5), .string ⟨⟨[]⟩⟩]⟩),
   (1049576, ⟨2, true, [.slice (some ⟨1049537, 0, none⟩) 2 18446744073709551616, .complex .f64 4607182418800017408 0, .slice (some ⟨1049574, 0, none⟩) 2 18446744073709551616, .complex .f64 4607182418800017408 0]⟩),
   (1049621, ⟨3, true, [.int .i64 (.ofNat 1), .int .i64 (.ofNat 3), .string ⟨⟨[]⟩⟩, .int .i64 (.ofNat 1), .int .i64 (.ofNat 6), .string ⟨⟨[]⟩⟩]⟩),
   (1049623, ⟨2, true, [.slice (some ⟨1049621, 0, none⟩) 2 18446744073709551616, .complex .f64 4607182418800017408 0]⟩),
   (1049683, ⟨0, true, [.chan (some 1049213)]⟩)],
  1049684⟩,
  [(1049213, .map [⟨[1, 1, 6, 0, 0, 0, 0, 0, 0, 0], .agg ⟨[.slice (some ⟨1049399, 0, none⟩) 1 18446744073709551616, .slice (some ⟨1049623, 0, none⟩) 1 18446744073709551616]⟩, 0⟩, ⟨[1, 1, 5, 0, 0, 0, 0, 0, 0, 0], .agg ⟨[.slice (some ⟨1049343, 0, none⟩) 1 18446744073709551616, .slice (some ⟨1049576, 0, none⟩) 2 18446744073709551616]⟩, 1⟩] 2)]⟩
noncomputable def ixn_112PN : Option Pos := thenNavsO Tryz.prog [.mop] ixn_112P1
noncomputable def ixn_1121S0 : SnapO := ⟨⟨[([(4, .slice (some ⟨1049684, 0, none⟩) 2 18446744073709551616)], 5),
  ([(1, .func (.func 73) ⟨[]⟩ ⟨[]⟩)], 12),
  ([], 9),
  ([(3, .slice none 0 0)], 21),
  ([(43, .bool true)], 49),
  ([(128, .bool true)], 131)],
  [(1049343, ⟨3, true, [.int .i64 (.ofNat 1), .int .i64 (.ofNat 5), .string ⟨⟨[]⟩⟩]⟩),
   (1049399, ⟨3, true, [.int .i64 (.ofNat 1), .int .i64 (.ofNat 6), .string ⟨⟨[]⟩⟩]⟩),
   (1049537, ⟨3, true, [.int .i64 (.ofNat 1), .int .i64 (.ofNat 1), .string ⟨⟨[]⟩⟩, .int .i64 (.ofNat 1), .int .i64 (.ofNat 5), .string ⟨⟨[]⟩⟩]⟩),
   (1049574, ⟨3, true, [.int .i64 (.ofNat 1), .int .i64 (.ofNat 2), .string ⟨⟨[]⟩⟩, .int .i64 (.ofNat 1), .int .i64 (.ofNat 5), .string ⟨⟨[]⟩⟩]⟩),
   (1049576, ⟨2, true, [.slice (some ⟨1049537, 0, none⟩) 2 18446744073709551616, .complex .f64 4607182418800017408 0, .slice (some ⟨1049574, 0, none⟩) 2 18446744073709551616, .complex .f64 4607182418800017408 0]⟩),
   (1049621, ⟨3, true, [.int .i64 (.ofNat 1), .int .i64 (.ofNat 3), .string ⟨⟨[]⟩⟩, .int .i64 (.ofNat 1), .int .i64 (.ofNat 6), .string ⟨⟨[]⟩⟩]⟩),
   (1049623, ⟨2, true, [.slice (some ⟨1049621, 0, none⟩) 2 18446744073709551616, .complex .f64 4607182418800017408 0]⟩),
   (1049684, ⟨2, true, [.slice (some ⟨1049399, 0, none⟩) 1 18446744073709551616, .slice (some ⟨1049623, 0, none⟩) 1 18446744073709551616, .slice (some ⟨1049343, 0, none⟩) 1 18446744073709551616, .slice (some ⟨1049576, 0, none⟩) 2 18446744073709551616]⟩)],
  1049685⟩,
  []⟩
noncomputable def ixn_1121D1 : List DirO := [dP 1, dX, dL, dP 1, dX, dO, dR, dO, dR, dL, dP 1, dX, dL, dP 2, dX, dO, dE 0, dO, dR, dL, dP 4, dX, dL, dP 2, dX]
noncomputable def ixn_1121P1 : Option Pos := thenNavsO Tryz.prog ixn_1121D1 ixn_112PN
noncomputable def ixn_1121S1 : SnapO := ⟨⟨[([(0, .bool true)], 131)],
  [],
  1049705⟩,
  []⟩
noncomputable def ixn_1122S0 : SnapO := ⟨⟨[([(4, .slice (some ⟨1049684, 0, none⟩) 2 18446744073709551616)], 5),
  ([(1, .func (.func 73) ⟨[]⟩ ⟨[]⟩)], 12),
  ([], 9),
  ([(3, .slice none 0 0)], 21),
  ([(43, .bool true)], 49),
  ([(128, .bool true)], 131)],
  [(1049343, ⟨3, true, [.int .i64 (.ofNat 1), .int .i64 (.ofNat 5), .string ⟨⟨[]⟩⟩]⟩),
   (1049399, ⟨3, true, [.int .i64 (.ofNat 1), .int .i64 (.ofNat 6), .string ⟨⟨[]⟩⟩]⟩),
   (1049537, ⟨3, true, [.int .i64 (.ofNat 1), .int .i64 (.ofNat 1), .string ⟨⟨[]⟩⟩, .int .i64 (.ofNat 1), .int .i64 (.ofNat 5), .string ⟨⟨[]⟩⟩]⟩),
   (1049574, ⟨3, true, [.int .i64 (.ofNat 1), .int .i64 (.ofNat 2), .string ⟨⟨[]⟩⟩, .int .i64 (.ofNat 1), .int .i64 (.ofNat 5), .string ⟨⟨[]⟩⟩]⟩),
   (1049576, ⟨2, true, [.slice (some ⟨1049537, 0, none⟩) 2 18446744073709551616, .complex .f64 4607182418800017408 0, .slice (some ⟨1049574, 0, none⟩) 2 18446744073709551616, .complex .f64 4607182418800017408 0]⟩),
   (1049621, ⟨3, true, [.int .i64 (.ofNat 1), .int .i64 (.ofNat 3), .string ⟨⟨[]⟩⟩, .int .i64 (.ofNat 1), .int .i64 (.ofNat 6), .string ⟨⟨[]⟩⟩]⟩),
   (1049623, ⟨2, true, [.slice (some ⟨1049621, 0, none⟩) 2 18446744073709551616, .complex .f64 4607182418800017408 0]⟩),
   (1049684, ⟨2, true, [.slice (some ⟨1049343, 0, none⟩) 1 18446744073709551616, .slice (some ⟨1049576, 0, none⟩) 2 18446744073709551616, .slice (some ⟨1049399, 0, none⟩) 1 18446744073709551616, .slice (some ⟨1049623, 0, none⟩) 1 18446744073709551616]⟩)],
  1049685⟩,
  []⟩
noncomputable def ixn_1122D1 : List DirO := [dP 1, dX, dL, dP 1, dX, dO, dR, dO, dR, dL, dP 1, dX, dL, dP 2, dX, dO, dE 0, dO, dR, dL, dP 4, dX, dL, dP 2, dX]
noncomputable def ixn_1122P1 : Option Pos := thenNavsO Tryz.prog ixn_1122D1 ixn_112PN
noncomputable def ixn_1122S1 : SnapO := ⟨⟨[([(0, .bool true)], 131)],
  [],
  1049709⟩,
  []⟩
noncomputable def ixn_12S0 : SnapO := ⟨⟨[([(0, .pointer (some ⟨1049214, 0, none⟩)), (5, .chan (some 1049284)), (52, .chan (some 1049453)), (53, .tuple ⟨[.bool true, .string ⟨⟨[1, 1, 6, 0, 0, 0, 0, 0, 0, 0]⟩⟩, .agg ⟨[.slice (some ⟨1049399, 0, none⟩) 1 18446744073709551616, .slice (some ⟨1049452, 0, none⟩) 1 18446744073709551616]⟩]⟩)], 102),
  ([(1, .pointer (some ⟨1049214, 0, none⟩))], 49),
  ([(128, .bool true)], 131)],
  [(1049212, ⟨1, true, [.int .i64 (.ofNat 1)]⟩),
   (1049214, ⟨0, true, [.slice (some ⟨1049212, 0, none⟩) 1 18446744073709551616, .chan (some 1049213)]⟩),
   (1049221, ⟨3, true, [.int .i64 (.ofNat 1), .int .i64 (.ofNat 1), .string ⟨⟨[]⟩⟩, .int .i64 (.ofNat 1), .int .i64 (.ofNat 5), .string ⟨⟨[]⟩⟩]⟩),
   (1049228, ⟨3, true, [.int .i64 (.ofNat 1), .int .i64 (.ofNat 2), .string ⟨⟨[]⟩⟩, .int .i64 (.ofNat 1), .int .i64 (.ofNat 5), .string ⟨⟨[]⟩⟩]⟩),
   (1049235, ⟨3, true, [.int .i64 (.ofNat 1), .int .i64 (.ofNat 3), .string ⟨⟨[]⟩⟩, .int .i64 (.ofNat 1), .int .i64 (.ofNat 6), .string ⟨⟨[]⟩⟩]⟩),
   (1049343, ⟨3, true, [.int .i64 (.ofNat 1), .int .i64 (.ofNat 5), .string ⟨⟨[]⟩⟩]⟩),
   (1049396, ⟨2, true, [.slice (some ⟨1049221, 0, none⟩) 2 18446744073709551616, .complex .f64 4607182418800017408 0, .slice (some ⟨1049228, 0, none⟩) 2 18446744073709551616, .complex .f64 4607182418800017408 0]⟩),
   (1049399, ⟨3, true, [.int .i64 (.ofNat 1), .int .i64 (.ofNat 6), .string ⟨⟨[]⟩⟩]⟩),
   (1049452, ⟨2, true, [.slice (some ⟨1049235, 0, none⟩) 2 18446744073709551616, .complex .f64 4607182418800017408 0]⟩)],
  1049454⟩,
  [(1049213, .map [] 0),
   (1049284, .map [⟨[1, 1, 5, 0, 0, 0, 0, 0, 0, 0], .agg ⟨[.slice (some ⟨1049343, 0, none⟩) 1 18446744073709551616, .slice (some ⟨1049396, 0, none⟩) 2 18446744073709551616]⟩, 0⟩, ⟨[1, 1, 6, 0, 0, 0, 0, 0, 0, 0], .agg ⟨[.slice (some ⟨1049399, 0, none⟩) 1 18446744073709551616, .slice (some ⟨1049452, 0, none⟩) 1 18446744073709551616]⟩, 1⟩] 2),
   (1049453, .iter 1049284 2 [1] 2)]⟩
noncomputable def ixn_12D1 : List DirO := [dP 1, dX, dO, dT, dR, dO, dO, dG, .mop, dP 5, dX, dO, .drw false [.take 0, .take 1, .take 2, .take 3, .take 4, .take 5, .take 6, .take 7, .take 8, .go 9, .take 10, .take 11, .take 12, .take 13, .take 14], dO, dO, dR, dF, dR, dG, dP 6, .mop, dX, dO, dO, dO, dG, .mop, dP 1, dX, dO, dT, dR, dO, dO, dG, .mop, dP 5, dX, dO, .drw false [.take 0, .take 1, .take 2, .take 3, .take 4, .take 5, .take 6, .take 7, .take 8, .go 9, .take 10, .take 11, .take 12, .take 13, .take 14], dO, dO, dR, dF, dR, dG, dP 6, .mop, dX, dO, dO, dO, dG, .mop, dP 1, dX, dO, dF, dE 2, dO, dO, dG, dP 1, .mop, dX, dO, dO, dO, dG]
noncomputable def ixn_12P1 : Option Pos := thenNavsO Tryz.prog ixn_12D1 ixn_1PN
noncomputable def ixn_12S1 : SnapO := ⟨⟨[([(0, .pointer (some ⟨1049214, 0, none⟩)), (81, .chan (some 1049624))], 102),
  ([(1, .pointer (some ⟨1049214, 0, none⟩))], 49),
  ([(128, .bool true)], 131)],
  [(1049212, ⟨1, true, [.int .i64 (.ofNat 1)]⟩),
   (1049214, ⟨0, true, [.slice (some ⟨1049212, 0, none⟩) 1 18446744073709551616, .chan (some 1049213)]⟩),
   (1049343, ⟨3, true, [.int .i64 (.ofNat 1), .int .i64 (.ofNat 5), .string ⟨⟨[]⟩⟩]⟩),
   (1049399, ⟨3, true, [.int .i64 (.ofNat 1), .int .i64 (.ofNat 6), .string ⟨⟨[]⟩⟩]⟩),
   (1049498, ⟨3, true, [.int .i64 (.ofNat 1), .int .i64 (.ofNat 3), .string ⟨⟨[]⟩⟩, .int .i64 (.ofNat 1), .int .i64 (.ofNat 6), .string ⟨⟨[]⟩⟩]⟩),
   (1049500, ⟨2, true, [.slice (some ⟨1049498, 0, none⟩) 2 18446744073709551616, .complex .f64 4607182418800017408 0]⟩),
   (1049584, ⟨3, true, [.int .i64 (.ofNat 1), .int .i64 (.ofNat 1), .string ⟨⟨[]⟩⟩, .int .i64 (.ofNat 1), .int .i64 (.ofNat 5), .string ⟨⟨[]⟩⟩]⟩),
   (1049621, ⟨3, true, [.int .i64 (.ofNat 1), .int .i64 (.ofNat 2), .string ⟨⟨[]⟩⟩, .int .i64 (.ofNat 1), .int .i64 (.ofNat 5), .string ⟨⟨[]⟩⟩]⟩),
   (1049623, ⟨2, true, [.slice (some ⟨1049584, 0, none⟩) 2 18446744073709551616, .complex .f64 4607182418800017408 0, .slice (some ⟨1049621, 0, none⟩) 2 18446744073709551616, .complex .f64 4607182418800017408 0]⟩)],
  1049625⟩,
  [(1049213, .map [] 0),
   (1049284, .map [⟨[1, 1, 5, 0, 0, 0, 0, 0, 0, 0], .agg ⟨[.slice (some ⟨1049343, 0, none⟩) 1 18446744073709551616, .slice (some ⟨1049623, 0, none⟩) 2 18446744073709551616]⟩, 0⟩, ⟨[1, 1, 6, 0, 0, 0, 0, 0, 0, 0], .agg ⟨[.slice (some ⟨1049399, 0, none⟩) 1 18446744073709551616, .slice (some ⟨1049500, 0, none⟩) 1 18446744073709551616]⟩, 1⟩] 2),
   (1049624, .iter 1049284 2 [] 2)]⟩
noncomputable def ixn_12PN : Option Pos := thenNavsO Tryz.prog [.mop] ixn_12P1
noncomputable def ixn_121S0 : SnapO := ⟨⟨[([(0, .pointer (some ⟨1049214, 0, none⟩)), (81, .chan (some 1049624)), (82, .tuple ⟨[.bool true, .string ⟨⟨[1, 1, 5, 0, 0, 0, 0, 0, 0, 0]⟩⟩, .agg ⟨[.slice (some ⟨1049343, 0, none⟩) 1 18446744073709551616, .slice (some ⟨1049623, 0, none⟩) 2 18446744073709551616]⟩]⟩)], 102),
  ([(1, .pointer (some ⟨1049214, 0, none⟩))], 49),
  ([(128, .bool true)], 131)],
  [(1049212, ⟨1, true, [.int .i64 (.ofNat 1)]⟩),
   (1049214, ⟨0, true, [.slice (some ⟨1049212, 0, none⟩) 1 18446744073709551616, .chan (some 1049213)]⟩),
   (1049343, ⟨3, true, [.int .i64 (.ofNat 1), .int .i64 (.ofNat 5), .string ⟨⟨[]⟩⟩]⟩),
   (1049399, ⟨3, true, [.int .i64 (.ofNat 1), .int .i64 (.ofNat 6), .string ⟨⟨[]⟩⟩]⟩),
   (1049498, ⟨3, true, [.int .i64 (.ofNat 1), .int .i64 (.ofNat 3), .string ⟨⟨[]⟩⟩, .int .i64 (.ofNat 1), .int .i64 (.ofNat 6), .string ⟨⟨[]⟩⟩]⟩),
   (1049500, ⟨2, true, [.slice (some ⟨1049498, 0, none⟩) 2 18446744073709551616, .complex .f64 4607182418800017408 0]⟩),
   (1049584, ⟨3, true, [.int .i64 (.ofNat 1), .int .i64 (.ofNat 1), .string ⟨⟨[]⟩⟩, .int .i64 (.ofNat 1), .int .i64 (.ofNat 5), .string ⟨⟨[]⟩⟩]⟩),
   (1049621, ⟨3, true, [.int .i64 (.ofNat 1), .int .i64 (.ofNat 2), .string ⟨⟨[]⟩⟩, .int .i64 (.ofNat 1), .int .i64 (.ofNat 5), .string ⟨⟨[]⟩⟩]⟩),
   (1049623, ⟨2, true, [.slice (some ⟨1049584, 0, none⟩) 2 18446744073709551616, .complex .f64 4607182418800017408 0, .slice (some ⟨1049621, 0, none⟩) 2 18446744073709551616, .complex .f64 4607182418800017408 0]⟩)],
  1049625⟩,
  [(1049213, .map [] 0),
   (1049284, .map [⟨[1, 1, 5, 0, 0, 0, 0, 0, 0, 0], .agg ⟨[.slice (some ⟨1049343, 0, none⟩) 1 18446744073709551616, .slice (some ⟨1049623, 0, none⟩) 2 18446744073709551616]⟩, 0⟩, ⟨[1, 1, 6, 0, 0, 0, 0, 0, 0, 0], .agg ⟨[.slice (some ⟨1049399, 0, none⟩) 1 18446744073709551616, .slice (some ⟨1049500, 0, none⟩) 1 18446744073709551616]⟩, 1⟩] 2),
   (1049624, .iter 1049284 2 [0] 2)]⟩
noncomputable def ixn_121D1 : List DirO := [dP 1, dX, dO, dT, dR, dO, dO, dG, .mop, dP 5, dX, dO, dO, dR, dF, dR, .drw true [.take 0, .take 1, .take 2, .take 3, .take 4, .take 5, .go 6], dO, dO, dO, dG, .mop, dP 1, dX, dO, dT, dR, dO, dO, dG, .mop, dP 5, dX, dO, dO, dR, dF, dR, .drw true [.take 0, .take 1, .take 2, .take 3, .take 4, .take 5, .go 6], dO, dO, dO, dG, .mop, dP 1, dX, dO, dF, dE 4, dO, dR, dL, dP 1, dX, dO, dG, dP 6, dC 39, dO, dR, dO, .drw false [.take 0, .take 1, .take 2, .take 3, .take 4, .go 5, .go 6, .take 7, .go 8, .take 9], dL, dP 11, dC 13, dO, dR, dO, dR, dO, dO, dG, dP 1, dC 37, dO, dR, dO, dG, dP 5, dC 71, dO, dR, dO, dG, dP 1, dC 107, dO, dR, dO, dG, dP 1]
noncomputable def ixn_121P1 : Option Pos := thenNavsO Tryz.prog ixn_121D1 ixn_12PN
noncomputable def ixn_121S1 : SnapO := ⟨⟨[([(3, .func (.func 109) ⟨[]⟩ ⟨[.pointer (some ⟨1049683, 0, none⟩)]⟩)], 5),
  ([(1, .func (.func 73) ⟨[]⟩ ⟨[]⟩)], 12),
  ([], 9),
  ([(3, .slice none 0 0)], 21),
  ([(43, .bool true)], 49),
  ([(128, .bool true)], 131)],
  [(1049343, ⟨3, true, [.int .i64 (.ofNat 1), .int .i64 (.ofNat 5), .string ⟨⟨[]⟩⟩]⟩),
   (1049399, ⟨3, true, [.int .i64 (.ofNat 1), .int .i64 (.ofNat 6), .string ⟨⟨[]⟩⟩]⟩),
   (1049498, ⟨3, true, [.int .i64 (.ofNat 1), .int .i64 (.ofNat 3), .string ⟨⟨[]⟩⟩, .int .i64 (.ofNat 1), .int .i64 (.ofNat 6), .string ⟨⟨[]⟩⟩]⟩),
   (1049500, ⟨2, true, [.slice (some ⟨1049498, 0, none⟩) 2 18446744073709551616, .complex .f64 4607182418800017408 0]⟩),
   (1049584, ⟨3, true, [.int .i64 (.ofNat 1), .int .i64 (.ofNat 1), .string ⟨⟨[]⟩⟩, .int .i64 (.ofNat 1), .int .i64 (.ofNat 5), .string ⟨⟨[]⟩⟩]⟩),
   (1049621, ⟨3, true, [.int .i64 (.ofNat 1), .int .i64 (.ofNat 2), .string ⟨⟨[]⟩⟩, .int .i64 (.ofNat 1), .int .i64 (.ofNat 5), .string ⟨⟨[]⟩⟩]⟩),
   (1049623, ⟨2, true, [.slice (some ⟨1049584, 0, none⟩) 2 18446744073709551616, .complex .f64 4607182418800017408 0, .slice (some ⟨1049621, 0, none⟩) 2 18446744073709551616, .complex .f64 4607182418800017408 0]⟩),
   (1049683, ⟨0, true, [.chan (some 1049213)]⟩)],
  1049684⟩,
  [(1049213, .map [⟨[1, 1, 5, 0, 0, 0, 0, 0, 0, 0], .agg ⟨[.slice (some ⟨1049343, 0, none⟩) 1 18446744073709551616, .slice (some ⟨1049623, 0, none⟩) 2 18446744073709551616]⟩, 0⟩, ⟨[1, 1, 6, 0, 0, 0, 0, 0, 0, 0], .agg ⟨[.slice (some ⟨1049399, 0, none⟩) 1 18446744073709551616, .slice (some ⟨1049500, 0, none⟩) 1 18446744073709551616]⟩, 1⟩] 2)]⟩
noncomputable def ixn_121PN : Option Pos := thenNavsO Tryz.prog [.mop] ixn_121P1
noncomputable def ixn_1211S0 : SnapO := ⟨⟨[([(4, .slice (some ⟨1049684, 0, none⟩) 2 18446744073709551616)], 5),
  ([(1, .func (.func 73) ⟨[]⟩ ⟨[]⟩)], 12),
  ([], 9),
  ([(3, .slice none 0 0)], 21),
  ([(43, .bool true)], 49),
  ([(128, .bool true)], 131)],
  [(1049343, ⟨3, true, [.int .i64 (.ofNat 1), .int .i64 (.ofNat 5), .string ⟨⟨[]⟩⟩]⟩),
   (1049399, ⟨3, true, [.int .i64 (.ofNat 1), .int .i64 (.ofNat 6), .string ⟨⟨[]⟩⟩]⟩),
   (1049498, ⟨3, true, [.int .i64 (.ofNat 1), .int .i64 (.ofNat 3), .string ⟨⟨[]⟩⟩, .int .i64 (.ofNat 1), .int .i64 (.ofNat 6), .string ⟨⟨[]⟩⟩]⟩),
   (1049500, ⟨2, true, [.slice (some ⟨1049498, 0, none⟩) 2 18446744073709551616, .complex .f64 4607182418800017408 0]⟩),
   (1049584, ⟨3, true, [.int .i64 (.ofNat 1), .int .i64 (.ofNat 1), .string ⟨⟨[]⟩⟩, .int .i64 (.ofNat 1), .int .i64 (.ofNat 5), .string ⟨⟨[]⟩⟩]⟩),
   (1049621, ⟨3, true, [.int .i64 (.ofNat 1), .int .i64 (.ofNat 2), .string ⟨⟨[]⟩⟩, .int .i64 (.ofNat 1), .int .i64 (.ofNat 5), .string ⟨⟨[]⟩⟩]⟩),
   (1049623, ⟨2, true, [.slice (some ⟨1049584, 0, none⟩) 2 18446744073709551616, .complex .f64 4607182418800017408 0, .slice (some ⟨1049621, 0, none⟩) 2 18446744073709551616, .complex .f64 4607182418800017408 0]⟩),
   (1049684, ⟨2, true, [.slice (some ⟨1049343, 0, none⟩) 1 18446744073709551616, .slice (some ⟨1049623, 0, none⟩) 2 18446744073709551616, .slice (some ⟨1049399, 0, none⟩) 1 18446744073709551616, .slice (some ⟨1049500, 0, none⟩) 1 18446744073709551616]⟩)],
  1049685⟩,
  []⟩
noncomputable def ixn_1211D1 : List DirO := [dP 1, dX, dL, dP 1, dX, dO, dR, dO, dR, dL, dP 1, dX, dL, dP 2, dX, dO, dE 0, dO, dR, dL, dP 4, dX, dL, dP 2, dX]
noncomputable def ixn_1211P1 : Option Pos := thenNavsO Tryz.prog ixn_1211D1 ixn_121PN
noncomputable def ixn_1211S1 : SnapO := ⟨⟨[([(0, .bool true)], 131)],
  [],
  1049709⟩,
  []⟩
noncomputable def ixn_1212S0 : SnapO := ⟨⟨[([(4, .slice (some ⟨1049684, 0, none⟩) 2 18446744073709551616)], 5),
  ([(1, .func (.func 73) ⟨[]⟩ ⟨[]⟩)], 12),
  ([], 9),
  ([(3, .slice none 0 0)], 21),
  ([(43, .bool true)], 49),
  ([(128, .bool true)], 131)],
  [(1049343, ⟨3, true, [.int .i64 (.ofNat 1), .int .i64 (.ofNat 5), .string ⟨⟨[]⟩⟩]⟩),
   (1049399, ⟨3, true, [.int .i64 (.ofNat 1), .int .i64 (.ofNat 6), .string ⟨⟨[]⟩⟩]⟩),
   (1049498, ⟨3, true, [.int .i64 (.ofNat 1), .int .i64 (.ofNat 3), .string ⟨⟨[]⟩⟩, .int .i64 (.ofNat 1), .int .i64 (.ofNat 6), .string ⟨⟨[]⟩⟩]⟩),
   (1049500, ⟨2, true, [.slice (some ⟨1049498, 0, none⟩) 2 18446744073709551616, .complex .f64 4607182418800017408 0]⟩),
   (1049584, ⟨3, true, [.int .i64 (.ofNat 1), .int .i64 (.ofNat 1), .string ⟨⟨[]⟩⟩, .int .i64 (.ofNat 1), .int .i64 (.ofNat 5), .string ⟨⟨[]⟩⟩]⟩),
   (1049621, ⟨3, true, [.int .i64 (.ofNat 1), .int .i64 (.ofNat 2), .string ⟨⟨[]⟩⟩, .int .i64 (.ofNat 1), .int .i64 (.ofNat 5), .string ⟨⟨[]⟩⟩]⟩),
   (1049623, ⟨2, true, [.slice (some ⟨1049584, 0, none⟩) 2 18446744073709551616, .complex .f64 4607182418800017408 0, .slice (some ⟨1049621, 0, none⟩) 2 18446744073709551616, .complex .f64 4607182418800017408 0]⟩),
   (1049684, ⟨2, true, [.slice (some ⟨1049399, 0, none⟩) 1 18446744073709551616, .slice (some ⟨1049500, 0, none⟩) 1 18446744073709551616, .slice (some ⟨1049343, 0, none⟩) 1 18446744073709551616, .slice (some ⟨1049623, 0, none⟩) 2 18446744073709551616]⟩)],
  1049685⟩,
  []⟩
noncomputable def ixn_1212D1 : List DirO := [dP 1, dX, dL, dP 1, dX, dO, dR, dO, dR, dL, dP 1, dX, dL, dP 2, dX, dO, dE 0, dO, dR, dL, dP 4, dX, dL, dP 2, dX]
noncomputable def ixn_1212P1 : Option Pos := thenNavsO Tryz.prog ixn_1212D1 ixn_121PN
noncomputable def ixn_1212S1 : SnapO := ⟨⟨[([(0, .bool true)], 131)],
  [],
  1049705⟩,
  []⟩
noncomputable def ixn_122S0 : SnapO := ⟨⟨[([(0, .pointer (some ⟨1049214, 0, none⟩)), (81, .chan (some 1049624)), (82, .tuple ⟨[.bool true, .string ⟨⟨[1, 1, 6, 0, 0, 0, 0, 0, 0, 0]⟩⟩, .agg ⟨[.slice (some ⟨1049399, 0, none⟩) 1 18446744073709551616, .slice (some ⟨1049500, 0, none⟩) 1 18446744073709551616]⟩]⟩)], 102),
  ([(1, .pointer (some ⟨1049214, 0, none⟩))], 49),
  ([(128, .bool true)], 131)],
  [(1049212, ⟨1, true, [.int .i64 (.ofNat 1)]⟩),
   (1049214, ⟨0, true, [.slice (some ⟨1049212, 0, none⟩) 1 18446744073709551616, .chan (some 1049213)]⟩),
   (1049343, ⟨3, true, [.int .i64 (.ofNat 1), .int .i64 (.ofNat 5), .string ⟨⟨[]⟩⟩]⟩),
   (1049399, ⟨3, true, [.int .i64 (.ofNat 1), .int .i64 (.ofNat 6), .string ⟨⟨[]⟩⟩]⟩),
   (1049498, ⟨3, true, [.int .i64 (.ofNat 1), .int .i64 (.ofNat 3), .string ⟨⟨[]⟩⟩, .int .i64 (.ofNat 1), .int .i64 (.ofNat 6), .string ⟨⟨[]⟩⟩]⟩),
   (1049500, ⟨2, true, [.slice (some ⟨1049498, 0, none⟩) 2 18446744073709551616, .complex .f64 4607182418800017408 0]⟩),
   (1049584, ⟨3, true, [.int .i64 (.ofNat 1), .int .i64 (.ofNat 1), .string ⟨⟨[]⟩⟩, .int .i64 (.ofNat 1), .int .i64 (.ofNat 5), .string ⟨⟨[]⟩⟩]⟩),
   (1049621, ⟨3, true, [.int .i64 (.ofNat 1), .int .i64 (.ofNat 2), .string ⟨⟨[]⟩⟩, .int .i64 (.ofNat 1), .int .i64 (.ofNat 5), .string ⟨⟨[]⟩⟩]⟩),
   (1049623, ⟨2, true, [.slice (some ⟨1049584, 0, none⟩) 2 18446744073709551616, .complex .f64 4607182418800017408 0, .slice (some ⟨1049621, 0, none⟩) 2 18446744073709551616, .complex .f64 4607182418800017408 0]⟩)],
  1049625⟩,
  [(1049213, .map [] 0),
   (1049284, .map [⟨[1, 1, 5, 0, 0, 0, 0, 0, 0, 0], .agg ⟨[.slice (some ⟨1049343, 0, none⟩) 1 18446744073709551616, .slice (some ⟨1049623, 0, none⟩) 2 18446744073709551616]⟩, 0⟩, ⟨[1, 1, 6, 0, 0, 0, 0, 0, 0, 0], .agg ⟨[.slice (some ⟨1049399, 0, none⟩) 1 18446744073709551616, .slice (some ⟨1049500, 0, none⟩) 1 18446744073709551616]⟩, 1⟩] 2),
   (1049624, .iter 1049284 2 [1] 2)]⟩
noncomputable def ixn_122D1 : List DirO := [dP 1, dX, dO, dT, dR, dO, dO, dG, .mop, dP 5, dX, dO, dO, dR, dF, dR, .drw true [.take 0, .take 1, .take 2, .take 3, .take 4, .take 5, .go 6], dO, dO, dO, dG, .mop, dP 1, dX, dO, dT, dR, dO, dO, dG, .mop, dP 5, dX, dO, dO, dR, dF, dR, .drw true [.take 0, .take 1, .take 2, .take 3, .take 4, .take 5, .go 6], dO, dO, dO, dG, .mop, dP 1, dX, dO, dF, dE 4, dO, dR, dL, dP 1, dX, dO, dG, dP 6, dC 39, dO, dR, dO, .drw false [.take 0, .take 1, .take 2, .take 3, .take 4, .go 5, .go 6, .take 7, .go 8, .take 9], dL, dP 11, dC 13, dO, dR, dO, dR, dO, dO, dG, dP 1, dC 37, dO, dR, dO, dG, dP 5, dC 71, dO, dR, dO, dG, dP 1, dC 107, dO, dR, dO, dG, dP 1]
noncomputable def ixn_122P1 : Option Pos := thenNavsO Tryz.prog ixn_122D1 ixn_12PN
noncomputable def ixn_122S1 : SnapO := ⟨⟨[([(3, .func (.func 109) ⟨[]⟩ ⟨[.pointer (some ⟨1049683, 0, none⟩)]⟩)], 5),
  ([(1, .func (.func 73) ⟨[]⟩ ⟨[]⟩)], 12),
  ([], 9),
  ([(3, .slice none 0 0)], 21),
  ([(43, .bool true)], 49),
  ([(128, .bool true)], 131)],
  [(1049343, ⟨3, true, [.int .i64 (.ofNat 1), .int .i64 (.ofNat 5), .string ⟨⟨[]⟩⟩]⟩),
   (1049399, ⟨3, true, [.int .i64 (.ofNat 1), .int .i64 (.ofNat 6), .string ⟨⟨[]⟩⟩]⟩),
   (1049498, ⟨3, true, [.int .i64 (.ofNat 1), .int .i64 (.ofNat 3), .string ⟨⟨[]⟩⟩, .int .i64 (.ofNat 1), .int .i64 (.ofNat 6), .string ⟨⟨[]⟩⟩]⟩),
   (1049500, ⟨2, true, [.slice (some ⟨1049498, 0, none⟩) 2 18446744073709551616, .complex .f64 4607182418800017408 0]⟩),
   (1049584, ⟨3, true, [.int .i64 (.ofNat 1), .int .i64 (.ofNat 1), .string ⟨⟨[]⟩⟩, .int .i64 (.ofNat 1), .int .i64 (.ofNat 5), .string ⟨⟨[]⟩⟩]⟩),
   (1049621, ⟨3, true, [.int .i64 (.ofNat 1), .int .i64 (.ofNat 2), .string ⟨⟨[]⟩⟩, .int .i64 (.ofNat 1), .int .i64 (.ofNat 5), .string ⟨⟨[]⟩⟩]⟩),
   (1049623, ⟨2, true, [.slice (some ⟨1049584, 0, none⟩) 2 18446744073709551616, .complex .f64 4607182418800017408 0, .slice (some ⟨1049621, 0, none⟩) 2 18446744073709551616, .complex .f64 4607182418800017408 0]⟩),
   (1049683, ⟨0, true, [.chan (some 1049213)]⟩)],
  1049684⟩,
  [(1049213, .map [⟨[1, 1, 6, 0, 0, 0, 0, 0, 0, 0], .agg ⟨[.slice (some ⟨1049399, 0, none⟩) 1 18446744073709551616, .slice (some ⟨1049500, 0, none⟩) 1 18446744073709551616]⟩, 0⟩, ⟨[1, 1, 5, 0, 0, 0, 0, 0, 0, 0], .agg ⟨[.slice (some ⟨1049343, 0, none⟩) 1 18446744073709551616, .slice (some ⟨1049623, 0, none⟩) 2 18446744073709551616]⟩, 1⟩] 2)]⟩
noncomputable def ixn_122PN : Option Pos := thenNavsO Tryz.prog [.mop] ixn_122P1
noncomputable def ixn_1221S0 : SnapO := ⟨⟨[([(4, .slice (some ⟨1049684, 0, none⟩) 2 18446744073709551616)], 5),
  ([(1, .func (.func 73) ⟨[]⟩ ⟨[]⟩)], 12),
  ([], 9),
  ([(3, .slice none 0 0)], 21),
  ([(43, .bool true)], 49),
  ([(128, .bool true)], 131)],
  [(1049343, ⟨3, true, [.int .i64 (.ofNat 1), .int .i64 (.ofNat 5), .string ⟨⟨[]⟩⟩]⟩),
   (1049399, ⟨3, true, [.int .i64 (.ofNat 1), .int .i64 (.ofNat 6), .string ⟨⟨[]⟩⟩]⟩),
   (1049498, ⟨3, true, [.int .i64 (.ofNat 1), .int .i64 (.ofNat 3), .string ⟨⟨[]⟩⟩, .int .i64 (.ofNat 1), .int .i64 (.ofNat 6), .string ⟨⟨[]⟩⟩]⟩),
   (1049500, ⟨2, true, [.slice (some ⟨1049498, 0, none⟩) 2 18446744073709551616, .complex .f64 4607182418800017408 0]⟩),
   (1049584, ⟨3, true, [.int .i64 (.ofNat 1), .int .i64 (.ofNat 1), .string ⟨⟨[]⟩⟩, .int .i64 (.ofNat 1), .int .i64 (.ofNat 5), .string ⟨⟨[]⟩⟩]⟩),
   (1049621, ⟨3, true, [.int .i64 (.ofNat 1), .int .i64 (.ofNat 2), .string ⟨⟨[]⟩⟩, .int .i64 (.ofNat 1), .int .i64 (.ofNat 5), .string ⟨⟨[]⟩⟩]⟩),
   (1049623, ⟨2, true, [.slice (some ⟨1049584, 0, none⟩) 2 18446744073709551616, .complex .f64 4607182418800017408 0, .slice (some ⟨1049621, 0, none⟩) 2 18446744073709551616, .complex .f64 4607182418800017408 0]⟩),
   (1049684, ⟨2, true, [.slice (some ⟨1049399, 0, none⟩) 1 18446744073709551616, .slice (some ⟨1049500, 0, none⟩) 1 18446744073709551616, .slice (some ⟨1049343, 0, none⟩) 1 18446744073709551616, .slice (some ⟨1049623, 0, none⟩) 2 18446744073709551616]⟩)],
  1049685⟩,
  []⟩
noncomputable def ixn_1221D1 : List DirO := [dP 1, dX, dL, dP 1, dX, dO, dR, dO, dR, dL, dP 1, dX, dL, dP 2, dX, dO, dE 0, dO, dR, dL, dP 4, dX, dL, dP 2, dX]
noncomputable def ixn_1221P1 : Option Pos := thenNavsO Tryz.prog ixn_1221D1 ixn_122PN
noncomputable def ixn_1221S1 : SnapO := ⟨⟨[([(0, .bool true)], 131)],
  [],
  1049705⟩,
  []⟩
noncomputable def ixn_1222S0 : SnapO := ⟨⟨[([(4, .slice (some ⟨1049684, 0, none⟩) 2 18446744073709551616)], 5),
  ([(1, .func (.func 73) ⟨[]⟩ ⟨[]⟩)], 12),
  ([], 9),
  ([(3, .slice none 0 0)], 21),
  ([(43, .bool true)], 49),
  ([(128, .bool true)], 131)],
  [(1049343, ⟨3, true, [.int .i64 (.ofNat 1), .int .i64 (.ofNat 5), .string ⟨⟨[]⟩⟩]⟩),
   (1049399, ⟨3, true, [.int .i64 (.ofNat 1), .int .i64 (.ofNat 6), .string ⟨⟨[]⟩⟩]⟩),
   (1049498, ⟨3, true, [.int .i64 (.ofNat 1), .int .i64 (.ofNat 3), .string ⟨⟨[]⟩⟩, .int .i64 (.ofNat 1), .int .i64 (.ofNat 6), .string ⟨⟨[]⟩⟩]⟩),
   (1049500, ⟨2, true, [.slice (some ⟨1049498, 0, none⟩) 2 18446744073709551616, .complex .f64 4607182418800017408 0]⟩),
   (1049584, ⟨3, true, [.int .i64 (.ofNat 1), .int .i64 (.ofNat 1), .string ⟨⟨[]⟩⟩, .int .i64 (.ofNat 1), .int .i64 (.ofNat 5), .string ⟨⟨[]⟩⟩]⟩),
   (1049621, ⟨3, true, [.int .i64 (.ofNat 1), .int .i64 (.ofNat 2), .string ⟨⟨[]⟩⟩, .int .i64 (.ofNat 1), .int .i64 (.ofNat 5), .string ⟨⟨[]⟩⟩]⟩),
   (1049623, ⟨2, true, [.slice (some ⟨1049584, 0, none⟩) 2 18446744073709551616, .complex .f64 4607182418800017408 0, .slice (some ⟨1049621, 0, none⟩) 2 18446744073709551616, .complex .f64 4607182418800017408 0]⟩),
   (1049684, ⟨2, true, [.slice (some ⟨1049343, 0, none⟩) 1 18446744073709551616, .slice (some ⟨1049623, 0, none⟩) 2 18446744073709551616, .slice (some ⟨1049399, 0, none⟩) 1 18446744073709551616, .slice (some ⟨1049500, 0, none⟩) 1 18446744073709551616]⟩)],
  1049685⟩,
  []⟩
noncomputable def ixn_1222D1 : List DirO := [dP 1, dX, dL, dP 1, dX, dO, dR, dO, dR, dL, dP 1, dX, dL, dP 2, dX, dO, dE 0, dO, dR, dL, dP 4, dX, dL, dP 2, dX]
noncomputable def ixn_1222P1 : Option Pos := thenNavsO Tryz.prog ixn_1222D1 ixn_122PN
noncomputable def ixn_1222S1 : SnapO := ⟨⟨[([(0, .bool true)], 131)],
  [],
  1049709⟩,
  []⟩
end Go.Proofs.YtloolljoelngcaaGreat
