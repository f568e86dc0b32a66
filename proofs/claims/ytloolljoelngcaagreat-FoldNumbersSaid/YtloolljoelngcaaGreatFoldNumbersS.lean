/-
  FoldNumbers: states between pieces of its run.
-/
import Derived.Test.YtloolljoelngcaaGreatKeysIn
import Derived.Test.YtloolljoelngcaaGreatChecked
namespace Go.Proofs.YtloolljoelngcaaGreat
open Go.RowKit
set_option maxRecDepth 1000000
noncomputable def fnFn : Func := match Tryz.prog.funcs[4]? with
  | some fn => fn
  | none => default
noncomputable def fnBody : Code := match fnFn.body with
  | some c => c
  | none => .skip
noncomputable def fnP0 : Option Pos := some [(4, [.code fnBody])]
noncomputable def fnS0 : SnapO := ⟨ofSnap (start fnFn), []⟩
noncomputable def fnD1 : List DirO := [dO, dR, dO, dR, dO, dR, dO, dG, dP 2, dC 15, dO, dR, dO, dO, dR, dF, dR, dO, dG, dP 2, .mop, dP 3, dX, dO, dO, dR, dO, dL, dP 5, dX, dO, dR, dO, dG, dP 2, dC 15, dO, dR, dO, dO, dR, dF, dR, dO, dG, dP 2, .mop, dP 3, dX, dO, dO, dR, dO, dL, dP 5, dX, dO, dG, dP 6, dC 15, dO, dR, dO, dO, dR, dF, dR, dO, dG, dP 2, .mop, dP 3, dX, dO, dO, dR, dO, dE 0, dO, dR, dL, dP 5, dX, dO, dO, dR, dF, dR, dO, dG, dP 4, dC 16, dO, dR, dO, dO, dR, dF, dR, dO, dG, dP 2, dC 42, dO, dR, dO, dG, .mop, dP 1, dX, dO, dO, dR, dO, dL, dP 5, dX, dO, dO, dR, dT, dO, dR, dL, dP 5, dX, dO, dG, dP 5, dC 16, dO, dR, dO, dO, dR, dF, dR, dO, dG, dP 2, dC 42, dO, dR, dO, dG, .mop, dP 1, dX, dO, dO, dR, dO, dL, dP 5, dX, dO, dO, dR, dT, dO, dR, dL, dP 5, dX, dO, dG, dP 4, dC 16, dO, dR, dO, dO, dR]
noncomputable def fnP1 : Option Pos := thenNavsO Tryz.prog fnD1 fnP0
noncomputable def fnS1 : SnapO := ⟨⟨[([(0, .pointer (some ⟨1048595, 0, none⟩)), (1, .slice (some ⟨1048645, 0, none⟩) 1 1), (15, .bool false)], 80),
  ([(2, .int .i64 (.ofNat 1)), (4, .int .i64 (.ofNat 1)), (6, .int .i64 (.ofNat 1)), (8, .int .i64 (.ofNat 1)), (10, .int .i64 (.ofNat 1)), (11, .pointer (some ⟨1048595, 0, none⟩)), (14, .int .i64 (.ofNat 1)), (16, .int .i64 (.ofNat 1))], 233)],
  [(1048593, ⟨1, true, [.int .i64 (.ofNat 0)]⟩),
   (1048595, ⟨0, true, [.slice (some ⟨1048593, 0, none⟩) 1 18446744073709551616, .slice (some ⟨1048614, 0, none⟩) 4 18446744073709551616, .chan (some 1048594)]⟩),
   (1048614, ⟨2, true, [.string ⟨⟨[115, 117, 109]⟩⟩, .int .i64 (.ofNat 1), .string ⟨⟨[109, 105, 110]⟩⟩, .int .i64 (.ofNat 1), .string ⟨⟨[109, 97, 120]⟩⟩, .int .i64 (.ofNat 1), .string ⟨⟨[99, 111, 117, 110, 116]⟩⟩, .int .i64 (.ofNat 0)]⟩),
   (1048644, ⟨3, true, [.int .i64 (.ofNat 1), .int .i64 (.ofNat 1), .string ⟨⟨[]⟩⟩, .int .i64 (.ofNat 1), .int .i64 (.ofNat 2), .string ⟨⟨[]⟩⟩]⟩),
   (1048645, ⟨2, true, [.slice (some ⟨1048644, 0, none⟩) 2 18446744073709551616, .complex .f64 0 4607182418800017408]⟩)],
  1048651⟩,
  [(1048594, .map [] 0)]⟩
noncomputable def fnD2 : List DirO := [dF, dR, dO, dG, dP 2, dC 42, dO, dR, dO, dG, .mop, dP 1, dX, dO, dO, dR, dO, dO, dO, dR, dO, dT, dR, dO, dO, dO, dR, dO, dR, dO, dO, dR, dF, dR, dO, dR, dG, dP 5, .mop, dP 5, .mop, dX, dO, dR, dO, dO, dR, dO, dF, dE 0, dO, dR, dL, dP 5, dX, dO, dO, dR, dF, dR, dO, dO, dG, dP 2, dC 43, dO, dR, dO, dO, dG, dP 1, .mop, dX, dO, dO, dO, dG, .mop, dP 1, dX, dO, dT, dR, dO, dO, dG, .mop, dP 5, dX, dO, .drw false [.take 0, .take 1, .take 2, .take 3, .take 4, .take 5, .take 6, .take 7, .take 8, .go 9, .take 10, .take 11, .take 12, .take 13, .take 14], dO, dO, dR, dT, dO, dR, dL, dP 1, dX, dO, dR, dT, dO, dR, dL, dP 5, dX, dO, dG, dP 4, dC 16, dO, dR, dO, dO, dR, dF, dR, dO, dG, dP 2, dC 42, dO, dR, dO, dG, .mop, dP 1, dX, dO, dO, dR, dO, dO, dO, dR, dO, dT, dR, dO, dO, dO, dR, dO, dR, dO, dO, dR, dF, dR, dO, dR, dG, dP 5, .mop, dP 5, .mop, dX, dO, dR, dO, dO, dR, dO, dF, dE 0, dO, dR, dL, dP 5, dX, dO, dO, dR, dF, dR, dO, dO, dG, dP 2, dC 43, dO, dR, dO, dO, dG, dP 1, .mop, dX, dO, dO, dO, dG, .mop, dP 1, dX, dO, dT, dR, dO, dO, dG, .mop, dP 5, dX, dO, .drw false [.take 0, .take 1, .take 2, .take 3, .take 4, .take 5, .take 6, .take 7, .take 8, .go 9, .take 10, .take 11, .take 12, .take 13, .take 14], dO, dO, dR, dF, dR, dG, dP 6, .mop, dX, dO, dO, dO, dG, .mop, dP 1, dX, dO, dF, dE 0, dO, dO, dG, dP 2, dC 79, dO, dR, dO, dR, dO, dR, dO, dO, dG, dP 4, .mop, dX, dO, dO, dO, dG, .mop, dP 1, dX, dO, dF, dE 0, dO, dO, dG, dP 1, .mop, dX, dO, dO, dO, dG, .mop, dP 1, dX, dO, dT, dR, dO, dO, dG, .mop, dP 3, dX, dR]
noncomputable def fnP2 : Option Pos := thenNavsO Tryz.prog fnD2 fnP1
noncomputable def fnS2 : SnapO := ⟨⟨[([(5, .pointer (some ⟨1048844, 0, none⟩)), (6, .func (.func 112) ⟨[]⟩ ⟨[.pointer (some ⟨1048844, 0, none⟩)]⟩), (37, .chan (some 1048846))], 48),
  ([(0, .pointer (some ⟨1048595, 0, none⟩)), (1, .chan (some 1048754))], 89),
  ([(0, .pointer (some ⟨1048595, 0, none⟩)), (6, .chan (some 1048754))], 80),
  ([(2, .int .i64 (.ofNat 1)), (4, .int .i64 (.ofNat 1)), (6, .int .i64 (.ofNat 1)), (8, .int .i64 (.ofNat 1)), (10, .int .i64 (.ofNat 1)), (11, .pointer (some ⟨1048595, 0, none⟩)), (14, .int .i64 (.ofNat 1)), (16, .int .i64 (.ofNat 1)), (18, .int .i64 (.ofNat 27))], 233)],
  [(1048593, ⟨1, true, [.int .i64 (.ofNat 0)]⟩),
   (1048595, ⟨0, true, [.slice (some ⟨1048593, 0, none⟩) 1 18446744073709551616, .slice (some ⟨1048614, 0, none⟩) 4 18446744073709551616, .chan (some 1048594)]⟩),
   (1048614, ⟨2, true, [.string ⟨⟨[115, 117, 109]⟩⟩, .int .i64 (.ofNat 1), .string ⟨⟨[109, 105, 110]⟩⟩, .int .i64 (.ofNat 1), .string ⟨⟨[109, 97, 120]⟩⟩, .int .i64 (.ofNat 1), .string ⟨⟨[99, 111, 117, 110, 116]⟩⟩, .int .i64 (.ofNat 0)]⟩),
   (1048762, ⟨3, true, [.int .i64 (.ofNat 1), .int .i64 (.ofNat 1), .string ⟨⟨[]⟩⟩]⟩),
   (1048835, ⟨3, true, [.int .i64 (.ofNat 1), .int .i64 (.ofNat 1), .string ⟨⟨[]⟩⟩, .int .i64 (.ofNat 1), .int .i64 (.ofNat 2), .string ⟨⟨[]⟩⟩]⟩),
   (1048837, ⟨2, true, [.slice (some ⟨1048835, 0, none⟩) 2 18446744073709551616, .complex .f64 4647723611539374080 0]⟩),
   (1048844, ⟨0, true, [.int .i64 (.ofNat 513)]⟩)],
  1048849⟩,
  [(1048594, .map [] 0),
   (1048754, .map [⟨[1, 1, 1, 0, 0, 0, 0, 0, 0, 0], .agg ⟨[.slice (some ⟨1048762, 0, none⟩) 1 18446744073709551616, .slice (some ⟨1048837, 0, none⟩) 1 18446744073709551616, .slice none 0 0]⟩, 0⟩] 1),
   (1048846, .iter 1048754 1 [0] 1)]⟩
noncomputable def fnD3 : List DirO := [dO, dO, dO, dG, .mop, dP 1, dX, dO, dF, dE 2, dO, dR, dL, dX, dT, dO, dR, dL, dP 1, dX, dO, dR, dT, dO, dR, dL, dP 5, dX, dO, dG, dP 4, dC 16, dO, dR, dO, dO, dR, dF, dR, dO, dG, dP 2, dC 42, dO, dR, dO, dG, .mop, dP 1, dX, dO, dO, dR, dO, dO, dO, dR, dO, dT, dR, dO, dO, dO, dR, dO, dR, dO, dO, dR, dF, dR, dO, dR, dG, dP 5, .mop, dP 5, .mop, dX, dO, dR, dO, dO, dR, dO, dF, dE 0, dO, dR, dL, dP 5, dX, dO, dO, dR, dF, dR, dO, dO, dG, dP 2, dC 43, dO, dR, dO, dO, dG, dP 1, .mop, dX, dO, dO, dO, dG, .mop, dP 1, dX, dO, dT, dR, dO, dO, dG, .mop, dP 5, dX, dO, .drw false [.take 0, .take 1, .take 2, .take 3, .take 4, .take 5, .take 6, .take 7, .take 8, .go 9, .take 10, .take 11, .take 12, .take 13, .take 14], dO, dO, dR, dF, dR, dG, dP 6, .mop, dX, dO, dO, dO, dG, .mop, dP 1, dX, dO, dF, dE 0, dO, dO, dG, dP 2, dC 79, dO, dR, dO, dR, dO, dR, dO, dO, dG, dP 4, .mop, dX, dO, dO, dO, dG, .mop, dP 1, dX, dO, dF, dE 0, dO, dO, dG, dP 1, .mop, dX, dO, dO, dO, dG, .mop, dP 1, dX, dO, dT, dR, dO, dO, dG, .mop, dP 3, dX, dR, dO, dO, dO, dG, .mop, dP 1, dX, dO, dF, dE 2, dO, dR, dL, dX, dF, dR, dO, dO, dG, dP 1, .srt, dP 2, dX, dO, dO, dO, dR, dO, dT, dR, dO, dO, dO, dR, dO, dG, dP 2, .mop, dP 2, dX, dO, dO, dR, dF, dR, dO, dR, dO, dO, dR, dT, dO, dR, dL, dP 1, dX, dO, dR, dT, dO, dR, dL, dP 5, dX, dO, dG, dP 6]
noncomputable def fnP3 : Option Pos := thenNavsO Tryz.prog fnD3 fnP2
noncomputable def fnS3 : SnapO := ⟨⟨[([(2, .int .i64 (.ofNat 1)), (4, .int .i64 (.ofNat 1)), (6, .int .i64 (.ofNat 1)), (8, .int .i64 (.ofNat 1)), (10, .int .i64 (.ofNat 1)), (11, .pointer (some ⟨1048595, 0, none⟩)), (14, .int .i64 (.ofNat 1)), (16, .int .i64 (.ofNat 1)), (18, .int .i64 (.ofNat 27)), (20, .int .i64 (.ofNat 27)), (22, .int .i64 (.ofNat 26)), (117, .pointer (some ⟨1048595, 0, none⟩)), (120, .agg ⟨[.slice (some ⟨1048980, 0, none⟩) 2 18446744073709551616, .complex .f64 4607182418800017408 0]⟩), (122, .slice (some ⟨1048987, 0, none⟩) 2 18446744073709551616)], 233)],
  [(1048593, ⟨1, true, [.int .i64 (.ofNat 0)]⟩),
   (1048595, ⟨0, true, [.slice (some ⟨1048593, 0, none⟩) 1 18446744073709551616, .slice (some ⟨1048614, 0, none⟩) 4 18446744073709551616, .chan (some 1048594)]⟩),
   (1048614, ⟨2, true, [.string ⟨⟨[115, 117, 109]⟩⟩, .int .i64 (.ofNat 1), .string ⟨⟨[109, 105, 110]⟩⟩, .int .i64 (.ofNat 1), .string ⟨⟨[109, 97, 120]⟩⟩, .int .i64 (.ofNat 1), .string ⟨⟨[99, 111, 117, 110, 116]⟩⟩, .int .i64 (.ofNat 0)]⟩),
   (1048980, ⟨3, true, [.int .i64 (.ofNat 1), .int .i64 (.ofNat 1), .string ⟨⟨[]⟩⟩, .int .i64 (.ofNat 1), .int .i64 (.negSucc 4), .string ⟨⟨[]⟩⟩]⟩),
   (1048987, ⟨3, true, [.int .i64 (.ofNat 1), .int .i64 (.ofNat 1), .string ⟨⟨[]⟩⟩, .int .i64 (.ofNat 1), .int .i64 (.ofNat 4611686018427387904), .string ⟨⟨[]⟩⟩]⟩)],
  1048988⟩,
  [(1048594, .map [] 0)]⟩
noncomputable def fnD4 : List DirO := [dP 2, dC 16, dO, dR, dO, dO, dR, dF, dR, dO, dG, dP 2, dC 42, dO, dR, dO, dG, .mop, dP 1, dX, dO, dO, dR, dO, dO, dO, dR, dO, dT, dR, dO, dO, dO, dR, dO, dR, dO, dO, dR, dF, dR, dO, dR, dG, dP 5, .mop, dP 5, .mop, dX, dO, dR, dO, dO, dR, dO, dT, dR, dO, dO, dO, dR, dO, dR, dO, dO, dR, dF, dR, dO, dR, dG, dP 5, .mop, dP 5, .mop, dX, dO, dR, dO, dO, dR, dO, dF, dE 0, dO, dR, dL, dP 5, dX, dO, dO, dR, dF, dR, dO, dO, dG, dP 2, dC 43, dO, dR, dO, dO, dG, dP 1, .mop, dX, dO, dO, dO, dG, .mop, dP 1, dX, dO, dT, dR, dO, dO, dG, .mop, dP 5, dX, dO, .drw false [.take 0, .take 1, .take 2, .take 3, .take 4, .take 5, .take 6, .take 7, .take 8, .go 9, .take 10, .take 11, .take 12, .take 13, .take 14], dO, dO, dR, dF, dR, dG, dP 6, .mop, dX, dO, dO, dO, dG, .mop, dP 1, dX, dO, dF, dE 0, dO, dO, dG, dP 2, dC 79, dO, dR, dO, dR, dO, dR, dO, dO, dG, dP 4, .mop, dX, dO, dO, dO, dG, .mop, dP 1, dX, dO, dF, dE 0, dO, dO, dG, dP 1, .mop, dX, dO, dO, dO, dG, .mop, dP 1, dX, dO, dT, dR, dO, dO, dG, .mop, dP 3, dX, dR]
noncomputable def fnP4 : Option Pos := thenNavsO Tryz.prog fnD4 fnP3
noncomputable def fnS4 : SnapO := ⟨⟨[([(5, .pointer (some ⟨1049286, 0, none⟩)), (6, .func (.func 112) ⟨[]⟩ ⟨[.pointer (some ⟨1049286, 0, none⟩)]⟩), (37, .chan (some 1049288))], 48),
  ([(0, .pointer (some ⟨1048595, 0, none⟩)), (1, .chan (some 1049027))], 89),
  ([(0, .pointer (some ⟨1048595, 0, none⟩)), (6, .chan (some 1049027))], 80),
  ([(2, .int .i64 (.ofNat 1)), (4, .int .i64 (.ofNat 1)), (6, .int .i64 (.ofNat 1)), (8, .int .i64 (.ofNat 1)), (10, .int .i64 (.ofNat 1)), (11, .pointer (some ⟨1048595, 0, none⟩)), (14, .int .i64 (.ofNat 1)), (16, .int .i64 (.ofNat 1)), (18, .int .i64 (.ofNat 27)), (20, .int .i64 (.ofNat 27)), (22, .int .i64 (.ofNat 26))], 233)],
  [(1048593, ⟨1, true, [.int .i64 (.ofNat 0)]⟩),
   (1048595, ⟨0, true, [.slice (some ⟨1048593, 0, none⟩) 1 18446744073709551616, .slice (some ⟨1048614, 0, none⟩) 4 18446744073709551616, .chan (some 1048594)]⟩),
   (1048614, ⟨2, true, [.string ⟨⟨[115, 117, 109]⟩⟩, .int .i64 (.ofNat 1), .string ⟨⟨[109, 105, 110]⟩⟩, .int .i64 (.ofNat 1), .string ⟨⟨[109, 97, 120]⟩⟩, .int .i64 (.ofNat 1), .string ⟨⟨[99, 111, 117, 110, 116]⟩⟩, .int .i64 (.ofNat 0)]⟩),
   (1049070, ⟨3, true, [.int .i64 (.ofNat 1), .int .i64 (.ofNat 1), .string ⟨⟨[]⟩⟩]⟩),
   (1049206, ⟨3, true, [.int .i64 (.ofNat 1), .int .i64 (.ofNat 1), .string ⟨⟨[]⟩⟩, .int .i64 (.ofNat 1), .int .i64 (.negSucc 4), .string ⟨⟨[]⟩⟩]⟩),
   (1049243, ⟨3, true, [.int .i64 (.ofNat 1), .int .i64 (.ofNat 1), .string ⟨⟨[]⟩⟩, .int .i64 (.ofNat 1), .int .i64 (.ofNat 4611686018427387904), .string ⟨⟨[]⟩⟩]⟩),
   (1049245, ⟨2, true, [.slice (some ⟨1049206, 0, none⟩) 2 18446744073709551616, .complex .f64 4607182418800017408 0, .slice (some ⟨1049243, 0, none⟩) 2 18446744073709551616, .complex .f64 4611686018427387904 0]⟩),
   (1049286, ⟨0, true, [.int .i64 (.ofNat 3)]⟩)],
  1049292⟩,
  [(1048594, .map [] 0),
   (1049027, .map [⟨[1, 1, 1, 0, 0, 0, 0, 0, 0, 0], .agg ⟨[.slice (some ⟨1049070, 0, none⟩) 1 18446744073709551616, .slice (some ⟨1049245, 0, none⟩) 2 18446744073709551616, .slice none 0 0]⟩, 0⟩] 1),
   (1049288, .iter 1049027 1 [0] 1)]⟩
noncomputable def fnD5 : List DirO := [dO, dO, dO, dG, .mop, dP 1, dX, dO, dF, dE 2, dO, dR, dL, dX, dF, dR, dO, dO, dG, dP 1, .srt, dP 2, dX, dO, dO, dO, dR, dO, dT, dR, dO, dO, dO, dR, dO, dG, dP 2, .mop, dP 2, dX, dO, dO, dR, dF, dR, dO, dR, dO, dO, dR, dF, dR, dG, dP 8, .mop, dX, dO, dR, dO, dO, dR, dO, dF, dE 2, dO, dR, dL, dP 1, dX, dO, dR, dF, dR, dO, dR, dO, dO, dG, dP 1, .mop, dX, dO, dO, dO, dG, .mop, dP 1, dX, dO, dT, dR, dO, dO, dG, .mop, dP 5, dX, dO, dO, dG, dP 5, .mop, dP 2, dX, dO, dR, dF, dR, dO, dO, dR, dF, dR, dO, .drw true [.take 0, .take 1, .take 2, .take 3, .take 4, .take 5, .go 6], dR, dO, dO, dO, dG, .mop, dP 1, dX, dO, dF, dE 0, dO, dR, dL, dP 5, dX, dO, dG, dP 4, dC 16, dO, dR, dO, dO, dR, dF, dR, dO, dG, dP 2, dC 42, dO, dR, dO, dG, .mop, dP 1, dX, dO, dO, dR, dO, dO, dO, dR, dO, dT, dR, dO, dO, dO, dR, dO, dR, dO, dO, dR, dF, dR, dO, dR, dG, dP 5, .mop, dP 5]
noncomputable def fnP5 : Option Pos := thenNavsO Tryz.prog fnD5 fnP4
noncomputable def fnS5 : SnapO := ⟨⟨[([(0, .pointer (some ⟨1048595, 0, none⟩)), (6, .chan (some 1049479)), (13, .slice (some ⟨1049473, 0, none⟩) 1 1), (14, .int .i64 (.ofNat 1)), (15, .int .i64 (.ofNat 0)), (30, .chan (some 1049479)), (31, .string ⟨⟨[1, 1, 1, 0, 0, 0, 0, 0, 0, 0]⟩⟩), (40, .agg ⟨[.slice (some ⟨1049487, 0, none⟩) 1 18446744073709551616, .slice (some ⟨1049514, 0, none⟩) 1 18446744073709551616, .slice none 0 0]⟩)], 43),
  ([(0, .pointer (some ⟨1048595, 0, none⟩))], 80),
  ([(2, .int .i64 (.ofNat 1)), (4, .int .i64 (.ofNat 1)), (6, .int .i64 (.ofNat 1)), (8, .int .i64 (.ofNat 1)), (10, .int .i64 (.ofNat 1)), (11, .pointer (some ⟨1048595, 0, none⟩)), (14, .int .i64 (.ofNat 1)), (16, .int .i64 (.ofNat 1)), (18, .int .i64 (.ofNat 27)), (20, .int .i64 (.ofNat 27)), (22, .int .i64 (.ofNat 26)), (23, .slice (some ⟨1049465, 0, none⟩) 1 18446744073709551616), (24, .int .i64 (.ofNat 0))], 233)],
  [(1048593, ⟨1, true, [.int .i64 (.ofNat 0)]⟩),
   (1048595, ⟨0, true, [.slice (some ⟨1048593, 0, none⟩) 1 18446744073709551616, .slice (some ⟨1048614, 0, none⟩) 4 18446744073709551616, .chan (some 1048594)]⟩),
   (1048614, ⟨2, true, [.string ⟨⟨[115, 117, 109]⟩⟩, .int .i64 (.ofNat 1), .string ⟨⟨[109, 105, 110]⟩⟩, .int .i64 (.ofNat 1), .string ⟨⟨[109, 97, 120]⟩⟩, .int .i64 (.ofNat 1), .string ⟨⟨[99, 111, 117, 110, 116]⟩⟩, .int .i64 (.ofNat 0)]⟩),
   (1049070, ⟨3, true, [.int .i64 (.ofNat 1), .int .i64 (.ofNat 1), .string ⟨⟨[]⟩⟩]⟩),
   (1049206, ⟨3, true, [.int .i64 (.ofNat 1), .int .i64 (.ofNat 1), .string ⟨⟨[]⟩⟩, .int .i64 (.ofNat 1), .int .i64 (.negSucc 4), .string ⟨⟨[]⟩⟩]⟩),
   (1049243, ⟨3, true, [.int .i64 (.ofNat 1), .int .i64 (.ofNat 1), .string ⟨⟨[]⟩⟩, .int .i64 (.ofNat 1), .int .i64 (.ofNat 4611686018427387904), .string ⟨⟨[]⟩⟩]⟩),
   (1049245, ⟨2, true, [.slice (some ⟨1049206, 0, none⟩) 2 18446744073709551616, .complex .f64 4607182418800017408 0, .slice (some ⟨1049243, 0, none⟩) 2 18446744073709551616, .complex .f64 4611686018427387904 0]⟩),
   (1049362, ⟨3, true, [.int .i64 (.ofNat 1), .int .i64 (.ofNat 1), .string ⟨⟨[]⟩⟩, .int .i64 (.ofNat 1), .int .i64 (.ofNat 9223372036854775803), .string ⟨⟨[]⟩⟩, .int .i64 (.ofNat 1), .int .i64 (.negSucc 4), .string ⟨⟨[]⟩⟩, .int .i64 (.ofNat 1), .int .i64 (.ofNat 4611686018427387904), .string ⟨⟨[]⟩⟩, .int .i64 (.ofNat 1), .int .i64 (.ofNat 3), .string ⟨⟨[]⟩⟩]⟩),
   (1049463, ⟨3, true, [.int .i64 (.ofNat 1), .int .i64 (.ofNat 1), .string ⟨⟨[]⟩⟩, .int .i64 (.ofNat 1), .int .i64 (.ofNat 9223372036854775803), .string ⟨⟨[]⟩⟩, .int .i64 (.ofNat 1), .int .i64 (.negSucc 4), .string ⟨⟨[]⟩⟩, .int .i64 (.ofNat 1), .int .i64 (.ofNat 4611686018427387904), .string ⟨⟨[]⟩⟩, .int .i64 (.ofNat 1), .int .i64 (.ofNat 3), .string ⟨⟨[]⟩⟩]⟩),
   (1049465, ⟨2, true, [.slice (some ⟨1049463, 0, none⟩) 5 18446744073709551616, .complex .f64 4607182418800017408 0]⟩),
   (1049472, ⟨3, true, [.int .i64 (.ofNat 1), .int .i64 (.ofNat 1), .string ⟨⟨[]⟩⟩, .int .i64 (.ofNat 1), .int .i64 (.negSucc 4), .string ⟨⟨[]⟩⟩]⟩),
   (1049473, ⟨2, true, [.slice (some ⟨1049472, 0, none⟩) 2 18446744073709551616, .complex .f64 0 4607182418800017408]⟩),
   (1049487, ⟨3, true, [.int .i64 (.ofNat 1), .int .i64 (.ofNat 1), .string ⟨⟨[]⟩⟩]⟩),
   (1049514, ⟨2, true, [.slice (some ⟨1049472, 0, none⟩) 2 18446744073709551616, .complex .f64 0 4607182418800017408]⟩)],
  1049515⟩,
  [(1048594, .map [⟨[1, 1, 1, 0, 0, 0, 0, 0, 0, 0], .agg ⟨[.slice (some ⟨1049070, 0, none⟩) 1 18446744073709551616, .slice (some ⟨1049245, 0, none⟩) 2 18446744073709551616, .slice (some ⟨1049362, 0, none⟩) 5 18446744073709551616]⟩, 0⟩] 1),
   (1049479, .map [] 0)]⟩
noncomputable def fnD6 : List DirO := [.mop, dX, dO, dR, dO, dO, dR, dO, dF, dE 0, dO, dR, dL, dP 5, dX, dO, dO, dR, dF, dR, dO, dO, dG, dP 2, dC 43, dO, dR, dO, dO, dG, dP 1, .mop, dX, dO, dO, dO, dG, .mop, dP 1, dX, dO, dT, dR, dO, dO, dG, .mop, dP 5, dX, dO, .drw false [.take 0, .take 1, .take 2, .take 3, .take 4, .take 5, .take 6, .take 7, .take 8, .go 9, .take 10, .take 11, .take 12, .take 13, .take 14], dO, dO, dR, dF, dR, dG, dP 6, .mop, dX, dO, dO, dO, dG, .mop, dP 1, dX, dO, dF, dE 0, dO, dO, dG, dP 2, dC 79, dO, dR, dO, dR, dO, dR, dO, dO, dG, dP 4, .mop, dX, dO, dO, dO, dG, .mop, dP 1, dX, dO, dT, dR, dO, dO, dG, .mop, dP 5, dX, dO, dG, dP 2, .mop, dP 6, dX, dO, dR, dF, dR, dO, dO, dO, dG, .mop, dP 1, dX, dO, dF, dE 0, dO, dO, dG, dP 1, .mop, dX, dO, dO, dO, dG, .mop, dP 1, dX, dO, dT, dR, dO, dO, dG, .mop, dP 3, dX, dR, dO, dO, dO, dG, .mop, dP 1, dX, dO, dF, dE 2, dO, dR, dL, dX, dF, dR, dO, dO, dG, dP 1, .srt, dP 2, dX, dO, dO, dO, dR, dO, dT, dR, dO, dO, dO, dR, dO, dG, dP 2, .mop, dP 2, dX, dO, dO, dR, dF, dR, dO, dR, dO, dO, dR, dT, dO, dR, dL, dP 1, dX, dO, dR, dT, dO, dR, dL, dP 5, dX, dO, dG, dP 8, dC 16, dO, dR, dO, dO, dR]
noncomputable def fnP6 : Option Pos := thenNavsO Tryz.prog fnD6 fnP5
noncomputable def fnS6 : SnapO := ⟨⟨[([(0, .pointer (some ⟨1048595, 0, none⟩)), (1, .slice (some ⟨1049787, 0, none⟩) 2 2), (15, .bool false)], 80),
  ([(2, .int .i64 (.ofNat 1)), (4, .int .i64 (.ofNat 1)), (6, .int .i64 (.ofNat 1)), (8, .int .i64 (.ofNat 1)), (10, .int .i64 (.ofNat 1)), (14, .int .i64 (.ofNat 1)), (16, .int .i64 (.ofNat 1)), (18, .int .i64 (.ofNat 27)), (20, .int .i64 (.ofNat 27)), (22, .int .i64 (.ofNat 26)), (23, .slice (some ⟨1049465, 0, none⟩) 1 18446744073709551616), (24, .int .i64 (.ofNat 0)), (25, .slice none 0 0), (26, .int .i64 (.ofNat 26))], 233)],
  [(1048593, ⟨1, true, [.int .i64 (.ofNat 0)]⟩),
   (1048595, ⟨0, true, [.slice (some ⟨1048593, 0, none⟩) 1 18446744073709551616, .slice (some ⟨1048614, 0, none⟩) 4 18446744073709551616, .chan (some 1048594)]⟩),
   (1048614, ⟨2, true, [.string ⟨⟨[115, 117, 109]⟩⟩, .int .i64 (.ofNat 1), .string ⟨⟨[109, 105, 110]⟩⟩, .int .i64 (.ofNat 1), .string ⟨⟨[109, 97, 120]⟩⟩, .int .i64 (.ofNat 1), .string ⟨⟨[99, 111, 117, 110, 116]⟩⟩, .int .i64 (.ofNat 0)]⟩),
   (1049070, ⟨3, true, [.int .i64 (.ofNat 1), .int .i64 (.ofNat 1), .string ⟨⟨[]⟩⟩]⟩),
   (1049206, ⟨3, true, [.int .i64 (.ofNat 1), .int .i64 (.ofNat 1), .string ⟨⟨[]⟩⟩, .int .i64 (.ofNat 1), .int .i64 (.negSucc 4), .string ⟨⟨[]⟩⟩]⟩),
   (1049243, ⟨3, true, [.int .i64 (.ofNat 1), .int .i64 (.ofNat 1), .string ⟨⟨[]⟩⟩, .int .i64 (.ofNat 1), .int .i64 (.ofNat 4611686018427387904), .string ⟨⟨[]⟩⟩]⟩),
   (1049245, ⟨2, true, [.slice (some ⟨1049206, 0, none⟩) 2 18446744073709551616, .complex .f64 4607182418800017408 0, .slice (some ⟨1049243, 0, none⟩) 2 18446744073709551616, .complex .f64 4611686018427387904 0]⟩),
   (1049362, ⟨3, true, [.int .i64 (.ofNat 1), .int .i64 (.ofNat 1), .string ⟨⟨[]⟩⟩, .int .i64 (.ofNat 1), .int .i64 (.ofNat 9223372036854775803), .string ⟨⟨[]⟩⟩, .int .i64 (.ofNat 1), .int .i64 (.negSucc 4), .string ⟨⟨[]⟩⟩, .int .i64 (.ofNat 1), .int .i64 (.ofNat 4611686018427387904), .string ⟨⟨[]⟩⟩, .int .i64 (.ofNat 1), .int .i64 (.ofNat 3), .string ⟨⟨[]⟩⟩]⟩),
   (1049463, ⟨3, true, [.int .i64 (.ofNat 1), .int .i64 (.ofNat 1), .string ⟨⟨[]⟩⟩, .int .i64 (.ofNat 1), .int .i64 (.ofNat 9223372036854775803), .string ⟨⟨[]⟩⟩, .int .i64 (.ofNat 1), .int .i64 (.negSucc 4), .string ⟨⟨[]⟩⟩, .int .i64 (.ofNat 1), .int .i64 (.ofNat 4611686018427387904), .string ⟨⟨[]⟩⟩, .int .i64 (.ofNat 1), .int .i64 (.ofNat 3), .string ⟨⟨[]⟩⟩]⟩),
   (1049465, ⟨2, true, [.slice (some ⟨1049463, 0, none⟩) 5 18446744073709551616, .complex .f64 4607182418800017408 0]⟩),
   (1049779, ⟨3, true, [.int .i64 (.ofNat 1), .int .i64 (.ofNat 1), .string ⟨⟨[]⟩⟩, .int .i64 (.ofNat 1), .int .i64 (.negSucc 4), .string ⟨⟨[]⟩⟩]⟩),
   (1049786, ⟨3, true, [.int .i64 (.ofNat 1), .int .i64 (.ofNat 1), .string ⟨⟨[]⟩⟩, .int .i64 (.ofNat 1), .int .i64 (.ofNat 4611686018427387904), .string ⟨⟨[]⟩⟩]⟩),
   (1049787, ⟨2, true, [.slice (some ⟨1049779, 0, none⟩) 2 18446744073709551616, .complex .f64 4607182418800017408 0, .slice (some ⟨1049786, 0, none⟩) 2 18446744073709551616, .complex .f64 0 4611686018427387904]⟩)],
  1049826⟩,
  [(1048594, .map [⟨[1, 1, 1, 0, 0, 0, 0, 0, 0, 0], .agg ⟨[.slice (some ⟨1049070, 0, none⟩) 1 18446744073709551616, .slice (some ⟨1049245, 0, none⟩) 2 18446744073709551616, .slice (some ⟨1049362, 0, none⟩) 5 18446744073709551616]⟩, 0⟩] 1)]⟩
noncomputable def fnD7 : List DirO := [dF, dR, dO, dG, dP 2, dC 42, dO, dR, dO, dG, .mop, dP 1, dX, dO, dO, dR, dO, dO, dO, dR, dO, dT, dR, dO, dO, dO, dR, dO, dR, dO, dO, dR, dF, dR, dO, dR, dG, dP 5, .mop, dP 5, .mop, dX, dO, dR, dO, dO, dR, dO, dT, dR, dO, dO, dO, dR, dO, dR, dO, dO, dR, dF, dR, dO, dR, dG, dP 5, .mop, dP 5, .mop, dX, dO, dR, dO, dO, dR, dO, dF, dE 0, dO, dR, dL, dP 5, dX, dO, dO, dR, dF, dR, dO, dO, dG, dP 2, dC 43, dO, dR, dO, dO, dG, dP 1, .mop, dX, dO, dO, dO, dG, .mop, dP 1, dX, dO, dT, dR, dO, dO, dG, .mop, dP 5, dX, dO, .drw false [.take 0, .take 1, .take 2, .take 3, .take 4, .take 5, .take 6, .take 7, .take 8, .go 9, .take 10, .take 11, .take 12, .take 13, .take 14], dO, dO, dR, dF, dR, dG, dP 6, .mop, dX, dO, dO, dO, dG, .mop, dP 1, dX, dO, dF, dE 0, dO, dO, dG, dP 2, dC 79, dO, dR, dO, dR, dO, dR, dO, dO, dG, dP 4, .mop, dX, dO, dO, dO, dG, .mop, dP 1, dX, dO, dT, dR, dO, dO, dG, .mop, dP 5, dX, dO, dG, dP 2, .mop, dP 6, dX, dO, dR, dF, dR, dO, dO, dO, dG, .mop, dP 1, dX, dO, dF, dE 0, dO, dO, dG, dP 1, .mop, dX, dO, dO, dO, dG, .mop, dP 1, dX, dO, dT, dR, dO, dO, dG, .mop, dP 3, dX, dR, dO, dO, dO, dG, .mop, dP 1, dX, dO, dF, dE 2, dO, dR, dL, dX, dF, dR, dO, dO, dG, dP 1, .srt, dP 2, dX, dO, dO, dO, dR, dO, dT, dR, dO, dO, dO, dR, dO, dG, dP 2, .mop, dP 2, dX, dO, dO, dR, dF, dR, dO, dR, dO, dO, dR, dF, dR, dG, dP 8, .mop, dX, dO, dR, dO, dO, dR, dO, dF, dE 2, dO, dR, dL, dP 1, dX, dO, dR, dF, dR, dO, dR, dO, dO, dG, dP 1, .mop, dX, dO, dO, dO, dG, .mop, dP 1, dX, dO, dT, dR, dO, dO, dG, .mop, dP 5, dX, dO, dO, dG, dP 5, .mop, dP 2, dX, dO, dR, dT, dR, dO, dO, dR, dF, dR, dO, .drw true [.take 0, .take 1, .take 2, .take 3, .take 4, .take 5, .go 6], dR, dO, dO, dO, dG, .mop, dP 1, dX, dO, dF, dE 0, dO, dR]
noncomputable def fnP7 : Option Pos := thenNavsO Tryz.prog fnD7 fnP6
noncomputable def fnS7 : SnapO := ⟨⟨[([(4, .slice (some ⟨1050519, 0, none⟩) 2 18446744073709551616), (5, .int .i64 (.ofNat 0))], 80),
  ([(2, .int .i64 (.ofNat 1)), (4, .int .i64 (.ofNat 1)), (6, .int .i64 (.ofNat 1)), (8, .int .i64 (.ofNat 1)), (10, .int .i64 (.ofNat 1)), (14, .int .i64 (.ofNat 1)), (16, .int .i64 (.ofNat 1)), (18, .int .i64 (.ofNat 27)), (20, .int .i64 (.ofNat 27)), (22, .int .i64 (.ofNat 26)), (23, .slice (some ⟨1049465, 0, none⟩) 1 18446744073709551616), (24, .int .i64 (.ofNat 0)), (25, .slice none 0 0), (26, .int .i64 (.ofNat 26))], 233)],
  [(1049463, ⟨3, true, [.int .i64 (.ofNat 1), .int .i64 (.ofNat 1), .string ⟨⟨[]⟩⟩, .int .i64 (.ofNat 1), .int .i64 (.ofNat 9223372036854775803), .string ⟨⟨[]⟩⟩, .int .i64 (.ofNat 1), .int .i64 (.negSucc 4), .string ⟨⟨[]⟩⟩, .int .i64 (.ofNat 1), .int .i64 (.ofNat 4611686018427387904), .string ⟨⟨[]⟩⟩, .int .i64 (.ofNat 1), .int .i64 (.ofNat 3), .string ⟨⟨[]⟩⟩]⟩),
   (1049465, ⟨2, true, [.slice (some ⟨1049463, 0, none⟩) 5 18446744073709551616, .complex .f64 4607182418800017408 0]⟩),
   (1050432, ⟨3, true, [.int .i64 (.ofNat 1), .int .i64 (.ofNat 1), .string ⟨⟨[]⟩⟩, .int .i64 (.ofNat 1), .int .i64 (.negSucc 9), .string ⟨⟨[]⟩⟩, .int .i64 (.ofNat 1), .int .i64 (.negSucc 4), .string ⟨⟨[]⟩⟩, .int .i64 (.ofNat 1), .int .i64 (.negSucc 4), .string ⟨⟨[]⟩⟩, .int .i64 (.ofNat 1), .int .i64 (.ofNat 2), .string ⟨⟨[]⟩⟩]⟩),
   (1050517, ⟨3, true, [.int .i64 (.ofNat 1), .int .i64 (.ofNat 1), .string ⟨⟨[]⟩⟩, .int .i64 (.ofNat 1), .int .i64 (.ofNat 9223372036854775803), .string ⟨⟨[]⟩⟩, .int .i64 (.ofNat 1), .int .i64 (.negSucc 4), .string ⟨⟨[]⟩⟩, .int .i64 (.ofNat 1), .int .i64 (.ofNat 4611686018427387904), .string ⟨⟨[]⟩⟩, .int .i64 (.ofNat 1), .int .i64 (.ofNat 3), .string ⟨⟨[]⟩⟩]⟩),
   (1050519, ⟨2, true, [.slice (some ⟨1050432, 0, none⟩) 5 18446744073709551616, .complex .f64 4607182418800017408 0, .slice (some ⟨1050517, 0, none⟩) 5 18446744073709551616, .complex .f64 0 4607182418800017408]⟩)],
  1050520⟩,
  []⟩
noncomputable def fnD8 : List DirO := [dL, dP 5, dX, dO, dR, dO, dO, dR, dF, dR, dO, .drw false [.take 0, .take 1, .take 2, .take 3, .take 4, .take 5, .take 6, .take 7, .take 8, .take 9, .take 10, .take 11, .take 12, .take 13, .take 14, .take 15, .take 16, .take 17, .take 18, .take 19, .take 20, .take 21, .take 22, .take 23, .take 24, .take 25, .take 26, .take 27, .take 28, .take 29, .take 30, .take 31, .take 32, .take 33, .take 34, .take 35, .take 36, .take 37, .take 38, .take 39, .take 40, .take 41, .take 42, .take 43, .take 44, .take 45, .take 46, .go 47, .go 48, .go 49, .take 50, .take 51, .take 52, .take 53, .take 54, .take 55, .take 56, .take 57, .take 58, .take 59, .take 60, .take 61, .take 62, .take 63, .take 64, .take 65, .take 66, .take 67, .take 68, .go 69, .take 70, .take 71]]
noncomputable def fnP8 : Option Pos := thenNavsO Tryz.prog fnD8 fnP7
noncomputable def fnS8 : SnapO := ⟨⟨[([(0, .bool true)], 233)],
  [],
  1050760⟩,
  []⟩
end Go.Proofs.YtloolljoelngcaaGreat
