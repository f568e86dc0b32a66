/-
  SexpDeep: from where both numbers are known its run is closed: the states, and the cases.
-/
import Derived.Test.YtldleckgkgeclaaDoorCm
import Derived.Test.YtldleckgkgeclaaDoorChecked
namespace Go.Proofs.YtldleckgkgeclaaDoor
open Go.RowKit
set_option maxRecDepth 1000000
noncomputable def sdFn : Func := match Tryd.prog.funcs[4]? with
  | some fn => fn
  | none => default
noncomputable def sdBody : Code := match sdFn.body with
  | some c => c
  | none => .skip
def sdTabs : List (Nat × List Value) := [(3, [.chan (some 3)]), (2, [.chan (some 2)]), (0, [.int .u64 (.ofNat 1), .int .u64 (.ofNat 10), .int .u64 (.ofNat 100), .int .u64 (.ofNat 1000), .int .u64 (.ofNat 10000), .int .u64 (.ofNat 100000), .int .u64 (.ofNat 1000000), .int .u64 (.ofNat 10000000), .int .u64 (.ofNat 100000000), .int .u64 (.ofNat 1000000000), .int .u64 (.ofNat 10000000000), .int .u64 (.ofNat 100000000000), .int .u64 (.ofNat 1000000000000), .int .u64 (.ofNat 10000000000000), .int .u64 (.ofNat 100000000000000), .int .u64 (.ofNat 1000000000000000), .int .u64 (.ofNat 10000000000000000), .int .u64 (.ofNat 100000000000000000), .int .u64 (.ofNat 1000000000000000000), .int .u64 (.ofNat 10000000000000000000)])]
noncomputable def sdTodo : Option (List Item) := navs [.opens, .run, .opens, .run, .opens, .run, .opens, .run, .opens, .run] [.code sdBody]
noncomputable def sdAt (k c : Nat) : Snap := ⟨[(0, .int .i64 (.ofNat k)), (1, .int .i64 (.ofNat c)), (4, .bool false)], sdFn.ntmps, tabBlocks sdTabs, 1048576⟩
noncomputable def sdPos : Option Pos := match sdTodo with
  | some k => some [(4, k)]
  | none => none
def dO : DirM := .one .opens
def dT : DirM := .one .tt
def dF : DirM := .one .ff
def dR : DirM := .one .run
def dG : DirM := .reg
def dX : DirM := .endr
def dP (n : Nat) : DirM := .ops n
/-- up to `known` in each of the four answers -/
def sdD1 : List DirM := [dO, dR, dO, dR, dO, dR, dO, dR, dO, dR, dO, dO, dO, dR, dT, dO, dG, dP 7]
def sdD2 : List DirM := [dO, dR, dO, dR, dO, dR, dO, dR, dO, dR, dO, dO, dO, dR, dF, dO, dR, dT, dO, dG, dP 10]
def sdD3 : List DirM := [dO, dR, dO, dR, dO, dR, dO, dR, dO, dR, dO, dO, dO, dR, dF, dO, dR, dF, dO, dR, dT, dO, dG, dP 9]
def sdD4 : List DirM := [dO, dR, dO, dR, dO, dR, dO, dR, dO, dR, dO, dR, dO, dR, dO, dG, dP 19]
noncomputable def sdX (t : Nat) : SnapM := ⟨[([(t, .bool true)], sdFn.ntmps)], tabBlocks sdTabs, 1060000⟩
noncomputable def sdRun (d : List DirM) (t k c : Nat) : Bool := chunkM Tryd.prog 100000 d sdPos (ofSnap (sdAt k c)) (sdX t)
noncomputable def sdCase0 (k c : Nat) : Bool := match Nat.blt 12 k with
  | true => sdRun sdD1 57 k c
  | false => match Nat.blt k c with
    | true => sdRun sdD2 73 k c
    | false => match Nat.blt c k with
      | true => sdRun sdD3 88 k c
      | false => sdRun sdD4 133 k c
noncomputable def sdCase (k c : Nat) : Bool := match startsM (sdAt k c) with
  | true => sdCase0 k c
  | false => false
def sdAll (f : Nat → Bool) : List Nat → Bool
  | [] => true
  | c :: l => match f c with
    | true => sdAll f l
    | false => false
theorem sdAll_mem {f : Nat → Bool} : ∀ {l : List Nat}, sdAll f l = true → ∀ c ∈ l, f c = true
  | [], _, c, h => by cases h
  | x :: l, hh, c, h => by
    rw [sdAll] at hh
    split at hh
    · rename_i hx
      rcases List.mem_cons.1 h with rfl | h
      · exact hx
      · exact sdAll_mem hh c h
    · simp at hh
end Go.Proofs.YtldleckgkgeclaaDoor
