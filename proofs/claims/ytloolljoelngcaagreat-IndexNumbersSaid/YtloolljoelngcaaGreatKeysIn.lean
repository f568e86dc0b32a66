/-
  The directions by short names; the sorted keys as an instance.
-/
import Derived.Test.YtloolljoelngcaaGreatKeysOk
namespace Go.Proofs.YtloolljoelngcaaGreat
noncomputable instance keysInst : KeysOk Tryz.prog := ⟨81, 80, sortKeys⟩
def dO : DirO := .base (.one .opens)
def dT : DirO := .base (.one .tt)
def dF : DirO := .base (.one .ff)
def dR : DirO := .base (.one .run)
def dE (n : Nat) : DirO := .base (.one (.runE n))
def dG : DirO := .base .reg
def dP (n : Nat) : DirO := .base (.ops n)
def dX : DirO := .base .endr
def dC (n : Nat) : DirO := .base (.enter n)
def dL : DirO := .base .leave
end Go.Proofs.YtloolljoelngcaaGreat
