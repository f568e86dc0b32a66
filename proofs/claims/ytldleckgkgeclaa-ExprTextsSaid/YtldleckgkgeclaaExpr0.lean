/-
  Expressions as plain trees, and as they lie in memory. No program in sight.
-/
import Derived.Test.YtldleckgkgeclaaFind
import Derived.Test.YtldleckgkgeclaaName
import Derived.Test.YtldleckgkgeclaaNums
import Derived.Test.YtldleckgkgeclaaFits
namespace Go.Proofs.Ytldleckgkgeclaa
open Go.RowKit

inductive E where
  | mk (k : Int) (s : ByteArray) (n : Int) (kids : List E)
def E.k : E → Int | .mk k _ _ _ => k
def E.s : E → ByteArray | .mk _ s _ _ => s
def E.n : E → Int | .mk _ _ n _ => n
def E.kids : E → List E | .mk _ _ _ l => l
theorem E.ind {P : E → Prop} (h : ∀ k s n l, (∀ e ∈ l, P e) → P (.mk k s n l)) : ∀ e, P e := by
  intro e
  exact E.rec (motive_1 := P) (motive_2 := fun l => ∀ e ∈ l, P e) (fun k s n l ih => h k s n l ih) (fun e he => by cases he) (fun e l h1 h2 x hx => by
    rcases List.mem_cons.1 hx with rfl | hx
    · exact h1
    · exact h2 x hx) e

/-- a slice at address A holds the expressions l, below block B, and so on downwards -/
inductive EKids (w : World) (B : Nat) : Option Addr → List E → Prop
  | nil (A : Option Addr) : EKids w B A []
  | mk (b off : Nat) (l : List E) (hn : l.length ≤ 9223372036854775807) (hb : b < B) (A : Nat → Option Addr) (c : Nat → Nat)
      (h : ∀ i e, l[i]? = some e → w.cell? ⟨b, off + i * 4, none⟩ = some (.int .i64 e.k) ∧ w.cell? ⟨b, off + i * 4 + 1, none⟩ = some (.string e.s) ∧
        w.cell? ⟨b, off + i * 4 + 2, none⟩ = some (.int .i64 e.n) ∧ w.cell? ⟨b, off + i * 4 + 3, none⟩ = some (.slice (A i) e.kids.length (c i)))
      (hk : ∀ i e, l[i]? = some e → EKids w B (A i) e.kids) : EKids w B (some ⟨b, off, none⟩) l
theorem EKids.low {w w' : World} {B : Nat} {A : Option Addr} {l : List E} (h : EKids w B A l) (hb : Below B w w') : EKids w' B A l := by
  induction h with
  | nil A => exact .nil A
  | mk b off l hn hlt A c h hk ih =>
    refine .mk b off l hn hlt A c (fun i e he => ?_) (fun i e he => ih i e he)
    obtain ⟨h1, h2, h3, h4⟩ := h i e he
    exact ⟨(hb.cell hlt).trans h1, (hb.cell hlt).trans h2, (hb.cell hlt).trans h3, (hb.cell hlt).trans h4⟩
theorem EKids.more {w : World} {B B' : Nat} {A : Option Addr} {l : List E} (h : EKids w B A l) (hB : B ≤ B') : EKids w B' A l := by
  induction h with
  | nil A => exact .nil A
  | mk b off l hn hlt A c h hk ih => exact .mk b off l hn (by omega) A c h (fun i e he => ih i e he)
theorem EKids.len {w : World} {B : Nat} {A : Option Addr} {l : List E} (h : EKids w B A l) : l.length ≤ 9223372036854775807 := by
  cases h with
  | nil A => simp
  | mk b off l hn hlt A c h hk => exact hn
/-- where the kids stand, while the world grows -/
theorem EKids.get_ {w : World} {A : Option Addr} {l : List E} (h : EKids w w.heap.size A l) : ∀ w1, Below w.heap.size w w1 → ∀ i e, l[i]? = some e →
    ∃ b o A' c', A = some ⟨b, o, none⟩ ∧ b < w.heap.size ∧ w1.cell? ⟨b, o + i * 4, none⟩ = some (.int .i64 e.k) ∧ w1.cell? ⟨b, o + i * 4 + 1, none⟩ = some (.string e.s) ∧
      w1.cell? ⟨b, o + i * 4 + 2, none⟩ = some (.int .i64 e.n) ∧ w1.cell? ⟨b, o + i * 4 + 3, none⟩ = some (.slice A' e.kids.length c') ∧ EKids w1 w1.heap.size A' e.kids := by
  intro w1 hb i e he
  cases h with
  | nil A => simp at he
  | mk b off l hn hlt A c h hk =>
    obtain ⟨h1, h2, h3, h4⟩ := h i e he
    exact ⟨b, off, A i, c i, rfl, hlt, (hb.cell hlt).trans h1, (hb.cell hlt).trans h2, (hb.cell hlt).trans h3, (hb.cell hlt).trans h4, ((hk i e he).low hb).more hb.size⟩
/-- an expression's value -/
def E.val (e : E) (A : Option Addr) (c : Nat) : Value := .agg #[.int .i64 e.k, .string e.s, .int .i64 e.n, .slice A e.kids.length c]

/-! ### the operations' names -/
def opAdd : List UInt8 := [97, 100, 100]
def opSub : List UInt8 := [115, 117, 98]
def opMul : List UInt8 := [109, 117, 108]
def opEq : List UInt8 := [101, 113]
def opLt : List UInt8 := [108, 116]
def opAnd : List UInt8 := [97, 110, 100]
def opOr : List UInt8 := [111, 114]
def opCat : List UInt8 := [99, 97, 116]
def opNeg : List UInt8 := [110, 101, 103]
def opNot : List UInt8 := [110, 111, 116]
def opLen : List UInt8 := [108, 101, 110]
def opIf : List UInt8 := [105, 102]
def opsL : List (List UInt8) := [opAdd, opSub, opMul, opEq, opLt, opAnd, opOr, opCat, opNeg, opNot, opLen, opIf]
theorem op_cases (l : List UInt8) : l ∈ opsL ∨ ∀ x ∈ opsL, (l == x) = false := by
  by_cases h : l ∈ opsL
  · exact .inl h
  · refine .inr fun x hx => ?_
    cases e : l == x
    · rfl
    · rw [show l = x by simpa using e] at h
      exact absurd hx h
def cntL (l : List UInt8) : Nat :=
  if l = opAdd ∨ l = opSub ∨ l = opMul ∨ l = opEq ∨ l = opLt ∨ l = opAnd ∨ l = opOr ∨ l = opCat then 2
  else if l = opNeg ∨ l = opNot ∨ l = opLen then 1 else if l = opIf then 3 else 0
def E.cnt (e : E) : Nat := cntL e.s.toList

mutual
def madeE : E → Bool
  | .mk k s n l => if k = 1 then nameB s && (n == 0 && l.length == 0) else if k = 2 then s.toList.isEmpty && l.length == 0
    else if k = 3 then n == 0 && l.length == 0 else if k = 4 then decide (0 < cntL s.toList) && (cntL s.toList == l.length && (n == 0 && madeL l)) else false
def madeL : List E → Bool
  | [] => true
  | e :: l => madeE e && madeL l
end
theorem madeL_all (l : List E) : madeL l = l.all madeE := by
  induction l with
  | nil => rfl
  | cons e l ih => rw [madeL, ih]; rfl

/-! ### types -/
def resultL (op : List UInt8) (l : List Int) : Int :=
  if op = opEq ∨ op = opLt then (if l.getD 0 0 = l.getD 1 0 then 1 else 0)
  else if op = opCat then (if l.all (· == 2) then 2 else 0)
  else if op = opLen then (if l.all (· == 2) then 1 else 0)
  else if op = opIf then (if l.getD 0 0 = 1 ∧ l.getD 1 0 = l.getD 2 0 then l.getD 1 0 else 0)
  else if l.all (· == 1) then 1 else 0
mutual
/-- kind, and why not -/
def typeE (cols : List C) : E → Int × Int
  | .mk k s n l => if k = 1 then (if findB cols s then ((cols.getD (findN cols s).toNat ⟨⟨#[]⟩, 0⟩).k, 0) else (0, 20))
    else if k = 2 then (1, 0) else if k = 3 then (2, 0)
    else if (typeL cols l).2 = 0 then (if 0 < resultL s.toList (typeL cols l).1 then (resultL s.toList (typeL cols l).1, 0) else (0, 22)) else (0, (typeL cols l).2)
def typeL (cols : List C) : List E → List Int × Int
  | [] => ([], 0)
  | e :: l => if (typeE cols e).2 = 0 then ((typeE cols e).1 :: (typeL cols l).1, (typeL cols l).2) else ([], (typeE cols e).2)
end

/-! ### what they give -/
def zeroV : V := ⟨0, 0, ⟨#[]⟩⟩
def strV (s : ByteArray) : V := ⟨2, 0, s⟩
def boolI (b : Bool) : Int := if b then 1 else 0
def truthV (b : Bool) : V := numV (boolI b)
def reckonL (op : List UInt8) (a b : Int) : Int × Bool :=
  if op = opAdd then (wrap64 (a + b), decide (a < wrap64 (a + b)) == decide (0 < b))
  else if op = opSub then (wrap64 (a - b), decide (wrap64 (a - b) < a) == decide (0 < b))
  else if op = opNeg then (wrap64 (-a), a != -9223372036854775808)
  else if (decide (a < 0) != decide (b < 0)) = true then (wrap64 (-(wrap64 ((a.natAbs * b.natAbs % 18446744073709551616 : Nat) : Int))), (a.natAbs * b.natAbs / 18446744073709551616 == 0) && decide (a.natAbs * b.natAbs % 18446744073709551616 ≤ 9223372036854775808))
  else (wrap64 ((a.natAbs * b.natAbs % 18446744073709551616 : Nat) : Int), (a.natAbs * b.natAbs / 18446744073709551616 == 0) && decide (a.natAbs * b.natAbs % 18446744073709551616 < 9223372036854775808))
def V.eqv (a b : V) : Bool := a.k == b.k && (a.n == b.n && a.s.toList == b.s.toList)
def operateL (op : List UInt8) (a b : V) : V × Int :=
  if op = opEq then (truthV (V.eqv a b), 0)
  else if op = opLt then (truthV (V.lt a b), 0)
  else if op = opAnd then (truthV (a.n != 0 && b.n != 0), 0)
  else if op = opOr then (truthV (a.n != 0 || b.n != 0), 0)
  else if op = opNot then (truthV (a.n == 0), 0)
  else if op = opLen then (numV a.s.size, 0)
  else if op = opCat then (if 40 < a.s.size + b.s.size then (zeroV, 3) else (strV (a.s ++ b.s), 0))
  else if (reckonL op a.n b.n).2 then (numV (reckonL op a.n b.n).1, 0) else (zeroV, 26)
def gather : List (V × Int) → List V × Int
  | [] => ([], 0)
  | x :: l => if x.2 = 0 then (x.1 :: (gather l).1, (gather l).2) else ([], x.2)
mutual
def evalE (cols : List C) (r : List V) : E → V × Int
  | .mk k s n l => if k = 1 then (r.getD (findN cols s).toNat zeroV, 0)
    else if k = 2 then (numV n, 0) else if k = 3 then (strV s, 0)
    else if s.toList = opIf then
      (if ((evalL cols r l).getD 0 (zeroV, 0)).2 = 0 then (if ((evalL cols r l).getD 0 (zeroV, 0)).1.n = 0 then (evalL cols r l).getD 2 (zeroV, 0) else (evalL cols r l).getD 1 (zeroV, 0))
       else (zeroV, ((evalL cols r l).getD 0 (zeroV, 0)).2))
    else if (gather (evalL cols r l)).2 = 0 then operateL s.toList ((gather (evalL cols r l)).1.getD 0 zeroV) ((gather (evalL cols r l)).1.getD (l.length - 1) zeroV) else (zeroV, (gather (evalL cols r l)).2)
def evalL (cols : List C) (r : List V) : List E → List (V × Int)
  | [] => []
  | e :: l => evalE cols r e :: evalL cols r l
end
theorem evalL_map (cols : List C) (r : List V) (l : List E) : evalL cols r l = l.map (evalE cols r) := by
  induction l with
  | nil => rfl
  | cons e l ih => rw [evalL, ih]; rfl
def evalTop (cols : List C) (r : List V) (e : E) : V × Int := if fitsB cols r && (madeE e && (typeE cols e).2 == 0) then evalE cols r e else (zeroV, 22)
end Go.Proofs.Ytldleckgkgeclaa
