/-
  An evaluator: a part of the program is run on values whose blocks bear names of their own; for the kernel. No program in sight.
-/
import Derived.Orders
import Derived.ScopeJumps
import Derived.Below
import Derived.KernelRfl
namespace Go.Proofs.YtloolljoelngcaaGreat
noncomputable section

/-! ### trees -/
inductive Tr (α : Type) where
  | leaf
  | node (l : Tr α) (x : Option α) (r : Tr α)

def Tr.get {α : Type} (t : Tr α) : Nat → Option α :=
  Tr.rec (motive := fun _ => Nat → Option α) (fun _ => none)
    (fun _ x _ ihl ihr n => Nat.rec (motive := fun _ => Option α) x (fun m _ => Bool.rec (motive := fun _ => Option α) (ihr (m / 2)) (ihl (m / 2)) (Nat.beq (m % 2) 0)) n) t

def Tr.upd {α β : Type} (d : Nat) : Tr α → Nat → Option α → (Tr α → Option β) → Option β :=
  Nat.rec (motive := fun _ => Tr α → Nat → Option α → (Tr α → Option β) → Option β) (fun _ _ _ _ => none)
    (fun _ ih t n v k => Tr.rec (motive := fun _ => Option β)
      (Nat.rec (motive := fun _ => Option β) (k (.node .leaf v .leaf)) (fun m _ => Bool.rec (motive := fun _ => Option β) (ih .leaf (m / 2) v fun r => k (.node .leaf none r)) (ih .leaf (m / 2) v fun l => k (.node l none .leaf)) (Nat.beq (m % 2) 0)) n)
      (fun l x r _ _ => Nat.rec (motive := fun _ => Option β) (k (.node l v r)) (fun m _ => Bool.rec (motive := fun _ => Option β) (ih r (m / 2) v fun r => k (.node l x r)) (ih l (m / 2) v fun l => k (.node l x r)) (Nat.beq (m % 2) 0)) n)
      t) d

/-! ### what is computed is computed at once -/
def fNat {β : Type} (n : Nat) (k : Nat → Option β) : Option β :=
  match n with
  | 0 => k 0
  | m + 1 => k (Nat.succ m)
def fInt {β : Type} (n : Int) (k : Int → Option β) : Option β :=
  match n with
  | .ofNat m => fNat m fun m => k (.ofNat m)
  | .negSucc m => fNat m fun m => k (.negSucc m)
def fBytes {β : Type} : List UInt8 → (List UInt8 → Option β) → Option β
  | [], k => k []
  | b :: l, k => fBytes l fun l => fNat b.toNat fun n => k (UInt8.ofNat n :: l)
def fVal {β : Type} (v : Value) (k : Value → Option β) : Option β :=
  match v with
  | .int i n => fInt n fun n => k (.int i n)
  | .bool b => match b with
    | true => k (.bool true)
    | false => k (.bool false)
  | .string ⟨⟨l⟩⟩ => fBytes l fun l => k (.string ⟨⟨l⟩⟩)
  | .slice a n c => fNat n fun n => fNat c fun c => match a with
    | none => k (.slice none n c)
    | some ⟨b, o, s⟩ => fNat b fun b => fNat o fun o => k (.slice (some ⟨b, o, s⟩) n c)
  | .pointer (some ⟨b, o, s⟩) => fNat b fun b => fNat o fun o => k (.pointer (some ⟨b, o, s⟩))
  | v => k v

/-! ### memory -/
structure EvBlk where
  es : Nat
  own : Bool
  cells : List Value
structure Mem where
  heap : Tr EvBlk
  next : Nat
  low : Nat
def anyCap : Nat := 18446744073709551616
def nowhere : Nat := 18446744073709551616
def big : Nat := 18446744073709551616
def deep : Nat := 60

def flat1 : Value → Bool
  | .bool _ | .int _ _ | .float _ _ | .complex _ _ _ | .string _ | .pointer none | .nilFunc | .nilIface | .map none | .chan none => true
  | .slice none n c => Nat.beq n 0 && Nat.beq c 0
  | .iface _ v => match v with
    | .int _ _ | .bool _ | .string _ => true
    | _ => false
  | _ => false
def flats : List Value → Bool
  | [] => true
  | v :: l => match flat1 v with
    | true => flats l
    | false => false
def flatV : Value → Bool
  | .agg ⟨l⟩ => flats l
  | .tuple ⟨l⟩ => flats l
  | v => flat1 v
/-- also a tuple of aggregates -/
def flat2 : List Value → Bool
  | [] => true
  | v :: l => match flatV v with
    | true => flat2 l
    | false => false
def flatR : Value → Bool
  | .tuple ⟨l⟩ => flat2 l
  | v => flatV v

def pureRun {α : Type} (P : Program) : Sem α → Option α
  | .pure a => some a
  | .program k => pureRun P (k P)
  | .mark _ k => pureRun P k
  | _ => none

def takeN : Nat → List Value → Option (List Value)
  | 0, _ => some []
  | _ + 1, [] => none
  | n + 1, v :: l => match takeN n l with
    | some l => some (v :: l)
    | none => none
def dropN : Nat → List Value → List Value
  | 0, l => l
  | _ + 1, [] => []
  | n + 1, _ :: l => dropN n l
def nth : Nat → List Value → Option Value
  | _, [] => none
  | 0, v :: _ => some v
  | n + 1, _ :: l => nth n l
def putN : Nat → List Value → List Value → Option (List Value)
  | 0, l, [] => some l
  | 0, [], _ :: _ => none
  | 0, _ :: l, u :: us => match putN 0 l us with
    | some l => some (u :: l)
    | none => none
  | _ + 1, [], _ => none
  | n + 1, v :: l, us => match putN n l us with
    | some l => some (v :: l)
    | none => none
def len {α : Type} : List α → Nat → Nat
  | [], n => n
  | _ :: l, n => len l (Nat.succ n)
def joinV : List Value → List Value → List Value
  | [], m => m
  | v :: l, m => v :: joinV l m
def oneC : Value → Bool
  | .agg _ | .tuple _ => false
  | _ => true
def oneCells : List Value → Bool
  | [] => true
  | v :: l => match oneC v with
    | true => oneCells l
    | false => false

def newBlk {β : Type} (m : Mem) (z : Nat) (cells : List Value) (k : Addr → Mem → Option β) : Option β :=
  match m with
  | ⟨heap, next, low⟩ => heap.upd deep next (some ⟨z, true, cells⟩) fun h => fNat (next + 1) fun n => k ⟨next, 0, none⟩ ⟨h, n, low⟩
def setBlk {β : Type} (m : Mem) (b : Nat) (x : Option EvBlk) (k : Mem → Option β) : Option β :=
  match m with
  | ⟨heap, next, low⟩ => heap.upd deep b x fun h => fNat (Nat.min b low) fun l => k ⟨h, next, l⟩

section
variable (P : Program)
def isAggD : TypeDesc → Bool
  | .struct _ | .array _ _ => true
  | _ => false
def szOf (t : TypeId) : Option Nat := (P.info? t).map (·.size)
def zeroOf (t : TypeId) : Option (List Value) := match P.info? t with
  | some i => match i.zero with
    | some v => some v.cells.toList
    | none => none
  | none => none

def addTo (a : Addr) (n : Nat) : Addr := match n with
  | 0 => a
  | m + 1 => ⟨a.block, a.off + Nat.succ m, none⟩
def ldVar (t : TypeId) (m : Mem) (a : Addr) : Option Value :=
  match a with
  | ⟨b, o, none⟩ => match m.heap.get b with
    | some k => match P.underlying t with
      | some d => match isAggD d with
        | true => match szOf P t with
          | some n => match takeN n (dropN o k.cells) with
            | some l => some (.agg ⟨l⟩)
            | none => none
          | none => none
        | false => nth o k.cells
      | none => none
    | none => none
  | _ => none
def rdCells (m : Mem) (a : Addr) (n : Nat) : Option (List Value) :=
  match n with
  | 0 => some []
  | _ => match a with
    | ⟨b, o, none⟩ => match m.heap.get b with
      | some k => takeN n (dropN o k.cells)
      | none => none
    | _ => none
def wrCells {β : Type} (m : Mem) (a : Addr) (l : List Value) (k : Mem → Option β) : Option β :=
  match l with
  | [] => k m
  | _ => match a with
    | ⟨b, o, none⟩ => match m.heap.get b with
      | some x => match x.own with
        | true => match oneCells l with
          | true => match putN o x.cells l with
            | some c => setBlk m b (some ⟨x.es, true, c⟩) k
            | none => none
          | false => none
        | false => none
      | none => none
    | _ => none

def partOf (t : TypeId) (cs : List Value) (off : Nat) : Option Value :=
  match P.underlying t with
  | some d => match isAggD d with
    | true => match szOf P t with
      | some n => match takeN n (dropN off cs) with
        | some l => some (.agg ⟨l⟩)
        | none => none
      | none => none
    | false => nth off cs
  | none => none

def strEq : List UInt8 → List UInt8 → Bool
  | [], [] => true
  | a :: l, b :: m => match Nat.beq a.toNat b.toNat with
    | true => strEq l m
    | false => false
  | _, _ => false
def strLt : List UInt8 → List UInt8 → Bool
  | _, [] => false
  | [], _ :: _ => true
  | a :: l, b :: m => match Nat.blt a.toNat b.toNat with
    | true => true
    | false => match Nat.beq a.toNat b.toNat with
      | true => strLt l m
      | false => false
def joinB : List UInt8 → List UInt8 → List UInt8
  | [], m => m
  | v :: l, m => v :: joinB l m
def strOp (op : BinOp) (x y : List UInt8) : Option Value :=
  match op with
  | .add => match Nat.ble (len x 0 + len y 0) 9223372036854775807 with
    | true => some (.string ⟨⟨joinB x y⟩⟩)
    | false => none
  | .eql => some (.bool (strEq x y))
  | .neq => some (.bool (!strEq x y))
  | .lss => some (.bool (strLt x y))
  | .leq => some (.bool (strLt x y || strEq x y))
  | .gtr => some (.bool (!(strLt x y || strEq x y)))
  | .geq => some (.bool (!strLt x y))
  | _ => none
def nthB : Nat → List UInt8 → Option UInt8
  | _, [] => none
  | 0, v :: _ => some v
  | n + 1, _ :: l => nthB n l
def takeB : Nat → List UInt8 → Option (List UInt8)
  | 0, _ => some []
  | _ + 1, [] => none
  | n + 1, v :: l => match takeB n l with
    | some l => some (v :: l)
    | none => none
def dropB : Nat → List UInt8 → List UInt8
  | 0, l => l
  | _ + 1, [] => []
  | n + 1, _ :: l => dropB n l

/-! ### the same value -/
def eqI : Int → Int → Bool
  | .ofNat a, .ofNat b => Nat.beq a b
  | .negSucc a, .negSucc b => Nat.beq a b
  | _, _ => false
def eqK (a b : IntKind) : Bool := decide (a = b)
def eqF (a b : FloatKind) : Bool := decide (a = b)
def eqA : Addr → Addr → Bool
  | ⟨b, o, none⟩, ⟨b', o', none⟩ => Nat.beq b b' && Nat.beq o o'
  | _, _ => false
mutual
def eqV : Nat → Value → Value → Bool
  | 0, _, _ => false
  | n + 1, a, b => match a with
    | .bool x => match b with
      | .bool y => match x, y with
        | true, true => true
        | false, false => true
        | _, _ => false
      | _ => false
    | .int k x => match b with
      | .int l y => eqK k l && eqI x y
      | _ => false
    | .float k x => match b with
      | .float l y => eqF k l && Nat.beq x y
      | _ => false
    | .complex k x z => match b with
      | .complex l y u => eqF k l && Nat.beq x y && Nat.beq z u
      | _ => false
    | .string ⟨⟨x⟩⟩ => match b with
      | .string ⟨⟨y⟩⟩ => strEq x y
      | _ => false
    | .pointer none => match b with
      | .pointer none => true
      | _ => false
    | .pointer (some x) => match b with
      | .pointer (some y) => eqA x y
      | _ => false
    | .slice none l c => match b with
      | .slice none l' c' => Nat.beq l l' && Nat.beq c c'
      | _ => false
    | .slice (some x) l c => match b with
      | .slice (some y) l' c' => eqA x y && Nat.beq l l' && Nat.beq c c'
      | _ => false
    | .func (.func f) ⟨x⟩ ⟨y⟩ => match b with
      | .func (.func g) ⟨x'⟩ ⟨y'⟩ => Nat.beq f g && eqL n x x' && eqL n y y'
      | _ => false
    | .nilFunc => match b with
      | .nilFunc => true
      | _ => false
    | .nilIface => match b with
      | .nilIface => true
      | _ => false
    | .iface t x => match b with
      | .iface u y => Nat.beq t u && eqV n x y
      | _ => false
    | .chan (some x) => match b with
      | .chan (some y) => Nat.beq x y
      | _ => false
    | .agg ⟨x⟩ => match b with
      | .agg ⟨y⟩ => eqL n x y
      | _ => false
    | .tuple ⟨x⟩ => match b with
      | .tuple ⟨y⟩ => eqL n x y
      | _ => false
    | _ => false
def eqL : Nat → List Value → List Value → Bool
  | _, [], [] => true
  | n, v :: l, u :: m => match eqV n v u with
    | true => eqL n l m
    | false => false
  | _, _, _ => false
end

/-- one of the two is nil -/
def nilEq (d : TypeDesc) (x y : Value) : Option Bool :=
  match d with
  | .slice _ => match x, y with
    | .slice none _ _, .slice b _ _ => some b.isNone
    | .slice _ _ _, .slice none _ _ => some false
    | _, _ => none
  | .pointer _ => match x, y with
    | .pointer none, .pointer b => some b.isNone
    | .pointer _, .pointer none => some false
    | _, _ => none
  | .interface _ => match x, y with
    | .nilIface, .iface _ _ => some false
    | .iface _ _, .nilIface => some false
    | _, _ => none
  | .func _ _ _ => match x, y with
    | .nilFunc, .nilFunc => some true
    | .nilFunc, .func _ _ _ => some false
    | .func _ _ _, .nilFunc => some false
    | _, _ => none
  | _ => none

inductive Did where
  | val (v : Value) (m : Mem)
  | none_ (m : Mem)
  | call (f : FuncId) (args : List Value) (m : Mem)

/-- (what is reckoned of a slot's number alone is a closed term: the kernel reckons it once) -/
structure GetF where
  run : Tr Value → Option Value
def getSelF : Nat → Nat → GetF
  | 0, n => ⟨fun t => t.get n⟩
  | _ + 1, 0 => ⟨fun t => Tr.rec (motive := fun _ => Option Value) none (fun _ x _ _ _ => x) t⟩
  | f + 1, m + 1 => match Nat.beq (m % 2) 0, getSelF f (m / 2) with
    | true, ⟨g⟩ => ⟨fun t => Tr.rec (motive := fun _ => Option Value) none (fun l _ _ _ _ => g l) t⟩
    | false, ⟨g⟩ => ⟨fun t => Tr.rec (motive := fun _ => Option Value) none (fun _ _ r _ _ => g r) t⟩
theorem getSelF_run : ∀ (f n : Nat) (t : Tr Value), (getSelF f n).run t = t.get n
  | 0, n, t => rfl
  | f + 1, 0, t => by cases t <;> rfl
  | f + 1, m + 1, t => by
    have ih := fun t => getSelF_run f (m / 2) t
    rw [getSelF]
    generalize getSelF f (m / 2) = G at ih
    obtain ⟨g⟩ := G
    cases t with
    | leaf => cases Nat.beq (m % 2) 0 <;> rfl
    | node l x r =>
      show _ = Bool.rec (motive := fun _ => Option Value) (r.get (m / 2)) (l.get (m / 2)) (Nat.beq (m % 2) 0)
      cases Nat.beq (m % 2) 0
      · exact ih r
      · exact ih l
structure UpdF where
  run : {β : Type} → Tr Value → Option Value → (Tr Value → Option β) → Option β
def updSelF : Nat → Nat → UpdF
  | 0, _ => ⟨fun _ _ _ => none⟩
  | _ + 1, 0 => ⟨fun {β} t v k => Tr.rec (motive := fun _ => Option β) (k (.node .leaf v .leaf)) (fun l _ r _ _ => k (.node l v r)) t⟩
  | d + 1, m + 1 => match Nat.beq (m % 2) 0, updSelF d (m / 2) with
    | true, ⟨g⟩ => ⟨fun {β} t v k => Tr.rec (motive := fun _ => Option β) (g .leaf v fun l => k (.node l none .leaf)) (fun l x r _ _ => g l v fun l => k (.node l x r)) t⟩
    | false, ⟨g⟩ => ⟨fun {β} t v k => Tr.rec (motive := fun _ => Option β) (g .leaf v fun r => k (.node .leaf none r)) (fun l x r _ _ => g r v fun r => k (.node l x r)) t⟩
theorem updSelF_run {β : Type} : ∀ (d n : Nat) (t : Tr Value) (v : Option Value) (k : Tr Value → Option β), (updSelF d n).run t v k = t.upd d n v k
  | 0, n, t, v, k => rfl
  | d + 1, 0, t, v, k => by cases t <;> rfl
  | d + 1, m + 1, t, v, k => by
    have ih := fun t k => updSelF_run (β := β) d (m / 2) t v k
    rw [updSelF]
    generalize updSelF d (m / 2) = G at ih
    obtain ⟨g⟩ := G
    cases t with
    | leaf =>
      show _ = Bool.rec (motive := fun _ => Option β) (Tr.leaf.upd d (m / 2) v fun r => k (.node .leaf none r)) (Tr.leaf.upd d (m / 2) v fun l => k (.node l none .leaf)) (Nat.beq (m % 2) 0)
      cases Nat.beq (m % 2) 0
      · exact ih .leaf _
      · exact ih .leaf _
    | node l x r =>
      show _ = Bool.rec (motive := fun _ => Option β) (r.upd d (m / 2) v fun r => k (.node l x r)) (l.upd d (m / 2) v fun l => k (.node l x r)) (Nat.beq (m % 2) 0)
      cases Nat.beq (m % 2) 0
      · exact ih r _
      · exact ih l _
def opdSel : Operand → GetF
  | .tmp t => getSelF 40 t
  | .const v => match flatV v with
    | true => ⟨fun _ => some v⟩
    | false => ⟨fun _ => none⟩
  | .global g => match Nat.blt g 1048576 with
    | true => ⟨fun _ => some (.pointer (some ⟨g, 0, none⟩))⟩
    | false => ⟨fun _ => none⟩
  | .func f => ⟨fun _ => some (.func (.func f) #[] #[])⟩
def opd (fr : Tr Value) (x : Operand) : Option Value := GetF.rec (motive := fun _ => Option Value) (fun g => g fr) (opdSel x)
theorem opd_run (fr : Tr Value) (x : Operand) : opd fr x = (opdSel x).run fr := rfl
theorem opd_tmp (fr : Tr Value) (t : Tmp) : opd fr (.tmp t) = fr.get t := getSelF_run 40 t fr
theorem opd_const (fr : Tr Value) (v : Value) : opd fr (.const v) = match flatV v with
    | true => some v
    | false => none := by
  show (opdSel (.const v)).run fr = _
  unfold opdSel
  simp only
  cases flatV v <;> rfl
theorem opd_global (fr : Tr Value) (g : Nat) : opd fr (.global g) = match Nat.blt g 1048576 with
    | true => some (.pointer (some ⟨g, 0, none⟩))
    | false => none := by
  show (opdSel (.global g)).run fr = _
  unfold opdSel
  simp only
  cases Nat.blt g 1048576 <;> rfl
theorem opd_func (fr : Tr Value) (f : Nat) : opd fr (.func f) = some (.func (.func f) #[] #[]) := rfl
def opds (fr : Tr Value) : List Operand → Option (List Value)
  | [] => some []
  | x :: l => match opd fr x with
    | some v => match opds fr l with
      | some l => some (v :: l)
      | none => none
    | none => none
def getV : Option Value → Value
  | some v => v
  | none => undef
def opV (fr : Tr Value) (x : Operand) : Value := getV (opd fr x)
def parts (fr : Tr Value) : List (Nat × Operand) → Option (List (Nat × Value))
  | [] => some []
  | (i, x) :: l => match opd fr x with
    | some v => match parts fr l with
      | some l => some ((i, v) :: l)
      | none => none
    | none => none

def giveV (m : Mem) (v : Option Value) : Option Did := match v with
  | some v => fVal v fun v => some (.val v m)
  | none => none
/-- an operation over plain values: the model's own run -/
def plainOp (fr : Tr Value) (m : Mem) (o : Oper) : Option Did :=
  match opds fr o.op.operands.toList with
  | some l => match flat2 l with
    | true => match pureRun P (execOp (opV fr) o) with
      | some (.value v) => match flatV v with
        | true => fVal v fun v => some (.val v m)
        | false => none
      | _ => none
    | false => none
  | none => none
def asN : Value → Option Nat
  | .int _ (.ofNat n) => some n
  | _ => none
def asNO (fr : Tr Value) : Option Operand → Option (Option Nat)
  | none => some none
  | some x => match opd fr x with
    | some v => match asN v with
      | some n => some (some n)
      | none => none
    | none => none

def fillV (place : Nat → Option (Nat × Nat)) (cells : List Value) : List (Nat × Value) → Option (List Value)
  | [] => some cells
  | (i, v) :: rest => match place i with
    | none => none
    | some (off, size) => match Nat.beq (len v.cells.toList 0) size with
      | false => none
      | true => match putN off cells v.cells.toList with
        | some c => fillV place c rest
        | none => none
def repN : Nat → List Value → List Value
  | 0, _ => []
  | n + 1, l => joinV l (repN n l)

def orElse (x : Option Nat) (n : Nat) : Nat := match x with
  | some m => m
  | none => n
def cutAddr (m l z : Nat) (a : Option Addr) : Option Addr := match Nat.beq m l with
  | true => a
  | false => match a with
    | some a => some (addTo a (l * z))
    | none => none
def esOk (m : Mem) (a : Option Addr) (z : Nat) : Bool := match a with
  | some a => match Nat.blt a.block nowhere with
    | true => match m.heap.get a.block with
      | some x => Nat.beq x.es z
      | none => false
    | false => false
  | none => false
/-- so much lies in the block, surely -/
def inBlk (m : Mem) (a : Option Addr) (z h : Nat) : Bool := match a with
  | some a => match Nat.blt a.block nowhere && Nat.blt 0 z with
    | true => match m.heap.get a.block with
      | some x => x.own && Nat.beq x.es z && Nat.ble (a.off + h * z) (len x.cells 0)
      | none => false
    | false => false
  | none => false
def sliceStr (m : Mem) (s : List UInt8) (lo hi : Option Nat) : Option Did :=
  match takeB (orElse hi (len s 0)) s with
  | some s' => match Nat.ble (orElse lo 0) (orElse hi (len s 0)) with
    | true => giveV m (some (.string ⟨⟨dropB (orElse lo 0) s'⟩⟩))
    | false => none
  | none => none
def sliceSl (m : Mem) (z : Nat) (a : Option Addr) (n c : Nat) (lo hi mx : Option Nat) : Option Did :=
  match Nat.ble (orElse lo 0) (orElse hi n) with
  | false => none
  | true => match mx with
    | some q => match hi with
      | none => none
      | some h => match Nat.beq c anyCap with
        | true => match Nat.ble h q && Nat.ble q n && Nat.blt q anyCap && esOk m a z with
          | true => giveV m (some (.slice (cutAddr q (orElse lo 0) z a) (h - orElse lo 0) (q - orElse lo 0)))
          | false => none
        | false => match Nat.ble h q && Nat.ble q c with
          | true => giveV m (some (.slice (cutAddr q (orElse lo 0) z a) (h - orElse lo 0) (q - orElse lo 0)))
          | false => none
    | none => match Nat.beq c anyCap with
      | true => match Nat.ble (orElse hi n) n with
        | false => match Nat.blt (orElse lo 0) (orElse hi n) && inBlk m a z (orElse hi n) with
          | true => giveV m (some (.slice (cutAddr (Nat.succ (orElse lo 0)) (orElse lo 0) z a) (orElse hi n - orElse lo 0) anyCap))
          | false => none
        | true => match Nat.beq (orElse lo 0) 0 with
          | true => giveV m (some (.slice a (orElse hi n) anyCap))
          | false => match Nat.blt (orElse lo 0) n with
            | true => match esOk m a z with
              | true => giveV m (some (.slice (cutAddr (Nat.succ (orElse lo 0)) (orElse lo 0) z a) (orElse hi n - orElse lo 0) anyCap))
              | false => none
            | false => some (.val (.slice (some ⟨nowhere, 0, none⟩) 0 anyCap) m)
      | false => match Nat.ble (orElse hi n) c with
        | true => giveV m (some (.slice (cutAddr c (orElse lo 0) z a) (orElse hi n - orElse lo 0) (c - orElse lo 0)))
        | false => none
def sliceOp (fr : Tr Value) (m : Mem) (t : TypeId) (x : Operand) (lo hi mx : Option Operand) : Option Did :=
  match opd fr x, asNO fr lo, asNO fr hi, asNO fr mx with
  | some (.string ⟨⟨s⟩⟩), some lo, some hi, some none => match P.underlying t with
    | some .string => sliceStr m s lo hi
    | _ => none
  | some (.slice a n c), some lo, some hi, some mx => match P.underlying t with
    | some (.slice e) => match szOf P e with
      | some z => sliceSl m z a n c lo hi mx
      | none => none
    | _ => none
  | some (.pointer (some a)), some lo, some hi, some mx => match P.underlying t with
    | some (.array n e) => match Nat.blt n anyCap with
      | true => match szOf P e with
        | some z => sliceSl m z (some a) n n lo hi mx
        | none => none
      | false => none
    | _ => none
  | _, _, _, _ => none

def bytesV : List UInt8 → List Value
  | [] => []
  | b :: l => .int .u8 (.ofNat b.toNat) :: bytesV l
def toBytes : List Value → Option (List UInt8)
  | [] => some []
  | v :: l => match v with
    | .int .u8 (.ofNat n) => match Nat.blt n 256 with
      | true => match toBytes l with
        | some l => some (UInt8.ofNat n :: l)
        | none => none
      | false => none
    | _ => none
/-- what is appended or copied, the first n of it -/
def srcCells (m : Mem) (z : Nat) : Value → Option (Nat × List Value)
  | .slice none _ _ => some (0, [])
  | .slice (some a) n _ => match rdCells m a (n * z) with
    | some l => some (n, l)
    | none => none
  | .string ⟨⟨s⟩⟩ => some (len s 0, bytesV s)
  | _ => none
def appendCore (m : Mem) (z : Nat) (base : Option Addr) (n cap k : Nat) (new : List Value) : Option Did :=
  match base with
  | none => newBlk m z new fun a m => fNat (n + k) fun q => some (.val (.slice (some a) q anyCap) m)
  | some a => match Nat.beq cap anyCap with
    | false => match Nat.ble (n + k) cap with
      | true => wrCells m (addTo a (n * z)) new fun m => fNat (n + k) fun q => some (.val (.slice (some a) q cap) m)
      | false => match rdCells m a (n * z) with
        | some old => newBlk m z (joinV old new) fun a m => fNat (n + k) fun q => some (.val (.slice (some a) q anyCap) m)
        | none => none
    | true => match m.heap.get a.block with
      | some b => match b.own && Nat.beq b.es z && Nat.blt a.block nowhere with
        | true => match Nat.blt 0 z && Nat.ble (a.off + (n + k) * z) (len b.cells 0) with
          | true => wrCells m (addTo a (n * z)) new fun m => fNat (n + k) fun q => some (.val (.slice (some a) q anyCap) m)
          | false => match rdCells m a (n * z) with
            | some old => setBlk m a.block none fun m => newBlk m z (joinV old new) fun a m => fNat (n + k) fun q => some (.val (.slice (some a) q anyCap) m)
            | none => none
        | false => none
      | none => none
def clearOp (m : Mem) (c : Call) (l : List Value) : Option Did :=
  match l with
  | [.slice a n _] => match c.argTypes.toList with
    | [t] => match P.underlying t with
      | some (.slice e) => match n with
        | 0 => some (.val undef m)
        | k + 1 => match a with
          | some a => match zeroOf P e with
            | some zero => match szOf P e with
              | some z => match flats zero && Nat.beq (len zero 0) z with
                | true => wrCells m a (repN (Nat.succ k) zero) fun m => some (.val undef m)
                | false => none
              | none => none
            | none => none
          | none => none
      | _ => none
    | _ => none
  | _ => none
def isIntD : TypeDesc → Bool
  | .int _ => true
  | _ => false
def appendBody (m : Mem) (z by_ : Nat) (zero : List Value) (base : Option Addr) (n cap k : Nat) (new : List Value) : Option Did :=
  match k with
  | 0 => some (.val (.slice base n cap) m)
  | k' + 1 => match Nat.ble ((2 * (n + Nat.succ k') + 1000) * by_) 281474976710656 && Nat.blt 0 by_ && Nat.beq (len zero 0) z && oneCells new && Nat.beq (len new 0) (Nat.succ k' * z) with
    | true => appendCore m z base n cap (Nat.succ k') new
    | false => none
def appendOp (m : Mem) (c : Call) (l : List Value) : Option Did :=
  match l with
  | [.slice base n cap, x] => match c.argTypes.toList with
    | [t, t2] => match P.underlying t with
      | some (.slice e) => match P.underlying t2 with
        | some d2 => match szOf P e with
            | some z => match zeroOf P e with
              | some zero => match (P.info? e).map (·.bytes) with
                | some by_ => match Nat.beq (len zero 0) z && flats zero with
                  | true => match isIntD d2 with
                    | true => match asN x with
                      | some k => appendBody m z by_ zero base n cap k (repN k zero)
                      | none => none
                    | false => match srcCells m z x with
                      | some (k, new) => appendBody m z by_ zero base n cap k new
                      | none => none
                  | false => none
                | none => none
              | none => none
            | none => none
        | none => none
      | _ => none
    | _ => none
  | _ => none
def lenOp (m : Mem) (c : Call) (l : List Value) : Option Did :=
  match c.argTypes.toList with
  | t :: _ => match P.underlying t with
    | some d => match l with
      | [.slice _ n _] => match d with
        | .slice _ => some (.val (.int .i64 (.ofNat n)) m)
        | _ => none
      | [.string ⟨⟨s⟩⟩] => match d with
        | .string => fNat (len s 0) fun n => some (.val (.int .i64 (.ofNat n)) m)
        | _ => none
      | _ => none
    | none => none
  | _ => none
def capOp (m : Mem) (c : Call) (l : List Value) : Option Did :=
  match c.argTypes.toList with
  | t :: _ => match P.underlying t with
    | some (.slice _) => match l with
      | [.slice _ _ n] => match Nat.beq n anyCap with
        | true => none
        | false => some (.val (.int .i64 (.ofNat n)) m)
      | _ => none
    | _ => none
  | _ => none
def funcOp (m : Mem) (g : FuncId) (l : List Value) : Option Did :=
  match P.funcs[g]? with
  | some fn => match fn.name == "runtime.NumGoroutine" with
    | true => none
    | false => match fn.body with
      | some _ => some (.call g l m)
      | none => match flat2 l with
        | true => match pureRun P (callFunc g ⟨l⟩) with
          | some (.value v) => match flatV v with
            | true => fVal v fun v => some (.val v m)
            | false => none
          | _ => none
        | false => none
  | none => none
def callOp (fr : Tr Value) (m : Mem) (o : Oper) (c : Call) : Option Did :=
  match opds fr c.args.toList with
  | some l => match c.callee with
    | .builtin b => match b with
      | .len => lenOp P m c l
      | .cap => capOp P m c l
      | .append => appendOp P m c l
      | .clear => clearOp P m c l
      | .min | .max | .real | .imag | .complex => plainOp P fr m o
      | _ => none
    | .value f => match opd fr f with
      | some (.func (.func g) first captured) => funcOp P m g (joinV first.toList (joinV l captured.toList))
      | _ => none
    | _ => none
  | none => none

def bytesStr (m : Mem) (p : Option Addr) (k : Nat) : Option Did :=
  match p with
  | none => some (.val (.string .empty) m)
  | some a => match rdCells m a k with
    | some l => match toBytes l with
      | some l => some (.val (.string ⟨⟨l⟩⟩) m)
      | none => none
    | none => none
/-- a slice of bytes in its own type: the model marks the row -/
def bytesBytes (m : Mem) (b : Nat) (v : Value) (n : Nat) : Option Did :=
  match n with
  | 0 => none
  | _ + 1 => match m with
    | ⟨heap, next, low⟩ => match heap.get b with
      | some x => match x.own with
        | true => fNat (Nat.min b low) fun l => some (.val v ⟨heap, next, l⟩)
        | false => none
      | none => none
def sMove (fr : Tr Value) (m : Mem) (x : Operand) : Option Did :=
  match opd fr x with
  | some v => some (.val v m)
  | none => none
def sPick (fr : Tr Value) (m : Mem) (c x y : Operand) : Option Did :=
  match opd fr c with
  | some (.bool true) => match opd fr x, opd fr y with
    | some v, some _ => some (.val v m)
    | _, _ => none
  | some (.bool false) => match opd fr x, opd fr y with
    | some _, some v => some (.val v m)
    | _, _ => none
  | _ => none
def sAlloc (_fr : Tr Value) (m : Mem) (e : TypeId) : Option Did :=
  match zeroOf P e with
  | some l => match flats l with
    | true => newBlk m 0 l fun a m => some (.val (.pointer (some a)) m)
    | false => none
  | none => none
def sBox (fr : Tr Value) (m : Mem) (x : Operand) : Option Did :=
  match opd fr x with
  | some v => newBlk m 0 v.cells.toList fun a m => some (.val (.pointer (some a)) m)
  | none => none
def sBuild (fr : Tr Value) (m : Mem) (t : TypeId) (ps : Array (Nat × Operand)) : Option Did :=
  match zeroOf P t, P.underlying t, parts fr ps.toList with
  | some zero, some d, some ps => match flats zero with
    | true => match d with
      | .struct fields => match fillV (fun i => match fields[i]? with
          | some f => match szOf P f.type with
            | some z => some (f.offset, z)
            | none => none
          | none => none) zero ps with
        | some l => match fields.all fun f => (szOf P f.type).isSome with
          | true => some (.val (.agg ⟨l⟩) m)
          | false => none
        | none => none
      | .array _ e => match szOf P e with
        | some z => match fillV (fun i => some (i * z, z)) zero ps with
          | some l => some (.val (.agg ⟨l⟩) m)
          | none => none
        | none => none
      | _ => none
    | false => none
  | _, _, _ => none
def sBuildSlice (fr : Tr Value) (m : Mem) (t : TypeId) (n : Nat) (ps : Array (Nat × Operand)) : Option Did :=
  match P.underlying t with
  | some (.slice e) => match zeroOf P e, szOf P e, parts fr ps.toList with
    | some zero, some z, some ps => match flats zero && Nat.beq (len zero 0) z && Nat.ble (n * z) 16777216 && Nat.blt n anyCap with
      | true => match fillV (fun i => some (i * z, z)) (repN n zero) ps with
        | some l => newBlk m z l fun a m => some (.val (.slice (some a) n n) m)
        | none => none
      | false => none
    | _, _, _ => none
  | _ => none
def sLoad (fr : Tr Value) (m : Mem) (t : TypeId) (a : Operand) : Option Did :=
  match opd fr a with
  | some (.pointer (some a)) => match ldVar P t m a with
    | some v => some (.val v m)
    | none => none
  | _ => none
def sStore (fr : Tr Value) (m : Mem) (t : TypeId) (a x : Operand) : Option Did :=
  match opd fr a, opd fr x, szOf P t with
  | some (.pointer (some a)), some v, some n => match Nat.beq (len v.cells.toList 0) n with
    | true => wrCells m a v.cells.toList fun m => some (.none_ m)
    | false => none
  | _, _, _ => none
def sNilCheck (fr : Tr Value) (m : Mem) (x : Operand) : Option Did :=
  match opd fr x with
  | some (.pointer (some a)) => some (.val (.pointer (some a)) m)
  | some (.slice a n c) => some (.val (.slice a n c) m)
  | some (.func (.func f) a b) => some (.val (.func (.func f) a b) m)
  | _ => none
def sBinOp (fr : Tr Value) (m : Mem) (o : Oper) (op : BinOp) (t : TypeId) (x y : Operand) : Option Did :=
  match opd fr x, opd fr y with
  | some (.int k a), some (.int k2 b) => match pureRun P (Go.binOp op t (.int k a) (.int k2 b)) with
    | some v => fVal v fun v => match flatV v with
      | true => some (.val v m)
      | false => none
    | none => none
  | some (.string ⟨⟨a⟩⟩), some (.string ⟨⟨b⟩⟩) => giveV m (strOp op a b)
  | some a, some b => match op with
    | .eql => match (P.underlying t).bind fun d => nilEq d a b with
      | some q => some (.val (.bool q) m)
      | none => plainOp P fr m o
    | .neq => match (P.underlying t).bind fun d => nilEq d a b with
      | some q => some (.val (.bool (!q)) m)
      | none => plainOp P fr m o
    | _ => plainOp P fr m o
  | _, _ => none
def sConvert (fr : Tr Value) (m : Mem) (o : Oper) (s t : TypeId) (x : Operand) : Option Did :=
  match opd fr x with
  | some (.string ⟨⟨l⟩⟩) => match P.underlying s, P.underlying t with
    | some .string, some (.slice e) => match P.underlying e with
      | some (.int .u8) => newBlk m 1 (bytesV l) fun a m => fNat (len l 0) fun n => some (.val (.slice (some a) n anyCap) m)
      | _ => none
    | some .string, some .string => some (.val (.string ⟨⟨l⟩⟩) m)
    | _, _ => none
  | some (.slice a n c) => match P.underlying s, P.underlying t with
    | some (.slice e), some .string => match P.underlying e with
      | some (.int .u8) => bytesStr m a n
      | _ => none
    | some (.slice _), some (.slice e) => match Nat.beq s t, P.underlying e, a with
      | true, some (.int .u8), some ⟨b, f, none⟩ => bytesBytes m b (.slice (some ⟨b, f, none⟩) n c) n
      | _, _, _ => none
    | _, _ => none
  | _ => plainOp P fr m o
def sMakeFunc (fr : Tr Value) (m : Mem) (fn : Fn) (first captured : Array Operand) : Option Did :=
  match fn with
  | .func f => match opds fr first.toList, opds fr captured.toList with
    | some a, some b => some (.val (.func (.func f) ⟨a⟩ ⟨b⟩) m)
    | _, _ => none
  | _ => none
def sMakeSlice (fr : Tr Value) (m : Mem) (t : TypeId) (l c : Operand) : Option Did :=
  match P.underlying t, opd fr l, opd fr c with
  | some (.slice e), some l, some c => match asN l, asN c, zeroOf P e, szOf P e, (P.info? e).map (·.bytes) with
    | some l, some c, some zero, some z, some by_ =>
      match Nat.ble l c && Nat.ble (by_ * c) 140737488355328 && Nat.ble c 9223372036854775807 && flats zero && Nat.beq (len zero 0) z with
      | true => newBlk m z (repN c zero) fun a m => some (.val (.slice (some a) l c) m)
      | false => none
    | _, _, _, _, _ => none
  | _, _, _ => none
def isIfaceD : TypeDesc → Bool
  | .interface _ => true
  | _ => false
def sMakeInterface (fr : Tr Value) (m : Mem) (t : TypeId) (x : Operand) : Option Did :=
  match P.underlying t with
  | some d => match isIfaceD d with
    | true => none
    | false => match opd fr x with
      | some v => some (.val (.iface t v) m)
      | none => none
  | none => none
def sFieldAddr (fr : Tr Value) (m : Mem) (s : TypeId) (x : Operand) (f : Nat) : Option Did :=
  match opd fr x, P.underlying s with
  | some (.pointer (some a)), some (.struct fields) => match fields[f]? with
    | some g => match szOf P g.type with
      | some (_ + 1) => giveV m (some (.pointer (some (addTo a g.offset))))
      | _ => none
    | none => none
  | _, _ => none
def sField (fr : Tr Value) (m : Mem) (t : TypeId) (x : Operand) (f : Nat) : Option Did :=
  match opd fr x, P.underlying t with
  | some (.agg ⟨cs⟩), some (.struct fields) => match fields[f]? with
    | some g => match partOf P g.type cs g.offset with
      | some v => some (.val v m)
      | none => none
    | none => none
  | _, _ => none
def sIndexAddr (fr : Tr Value) (m : Mem) (t : TypeId) (x i : Operand) : Option Did :=
  match opd fr x, opd fr i, P.underlying t with
  | some (.slice (some a) n _), some i, some (.slice e) => match asN i, szOf P e with
    | some i, some z => match Nat.blt i n with
      | true => giveV m (some (.pointer (some (addTo a (i * z)))))
      | false => none
    | _, _ => none
  | some (.pointer (some a)), some i, some (.array n e) => match asN i, szOf P e with
    | some i, some z => match Nat.blt i n with
      | true => giveV m (some (.pointer (some (addTo a (i * z)))))
      | false => none
    | _, _ => none
  | _, _, _ => none
def sIndex (fr : Tr Value) (m : Mem) (t : TypeId) (x i : Operand) : Option Did :=
  match opd fr x, opd fr i, P.underlying t with
  | some (.agg ⟨cs⟩), some i, some (.array n e) => match asN i, szOf P e with
    | some i, some z => match Nat.blt i n with
      | true => match partOf P e cs (i * z) with
        | some v => some (.val v m)
        | none => none
      | false => none
    | _, _ => none
  | some (.string ⟨⟨s⟩⟩), some i, some .string => match asN i with
    | some i => match nthB i s with
      | some b => fNat b.toNat fun n => some (.val (.int .u8 (.ofNat n)) m)
      | none => none
    | none => none
  | _, _, _ => none
def sExtract (fr : Tr Value) (m : Mem) (t : Operand) (i : Nat) : Option Did :=
  match opd fr t with
  | some (.tuple ⟨l⟩) => match nth i l with
    | some v => some (.val v m)
    | none => none
  | _ => none
structure OpF where
  run : Program → Tr Value → Mem → Oper → Option Did
/-- (a closed term, so the kernel reckons it once) -/
def opSel (x : Op) : OpF :=
  match x with
  | .move x => ⟨fun _ fr m _ => sMove fr m x⟩
  | .assign x => ⟨fun _ fr m _ => sMove fr m x⟩
  | .pick c x y => ⟨fun _ fr m _ => sPick fr m c x y⟩
  | .alloc e => ⟨fun P fr m _ => sAlloc P fr m e⟩
  | .box _ x => ⟨fun _ fr m _ => sBox fr m x⟩
  | .build t ps => ⟨fun P fr m _ => sBuild P fr m t ps⟩
  | .buildSlice t n ps => ⟨fun P fr m _ => sBuildSlice P fr m t n ps⟩
  | .load t a => ⟨fun P fr m _ => sLoad P fr m t a⟩
  | .store t a x => ⟨fun P fr m _ => sStore P fr m t a x⟩
  | .nilCheck x => ⟨fun _ fr m _ => sNilCheck fr m x⟩
  | .binOp op t x y _ => ⟨fun P fr m o => sBinOp P fr m o op t x y⟩
  | .unOp .. => ⟨fun P fr m o => plainOp P fr m o⟩
  | .convert s t x => ⟨fun P fr m o => sConvert P fr m o s t x⟩
  | .makeFunc fn first captured => ⟨fun _ fr m _ => sMakeFunc fr m fn first captured⟩
  | .makeSlice t l c => ⟨fun P fr m _ => sMakeSlice P fr m t l c⟩
  | .slice t x lo hi mx => ⟨fun P fr m _ => sliceOp P fr m t x lo hi mx⟩
  | .fieldAddr s x f => ⟨fun P fr m _ => sFieldAddr P fr m s x f⟩
  | .field t x f => ⟨fun P fr m _ => sField P fr m t x f⟩
  | .indexAddr t x i => ⟨fun P fr m _ => sIndexAddr P fr m t x i⟩
  | .index t x i => ⟨fun P fr m _ => sIndex P fr m t x i⟩
  | .extract t i => ⟨fun _ fr m _ => sExtract fr m t i⟩
  | .call c => ⟨fun P fr m o => callOp P fr m o c⟩
  | .makeInterface t x => ⟨fun P fr m _ => sMakeInterface P fr m t x⟩
  | _ => ⟨fun _ _ _ _ => none⟩
def stepOp (fr : Tr Value) (m : Mem) (o : Oper) : Option Did := OpF.rec (motive := fun _ => Option Did) (fun f => f P fr m o) (opSel o.op)
theorem stepOp_eq (fr : Tr Value) (m : Mem) (o : Oper) : stepOp P fr m o = match o.op with
  | .move x | .assign x => sMove fr m x
  | .pick c x y => sPick fr m c x y
  | .alloc e => sAlloc P fr m e
  | .box _ x => sBox fr m x
  | .build t ps => sBuild P fr m t ps
  | .buildSlice t n ps => sBuildSlice P fr m t n ps
  | .load t a => sLoad P fr m t a
  | .store t a x => sStore P fr m t a x
  | .nilCheck x => sNilCheck fr m x
  | .binOp op t x y _ => sBinOp P fr m o op t x y
  | .unOp .. => plainOp P fr m o
  | .convert s t x => sConvert P fr m o s t x
  | .makeFunc fn first captured => sMakeFunc fr m fn first captured
  | .makeSlice t l c => sMakeSlice P fr m t l c
  | .slice t x lo hi mx => sliceOp P fr m t x lo hi mx
  | .fieldAddr s x f => sFieldAddr P fr m s x f
  | .field t x f => sField P fr m t x f
  | .indexAddr t x i => sIndexAddr P fr m t x i
  | .index t x i => sIndex P fr m t x i
  | .extract t i => sExtract fr m t i
  | .call c => callOp P fr m o c
  | .makeInterface t x => sMakeInterface P fr m t x
  | _ => none := by
  unfold stepOp opSel
  cases o.op <;> rfl
end

/-- an operation that looks at no memory -/
def noMem (o : Oper) : Bool := match o.op with
  | .move _ | .assign _ | .pick .. | .nilCheck _ | .binOp .. | .unOp .. | .makeFunc .. | .field .. | .fieldAddr .. | .indexAddr .. | .index .. | .extract .. => true
  | .call c => match c.callee with
    | .builtin b => match b with
      | .len => true
      | _ => false
    | _ => false
  | _ => false

/-! ### code -/
inductive Out where
  | norm
  | exit (id : Nat)
  | goto (l : Nat)
  | ret
inductive Req where
  | code (c : Code)
  | insc (c rest : Code)
  | looped (c : Code)
structure Stt where
  fr : Tr Value
  size : Nat
  mem : Mem
def Stt.put {β : Type} (s : Stt) (dst : Option Tmp) (v : Value) (m : Mem) (k : Stt → Option β) : Option β :=
  match s with
  | ⟨fr, size, _⟩ => match dst with
    | none => k ⟨fr, size, m⟩
    | some d => Bool.rec (motive := fun _ => Option β) none (UpdF.rec (motive := fun _ => Option β) (fun u => u fr (some v) fun fr => k ⟨fr, size, m⟩) (updSelF deep d)) (Nat.blt d size)
theorem put_old {β : Type} (s : Stt) (dst : Option Tmp) (v : Value) (m : Mem) (k : Stt → Option β) : s.put dst v m k = match s with
  | ⟨fr, size, _⟩ => match dst with
    | none => k ⟨fr, size, m⟩
    | some d => match Nat.blt d size with
      | true => fr.upd deep d (some v) fun fr => k ⟨fr, size, m⟩
      | false => none := by
  obtain ⟨fr, size, m0⟩ := s
  cases dst with
  | none => rfl
  | some d =>
    show Bool.rec (motive := fun _ => Option β) none ((updSelF deep d).run fr (some v) fun fr => k ⟨fr, size, m⟩) (Nat.blt d size) = _
    rw [updSelF_run]
    simp only
    cases Nat.blt d size <;> rfl
def fillFr {β : Type} : List Value → Nat → Tr Value → (Tr Value → Option β) → Option β
  | [], _, t, k => k t
  | v :: l, n, t, k => t.upd deep n (some v) fun t => fillFr l (Nat.succ n) t k
def resVal (P : Program) (s : Stt) : ResultVar → Option Value
  | .tmp t => s.fr.get t
  | .cell a t => match s.fr.get a with
    | some (.pointer (some a)) => ldVar P t s.mem a
    | _ => none
def resVals (P : Program) (s : Stt) : List ResultVar → Option (List Value)
  | [] => some []
  | r :: l => match resVal P s r with
    | some v => match resVals P s l with
      | some l => some (v :: l)
      | none => none
    | none => none
def tupled : List Value → Value
  | [v] => v
  | l => .tuple ⟨l⟩
/-- behind a call whose result holds no address, and that wrote nothing that was there, its memory is given up -/
def leave (m m' : Mem) (v : Value) : Option (Value × Mem) :=
  match m, m' with
  | ⟨h, n, l⟩, ⟨h', n', l'⟩ => match flatR v && Nat.ble n l' with
    | true => some (v, ⟨h, n', l⟩)
    | false => fNat (Nat.min l l') fun low => some (v, ⟨h', n', low⟩)
def openMem (m : Mem) : Mem := match m with
  | ⟨h, n, _⟩ => ⟨h, n, big⟩
/-- functions of the library whose contract is used in place of their text -/
def primKind (n : String) : Nat := match n == "strings.Join" with
  | true => 1
  | false => match n == "internal/stringslite.Clone" with
    | true => 2
    | false => 0
def strsOf : List Value → Option (List (List UInt8))
  | [] => some []
  | v :: l => match v with
    | .string ⟨⟨s⟩⟩ => match strsOf l with
      | some r => some (s :: r)
      | none => none
    | _ => none
def joinS (sep : List UInt8) : List (List UInt8) → List UInt8
  | [] => []
  | x :: l => match l with
    | [] => x
    | _ :: _ => joinB x (joinB sep (joinS sep l))
def primJoin (m : Mem) (a : Option Addr) (n : Nat) (sep : List UInt8) : Option Value :=
  match n with
  | 0 => some (.string ⟨⟨[]⟩⟩)
  | k + 1 => match a with
    | some a => match rdCells m a (Nat.succ k) with
      | some cs => match strsOf cs with
        | some xs => fBytes (joinS sep xs) fun r => match Nat.ble (len r 0) 70368744177664 && Nat.ble k 70368744177664 with
          | true => some (.string ⟨⟨r⟩⟩)
          | false => none
        | none => none
      | none => none
    | none => none
def primRun (k : Nat) (args : List Value) (m : Mem) : Option Value :=
  match k with
  | 1 => match args with
    | [.slice a n _, .string ⟨⟨sep⟩⟩] => primJoin m a n sep
    | _ => none
  | 2 => match args with
    | [.string ⟨⟨s⟩⟩] => match Nat.ble (len s 0) 70368744177664 with
      | true => some (.string ⟨⟨s⟩⟩)
      | false => none
    | _ => none
  | _ => none
def evCall (P : Program) (rec : Req → Stt → Option (Out × Stt)) (f : FuncId) (args : List Value) (m : Mem) : Option (Value × Mem) :=
  match P.funcs[f]? with
  | none => none
  | some fn => match primKind fn.name with
   | k + 1 => match primRun (Nat.succ k) args m with
    | some v => some (v, m)
    | none => none
   | 0 => match fn.body with
    | none => none
    | some c => fillFr args 0 .leaf fun fr => fNat (Nat.max fn.ntmps (len args 0)) fun n => match rec (.code c) ⟨fr, n, openMem m⟩ with
      | some (o, s) => match o with
        | .norm | .ret => match resVals P s fn.results.toList with
          | some l => match tupled l with
            | v => leave m s.mem v
          | none => none
        | _ => none
      | none => none
def doOp (P : Program) (rec : Req → Stt → Option (Out × Stt)) (fr : Tr Value) (m : Mem) (o : Oper) : Option (Value × Mem) :=
  match stepOp P fr m o with
  | some (.val v m) => some (v, m)
  | some (.none_ m) => some (undef, m)
  | some (.call f args m) => evCall P rec f args m
  | none => none
def wantedE (ops : Array Oper) (o : Oper) (fr : Tr Value) : Option Bool :=
  match o.guard with
  | none => some true
  | some (j, want) => match (ops[j]?).bind (·.dst) with
    | some d => match fr.get d with
      | some (.bool b) => match want with
        | true => some b
        | false => some (!b)
      | some (.tuple ⟨[]⟩) => some false
      | _ => none
    | none => some false
structure OpC where
  run : (Req → Stt → Option (Out × Stt)) → Tr Value → Nat → Mem → (Stt → Option (Out × Stt)) → Option (Out × Stt)
def opBody (P : Program) (o : Oper) : OpC := match o.op with
  | .move x => match opdSel x with
    | ⟨g⟩ => ⟨fun _ fr size m k => Option.rec (motive := fun _ => Option (Out × Stt)) none (fun v => Stt.put ⟨fr, size, m⟩ o.dst v m k) (g fr)⟩
  | .assign x => match opdSel x with
    | ⟨g⟩ => ⟨fun _ fr size m k => Option.rec (motive := fun _ => Option (Out × Stt)) none (fun v => Stt.put ⟨fr, size, m⟩ o.dst v m k) (g fr)⟩
  | _ => ⟨fun rec fr size m k => match doOp P rec fr m o with
    | some (v, m') => Stt.put ⟨fr, size, m⟩ o.dst v m' k
    | none => none⟩
theorem opBody_run (P : Program) (o : Oper) (rec : Req → Stt → Option (Out × Stt)) (fr : Tr Value) (size : Nat) (m : Mem) (k : Stt → Option (Out × Stt)) : (opBody P o).run rec fr size m k = match doOp P rec fr m o with
    | some (v, m') => Stt.put ⟨fr, size, m⟩ o.dst v m' k
    | none => none := by
  have mv : ∀ x, (o.op = .move x ∨ o.op = .assign x) → doOp P rec fr m o = match (opdSel x).run fr with
      | some v => some (v, m)
      | none => none := fun x hx => by
    unfold doOp
    rw [stepOp_eq]
    rcases hx with hx | hx <;> rw [hx] <;> simp only [sMove, opd_run] <;> cases (opdSel x).run fr <;> rfl
  unfold opBody
  cases ho : o.op with
  | move x =>
    simp only
    rw [mv x (.inl ho)]
    generalize opdSel x = G
    obtain ⟨g⟩ := G
    simp only
    cases g fr <;> rfl
  | assign x =>
    simp only
    rw [mv x (.inr ho)]
    generalize opdSel x = G
    obtain ⟨g⟩ := G
    simp only
    cases g fr <;> rfl
  | _ => rfl
def opBox (P : Program) (ops : Array Oper) (o : Oper) : OpC := match o.guard with
  | none => opBody P o
  | some _ => ⟨fun rec fr size m k => match wantedE ops o fr with
    | none => none
    | some false => Stt.put ⟨fr, size, m⟩ o.dst undef m k
    | some true => OpC.rec (motive := fun _ => Option (Out × Stt)) (fun f => f rec fr size m k) (opBody P o)⟩
theorem opBox_run (P : Program) (ops : Array Oper) (o : Oper) (rec : Req → Stt → Option (Out × Stt)) (fr : Tr Value) (size : Nat) (m : Mem) (k : Stt → Option (Out × Stt)) : (opBox P ops o).run rec fr size m k = match wantedE ops o fr with
    | none => none
    | some false => Stt.put ⟨fr, size, m⟩ o.dst undef m k
    | some true => match doOp P rec fr m o with
      | some (v, m') => Stt.put ⟨fr, size, m⟩ o.dst v m' k
      | none => none := by
  unfold opBox
  cases hg : o.guard with
  | none =>
    have : wantedE ops o fr = some true := by unfold wantedE; rw [hg]
    rw [this]
    exact opBody_run P o rec fr size m k
  | some g =>
    simp only
    cases wantedE ops o fr with
    | none => rfl
    | some b =>
      cases b with
      | false => rfl
      | true => exact opBody_run P o rec fr size m k
def evOps (P : Program) (rec : Req → Stt → Option (Out × Stt)) (ops : Array Oper) : List Oper → Stt → Option (Out × Stt)
  | [], s => some (.norm, s)
  | o :: l, s => Stt.rec (motive := fun _ => Option (Out × Stt)) (fun fr size m => OpC.rec (motive := fun _ => Option (Out × Stt)) (fun f => f rec fr size m fun s => evOps P rec ops l s) (opBox P ops o)) s
theorem evOps_cons (P : Program) (rec : Req → Stt → Option (Out × Stt)) (ops : Array Oper) (o : Oper) (l : List Oper) (s : Stt) : evOps P rec ops (o :: l) s = match wantedE ops o s.fr with
    | none => none
    | some false => s.put o.dst undef s.mem fun s => evOps P rec ops l s
    | some true => match doOp P rec s.fr s.mem o with
      | some (v, m) => s.put o.dst v m fun s => evOps P rec ops l s
      | none => none := by
  obtain ⟨fr, size, m⟩ := s
  exact opBox_run P ops o rec fr size m fun s => evOps P rec ops l s

/-! ### regions that draw their order -/
abbrev Delta := List (Nat × EvBlk)
/-- what an operation has made: its number, its first name, the first name behind it, its blocks -/
structure Made where
  i : Nat
  lo : Nat
  hi : Nat
  d : Delta
def addDelta {β : Type} (h : Tr EvBlk) : Delta → (Tr EvBlk → Option β) → Option β
  | [], k => k h
  | (b, x) :: l, k => h.upd deep b (some x) fun h => addDelta h l k
def addDeltas {β : Type} (mask : Nat) (h : Tr EvBlk) : List Made → (Tr EvBlk → Option β) → Option β
  | [], k => k h
  | e :: l, k => match mask.testBit e.i with
    | true => addDelta h e.d fun h => addDeltas mask h l k
    | false => addDeltas mask h l k
def collect (h : Tr EvBlk) : Nat → Nat → Delta
  | 0, _ => []
  | n + 1, b => match h.get b with
    | some x => (b, x) :: collect h n (Nat.succ b)
    | none => collect h n (Nat.succ b)
def seen1 (mask b : Nat) : List Made → Bool
  | [] => false
  | e :: l => match mask.testBit e.i && Nat.ble e.lo b && Nat.blt b e.hi with
    | true => true
    | false => seen1 mask b l
/-- a name that an operation may have seen -/
def seen (nb lo mask : Nat) (ds : List Made) (b : Nat) : Bool :=
  match Nat.blt b nb || Nat.ble lo b with
  | true => true
  | false => seen1 mask b ds
mutual
def idsV (f : Nat → Bool) : Nat → Value → Bool
  | 0, _ => false
  | n + 1, v => match v with
    | .pointer (some a) => f a.block
    | .slice (some a) _ _ => f a.block
    | .func _ ⟨l⟩ ⟨m⟩ => idsL f n l && idsL f n m
    | .agg ⟨l⟩ => idsL f n l
    | .tuple ⟨l⟩ => idsL f n l
    | .iface _ v => idsV f n v
    | .chan (some i) => f i
    | _ => true
def idsL (f : Nat → Bool) : Nat → List Value → Bool
  | _, [] => true
  | n, v :: l => match idsV f n v with
    | true => idsL f n l
    | false => false
end
def idsD (f : Nat → Bool) : Delta → Bool
  | [] => true
  | (_, x) :: l => match idsL f 9 x.cells with
    | true => idsD f l
    | false => false
def beforeAll (b : Nat) : List Nat → Bool
  | [] => true
  | m :: l => match m.testBit b with
    | true => beforeAll b l
    | false => false
def listNat : List Nat → Nat → Nat
  | [], _ => 0
  | n :: _, 0 => n
  | _ :: l, n + 1 => listNat l n
def preE (acc : List Nat) : List Edge → Nat
  | [] => 0
  | e :: l => match Region.binds .any e with
    | true => (2 ^ e.on ||| listNat acc e.on) ||| preE acc l
    | false => preE acc l
def pres : List Oper → List Nat → List Nat
  | [], acc => acc
  | o :: l, acc => pres l (acc ++ [preE acc o.after.toList])
def dirE (k : Nat) : List Edge → Bool
  | [] => false
  | e :: l => match Region.binds .any e && Nat.beq e.on k with
    | true => true
    | false => dirE k l
/-- each of the first is among those ahead, or looks at no memory -/
def allBefore (m : Nat) : List Oper → Nat → Nat → Bool
  | _, _, 0 => true
  | [], _, _ + 1 => true
  | o :: l, j, n + 1 => match m.testBit j || noMem o with
    | true => allBefore m l (Nat.succ j) n
    | false => false
def edgesOk (i : Nat) : List Edge → Bool
  | [] => true
  | e :: l => match Region.binds .any e, Nat.blt e.on i with
    | true, false => false
    | _, _ => edgesOk i l
/-- no two write one slot; who writes a slot that another one looks at, is ahead of it or behind it -/
def dstOk (o : Oper) (i : Nat) (looks : List Tmp) : List Oper → Nat → Bool
  | [], _ => true
  | p :: l, k => match Nat.beq k i || match p.dst with
      | none => true
      | some d => (match o.dst with
          | some e => !(Nat.beq d e)
          | none => true) && (!(looks.contains d) || dirE k o.after.toList || dirE i p.after.toList) with
    | true => dstOk o i looks l (Nat.succ k)
    | false => false
def allOk (ops : Array Oper) : List Oper → Nat → Bool
  | [], _ => true
  | o :: l, i => match edgesOk i o.after.toList && dstOk o i (o.looksAt ops) ops.toList 0 && (match o.op with
      | .select .. => false
      | _ => true) with
    | true => allOk ops l (Nat.succ i)
    | false => false
def drawOk (ops : Array Oper) : Bool := allOk ops ops.toList 0
/-- the slots that an operation looks at, alone -/
def only {β : Type} (fr : Tr Value) : List Operand → Tr Value → (Tr Value → Option β) → Option β
  | [], t, k => k t
  | x :: l, t, k => match x with
    | .tmp i => match fr.get i with
      | some v => t.upd deep i (some v) fun t => only fr l t k
      | none => only fr l t k
    | _ => only fr l t k
def evDraw (P : Program) (rec : Req → Stt → Option (Out × Stt)) (ops : Array Oper) : List Oper → List Nat → Nat → Nat → List Made → Stt → Option (Out × Stt)
  | [], _, i, _, ds, s => match s with
    | ⟨fr0, size, ⟨heap, next, low⟩⟩ => addDeltas (2 ^ i - 1) heap ds fun h => some (.norm, ⟨fr0, size, ⟨h, next, low⟩⟩)
  | _ :: _, [], _, _, _, _ => none
  | o :: l, m :: ms, i, nb, ds, s => match s with
    | ⟨fr0, size, ⟨heap, next, low⟩⟩ => match wantedE ops o fr0 with
      | none => none
      | some false => Stt.put ⟨fr0, size, ⟨heap, next, low⟩⟩ o.dst undef ⟨heap, next, low⟩ fun s => evDraw P rec ops l ms (Nat.succ i) nb ds s
      | some true => addDeltas m heap ds fun vis => only fr0 o.op.operands.toList .leaf fun fr => match doOp P rec fr ⟨vis, next, big⟩ o with
        | none => none
        | some (v, ⟨h', n', low'⟩) => match Nat.ble next low' && Nat.ble next n' with
          | true => match flatR v with
            | true => Stt.put ⟨fr0, size, ⟨heap, next, low⟩⟩ o.dst v ⟨heap, n', low⟩ fun s => evDraw P rec ops l ms (Nat.succ i) nb ds s
            | false => match collect h' (n' - next) next with
              | d => match idsV (seen nb next m ds) 9 v && idsD (seen nb next m ds) d with
                | true => Stt.put ⟨fr0, size, ⟨heap, next, low⟩⟩ o.dst v ⟨heap, n', low⟩ fun s' => evDraw P rec ops l ms (Nat.succ i) nb (⟨i, next, n', d⟩ :: ds) s'
                | false => none
          | false => match allBefore m ops.toList 0 i && beforeAll i ms && !noMem o with
            | true => fNat (Nat.min low low') fun low => Stt.put ⟨fr0, size, ⟨heap, next, low⟩⟩ o.dst v ⟨h', n', low⟩ fun s => evDraw P rec ops l ms (Nat.succ i) n' [] s
            | false => none
theorem evDraw_nil (P : Program) (rec : Req → Stt → Option (Out × Stt)) (ops : Array Oper) (ms : List Nat) (i nb : Nat) (ds : List Made) (s : Stt) : evDraw P rec ops [] ms i nb ds s =
    addDeltas (2 ^ i - 1) s.mem.heap ds fun h => some (.norm, ⟨s.fr, s.size, ⟨h, s.mem.next, s.mem.low⟩⟩) := by
  obtain ⟨fr0, size, ⟨heap, next, low⟩⟩ := s
  simp only [evDraw]
theorem evDraw_cons (P : Program) (rec : Req → Stt → Option (Out × Stt)) (ops : Array Oper) (o : Oper) (l : List Oper) (m : Nat) (ms : List Nat) (i nb : Nat) (ds : List Made) (s : Stt) : evDraw P rec ops (o :: l) (m :: ms) i nb ds s = match wantedE ops o s.fr with
    | none => none
    | some false => s.put o.dst undef s.mem fun s => evDraw P rec ops l ms (Nat.succ i) nb ds s
    | some true => addDeltas m s.mem.heap ds fun vis => only s.fr o.op.operands.toList .leaf fun fr => match doOp P rec fr ⟨vis, s.mem.next, big⟩ o with
      | none => none
      | some (v, m') => match Nat.ble s.mem.next m'.low && Nat.ble s.mem.next m'.next with
        | true => match flatR v with
          | true => s.put o.dst v ⟨s.mem.heap, m'.next, s.mem.low⟩ fun s => evDraw P rec ops l ms (Nat.succ i) nb ds s
          | false => match collect m'.heap (m'.next - s.mem.next) s.mem.next with
            | d => match idsV (seen nb s.mem.next m ds) 9 v && idsD (seen nb s.mem.next m ds) d with
              | true => s.put o.dst v ⟨s.mem.heap, m'.next, s.mem.low⟩ fun s' => evDraw P rec ops l ms (Nat.succ i) nb (⟨i, s.mem.next, m'.next, d⟩ :: ds) s'
              | false => none
        | false => match allBefore m ops.toList 0 i && beforeAll i ms && !noMem o with
          | true => fNat (Nat.min s.mem.low m'.low) fun low => s.put o.dst v ⟨m'.heap, m'.next, low⟩ fun s => evDraw P rec ops l ms (Nat.succ i) s.mem.next [] s
          | false => none := by
  obtain ⟨fr0, size, ⟨heap, next, low⟩⟩ := s
  simp only [evDraw]
  cases wantedE ops o fr0 with
  | none => rfl
  | some b =>
    cases b with
    | false => rfl
    | true =>
      simp only
      congr 1
      funext vis
      congr 1
      funext fr
      cases doOp P rec fr ⟨vis, next, big⟩ o with
      | none => rfl
      | some vm =>
        obtain ⟨v, ⟨h', n', low'⟩⟩ := vm
        rfl

/-! ### stores that have no order with others: their blocks are seen by nobody in the region -/
structure Soft where
  i : Nat
  b : Nat
  o : Nat
  vs : List Value
def isStore (o : Oper) : Bool := match o.op with
  | .store .. => true
  | _ => false
def softs1 (all : List Oper) : List Oper → List Nat → Nat → Bool
  | o :: l, m :: ms, i => match isStore o && !(allBefore m all 0 i && beforeAll i ms) with
    | true => true
    | false => softs1 all l ms (Nat.succ i)
  | _, _, _ => false
def softs (ops : Array Oper) : Bool := softs1 ops.toList ops.toList (pres ops.toList []) 0
def addNew (b : Nat) : List Nat → List Nat
  | [] => [b]
  | c :: l => match Nat.beq b c with
    | true => c :: l
    | false => c :: addNew b l
/-- a guess: the blocks that such stores will hit -/
def preHid (P : Program) (ops : Array Oper) : List Oper → Tr Value → List Nat → List Nat
  | [], _, acc => acc
  | o :: l, fr, acc => match wantedE ops o fr with
    | none => acc
    | some false => preHid P ops l fr acc
    | some true => match o.op with
      | .store _ x _ => match opd fr x with
        | some (.pointer (some p)) => preHid P ops l fr (addNew p.block acc)
        | _ => preHid P ops l fr acc
      | _ => match noMem o with
        | true => match stepOp P fr ⟨.leaf, 1048576, big⟩ o with
          | some (.val v _) => match o.dst with
            | some d => match fr.upd deep d (some v) some with
              | some fr => preHid P ops l fr acc
              | none => acc
            | none => preHid P ops l fr acc
          | _ => preHid P ops l fr acc
        | false => preHid P ops l fr acc
def hideAll {β : Type} : List Nat → Tr EvBlk → List (Nat × EvBlk) → (Tr EvBlk → List (Nat × EvBlk) → Option β) → Option β
  | [], h, hb, k => k h hb
  | b :: l, h, hb, k => match h.get b with
    | some x => match x.own with
      | true => h.upd deep b none fun h => hideAll l h ((b, x) :: hb) k
      | false => none
    | none => none
def softOp (P : Program) (fr : Tr Value) (o : Oper) : Option (Nat × Nat × List Value) := match o.op with
  | .store t x y => match opd fr x, opd fr y, szOf P t with
    | some (.pointer (some ⟨b, f, none⟩)), some v, some n => match Nat.beq (len v.cells.toList 0) n && oneCells v.cells.toList with
      | true => some (b, f, v.cells.toList)
      | false => none
    | _, _, _ => none
  | _ => none
def inHid (e : Soft) : List (Nat × EvBlk) → Bool
  | [] => false
  | (b, x) :: l => match Nat.beq b e.b with
    | true => Nat.ble (e.o + len e.vs 0) (len x.cells 0)
    | false => inHid e l
def apartS (e : Soft) : List Soft → Bool
  | [] => true
  | f :: l => match !(Nat.beq e.b f.b) || Nat.ble (e.o + len e.vs 0) f.o || Nat.ble (f.o + len f.vs 0) e.o with
    | true => apartS e l
    | false => false
def applyS (b : Nat) : List Soft → List Value → Option (List Value)
  | [], cs => some cs
  | e :: l, cs => match applyS b l cs with
    | some cs => match Nat.beq e.b b with
      | true => putN e.o cs e.vs
      | false => some cs
    | none => none
def restore {β : Type} (sf : List Soft) : List (Nat × EvBlk) → Tr EvBlk → Nat → (Tr EvBlk → Nat → Option β) → Option β
  | [], h, low, k => k h low
  | (b, x) :: l, h, low, k => match applyS b sf x.cells with
    | some cs => h.upd deep b (some ⟨x.es, true, cs⟩) fun h => fNat (Nat.min low b) fun low => restore sf l h low k
    | none => none
def evSoft (P : Program) (rec : Req → Stt → Option (Out × Stt)) (ops : Array Oper) (hb : List (Nat × EvBlk)) : List Oper → List Nat → Nat → Nat → List Made → List Soft → Stt → Option (Out × Stt)
  | [], _, i, _, ds, sf, s => addDeltas (2 ^ i - 1) s.mem.heap ds fun h => restore sf hb h s.mem.low fun h low => some (.norm, ⟨s.fr, s.size, ⟨h, s.mem.next, low⟩⟩)
  | _ :: _, [], _, _, _, _, _ => none
  | o :: l, m :: ms, i, nb, ds, sf, s => match wantedE ops o s.fr with
    | none => none
    | some false => s.put o.dst undef s.mem fun s => evSoft P rec ops hb l ms (Nat.succ i) nb ds sf s
    | some true => only s.fr o.op.operands.toList .leaf fun fr => match isStore o with
      | true => match softOp P fr o, o.dst with
        | some (b, f, vs), none => match inHid ⟨i, b, f, vs⟩ hb && apartS ⟨i, b, f, vs⟩ sf && idsL (seen nb s.mem.next m ds) 9 vs with
          | true => evSoft P rec ops hb l ms (Nat.succ i) nb ds (⟨i, b, f, vs⟩ :: sf) s
          | false => none
        | _, _ => none
      | false => addDeltas m s.mem.heap ds fun vis => match doOp P rec fr ⟨vis, s.mem.next, big⟩ o with
        | none => none
        | some (v, m') => match Nat.ble s.mem.next m'.low && Nat.ble s.mem.next m'.next with
          | true => match flatR v with
            | true => s.put o.dst v ⟨s.mem.heap, m'.next, s.mem.low⟩ fun s => evSoft P rec ops hb l ms (Nat.succ i) nb ds sf s
            | false => match collect m'.heap (m'.next - s.mem.next) s.mem.next with
              | d => match idsV (seen nb s.mem.next m ds) 9 v && idsD (seen nb s.mem.next m ds) d with
                | true => s.put o.dst v ⟨s.mem.heap, m'.next, s.mem.low⟩ fun s' => evSoft P rec ops hb l ms (Nat.succ i) nb (⟨i, s.mem.next, m'.next, d⟩ :: ds) sf s'
                | false => none
          | false => none
/-- the last stretch: stores without an order, behind which nothing writes -/
def startSoft (P : Program) (rec : Req → Stt → Option (Out × Stt)) (ops : Array Oper) (l : List Oper) (ms : List Nat) (i : Nat) (s : Stt) : Option (Out × Stt) :=
  match s with
  | ⟨fr, size, ⟨heap, next, low⟩⟩ => hideAll (preHid P ops l fr []) heap [] fun h hb => evSoft P rec ops hb l ms i next [] [] ⟨fr, size, ⟨h, next, low⟩⟩
/-- up to the last operation that writes what was there; it is ahead of all that come behind it -/
def evHard (P : Program) (rec : Req → Stt → Option (Out × Stt)) (ops : Array Oper) (cs : Nat) : List Oper → List Nat → Nat → Nat → List Made → Stt → Option (Out × Stt)
  | [], _, _, _, _, _ => none
  | _ :: _, [], _, _, _, _ => none
  | o :: l, m :: ms, i, nb, ds, s => match wantedE ops o s.fr with
    | none => none
    | some false => match Nat.beq (Nat.succ i) cs with
      | true => none
      | false => s.put o.dst undef s.mem fun s => evHard P rec ops cs l ms (Nat.succ i) nb ds s
    | some true => addDeltas m s.mem.heap ds fun vis => only s.fr o.op.operands.toList .leaf fun fr => match doOp P rec fr ⟨vis, s.mem.next, big⟩ o with
      | none => none
      | some (v, m') => match Nat.beq (Nat.succ i) cs with
        | true => match allBefore m ops.toList 0 i && beforeAll i ms && !noMem o with
          | true => fNat (Nat.min s.mem.low m'.low) fun low => s.put o.dst v ⟨m'.heap, m'.next, low⟩ fun s => startSoft P rec ops l ms (Nat.succ i) s
          | false => none
        | false => match Nat.ble s.mem.next m'.low && Nat.ble s.mem.next m'.next with
          | true => match flatR v with
            | true => s.put o.dst v ⟨s.mem.heap, m'.next, s.mem.low⟩ fun s => evHard P rec ops cs l ms (Nat.succ i) nb ds s
            | false => match collect m'.heap (m'.next - s.mem.next) s.mem.next with
              | d => match idsV (seen nb s.mem.next m ds) 9 v && idsD (seen nb s.mem.next m ds) d with
                | true => s.put o.dst v ⟨s.mem.heap, m'.next, s.mem.low⟩ fun s' => evHard P rec ops cs l ms (Nat.succ i) nb (⟨i, s.mem.next, m'.next, d⟩ :: ds) s'
                | false => none
          | false => match allBefore m ops.toList 0 i && beforeAll i ms && !noMem o with
            | true => fNat (Nat.min s.mem.low m'.low) fun low => s.put o.dst v ⟨m'.heap, m'.next, low⟩ fun s => evHard P rec ops cs l ms (Nat.succ i) s.mem.next [] s
            | false => none

/-! ### the same region in another order of its text -/
def posOf (b : Nat) : List Nat → Nat → Nat → Nat
  | [], _, d => d
  | p :: l, i, d => match Nat.beq p b with
    | true => i
    | false => posOf b l (Nat.succ i) d
def renE (q : List Nat) (e : Edge) : Edge := ⟨posOf e.on q 0 e.on, e.ground⟩
def renG (q : List Nat) : Option (Nat × Bool) → Option (Nat × Bool)
  | none => none
  | some (j, w) => some (posOf j q 0 j, w)
def renO (q : List Nat) (o : Oper) : Oper := { o with after := o.after.map (renE q), guard := renG q o.guard }
def renL (ops : Array Oper) (q : List Nat) : List Nat → List Oper
  | [] => []
  | j :: l => match ops[j]? with
    | some o => renO q o :: renL ops q l
    | none => []
/-- each place's operation has this place -/
def permA (n : Nat) (q : List Nat) : List Nat → Nat → Bool
  | [], i => Nat.beq i n
  | j :: l, i => match Nat.blt j n && Nat.beq (posOf j q 0 n) i with
    | true => permA n q l (Nat.succ i)
    | false => false
/-- each operation has a place -/
def permB (n : Nat) (q : List Nat) : Nat → Bool
  | 0 => true
  | j + 1 => match Nat.blt (posOf j q 0 n) n with
    | true => permB n q j
    | false => false
def guardsIn (n : Nat) : List Oper → Bool
  | [] => true
  | o :: l => match (match o.guard with
    | none => true
    | some (j, _) => Nat.blt j n) with
    | true => guardsIn n l
    | false => false
def permOk (ops : Array Oper) (q : List Nat) : Bool := permA ops.size q q 0 && permB ops.size q ops.size && guardsIn ops.size ops.toList
def edgesIn (done : Nat) : List Edge → Bool
  | [] => true
  | e :: l => match Region.binds .any e && !(done.testBit e.on) with
    | true => false
    | false => edgesIn done l
/-- the first that may come up; of those alone that look at no memory, if so asked -/
def nextUp (pure : Bool) (done : Nat) : List Oper → Nat → Option Nat
  | [], _ => none
  | o :: l, i => match !(done.testBit i) && (!pure || noMem o) && edgesIn done o.after.toList with
    | true => some i
    | false => nextUp pure done l (Nat.succ i)
def orderOf (ops : List Oper) : Nat → Nat → List Nat
  | 0, _ => []
  | n + 1, done => match nextUp true done ops 0 with
    | some i => i :: orderOf ops n (done ||| 2 ^ i)
    | none => match nextUp false done ops 0 with
      | some i => i :: orderOf ops n (done ||| 2 ^ i)
      | none => []
def mayWrite (o : Oper) : Bool := match o.op with
  | .store .. => true
  | .call c => match c.callee with
    | .builtin b => match b with
      | .append | .copy => true
      | _ => false
    | _ => true
  | _ => false
def barrier (all : List Oper) : List Oper → List Nat → Nat → Nat → Nat
  | o :: l, m :: ms, i, best => match allBefore m all 0 i && beforeAll i ms with
    | true => match mayWrite o with
      | true => barrier all l ms (Nat.succ i) (Nat.succ i)
      | false => barrier all l ms (Nat.succ i) best
    | false => match isStore o with
      | true => best
      | false => barrier all l ms (Nat.succ i) best
  | _, _, _, best => best
/-! ### what two ways give -/
def boolish : Value → Bool
  | .bool _ => true
  | .map (some 0) => true
  | _ => false
def mergeV (a b : Value) : Option Value := match eqV 12 a b with
  | true => some a
  | false => match boolish a && boolish b with
    | true => some (.map (some 0))
    | false => none
def mergeL : List Value → List Value → Option (List Value)
  | [], [] => some []
  | a :: l, b :: m => match mergeV a b with
    | some v => match mergeL l m with
      | some r => some (v :: r)
      | none => none
    | none => none
  | _, _ => none
def mergeB (x y : EvBlk) : Option EvBlk := match Nat.beq x.es y.es && (match x.own, y.own with
    | true, true => true
    | false, false => true
    | _, _ => false) with
  | true => match mergeL x.cells y.cells with
    | some c => some ⟨x.es, x.own, c⟩
    | none => none
  | false => none
def mergeO (x y : Option EvBlk) : Option EvBlk := match x, y with
  | some x, some y => mergeB x y
  | _, _ => none
/-- what the two do not share is given up -/
def mergeH {β : Type} (hA hB : Tr EvBlk) : Nat → Nat → Tr EvBlk → (Tr EvBlk → Option β) → Option β
  | 0, _, h, k => k h
  | n + 1, b, h, k => h.upd deep b (mergeO (hA.get b) (hB.get b)) fun h => mergeH hA hB n (Nat.succ b) h k
def meetO (x y : Option Value) : Option Value := match x, y with
  | some a, some b => mergeV a b
  | _, _ => none
def meetT : Tr Value → Tr Value → Tr Value
  | .node l x r, .node l' x' r' => .node (meetT l l') (meetO x x') (meetT r r')
  | _, _ => .leaf
def mergeS (base : Mem) (sA sB : Stt) : Option Stt :=
  match base, sA, sB with
  | ⟨h0, n0, _⟩, ⟨frA, size, ⟨hA, nA, lA⟩⟩, ⟨frB, size', ⟨hB, nB, lB⟩⟩ => match Nat.beq size size' with
    | true => fNat (Nat.min (Nat.min lA lB) n0) fun st => fNat (Nat.max nA nB) fun nx => fNat (Nat.min lA lB) fun low => mergeH hA hB (nx - st) st h0 fun h => some ⟨meetT frA frB, size, ⟨h, nx, low⟩⟩
    | false => none
def sameOut : Out → Out → Bool
  | .norm, .norm => true
  | .ret, .ret => true
  | .exit a, .exit b => Nat.beq a b
  | .goto a, .goto b => Nat.beq a b
  | _, _ => false
def relow (low : Nat) (s : Stt) : Stt := match s with
  | ⟨fr, size, ⟨h, n, l⟩⟩ => ⟨fr, size, ⟨h, n, Nat.min low l⟩⟩
def bothWays (rec : Req → Stt → Option (Out × Stt)) (x y : Code) (s : Stt) : Option (Out × Stt) :=
  match s with
  | ⟨fr, size, ⟨h, n, low⟩⟩ => match rec (.code x) ⟨fr, size, ⟨h, n, big⟩⟩ with
    | some (oA, sA) => match rec (.code y) ⟨fr, size, ⟨h, n, big⟩⟩ with
      | some (oB, sB) => match sameOut oA oB with
        | true => match mergeS ⟨h, n, big⟩ sA sB with
          | some r => some (oA, relow low r)
          | none => none
        | false => none
      | none => none
    | none => none

/-! ### a small region: each order -/
def readyL (done : Nat) : List Oper → Nat → List Nat
  | [], _ => []
  | o :: l, i => match !(done.testBit i) && edgesIn done o.after.toList with
    | true => i :: readyL done l (Nat.succ i)
    | false => readyL done l (Nat.succ i)
def runAt (P : Program) (rec : Req → Stt → Option (Out × Stt)) (ops : Array Oper) (i : Nat) (s : Stt) : Option Stt :=
  match ops[i]? with
  | none => none
  | some o => match wantedE ops o s.fr with
    | none => none
    | some false => s.put o.dst undef s.mem some
    | some true => match doOp P rec s.fr s.mem o with
      | some (v, m) => s.put o.dst v m some
      | none => none
def foldW (base : Mem) (f : Nat → Option Stt) : List Nat → Stt → Option Stt
  | [], r => some r
  | i :: l, r => match f i with
    | some q => match mergeS base r q with
      | some r => foldW base f l r
      | none => none
    | none => none
def evAny (P : Program) (rec : Req → Stt → Option (Out × Stt)) (ops : Array Oper) (base : Mem) : Nat → Nat → Stt → Option Stt
  | 0, done, s => match readyL done ops.toList 0 with
    | [] => some s
    | _ => none
  | n + 1, done, s => match readyL done ops.toList 0 with
    | [] => some s
    | i :: is => match runAt P rec ops i s with
      | some s1 => match evAny P rec ops base n (done ||| 2 ^ i) s1 with
        | some r => foldW base (fun j => match runAt P rec ops j s with
            | some s1 => evAny P rec ops base n (done ||| 2 ^ j) s1
            | none => none) is r
        | none => none
      | none => none
def evSmall (P : Program) (rec : Req → Stt → Option (Out × Stt)) (ops : Array Oper) (s : Stt) : Option (Out × Stt) :=
  match s with
  | ⟨fr, size, ⟨h, n, low⟩⟩ => match evAny P rec ops ⟨h, n, big⟩ ops.size 0 ⟨fr, size, ⟨h, n, big⟩⟩ with
    | some r => some (.norm, relow low r)
    | none => none

def evHS (P : Program) (rec : Req → Stt → Option (Out × Stt)) (ops : Array Oper) (cs : Nat) (s : Stt) : Option (Out × Stt) :=
  match cs with
  | 0 => startSoft P rec ops ops.toList (pres ops.toList []) 0 s
  | n + 1 => evHard P rec ops (Nat.succ n) ops.toList (pres ops.toList []) 0 s.mem.next [] s
def evRe (P : Program) (rec : Req → Stt → Option (Out × Stt)) (ops : Array Oper) (q : List Nat) (s : Stt) : Option (Out × Stt) :=
  match permOk ops q && drawOk (renL ops q q).toArray with
  | true => evHS P rec (renL ops q q).toArray (barrier (renL ops q q) (renL ops q q) (pres (renL ops q q) []) 0 0) s
  | false => none
/-! ### loads that have no order with an append, of what no operation of the region writes -/
def isLoad (o : Oper) : Bool := match o.op with
  | .load .. => true
  | _ => false
/-- what may write: an append, a call -/
def isAppend (o : Oper) : Bool := match o.op with
  | .call c => match c.callee with
    | .builtin b => match b with
      | .append => true
      | _ => false
    | .value _ => true
    | _ => false
  | _ => false
def memN (b : Nat) : List Nat → Bool
  | [] => false
  | c :: l => match Nat.beq b c with
    | true => true
    | false => memN b l
def fNatL {α : Type} (n : Nat) (k : Nat → α) : α := match n with
  | 0 => k 0
  | m + 1 => k (Nat.succ m)
/-- blocks that nobody sees for a while -/
def hideL {β : Type} : List Nat → Tr EvBlk → (Tr EvBlk → Option β) → Option β
  | [], h, k => k h
  | b :: l, h, k => h.upd deep b none fun h => hideL l h k
def unhideL {β : Type} (vis : Tr EvBlk) : List Nat → Tr EvBlk → (Tr EvBlk → Option β) → Option β
  | [], h, k => k h
  | b :: l, h, k => h.upd deep b (vis.get b) fun h => unhideL vis l h k
def needL1 (all : List Oper) : List Oper → List Nat → Nat → Bool
  | o :: l, m :: ms, i => match isAppend o && !(allBefore m all 0 i && beforeAll i ms) with
    | true => true
    | false => needL1 all l ms (Nat.succ i)
  | _, _, _ => false
def needL (ops : Array Oper) : Bool := needL1 ops.toList ops.toList (pres ops.toList []) 0
def nextUpL (early : Bool) (done : Nat) : List Oper → Nat → Option Nat
  | [], _ => none
  | o :: l, i => match !(done.testBit i) && (!early || noMem o || isLoad o) && edgesIn done o.after.toList with
    | true => some i
    | false => nextUpL early done l (Nat.succ i)
def orderL (ops : List Oper) : Nat → Nat → List Nat
  | 0, _ => []
  | n + 1, done => match nextUpL true done ops 0 with
    | some i => i :: orderL ops n (done ||| 2 ^ i)
    | none => match nextUpL false done ops 0 with
      | some i => i :: orderL ops n (done ||| 2 ^ i)
      | none => []
/-- what is ahead of each append -/
def appMask : List Oper → List Nat → Nat → Nat
  | o :: l, m :: ms, acc => match isAppend o with
    | true => appMask l ms (acc &&& m)
    | false => appMask l ms acc
  | _, _, acc => acc
def lightMask (am : Nat) : List Oper → Nat → Nat → Nat
  | [], _, acc => acc
  | o :: l, i, acc => match isLoad o && !(am.testBit i) with
    | true => lightMask am l (Nat.succ i) (acc ||| 2 ^ i)
    | false => lightMask am l (Nat.succ i) acc
/-- a guess: the blocks that such loads read -/
def guessL (P : Program) (ops : Array Oper) (m : Mem) (lm : Nat) : List Oper → Nat → Tr Value → List Nat → List Nat
  | [], _, _, acc => acc
  | o :: l, i, fr, acc => match wantedE ops o fr with
    | some true => match noMem o || isLoad o with
      | true => match stepOp P fr m o with
        | some (.val v _) => match o.dst with
          | some d => match fr.upd deep d (some v) some with
            | some fr' => match o.op with
              | .load _ x => match opd fr x with
                | some (.pointer (some a)) => match lm.testBit i with
                  | true => fNatL a.block fun b => guessL P ops m lm l (Nat.succ i) fr' (addNew b acc)
                  | false => guessL P ops m lm l (Nat.succ i) fr' acc
                | _ => guessL P ops m lm l (Nat.succ i) fr' acc
              | _ => guessL P ops m lm l (Nat.succ i) fr' acc
            | none => acc
          | none => guessL P ops m lm l (Nat.succ i) fr acc
        | _ => guessL P ops m lm l (Nat.succ i) fr acc
      | false => guessL P ops m lm l (Nat.succ i) fr acc
    | _ => guessL P ops m lm l (Nat.succ i) fr acc
def lightOk (L : List Nat) (nb0 : Nat) (fr : Tr Value) (o : Oper) : Bool := match o.op with
  | .load _ x => match opd fr x with
    | some (.pointer (some ⟨b, _, none⟩)) => memN b L && Nat.blt b nb0
    | _ => false
  | _ => false
def allBeforeL (m lm : Nat) : List Oper → Nat → Nat → Bool
  | _, _, 0 => true
  | [], _, _ + 1 => true
  | o :: l, j, n + 1 => match m.testBit j || (noMem o || lm.testBit j) with
    | true => allBeforeL m lm l (Nat.succ j) n
    | false => false
def evLight (P : Program) (rec : Req → Stt → Option (Out × Stt)) (ops : Array Oper) (lm : Nat) (L : List Nat) (nb0 : Nat) : List Oper → List Nat → Nat → Nat → List Made → Stt → Option (Out × Stt)
  | [], _, i, _, ds, s => addDeltas (2 ^ i - 1) s.mem.heap ds fun h => some (.norm, ⟨s.fr, s.size, ⟨h, s.mem.next, s.mem.low⟩⟩)
  | _ :: _, [], _, _, _, _ => none
  | o :: l, m :: ms, i, nb, ds, s => match wantedE ops o s.fr with
    | none => none
    | some false => s.put o.dst undef s.mem fun s => evLight P rec ops lm L nb0 l ms (Nat.succ i) nb ds s
    | some true => addDeltas m s.mem.heap ds fun vis => only s.fr o.op.operands.toList .leaf fun fr => match doOp P rec fr ⟨vis, s.mem.next, big⟩ o with
      | none => none
      | some (v, m') => match Nat.ble s.mem.next m'.low && Nat.ble s.mem.next m'.next with
        | true => match !(lm.testBit i) || lightOk L nb0 fr o with
          | true => match flatR v with
            | true => s.put o.dst v ⟨s.mem.heap, m'.next, s.mem.low⟩ fun s => evLight P rec ops lm L nb0 l ms (Nat.succ i) nb ds s
            | false => match collect m'.heap (m'.next - s.mem.next) s.mem.next with
              | d => match idsV (seen nb s.mem.next m ds) 9 v && idsD (seen nb s.mem.next m ds) d with
                | true => s.put o.dst v ⟨s.mem.heap, m'.next, s.mem.low⟩ fun s' => evLight P rec ops lm L nb0 l ms (Nat.succ i) nb (⟨i, s.mem.next, m'.next, d⟩ :: ds) s'
                | false => none
          | false => none
        | false => match allBeforeL m lm ops.toList 0 i && beforeAll i ms && !noMem o && !(lm.testBit i) with
          | true => hideL L vis fun hh => match doOp P rec fr ⟨hh, s.mem.next, big⟩ o with
            | none => none
            | some (v, m') => unhideL vis L m'.heap fun h2 => fNat (Nat.min s.mem.low m'.low) fun low => s.put o.dst v ⟨h2, m'.next, low⟩ fun s => evLight P rec ops lm L nb0 l ms (Nat.succ i) s.mem.next [] s
          | false => none
def evLR1 (P : Program) (rec : Req → Stt → Option (Out × Stt)) (ops : Array Oper) (ms : List Nat) (lm : Nat) (s : Stt) : Option (Out × Stt) :=
  evLight P rec ops lm (guessL P ops s.mem lm ops.toList 0 s.fr []) s.mem.next ops.toList ms 0 s.mem.next [] s
def evLR (P : Program) (rec : Req → Stt → Option (Out × Stt)) (ops : Array Oper) (q : List Nat) (s : Stt) : Option (Out × Stt) :=
  match permOk ops q && drawOk (renL ops q q).toArray with
  | true => evLR1 P rec (renL ops q q).toArray (pres (renL ops q q) []) (lightMask (appMask (renL ops q q) (pres (renL ops q q) []) (2 ^ ops.size - 1)) (renL ops q q) 0 0) s
  | false => none

def evReg (P : Program) (rec : Req → Stt → Option (Out × Stt)) (ops : Array Oper) (s : Stt) : Option (Out × Stt) :=
  match softs ops with
  | false => match needL ops with
    | false => evDraw P rec ops ops.toList (pres ops.toList []) 0 s.mem.next [] s
    | true => match evDraw P rec ops ops.toList (pres ops.toList []) 0 s.mem.next [] s with
      | some r => some r
      | none => evLR P rec ops (orderL ops.toList ops.size 0) s
  | true => match Nat.ble ops.size 4 with
    | true => evSmall P rec ops s
    | false => evRe P rec ops (orderOf ops.toList ops.size 0) s

structure CodeF where
  run : Program → (Req → Stt → Option (Out × Stt)) → Stt → Option (Out × Stt)
/-- (a closed term, so the kernel reckons it once) -/
def codeSel (c : Code) : CodeF :=
  match c with
  | .skip => ⟨fun _ _ s => some (.norm, s)⟩
  | .label _ => ⟨fun _ _ s => some (.norm, s)⟩
  | .region _ ops draw => match draw with
    | false => ⟨fun P rec s => evOps P rec ops ops.toList s⟩
    | true => match drawOk ops with
      | true => ⟨fun P rec s => evReg P rec ops s⟩
      | false => ⟨fun _ _ _ => none⟩
  | .seq x y => ⟨fun _ rec s => match rec (.code x) s with
    | some (.norm, s) => rec (.code y) s
    | x => x⟩
  | .cond c x y => ⟨fun _ rec s => match opd s.fr c with
    | some (.bool true) => rec (.code x) s
    | some (.bool false) => rec (.code y) s
    | some (.map (some 0)) => bothWays rec x y s
    | _ => none⟩
  | .block id c => ⟨fun _ rec s => match rec (.code c) s with
    | some (.exit i, s) => match Nat.beq i id with
      | true => some (.norm, s)
      | false => some (.exit i, s)
    | x => x⟩
  | .loop c => ⟨fun _ rec s => match rec (.code c) s with
    | some (.norm, s) => rec (.looped c) s
    | x => x⟩
  | .exit id => ⟨fun _ _ s => some (.exit id, s)⟩
  | .goto l => ⟨fun _ _ s => some (.goto l, s)⟩
  | .ret => ⟨fun _ _ s => some (.ret, s)⟩
  | .scope c => ⟨fun _ rec s => rec (.insc c c) s⟩
  | _ => ⟨fun _ _ _ => none⟩
def evInsc (rec : Req → Stt → Option (Out × Stt)) (c rest : Code) (s : Stt) : Option (Out × Stt) := match rec (.code rest) s with
    | some (.goto l, s) => match findLabel c l with
      | some rest => rec (.insc c rest) s
      | none => some (.goto l, s)
    | x => x
def evLooped (rec : Req → Stt → Option (Out × Stt)) (c : Code) (s : Stt) : Option (Out × Stt) := match rec (.code c) s with
    | some (.norm, s) => rec (.looped c) s
    | x => x
def evB (P : Program) (rec : Req → Stt → Option (Out × Stt)) (r : Req) (s : Stt) : Option (Out × Stt) :=
  Req.rec (motive := fun _ => Option (Out × Stt)) (fun c => CodeF.rec (motive := fun _ => Option (Out × Stt)) (fun f => f P rec s) (codeSel c)) (fun c rest => evInsc rec c rest s) (fun c => evLooped rec c s) r
theorem evB_eq (P : Program) (rec : Req → Stt → Option (Out × Stt)) (r : Req) (s : Stt) : evB P rec r s =
  match r with
  | .insc c rest => match rec (.code rest) s with
    | some (.goto l, s) => match findLabel c l with
      | some rest => rec (.insc c rest) s
      | none => some (.goto l, s)
    | x => x
  | .looped c => match rec (.code c) s with
    | some (.norm, s) => rec (.looped c) s
    | x => x
  | .code c => match c with
    | .skip => some (.norm, s)
    | .label _ => some (.norm, s)
    | .region _ ops draw => match draw with
      | false => evOps P rec ops ops.toList s
      | true => match drawOk ops with
        | true => evReg P rec ops s
        | false => none
    | .seq x y => match rec (.code x) s with
      | some (.norm, s) => rec (.code y) s
      | x => x
    | .cond c x y => match opd s.fr c with
      | some (.bool true) => rec (.code x) s
      | some (.bool false) => rec (.code y) s
      | some (.map (some 0)) => bothWays rec x y s
      | _ => none
    | .block id c => match rec (.code c) s with
      | some (.exit i, s) => match Nat.beq i id with
        | true => some (.norm, s)
        | false => some (.exit i, s)
      | x => x
    | .loop c => match rec (.code c) s with
      | some (.norm, s) => rec (.looped c) s
      | x => x
    | .exit id => some (.exit id, s)
    | .goto l => some (.goto l, s)
    | .ret => some (.ret, s)
    | .scope c => rec (.insc c c) s
    | _ => none := by
  cases r with
  | insc c rest => rfl
  | looped c => rfl
  | code c =>
    cases c with
    | region id ops draw =>
      cases draw with
      | false => rfl
      | true =>
        simp only [evB, codeSel]
        cases drawOk ops <;> rfl
    | _ => rfl
def ev (P : Program) : Nat → Req → Stt → Option (Out × Stt)
  | 0, _, _ => none
  | n + 1, r, s => evB P (ev P n) r s
/-- a table's cells: plain ones, or one that is not looked at -/
def tabOk (g : Nat) (cs : List Value) : Bool := match cs with
  | [.chan (some i)] => Nat.beq i g
  | _ => flats cs
/-- tables that are read: their variables' numbers, their cells -/
def withTabs {β : Type} : List (Nat × List Value) → Tr EvBlk → (Tr EvBlk → Option β) → Option β
  | [], h, k => k h
  | (g, cs) :: l, h, k => match Nat.blt g 1048576 && tabOk g cs with
    | true => h.upd deep g (some ⟨0, false, cs⟩) fun h => withTabs l h k
    | false => none
/-- a call with plain arguments, beside the tables alone -/
def runPlain (P : Program) (fuel : Nat) (f : FuncId) (args : List Value) (tabs : List (Nat × List Value)) : Option Value :=
  match flat2 args with
  | true => withTabs tabs .leaf fun h => match evCall P (ev P fuel) f args ⟨h, 1048576, big⟩ with
    | some (v, _) => match flatR v with
      | true => some v
      | false => none
    | none => none
  | false => none
end
end Go.Proofs.YtloolljoelngcaaGreat
