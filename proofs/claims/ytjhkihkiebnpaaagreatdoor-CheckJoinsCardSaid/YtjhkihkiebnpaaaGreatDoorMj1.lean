/-
  Values, rows and columns as they lie in memory; what stays of them while the world grows. No program in sight.
-/
import Derived.Test.YtjhkihkiebnpaaaGreatDoorMj0
import Derived.WalkKit
import Derived.WalkSpells
import Derived.Lib.Hide
import Derived.Deep.Draws
import Derived.RegionTactic
import Derived.Test.YtjhkihkiebnpaaaGreatDoorRows
import Derived.WalkLawsBesides
import Derived.Deep.QuietTactic
import Derived.BigQuiet
import Derived.Deep.RegionHeld3
import Derived.Deep.AppendLies
import Derived.ChangeAlike
import Derived.Deep.DeepCutAuto
import Derived.Below
import Derived.Laws.OwnMore
import Derived.Laws.Rows
import Derived.Maps.AppendAt
import Derived.OwnWalk
import Derived.ScopeJumps
import Derived.WalkMore
import Derived.KernelRfl
import Derived.Laws.IdiomStrings
import Derived.Laws.BytesArg
import Derived.OrdersHeld
import Derived.Deep.RegionHeld
set_option linter.unusedVariables false
set_option linter.unusedSimpArgs false
set_option maxRecDepth 100000
set_option maxHeartbeats 40000000
namespace Go.Proofs.YtjhkihkiebnpaaaGreatDoor
open Go.RowKit
structure V where
 k:Int
 n:Int
 s:ByteArray
structure C where
 nm:ByteArray
 k:Int
def V.okB (v:V):Bool:=(v.k==1&&v.s.toList.isEmpty) || (v.k==2&&(v.n==0&&decide ((v.s.size:Int)≤40)))
def JO (w:World)(b off:Nat)(l:List C):Prop:=∀ i c,l[i]?=some c →
 w.cell? ⟨b,off+i*2,none⟩=some (.string c.nm)∧w.cell? ⟨b,off+i*2+1,none⟩=some (.int .i64 c.k)
def l9 (w:World)(B:Nat)(A:Option Addr)(l:List C):Prop:=l=[]∨∃ b off,A=some ⟨b,off,none⟩∧b<B∧JO w b off l
section
variable {w w':World} {B B' b off:Nat} {A:Option Addr} {l:List V} {m:List C}
theorem JO.below (h:JO w b off m)(hb:Below B w w')(hB:b<B):JO w' b off m:=fun i v hv=>by
 obtain⟨h1,h2⟩:=h i v hv
 exact⟨(hb.cell hB).trans h1,(hb.cell hB).trans h2⟩
theorem l9.below (h:l9 w B A m)(hb:Below B w w'):l9 w' B A m:=by
 rcases h with h|⟨b,off,hA,hB,h⟩
 ·exact .inl h
 ·exact .inr ⟨b,off,hA,hB,h.below hb hB⟩
theorem l9.more (h:l9 w B A m)(hB:B≤B'):l9 w B' A m:=by
 rcases h with h|⟨b,off,hA,hb,h⟩
 ·exact .inl h
 ·exact .inr ⟨b,off,hA,by omega,h⟩
end
theorem below_drewN {B:Nat} {a w:World} (h:Below B a w)(n:Nat):Below B a (w.drewN n):=⟨h.os,h.tape,h.output,h.size,h.block⟩
section
variable {P:Program} {md:Region.Mode} {ops:Array Oper} {Q:Exit→Act→World→Prop}
end
theorem Bq (k n:Int)(s:ByteArray)(w:World) :
 Calls Tryz.prog 111 #[.agg #[.int .i64 k,.int .i64 n,.string s]] w fun e w' =>
  e=.returned (.bool (V.okB ⟨k,n,s⟩))∧w.alloc (.cells #[.int .i64 k,.int .i64 n,.string s] 114)=w':=by
 by_cases h1:(k==1)=true
 ·have hr:V.okB ⟨k,n,s⟩=s.toList.isEmpty:=by
   have:(k==2)=false:=by simp at h1 ⊢;omega
   simp[V.okB,h1,this]
  rw[hr]
  clear hr
  go_enter Tryz.func111,Tryz.ntmps111
  go_wp2
  go_ret
  exact⟨rfl,rfl⟩
 ·have h1':(k==1)=false:=by simpa using h1
  clear h1
  by_cases h2:(k==2)=true
  ·by_cases h3:n=0
   ·subst h3
    have hr:V.okB ⟨k,0,s⟩=decide ((s.size:Int)≤40):=by simp[V.okB,h1',h2]
    rw[hr]
    clear hr
    go_enter Tryz.func111,Tryz.ntmps111
    go_wp2
    go_ret
    exact⟨rfl,rfl⟩
   ·have hr:V.okB ⟨k,n,s⟩=false:=by simp[V.okB,h1',h3]
    rw[hr]
    clear hr
    go_enter Tryz.func111,Tryz.ntmps111
    go_wp2
    go_ret
    exact⟨rfl,rfl⟩
  ·have h2':(k==2)=false:=by simpa using h2
   clear h2
   have hr:V.okB ⟨k,n,s⟩=false:=by simp[V.okB,h1',h2']
   rw[hr]
   clear hr
   go_enter Tryz.func111,Tryz.ntmps111
   go_wp2
   go_ret
   exact⟨rfl,rfl⟩
def idx {α:Type} (p:α→Bool):List α→Nat→Int
 | [],_=>-1
 | x::l,k=>if p x then (k:Int) else idx p l (k+1)
theorem nz {α:Type} {p:α→Bool} {l:List α} {k:Nat} {x:α} (h:l[k]?=some x):idx p (l.drop k) k=if p x then (k:Int) else idx p (l.drop (k+1)) (k+1):=by
 obtain⟨h1,e1⟩:=aV.1 h
 rw[bY h1,e1]
 rfl
theorem aaf {α:Type} (p:α→Bool)(l:List α):∀ k:Nat,-1≤idx p l k∧idx p l k<k+l.length∧(idx p l k=-1∨(k:Int)≤idx p l k):=by
 induction l with
 | nil=>intro k;simp[idx];omega
 | cons x l ih =>
   intro k
   unfold idx
   have:=ih (k+1)
   split
   ·simp;omega
   ·simp only[bf];omega
def C.oM (nm:ByteArray)(c:C):Bool:=c.nm.toList==nm.toList
theorem IC (cn:ByteArray)(ck:Int)(nm:ByteArray)(p:Addr)(w:World)(h0:w.cell? p=some (.string nm)) :
 Calls Tryz.prog 28 #[.agg #[.string cn,.int .i64 ck],.pointer (some p)] w fun e w'=>e=.returned (.bool (C.oM nm ⟨cn,ck⟩))∧w.alloc (.cells #[.string cn,.int .i64 ck] 42)=w':=by
 have hp:=block_lt_of_cell h0
 go_enter Tryz.func28,Tryz.ntmps28
 go_wp2
 go_ret
 exact⟨rfl,rfl⟩
theorem xC (b o:Nat)(n c:Nat)(l:List C)(hl:l.length=n)(hn:n≤9223372036854775807)(nm:ByteArray)(pb po:Nat)(w:World)(hb:b<w.heap.size)(hL:JO w b o l)
 (h0:w.cell? ⟨pb,po,none⟩=some (.string nm)) :
 Calls Tryz.prog 27 #[.slice (some ⟨b,o,none⟩) n c,.func (.func 28) #[] #[.pointer (some ⟨pb,po,none⟩)]] w fun e w' =>
  e=.returned (.int .i64 (idx (C.oM nm) l 0))∧Below w.heap.size w w':=by
 have HL:=ae hL
 have Hl:=ae hl
 have hp:=block_lt_of_cell h0
 have H0:=ae h0
 clear hL hl h0
 go_enter Tryz.func27,Tryz.ntmps27
 go_wp2_with fail
 go_loopw [8] (fun i wr=>∃ k:Nat,k≤n∧i=.int .i64 k∧Below w.heap.size w wr∧Hid (idx (C.oM nm) l 0=idx (C.oM nm) (l.drop k) k)) (fun i _=>n-(intOf i).toNat)
 case atStart=>exact⟨0,aX _,rfl,aG _ _,rfl⟩
 case round =>
  obtain⟨k,hk,rfl,hbl,hz⟩:=hrel
  by_cases hlt:k<n
  ·obtain⟨cc,hc⟩:∃ c,l[k]?=some c:=⟨_,aO (by rw[Hl.o];exact hlt)⟩
   have hst:=ae (hz.o.trans (nz (p:=C.oM nm) hc))
   obtain⟨c1,c2⟩:=HL.o.below hbl hb k cc hc
   clear hc hz
   obtain⟨cn,ck⟩:=cc
   have hs:=hbl.size
   have hcl:=ae (IC cn ck nm ⟨pb,po,none⟩ wr ((hbl.cell hp).trans H0.o))
   by_cases he:C.oM nm ⟨cn,ck⟩=true
   ·rw[he] at hcl
    rw[if_pos he] at hst
    clear he
    go_wp2_with fail
    refine (hcl.o).mono ?_
    rintro e w' ⟨rfl,rfl⟩
    go_wp2_with fail
    go_ret
    exact⟨by rw[hst.o];rfl,hbl.alloc hs _⟩
   ·have he':C.oM nm ⟨cn,ck⟩=false:=by simpa using he
    rw[he'] at hcl
    rw[if_neg he] at hst
    clear he he'
    go_wp2_with fail
    refine (hcl.o).mono ?_
    rintro e w' ⟨rfl,rfl⟩
    go_wp2_with fail
    go_roundw
    case rel=>exact⟨k+1,by omega,by go_num,hbl.alloc hs _,hst⟩
    case measure=>simp[intOf];omega
  ·go_wp2_with fail
   go_ret
   have e:k=n:=by omega
   subst e
   exact⟨by rw[hz.o,bW (by rw[Hl.o];omega)];rfl,hbl⟩
theorem FU (A:Option Addr)(c:Nat)(l:List C)(hn:l.length≤9223372036854775807)(nm:ByteArray)(pb po:Nat)(w:World)(hA:l9 w w.heap.size A l)
 (h0:w.cell? ⟨pb,po,none⟩=some (.string nm)) :
 Calls Tryz.prog 27 #[.slice A l.length c,.func (.func 28) #[] #[.pointer (some ⟨pb,po,none⟩)]] w fun e w' =>
  e=.returned (.int .i64 (idx (C.oM nm) l 0))∧Below w.heap.size w w':=by
 rcases hA with rfl|⟨b,o,rfl,hb,hL⟩
 ·clear h0
  go_enter Tryz.func27,Tryz.ntmps27
  go_wp2
  refine wp_loop_rounds 1 ?_
  rw[rounds_succ]
  go_wp2
  go_ret
  exact⟨rfl,aG _ _⟩
 ·exact xC b o l.length c l rfl hn nm pb po w hb hL h0
def gU (l:List C)(nm:ByteArray):Int:=if 0≤idx (C.oM nm) l 0 then idx (C.oM nm) l 0 else 0
def fO (l:List C)(nm:ByteArray):Bool:=decide (0≤idx (C.oM nm) l 0)
theorem oG (A:Option Addr)(c:Nat)(l:List C)(hn:l.length≤9223372036854775807)(nm:ByteArray)(w:World)(hA:l9 w w.heap.size A l) :
 Calls Tryz.prog 13 #[.slice A l.length c,.string nm] w fun e w' =>
  e=.returned (.tuple #[.int .i64 (gU l nm),.bool (fO l nm)])∧Below w.heap.size w w':=by
 have hb0:Below w.heap.size w (w.alloc (.cells #[.string nm] 9)):=(aG _ _).alloc (aF _) _
 have hc:=ae (FU A c l hn nm w.heap.size 0 (w.alloc (.cells #[.string nm] 9)) ((hA.below hb0).more (by simp)) (by simp))
 obtain⟨b1,b2,b3⟩:=aaf (C.oM nm) l 0
 unfold gU fO
 clear hA
 generalize idx (C.oM nm) l 0=r at *
 by_cases hr:0≤r
 ·rw[if_pos hr,decide_eq_true hr]
  go_enter Tryz.func13,Tryz.ntmps13
  go_wp2_with fail
  refine (hc.o).mono ?_
  rintro e w' ⟨rfl,hb⟩
  have hb2:=hb0.trans (hb.mono (by simp))
  clear hb hb0
  go_wp2_with fail
  go_ret2
  exact⟨rfl,hb2⟩
 ·obtain rfl:r=-1:=by omega
  rw[if_neg hr,decide_eq_false hr]
  clear hr b1 b2 b3
  go_enter Tryz.func13,Tryz.ntmps13
  go_wp2_with fail
  refine (hc.o).mono ?_
  rintro e w' ⟨rfl,hb⟩
  have hb2:=hb0.trans (hb.mono (by simp))
  clear hb hb0
  go_wp2_with fail
  go_ret2
  exact⟨rfl,hb2⟩
def iV:List (List UInt8):=[[116,97,98,108,101],[102,105,108,116,101,114],[112,114,111,106,101,99,116],[106,111,105,110],[117,110,105,111,110],[100,105,115,116,105,110,99,116],[103,114,111,117,112],[99,111,117,110,116],[115,117,109],[109,105,110],[109,97,120],[97,100,100],[115,117,98],[109,117,108],[110,101,103],[101,113],[108,116],[97,110,100],[111,114],[110,111,116],[99,97,116],[108,101,110],[105,102]]
def Aa (s:ByteArray):Bool:=iV.any fun x=>s.toList==x
theorem any_false {α:Type} {l:List α} {p:α→Bool} (h:l.any p=false):∀ x∈l,p x=false:=by
 simpa [List.any_eq_false] using h
theorem yz (s:ByteArray)(w:World):Calls Tryz.prog 52 #[.string s] w fun e w'=>e=.returned (.bool (Aa s))∧w=w':=by
 by_cases h:Aa s=true
 ·rw[h]
  obtain⟨x,hx,e⟩:=List.any_eq_true.1 h
  have hs:s.toList=x:=by simpa using e
  clear h e
  subst hs
  simp only[iV,bZ,bI,or_false] at hx
  rcases hx with hx|hx|hx|hx|hx|hx|hx|hx|hx|hx|hx|hx|hx|hx|hx|hx|hx|hx|hx|hx|hx|hx|hx
  all_goals
   go_enter Tryz.func52,Tryz.ntmps52
   go_wp2
   go_ret
   exact⟨rfl,rfl⟩
 ·have h':Aa s=false:=by simpa using h
  rw[h']
  have hn:=any_false h'
  clear h h'
  simp only[iV,bZ,bI,or_false,forall_eq_or_imp,forall_eq] at hn
  obtain⟨h0,h1,h2,h3,h4,h5,h6,h7,h8,h9,h10,h11,h12,h13,h14,h15,h16,h17,h18,h19,h20,h21,h22⟩:=hn
  go_enter Tryz.func52,Tryz.ntmps52
  go_wp2
  go_ret
  exact⟨rfl,rfl⟩
def uO (l:List UInt8):Bool:=l.all fun c=>decide (97≤(c.toNat:Int))&&decide ((c.toNat:Int)≤122)
theorem Gy (s:ByteArray)(k:Nat)(h:k<s.size):uO (s.data.toList.drop k)=((decide (97≤(s[k].toNat:Int))&&decide ((s[k].toNat:Int)≤122))&&uO (s.data.toList.drop (k+1))):=by
 rw[bY (by simpa using h)]
 rfl
def nameB (s:ByteArray):Bool:=((!s.toList.isEmpty&&decide (s.size≤12))&&!Aa s)&&uO s.data.toList
theorem QN (s:ByteArray)(w:World)(h1:s.toList.isEmpty=false)(h2:s.size≤12)(h3:Aa s=false) :
 Calls Tryz.prog 26 #[.string s] w fun e w'=>e=.returned (.bool (uO s.data.toList))∧w=w':=by
 have HR:=ae (yz s)
 rw[h3] at HR
 clear h3
 have hd:decide (12<(s.size:Int))=false:=by simp;omega
 go_enter Tryz.func26,Tryz.ntmps26
 go_wp2_with fail
 refine (HR.o _).mono ?_
 rintro e w' ⟨rfl,rfl⟩
 go_wp2_with fail
 go_loop [17] (fun i=>∃ k:Nat,k≤s.size∧i=.int .i64 k∧Hid (uO s.data.toList=uO (s.data.toList.drop k))) (fun i=>s.size-(intOf i).toNat)
 case atStart=>exact⟨0,aX _,rfl,rfl⟩
 case round =>
  obtain⟨k,hk,rfl,hz⟩:=hrel
  by_cases hlt:k<s.size
  ·have hst:=ae (hz.o.trans (Gy s k hlt))
   clear hz
   by_cases a1:97≤(s[k].toNat:Int)
   ·by_cases a2:(s[k].toNat:Int)≤122
    ·rw[decide_eq_true a1,decide_eq_true a2] at hst
     have hst':Hid (uO s.data.toList=uO (s.data.toList.drop (k+1))):=by
      have:=hst.o;rwa [Bool.and_self,Bool.true_and] at this
     clear hst
     go_wp2_with fail
     go_round
     case rel=>exact⟨k+1,by omega,by go_num,hst'⟩
     case measure=>simp[intOf];omega
    ·have hst':Hid (uO s.data.toList=false):=by
      have:=hst.o;rwa [decide_eq_false a2,Bool.and_false,Bool.false_and] at this
     clear hst
     go_wp2_with fail
     go_ret
     exact⟨by rw[hst'.o];rfl,rfl⟩
   ·have hst':Hid (uO s.data.toList=false):=by
     have:=hst.o;rwa [decide_eq_false a1,Bool.false_and,Bool.false_and] at this
    clear hst
    go_wp2_with fail
    go_ret
    exact⟨by rw[hst'.o];rfl,rfl⟩
  ·go_wp2_with fail
   go_ret
   have e:k=s.size:=by omega
   subst e
   exact⟨by rw[hz.o,bW (by simp)];rfl,rfl⟩
theorem name_any (s:ByteArray)(w:World):Calls Tryz.prog 26 #[.string s] w fun e w'=>e=.returned (.bool (nameB s))∧w=w':=by
 by_cases h1:s.toList.isEmpty=true
 ·have e0:nameB s=false:=by simp[nameB,h1]
  rw[e0]
  clear e0
  go_enter Tryz.func26,Tryz.ntmps26
  go_wp2
  go_ret
  exact⟨rfl,rfl⟩
 ·have h1':s.toList.isEmpty=false:=by simpa using h1
  clear h1
  by_cases h2:s.size≤12
  ·by_cases h3:Aa s=true
   ·have e0:nameB s=false:=by simp[nameB,h3]
    rw[e0]
    have HR:=ae (yz s)
    rw[h3] at HR
    clear h3 e0
    go_enter Tryz.func26,Tryz.ntmps26
    go_wp2_with fail
    refine (HR.o _).mono ?_
    rintro e w' ⟨rfl,rfl⟩
    go_wp2_with fail
    go_ret
    exact⟨rfl,rfl⟩
   ·have h3':Aa s=false:=by simpa using h3
    have e0:nameB s=uO s.data.toList:=by simp[nameB,h1',h2,h3']
    rw[e0]
    exact QN s w h1' h2 h3'
  ·have e0:nameB s=false:=by simp[nameB,h2]
   rw[e0]
   clear e0
   go_enter Tryz.func26,Tryz.ntmps26
   go_wp2
   go_ret
   exact⟨rfl,rfl⟩
inductive E where
 | mk (k:Int)(s:ByteArray)(n:Int)(kids:List E)
def E.k:E→Int|.mk k _ _ _=>k
def E.s:E→ByteArray|.mk _ s _ _=>s
def E.n:E→Int|.mk _ _ n _=>n
def E.kids:E→List E|.mk _ _ _ l=>l
theorem E.ind {P:E→Prop} (h:∀ k s n l,(∀ e∈l,P e)→P (.mk k s n l)):∀ e,P e:=by
 intro e
 exact E.rec (motive_1:=P) (motive_2:=fun l=>∀ e∈l,P e) (fun k s n l ih=>h k s n l ih) (fun e he=>by cases he) (fun e l h1 h2 x hx=>by
  rcases bZ.1 hx with rfl|hx
  ·exact h1
  ·exact h2 x hx) e
inductive iZ (w:World)(B:Nat):Option Addr→List E→Prop
 | nil (A:Option Addr):iZ w B A []
 | mk (b off:Nat)(l:List E)(hn:l.length≤9223372036854775807)(hb:b<B)(A:Nat→Option Addr)(c:Nat→Nat)
    (h:∀ i e,l[i]?=some e→w.cell? ⟨b,off+i*4,none⟩=some (.int .i64 e.k)∧w.cell? ⟨b,off+i*4+1,none⟩=some (.string e.s) ∧
      w.cell? ⟨b,off+i*4+2,none⟩=some (.int .i64 e.n)∧w.cell? ⟨b,off+i*4+3,none⟩=some (.slice (A i) e.kids.length (c i)))
    (hk:∀ i e,l[i]?=some e→iZ w B (A i) e.kids):iZ w B (some ⟨b,off,none⟩) l
theorem iZ.low {w w':World} {B:Nat} {A:Option Addr} {l:List E} (h:iZ w B A l)(hb:Below B w w'):iZ w' B A l:=by
 induction h with
 | nil A=>exact .nil A
 | mk b off l hn hlt A c h hk ih =>
   refine .mk b off l hn hlt A c (fun i e he=>?_) (fun i e he=>ih i e he)
   obtain⟨h1,h2,h3,h4⟩:=h i e he
   exact⟨(hb.cell hlt).trans h1,(hb.cell hlt).trans h2,(hb.cell hlt).trans h3,(hb.cell hlt).trans h4⟩
theorem iZ.more {w:World} {B B':Nat} {A:Option Addr} {l:List E} (h:iZ w B A l)(hB:B≤B'):iZ w B' A l:=by
 induction h with
 | nil A=>exact .nil A
 | mk b off l hn hlt A c h hk ih=>exact .mk b off l hn (by omega) A c h (fun i e he=>ih i e he)
theorem iZ.len {w:World} {B:Nat} {A:Option Addr} {l:List E} (h:iZ w B A l):l.length≤9223372036854775807:=by
 cases h with
 | nil A=>simp
 | mk b off l hn hlt A c h hk=>exact hn
theorem iZ.gy {w:World} {A:Option Addr} {l:List E} (h:iZ w w.heap.size A l):∀ w1,Below w.heap.size w w1→∀ i e,l[i]?=some e →
 ∃ b o A' c',A=some ⟨b,o,none⟩∧b<w.heap.size∧w1.cell? ⟨b,o+i*4,none⟩=some (.int .i64 e.k)∧w1.cell? ⟨b,o+i*4+1,none⟩=some (.string e.s) ∧
   w1.cell? ⟨b,o+i*4+2,none⟩=some (.int .i64 e.n)∧w1.cell? ⟨b,o+i*4+3,none⟩=some (.slice A' e.kids.length c')∧iZ w1 w1.heap.size A' e.kids:=by
 intro w1 hb i e he
 cases h with
 | nil A=>simp at he
 | mk b off l hn hlt A c h hk =>
   obtain⟨h1,h2,h3,h4⟩:=h i e he
   exact⟨b,off,A i,c i,rfl,hlt,(hb.cell hlt).trans h1,(hb.cell hlt).trans h2,(hb.cell hlt).trans h3,(hb.cell hlt).trans h4,((hk i e he).low hb).more hb.size⟩
def E.val (e:E)(A:Option Addr)(c:Nat):Value:=.agg #[.int .i64 e.k,.string e.s,.int .i64 e.n,.slice A e.kids.length c]
def Bz:List UInt8:=[97,100,100]
def BA:List UInt8:=[115,117,98]
def BB:List UInt8:=[109,117,108]
def Ae:List UInt8:=[101,113]
def Af:List UInt8:=[108,116]
def BC:List UInt8:=[97,110,100]
def JS:List UInt8:=[111,114]
def uq:List UInt8:=[99,97,116]
def BD:List UInt8:=[110,101,103]
def BF:List UInt8:=[110,111,116]
def uu:List UInt8:=[108,101,110]
def Ci:List UInt8:=[105,102]
def opsL:List (List UInt8):=[Bz,BA,BB,Ae,Af,BC,JS,uq,BD,BF,uu,Ci]
theorem JU (l:List UInt8):l∈opsL∨∀ x∈opsL,(l==x)=false:=by
 by_cases h:l∈opsL
 ·exact .inl h
 ·refine .inr fun x hx=>?_
  cases e:l==x
  ·rfl
  ·rw[show l=x by simpa using e] at h
   exact absurd hx h
def gX (l:List UInt8):Nat :=
 if l=Bz∨l=BA∨l=BB∨l=Ae∨l=Af∨l=BC∨l=JS∨l=uq then 2
 else if l=BD∨l=BF∨l=uu then 1 else if l=Ci then 3 else 0
mutual
def gI:E→Bool
 | .mk k s n l=>if k=1 then nameB s&&(n==0&&l.length==0) else if k=2 then s.toList.isEmpty&&l.length==0
   else if k=3 then n==0&&l.length==0 else if k=4 then decide (0<gX s.toList)&&(gX s.toList==l.length&&(n==0&&lU l)) else false
def lU:List E→Bool
 | []=>true
 | e::l=>gI e&&lU l
end
theorem Ah (l:List E):lU l=l.all gI:=by
 induction l with
 | nil=>rfl
 | cons e l ih=>rw[lU,ih];rfl
def iU (op:List UInt8)(l:List Int):Int :=
 if op=Ae∨op=Af then (if l.getD 0 0=l.getD 1 0 then 1 else 0)
 else if op=uq then (if l.all (·==2) then 2 else 0)
 else if op=uu then (if l.all (·==2) then 1 else 0)
 else if op=Ci then (if l.getD 0 0=1∧l.getD 1 0=l.getD 2 0 then l.getD 1 0 else 0)
 else if l.all (·==1) then 1 else 0
mutual
def jC (cols:List C):E→Int×Int
 | .mk k s n l=>if k=1 then (if fO cols s then ((cols.getD (gU cols s).toNat ⟨⟨#[]⟩,0⟩).k,0) else (0,20))
   else if k=2 then (1,0) else if k=3 then (2,0)
   else if (jV cols l).2=0 then (if 0<iU s.toList (jV cols l).1 then (iU s.toList (jV cols l).1,0) else (0,22)) else (0,(jV cols l).2)
def jV (cols:List C):List E→List Int×Int
 | []=>([],0)
 | e::l=>if (jC cols e).2=0 then ((jC cols e).1::(jV cols l).1,(jV cols l).2) else ([],(jC cols e).2)
end
theorem count_any (s:ByteArray)(w:World):Calls Tryz.prog 131 #[.string s] w fun e w'=>e=.returned (.int .i64 (gX s.toList:Nat))∧w=w':=by
 rcases JU s.toList with h|h
 ·simp only[opsL,Bz,BA,BB,Ae,Af,BC,JS,uq,BD,BF,uu,Ci,bZ,bI,or_false] at h
  rcases h with h|h|h|h|h|h|h|h|h|h|h|h
  all_goals
   obtain⟨q,hq⟩:∃ q,q=gX s.toList:=⟨_,rfl⟩
   rw[←hq]
   rw[h] at hq
   change q=_ at hq
   simp only[gX,Bz,BA,BB,Ae,Af,BC,JS,uq,BD,BF,uu,Ci] at hq
   simp at hq
   subst hq
   go_enter Tryz.func131,Tryz.ntmps131
   go_wp2
   go_ret
   exact⟨rfl,rfl⟩
 ·have hq:gX s.toList=0:=by
   have hne:∀ x∈opsL,s.toList≠x:=fun x hx e=>by have:=h x hx;rw[e] at this;simp at this
   simp only[opsL,bZ,bI,or_false,forall_eq_or_imp,forall_eq] at hne
   obtain⟨h0,h1,h2,h3,h4,h5,h6,h7,h8,h9,h10,h11⟩:=hne
   simp[gX,h0,h1,h2,h3,h4,h5,h6,h7,h8,h9,h10,h11]
  rw[hq]
  clear hq
  simp only[opsL,Bz,BA,BB,Ae,Af,BC,JS,uq,BD,BF,uu,Ci,bZ,bI,or_false,forall_eq_or_imp,forall_eq] at h
  obtain⟨h0,h1,h2,h3,h4,h5,h6,h7,h8,h9,h10,h11⟩:=h
  go_enter Tryz.func131,Tryz.ntmps131
  go_wp2
  go_ret
  exact⟨rfl,rfl⟩
def sQ (e:E):Prop:=∀ (A:Option Addr)(c:Nat)(w:World),iZ w w.heap.size A e.kids →
 Calls Tryz.prog 90 #[e.val A c] w fun r w'=>r=.returned (.bool (gI e))∧Below w.heap.size w w'
theorem IG (k:Int)(s:ByteArray)(n:Int)(l:List E)(hM:sQ (.mk k s n l))(A:Option Addr)(c:Nat)(w:World)(hA:iZ w w.heap.size A l) :
 Calls Tryz.prog 133 #[.agg #[.int .i64 k,.string s,.int .i64 n,.slice A l.length c]] w fun r w'=>r=.returned (.bool (!gI (.mk k s n l)))∧Below w.heap.size w w':=by
 have hb0:Below w.heap.size w (w.alloc (.cells #[.int .i64 k,.string s,.int .i64 n,.slice A l.length c] 38)):=(aG _ _).alloc (aF _) _
 have hc:=ae (hM A c _ ((hA.low hb0).more hb0.size))
 clear hM hA
 simp only[E.val,E.k,E.s,E.n,E.kids] at hc
 generalize gI (.mk k s n l)=q at *
 generalize l.length=m at *
 go_enter Tryz.func133,Tryz.ntmps133
 go_wp2_with fail
 refine (hc.o).mono ?_
 rintro e w' ⟨rfl,hb⟩
 have hb2:=hb0.trans (hb.mono (by simp))
 clear hb hb0
 go_wp2_with fail
 go_ret
 exact⟨rfl,hb2⟩
theorem Du (A:Option Addr)(c:Nat)(l:List E)(hM:∀ e∈l,sQ e)(w:World)(hA:iZ w w.heap.size A l) :
 Calls Tryz.prog 156 #[.slice A l.length c,.func (.func 133) #[] #[]] w fun e w' =>
  e=.returned (.int .i64 (idx (fun e=>!gI e) l 0))∧Below w.heap.size w w':=by
 have hn:=hA.len
 have HL:=ae hA.gy
 have HM:=ae hM
 obtain⟨n,en⟩:∃ n,n=l.length:=⟨_,rfl⟩
 have Hl:=ae en
 rw[←en] at hn ⊢
 clear hA hM en
 go_enter Tryz.func156,Tryz.ntmps156
 go_wp2_with fail
 go_loopw [8] (fun i wr=>∃ k:Nat,k≤n∧i=.int .i64 k∧Below w.heap.size w wr∧Hid (idx (fun e=>!gI e) l 0=idx (fun e=>!gI e) (l.drop k) k)) (fun i _=>n-(intOf i).toNat)
 case atStart=>exact⟨0,aX _,rfl,aG _ _,rfl⟩
 case round =>
  obtain⟨k,hk,rfl,hbl,hz⟩:=hrel
  by_cases hlt:k<n
  ·obtain⟨x,hx⟩:∃ x,l[k]?=some x:=⟨_,aO (by rw[←Hl.o];exact hlt)⟩
   have hst:=ae (hz.o.trans (nz (p:=fun e=>!gI e) hx))
   obtain⟨b,o,A',c',rfl,hb,c1,c2,c3,c4,hK⟩:=HL.o wr hbl k x hx
   have Dv:=HM.o x (aN hx)
   clear hx hz
   obtain⟨xk,xs,xn,xl⟩:=x
   simp only[E.k,E.s,E.n,E.kids] at c1 c2 c3 c4 hK
   have hs:=hbl.size
   have hcl:=ae (IG xk xs xn xl Dv A' c' wr hK)
   clear Dv hK
   by_cases he:gI (.mk xk xs xn xl)=true
   ·rw[he] at hcl
    have hst':Hid (idx (fun e=>!gI e) l 0=idx (fun e=>!gI e) (l.drop (k+1)) (k+1)):=by
     have:=hst.o
     rwa [if_neg (by simp[he])] at this
    clear he hst
    generalize xl.length=xm at *
    go_wp2_with fail
    refine (hcl.o).mono ?_
    rintro e w' ⟨rfl,hb2⟩
    have hb3:=hbl.trans (hb2.mono hs)
    clear hb2
    go_wp2_with fail
    go_roundw
    case rel=>exact⟨k+1,by omega,by go_num,hb3,hst'⟩
    case measure=>simp[intOf];omega
   ·have he':gI (.mk xk xs xn xl)=false:=by simpa using he
    rw[he'] at hcl
    have hst':Hid (idx (fun e=>!gI e) l 0=(k:Int)):=by
     have:=hst.o
     rwa [if_pos (by simp[he'])] at this
    clear he he' hst
    generalize xl.length=xm at *
    go_wp2_with fail
    refine (hcl.o).mono ?_
    rintro e w' ⟨rfl,hb2⟩
    have hb3:=hbl.trans (hb2.mono hs)
    clear hb2
    go_wp2_with fail
    go_ret
    exact⟨by rw[hst'.o];rfl,hb3⟩
  ·go_wp2_with fail
   go_ret
   have e:k=n:=by omega
   subst e
   exact⟨by rw[hz.o,bW (by rw[←Hl.o];omega)];rfl,hbl⟩
theorem yC {α:Type} (p:α→Bool)(l:List α):∀ k,decide (0≤idx p l k)=l.any p:=by
 induction l with
 | nil=>intro k;rfl
 | cons x l ih =>
   intro k
   unfold idx
   by_cases h:p x=true
   ·rw[if_pos h];simp[h]
   ·rw[if_neg h,ih];simp[h]
theorem Dw {α:Type} (p:α→Bool)(l:List α):(!(l.all p))=l.any fun v=>!p v:=by
 induction l with
 | nil=>rfl
 | cons x l ih=>rw[List.all_cons,List.any_cons,Bool.not_and,ih]
theorem yE (A:Option Addr)(c:Nat)(l:List E)(hM:∀ e∈l,sQ e)(w:World)(hA:iZ w w.heap.size A l) :
 Calls Tryz.prog 132 #[.slice A l.length c,.func (.func 133) #[] #[]] w fun e w' =>
  e=.returned (.bool (!(lU l)))∧Below w.heap.size w w':=by
 have hc:=ae (Du A c l hM w hA)
 have e0:(!(lU l))=decide (0≤idx (fun v=>!gI v) l 0):=by
  rw[yC,Ah];exact Dw gI l
 rw[e0]
 clear hA e0 hM
 generalize idx (fun v=>!gI v) l 0=r at *
 generalize l.length=m at *
 go_enter Tryz.func132,Tryz.ntmps132
 go_wp2_with fail
 refine (hc.o).mono ?_
 rintro e w' ⟨rfl,hb⟩
 have HB:=ae hb
 clear hb
 go_wp2_with fail
 go_ret
 exact⟨rfl,HB.o⟩
theorem rM (m:Nat):((m:Int)==0)=(m==0):=by
 cases m with
 | zero=>rfl
 | succ m=>have:((m+1:Nat):Int)≠0:=by omega
           simp
           omega
theorem QQ (k:Int)(s:ByteArray)(n:Int)(l:List E)(hM:∀ e∈l,sQ e):sQ (.mk k s n l):=by
 intro A c w hA
 simp only[E.val,E.k,E.s,E.n,E.kids] at hA ⊢
 have hb0:Below w.heap.size w (w.alloc (.cells #[.int .i64 k,.string s,.int .i64 n,.slice A l.length c] 38)):=(aG _ _).alloc (aF _) _
 have HB0:=ae hb0
 have hc:=ae (yE A c l hM _ ((hA.low hb0).more hb0.size))
 have hN:=ae (name_any s)
 have hC:=ae (count_any s)
 have hlen:=hA.len
 have hz:Hid (gI (.mk k s n l)=if k=1 then nameB s&&(n==0&&l.length==0) else if k=2 then s.toList.isEmpty&&l.length==0
  else if k=3 then n==0&&l.length==0 else if k=4 then decide (0<gX s.toList)&&(gX s.toList==l.length&&(n==0&&lU l)) else false):=ae (by rw[gI])
 generalize gI (.mk k s n l)=q at *
 generalize nameB s=qn at *
 generalize gX s.toList=cn at *
 generalize lU l=ql at *
 generalize l.length=m at *
 clear hM hA hb0
 by_cases h1:k=1
 ·subst h1
  have hz1:Hid (q=(qn&&(n==0&&m==0))):=ae (by rw[hz.o,if_pos rfl])
  clear hz hc hC
  cases qn
  ·obtain rfl:q=false:=by rw[hz1.o];rfl
   go_enter Tryz.func90,Tryz.ntmps90
   go_wp2_with fail
   refine (hN.o _).mono ?_
   rintro e w' ⟨rfl,rfl⟩
   go_wp2_with fail
   go_ret
   exact⟨rfl,HB0.o⟩
  ·by_cases hn:n=0
   ·subst hn
    have hz2:Hid (q=((m:Int)==0)):=ae (by rw[hz1.o,rM];simp)
    clear hz1
    go_enter Tryz.func90,Tryz.ntmps90
    go_wp2_with fail
    refine (hN.o _).mono ?_
    rintro e w' ⟨rfl,rfl⟩
    go_wp2_with fail
    go_ret
    exact⟨by rw[hz2.o];rfl,HB0.o⟩
   ·have hn':(n==0)=false:=by simpa using hn
    obtain rfl:q=false:=by rw[hz1.o,hn'];rfl
    clear hz1 hn
    go_enter Tryz.func90,Tryz.ntmps90
    go_wp2_with fail
    refine (hN.o _).mono ?_
    rintro e w' ⟨rfl,rfl⟩
    go_wp2_with fail
    go_ret
    exact⟨rfl,HB0.o⟩
 have h1':(k==1)=false:=by simpa using h1
 by_cases h2:k=2
 ·subst h2
  have hz1:Hid (q=(s.toList.isEmpty&&m==0)):=ae (by rw[hz.o,if_neg (by decide),if_pos rfl])
  clear hz hc hC hN h1 h1'
  by_cases he:s.toList=[]
  ·have hz2:Hid (q=((m:Int)==0)):=ae (by rw[hz1.o,he,rM];simp)
   clear hz1
   go_enter Tryz.func90,Tryz.ntmps90
   go_wp2_with fail
   go_ret
   exact⟨by rw[hz2.o];rfl,HB0.o⟩
  ·have he':(s.toList==[])=false:=by simpa using he
   obtain rfl:q=false:=by rw[hz1.o];cases h:s.toList with
    | nil=>exact absurd h he
    | cons a l=>rfl
   clear hz1 he
   go_enter Tryz.func90,Tryz.ntmps90
   go_wp2_with fail
   go_ret
   exact⟨rfl,HB0.o⟩
 have h2':(k==2)=false:=by simpa using h2
 by_cases h3:k=3
 ·subst h3
  have hz1:Hid (q=(n==0&&m==0)):=ae (by rw[hz.o,if_neg (by decide),if_neg (by decide),if_pos rfl])
  clear hz hc hC hN h1 h1' h2 h2'
  by_cases hn:n=0
  ·subst hn
   have hz2:Hid (q=((m:Int)==0)):=ae (by rw[hz1.o,rM];simp)
   clear hz1
   go_enter Tryz.func90,Tryz.ntmps90
   go_wp2_with fail
   go_ret
   exact⟨by rw[hz2.o];rfl,HB0.o⟩
  ·have hn':(n==0)=false:=by simpa using hn
   obtain rfl:q=false:=by rw[hz1.o,hn'];rfl
   clear hz1 hn
   go_enter Tryz.func90,Tryz.ntmps90
   go_wp2_with fail
   go_ret
   exact⟨rfl,HB0.o⟩
 have h3':(k==3)=false:=by simpa using h3
 by_cases h4:k=4
 ·subst h4
  have hz1:Hid (q=(decide (0<cn)&&(cn==m&&(n==0&&ql)))):=ae (by rw[hz.o,if_neg (by decide),if_neg (by decide),if_neg (by decide),if_pos rfl])
  clear hz hN h1 h1' h2 h2' h3 h3'
  by_cases hc0:cn=0
  ·subst hc0
   obtain rfl:q=false:=by rw[hz1.o];rfl
   go_enter Tryz.func90,Tryz.ntmps90
   go_wp2_with fail
   refine (hC.o _).mono ?_
   rintro e w' ⟨rfl,rfl⟩
   go_wp2_with fail
   go_ret
   exact⟨rfl,HB0.o⟩
  have hcp:0<cn:=by omega
  have amU:decide ((0:Int)<(cn:Int))=true:=by rw[decide_eq_true_eq];omega
  by_cases hm:cn=m
  ·subst hm
   by_cases hn:n=0
   ·subst hn
    have hz2:Hid (q=ql):=ae (by rw[hz1.o];simp[hcp])
    clear hz1
    go_enter Tryz.func90,Tryz.ntmps90
    go_wp2_with fail
    refine (hC.o _).mono ?_
    rintro e w' ⟨rfl,rfl⟩
    go_wp2_with fail
    refine (hc.o).mono ?_
    rintro e w' ⟨rfl,hb⟩
    have HB:=ae (HB0.o.trans (hb.mono (by simp)))
    clear hb
    go_wp2_with fail
    go_ret
    exact⟨by rw[hz2.o];rfl,HB.o⟩
   ·have hn':(n==0)=false:=by simpa using hn
    obtain rfl:q=false:=by rw[hz1.o,hn'];simp
    clear hz1 hn
    go_enter Tryz.func90,Tryz.ntmps90
    go_wp2_with fail
    refine (hC.o _).mono ?_
    rintro e w' ⟨rfl,rfl⟩
    go_wp2_with fail
    go_ret
    exact⟨rfl,HB0.o⟩
  ·have hm':((cn:Int)==(m:Int))=false:=by simp;omega
   have hm2:(cn==m)=false:=by simpa using hm
   obtain rfl:q=false:=by rw[hz1.o,hm2];simp
   clear hz1
   go_enter Tryz.func90,Tryz.ntmps90
   go_wp2_with fail
   refine (hC.o _).mono ?_
   rintro e w' ⟨rfl,rfl⟩
   go_wp2_with fail
   go_ret
   exact⟨rfl,HB0.o⟩
 ·have h4':(k==4)=false:=by simpa using h4
  obtain rfl:q=false:=by rw[hz.o,if_neg h1,if_neg h2,if_neg h3,if_neg h4]
  clear hz hN hc hC
  go_enter Tryz.func90,Tryz.ntmps90
  go_wp2_with fail
  go_ret
  exact⟨rfl,HB0.o⟩
theorem JV:∀ e,sQ e:=E.ind QQ
def FX (w:World)(B:Nat)(A:Option Addr)(l:List Int):Prop:=l=[]∨∃ b off,A=some ⟨b,off,none⟩∧b<B∧∀ i z,l[i]?=some z→w.cell? ⟨b,off+i,none⟩=some (.int .i64 z)
def ints (l:List Int):List Value:=l.map fun z=>.int .i64 z
theorem FX.below {w w':World} {B:Nat} {A:Option Addr} {l:List Int} (h:FX w B A l)(hb:Below B w w'):FX w' B A l:=by
 rcases h with h|⟨b,o,hA,hB,h⟩
 ·exact .inl h
 ·exact .inr ⟨b,o,hA,hB,fun i z hz=>(hb.cell hB).trans (h i z hz)⟩
theorem FX.more {w:World} {B B':Nat} {A:Option Addr} {l:List Int} (h:FX w B A l)(hB:B≤B'):FX w B' A l:=by
 rcases h with h|⟨b,o,hA,hb,h⟩
 ·exact .inl h
 ·exact .inr ⟨b,o,hA,by omega,h⟩
theorem own_below {w w':World} {B n:Nat} {e:TypeId} {z:Nat} {v:Value} {xs:List Value} (h:w.ownsRow B e z v n xs)(hb:Below w.heap.size w w'):w'.ownsRow B e z v n xs:=by
 refine⟨h.1,?_⟩
 rcases h.2 with hn|⟨g,cap,cur,rfl,hg,hgg,rest⟩
 ·exact .inl hn
 ·exact .inr ⟨g,cap,cur,rfl,hg,by rw[hb.block g (aU.1 hgg).1];exact hgg,rest⟩
theorem Ug {w:World} {base:Nat} {e:TypeId} {v:Value} {l:List Int} (h:w.ownsRow base e 1 v l.length (ints l)):∃ A c,v=.slice A l.length c∧l.length≤c∧FX w w.heap.size A l:=by
 obtain⟨_,hcase⟩:=id h
 rcases hcase with⟨rfl,h0⟩|⟨g,cap,cur,rfl,hg,hh,hn,hcap,hsz,htake⟩
 ·exact⟨none,0,by rw[h0],by omega,.inl (bF h0)⟩
 ·refine⟨some ⟨g,0,none⟩,cap,rfl,hn,.inr ⟨g,0,rfl,?_,?_⟩⟩
  ·rcases Nat.lt_or_ge g w.heap.size with hlt|hge
   ·exact hlt
   ·rw[Array.getElem?_eq_none hge] at hh;cases hh
  ·intro i z hz
   have hi:i<l.length:=(aV.1 hz).1
   rw[Nat.zero_add,h.cellAt _ (by omega),ints,bP,hz]
   rfl
theorem JW (z k:Int)(b o:Nat)(w:World)(h0:w.cell? ⟨b,o,none⟩=some (.int .i64 k)) :
 Calls Tryz.prog 172 #[.int .i64 z,.pointer (some ⟨b,o,none⟩)] w fun e w'=>e=.returned (.bool (z != k))∧w=w':=by
 have hp:=block_lt_of_cell h0
 go_enter Tryz.func172,Tryz.ntmps172
 go_wp2
 go_ret
 exact⟨rfl,rfl⟩
theorem Dx (A:Option Addr)(c:Nat)(l:List Int)(hn:l.length≤9223372036854775807)(k0:Int)(pb po:Nat)(w:World)(hA:FX w w.heap.size A l)(h0:w.cell? ⟨pb,po,none⟩=some (.int .i64 k0)) :
 Calls Tryz.prog 181 #[.slice A l.length c,.func (.func 172) #[] #[.pointer (some ⟨pb,po,none⟩)]] w fun e w' =>
  e=.returned (.int .i64 (idx (fun z=>z != k0) l 0))∧w=w':=by
 have HL:=ae hA
 obtain⟨n,en⟩:∃ n,n=l.length:=⟨_,rfl⟩
 have Hl:=ae en
 have hcl:=ae (fun z=>JW z k0 pb po w h0)
 rw[←en] at hn ⊢
 clear hA en h0
 go_enter Tryz.func181,Tryz.ntmps181
 go_wp2_with fail
 go_loop [8] (fun i=>∃ k:Nat,k≤n∧i=.int .i64 k∧Hid (idx (fun z=>z != k0) l 0=idx (fun z=>z != k0) (l.drop k) k)) (fun i=>n-(intOf i).toNat)
 case atStart=>exact⟨0,aX _,rfl,rfl⟩
 case round =>
  obtain⟨k,hk,rfl,hz⟩:=hrel
  by_cases hlt:k<n
  ·obtain⟨x,hx⟩:∃ x,l[k]?=some x:=⟨_,aO (by rw[←Hl.o];exact hlt)⟩
   have hst:=ae (hz.o.trans (nz (p:=fun z=>z != k0) hx))
   rcases HL.o with hnil|⟨b,o,rfl,hb,hc⟩
   ·rw[hnil] at hx;simp at hx
   have c1:=hc k x hx
   clear hx hz hc
   by_cases he:(x != k0)=true
   ·have hst':Hid (idx (fun z=>z != k0) l 0=(k:Int)):=by
     have:=hst.o
     rwa [if_pos he] at this
    clear hst
    go_wp2_with fail
    refine (hcl.o x).mono ?_
    rintro e w' ⟨rfl,rfl⟩
    rw[he]
    go_wp2_with fail
    go_ret
    exact⟨by rw[hst'.o];rfl,rfl⟩
   ·have he':(x != k0)=false:=by simpa using he
    have hst':Hid (idx (fun z=>z != k0) l 0=idx (fun z=>z != k0) (l.drop (k+1)) (k+1)):=by
     have:=hst.o
     rwa [if_neg he] at this
    clear he hst
    go_wp2_with fail
    refine (hcl.o x).mono ?_
    rintro e w' ⟨rfl,rfl⟩
    rw[he']
    go_wp2_with fail
    go_round
    case rel=>exact⟨k+1,by omega,by go_num,hst'⟩
    case measure=>simp[intOf];omega
  ·go_wp2_with fail
   go_ret
   have e:k=n:=by omega
   subst e
   exact⟨by rw[hz.o,bW (by rw[←Hl.o];omega)];rfl,rfl⟩
theorem Xo (A:Option Addr)(c:Nat)(l:List Int)(hn:l.length≤9223372036854775807)(k:Int)(w:World)(hA:FX w w.heap.size A l) :
 Calls Tryz.prog 157 #[.slice A l.length c,.int .i64 k] w fun e w'=>e=.returned (.bool (l.all (·==k)))∧Below w.heap.size w w':=by
 have hb0:Below w.heap.size w (w.alloc (.cells #[.int .i64 k] 3)):=(aG _ _).alloc (aF _) _
 have hc:=ae (Dx A c l hn k w.heap.size 0 (w.alloc (.cells #[.int .i64 k] 3)) ((hA.below hb0).more hb0.size) (by simp))
 have e0:l.all (·==k)=!decide (0≤idx (fun z=>z != k) l 0):=by
  rw[yC,←Bool.not_not (l.all (·==k)),Dw];rfl
 rw[e0]
 clear hA e0 hn
 generalize idx (fun z=>z != k) l 0=r at *
 generalize l.length=m at *
 have hmf:∀ (fn:Fn)(first cap:Array Value)(w:World),(Instr.makeFunc fn first cap).run Tryz.prog w=.ok (.func fn first cap) w:=fun _ _ _ _=>rfl
 have hcf:Hid (Calls Tryz.prog 171 #[.slice A m c,.func (.func 172) #[] #[.pointer (some ⟨w.heap.size,0,none⟩)]] (w.alloc (.cells #[.int .i64 k] 3)) fun e w'=>e=.returned (.bool (decide (0≤r)))∧(w.alloc (.cells #[.int .i64 k] 3))=w'):=by
  refine ae ?_
  generalize (w.alloc (.cells #[.int .i64 k] 3))=w1 at *
  go_enter Tryz.func171,Tryz.ntmps171
  go_wp2_with fail
  refine (hc.o).mono ?_
  rintro e w' ⟨rfl,rfl⟩
  go_wp2_with fail
  go_ret
  exact⟨rfl,rfl⟩
 clear hc
 go_enter Tryz.func157,Tryz.ntmps157
 go_wp2_with fail
 refine (hcf.o).mono ?_
 rintro e w' ⟨rfl,rfl⟩
 go_wp2_with fail
 go_ret
 exact⟨rfl,hb0⟩
theorem ND (A:Option Addr)(c:Nat)(l:List Int)(s:ByteArray)(hl:l.length=gX s.toList)(hlc:l.length≤c)(h0:0<l.length)(w:World)(hA:FX w w.heap.size A l) :
 Calls Tryz.prog 134 #[.string s,.slice A l.length c] w fun e w'=>e=.returned (.int .i64 (iU s.toList l))∧Below w.heap.size w w':=by
 have hl3:l.length≤3:=by rw[hl];unfold gX;repeat (first|split|omega)
 have hal:=ae (fun k=>Xo A c l (by omega) k w hA)
 rcases hA with hnil|⟨b,o,rfl,hb,hc⟩
 ·rw[hnil] at h0;simp at h0
 by_cases he:s.toList=Ae∨s.toList=Af
 ·have h2:l.length=2:=by rw[hl];rcases he with he|he <;> rw[he] <;> rfl
  obtain⟨a,b1,rfl⟩:∃ a b1,l=[a,b1]:=by
   match l,h2 with
   | [a,b1],_=>exact⟨a,b1,rfl⟩
  have c0:=hc 0 a rfl
  have c1:=hc 1 b1 rfl
  rw[Nat.add_zero] at c0
  have hr:iU s.toList [a,b1]=if (a==b1)=true then 1 else 0:=by
   unfold iU
   rw[if_pos he]
   simp
  rw[hr]
  clear hr hc hl hal
  simp only[bf,List.length_nil,Nat.zero_add,Nat.reduceAdd] at hlc ⊢
  have hx1:(1:Int)<2:=by omega
  rcases he with he|he
  all_goals
   simp only[Ae,Af] at he
   cases hq:(a==b1)
   all_goals
    go_enter Tryz.func134,Tryz.ntmps134
    go_wp2_with fail
    go_quiet (fail)
    go_wp2_with fail
    go_ret
    exact⟨rfl,below_drewN (aG _ _) _⟩
 have he1:s.toList≠Ae:=fun h=>he (.inl h)
 have he2:s.toList≠Af:=fun h=>he (.inr h)
 have e1:(s.toList==[101,113])=false:=by simpa [Ae] using he1
 have e2:(s.toList==[108,116])=false:=by simpa [Af] using he2
 by_cases h3:s.toList=uq
 ·have hr:iU s.toList l=if l.all (·==2)=true then 2 else 0:=by
   unfold iU
   rw[if_neg he,if_pos h3]
  rw[hr]
  have ha:=ae (hal.o 2)
  clear hr he he1 he2 hal hc e1 e2 hl
  generalize l.all (·==2)=q at *
  generalize l.length=n at *
  simp only[uq] at h3
  cases q
  all_goals
   go_enter Tryz.func134,Tryz.ntmps134
   go_wp2_with fail
   refine (ha.o).mono ?_
   rintro e w' ⟨rfl,hb2⟩
   have HB:=ae hb2
   clear hb2
   go_wp2_with fail
   go_ret
   exact⟨rfl,HB.o⟩
 have e3:(s.toList==[99,97,116])=false:=by simpa [uq] using h3
 by_cases h4:s.toList=uu
 ·have hr:iU s.toList l=if l.all (·==2)=true then 1 else 0:=by
   unfold iU
   rw[if_neg he,if_neg h3,if_pos h4]
  rw[hr]
  have ha:=ae (hal.o 2)
  clear hr he he1 he2 hal hc e1 e2 h3 e3 hl
  generalize l.all (·==2)=q at *
  generalize l.length=n at *
  simp only[uu] at h4
  cases q
  all_goals
   go_enter Tryz.func134,Tryz.ntmps134
   go_wp2_with fail
   refine (ha.o).mono ?_
   rintro e w' ⟨rfl,hb2⟩
   have HB:=ae hb2
   clear hb2
   go_wp2_with fail
   go_ret
   exact⟨rfl,HB.o⟩
 have e4:(s.toList==[108,101,110])=false:=by simpa [uu] using h4
 by_cases h5:s.toList=Ci
 ·have h2:l.length=3:=by rw[hl,h5];rfl
  obtain⟨a,b1,d,rfl⟩:∃ a b1 d,l=[a,b1,d]:=by
   match l,h2 with
   | [a,b1,d],_=>exact⟨a,b1,d,rfl⟩
  have c0:=hc 0 a rfl
  have c1:=hc 1 b1 rfl
  have c2:=hc 2 d rfl
  rw[Nat.add_zero] at c0
  have hr:iU s.toList [a,b1,d]=if (a==1)=true then (if (b1==d)=true then b1 else 0) else 0:=by
   unfold iU
   rw[if_neg he,if_neg h3,if_neg h4,if_pos h5]
   simp only[List.getD_cons_zero,List.getD_cons_succ,beq_iff_eq]
   by_cases ha:a=1 <;> by_cases hb:b1=d <;> simp[ha,hb]
  rw[hr]
  clear hr hc hl hal he he1 he2 e1 e2 h3 e3 h4 e4
  simp only[bf,List.length_nil,Nat.zero_add,Nat.reduceAdd] at hlc ⊢
  have hx1:(1:Int)<3:=by omega
  have hx2:(2:Int)<3:=by omega
  simp only[Ci] at h5
  cases hq:(a==1)
  ·go_enter Tryz.func134,Tryz.ntmps134
   go_wp2_with fail
   go_quiet (fail)
   go_wp2_with fail
   go_ret
   exact⟨rfl,below_drewN (aG _ _) _⟩
  ·cases hq2:(b1==d)
   all_goals
    go_enter Tryz.func134,Tryz.ntmps134
    go_wp2_with fail
    go_quiet (fail)
    go_wp2_with fail
    go_ret
    exact⟨rfl,below_drewN (aG _ _) _⟩
 have e5:(s.toList==[105,102])=false:=by simpa [Ci] using h5
 have hr:iU s.toList l=if l.all (·==1)=true then 1 else 0:=by
  unfold iU
  rw[if_neg he,if_neg h3,if_neg h4,if_neg h5]
 rw[hr]
 have ha:=ae (hal.o 1)
 clear hr he he1 he2 hal hc h3 h4 h5 hl
 generalize l.all (·==1)=q at *
 generalize l.length=n at *
 cases q
 all_goals
  go_enter Tryz.func134,Tryz.ntmps134
  go_wp2_with fail
  refine (ha.o).mono ?_
  rintro e w' ⟨rfl,hb2⟩
  have HB:=ae hb2
  clear hb2
  go_wp2_with fail
  go_ret
  exact⟨rfl,HB.o⟩
theorem l9.gy {w:World} {A:Option Addr} {l:List C} (h:l9 w w.heap.size A l) {k:Nat} {v:C} (hv:l[k]?=some v):∃ b o,A=some ⟨b,o,none⟩∧b<w.heap.size ∧
 w.cell? ⟨b,o+k*2,none⟩=some (.string v.nm)∧w.cell? ⟨b,o+k*2+1,none⟩=some (.int .i64 v.k):=by
 rcases h with rfl|⟨b,o,rfl,hlt,hA⟩
 ·simp at hv
 ·obtain⟨h1,h2⟩:=hA k v hv
  exact⟨b,o,rfl,hlt,h1,h2⟩
theorem Uh {α:Type} (p:α→Bool)(l:List α):∀ k:Nat,0≤idx p l k→∃ j x,idx p l k=((k+j:Nat):Int)∧l[j]?=some x:=by
 induction l with
 | nil=>intro k h;simp[idx] at h
 | cons x l ih =>
   intro k h
   unfold idx at h ⊢
   by_cases hp:p x=true
   ·rw[if_pos hp]
    exact⟨0,x,rfl,rfl⟩
   ·rw[if_neg hp] at h ⊢
    obtain⟨j,y,e,hy⟩:=ih (k+1) h
    exact⟨j+1,y,by rw[e];congr 1;omega,by simpa using hy⟩
theorem Xp {l:List C} {nm:ByteArray} (h:fO l nm=true):∃ (j:Nat)(x:C),gU l nm=(j:Int)∧l[j]?=some x:=by
 unfold fO at h
 rw[decide_eq_true_eq] at h
 obtain⟨j,x,e,hx⟩:=Uh _ _ 0 h
 refine⟨j,x,?_,hx⟩
 unfold gU
 rw[if_pos h,e,Nat.zero_add]
theorem NF (cols:List C) {l:List E} {k:Nat} {x:E} (hx:l[k]?=some x) :
 jV cols (l.drop k)=if (jC cols x).2=0 then ((jC cols x).1::(jV cols (l.drop (k+1))).1,(jV cols (l.drop (k+1))).2) else ([],(jC cols x).2):=by
 obtain⟨h1,e1⟩:=aV.1 hx
 rw[bY h1,e1,jV]
theorem QR {s:ByteArray} {k n:Int} {l:List E} (hk1:k≠1)(hk2:k≠2)(hk3:k≠3)(h:gI (.mk k s n l)=true):0<l.length∧l.length=gX s.toList∧∀ e∈l,gI e=true:=by
 rw[gI,if_neg hk1,if_neg hk2,if_neg hk3] at h
 split at h
 ·simp only[Bool.and_eq_true,decide_eq_true_eq,beq_iff_eq,Ah,List.all_eq_true] at h
  obtain⟨h1,h2,h3,h4⟩:=h
  exact⟨by omega,h2.symm,h4⟩
 ·cases h
theorem cnt_le (s:List UInt8):gX s≤3:=by unfold gX;repeat (first|split|omega)
def Dy (cols:List C)(e:E):Prop:=gI e=true→∀ (A Ac:Option Addr)(c cc:Nat)(w:World),iZ w w.heap.size A e.kids→l9 w w.heap.size Ac cols →
 Calls Tryz.prog 91 #[e.val A c,.slice Ac cols.length cc] w fun r w'=>r=.returned (.tuple #[.int .i64 (jC cols e).1,.int .i64 (jC cols e).2])∧Below w.heap.size w w'
theorem Ui:(Tryz.prog.info? 3).map (fun i=>(i.zero,i.size,i.bytes))=some (some (.int .i64 0),1,8):=by kernel_rfl
theorem NG (cols:List C)(hcl:cols.length≤9223372036854775807)(k:Int)(s:ByteArray)(n:Int)(l:List E)(hM:∀ e∈l,Dy cols e):Dy cols (.mk k s n l):=by
 intro jY A Ac c cc w hA hAc
 simp only[E.val,E.k,E.s,E.n,E.kids] at hA ⊢
 have hb0:Below w.heap.size w (w.alloc (.cells #[.int .i64 k,.string s,.int .i64 n,.slice A l.length c] 38)):=(aG _ _).alloc (aF _) _
 have HB0:=ae hb0
 by_cases h1:k=1
 ·subst h1
  have hz:Hid (jC cols (.mk 1 s n l)=(if fO cols s then ((cols.getD (gU cols s).toNat ⟨⟨#[]⟩,0⟩).k,0) else (0,20))):=ae (by rw[jC,if_pos rfl])
  have hf:=ae (oG Ac cc cols hcl s _ ((hAc.below hb0).more hb0.size))
  cases hfb:fO cols s
  ·rw[hfb] at hz hf
   have hz2:Hid (jC cols (.mk 1 s n l)=(0,20)):=ae (by rw[hz.o];rfl)
   generalize jC cols (.mk 1 s n l)=q at *
   generalize gU cols s=fn at *
   generalize cols.length=m at *
   clear hz hA hAc hM jY hb0
   generalize l.length=ln at *
   go_enter Tryz.func91,Tryz.ntmps91
   go_wp2_with fail
   refine (hf.o).mono ?_
   rintro e w' ⟨rfl,hb⟩
   have HB:=ae (HB0.o.trans (hb.mono (by simp)))
   clear hb
   go_wp2_with fail
   go_ret2
   exact⟨by rw[hz2.o];rfl,HB.o⟩
  ·obtain⟨j,x,ej,hx⟩:=Xp hfb
   have hz2:Hid (jC cols (.mk 1 s n l)=(x.k,0)):=ae (by rw[hz.o,if_pos hfb,ej,Int.toNat_natCast,List.getD_eq_getElem?_getD,hx];rfl)
   obtain⟨b,o,rfl,hlt,c1,c2⟩:=hAc.gy hx
   have hj:j<cols.length:=(aV.1 hx).1
   rw[hfb,ej] at hf
   generalize jC cols (.mk 1 s n l)=q at *
   generalize cols.length=m at *
   clear hz hA hAc hM jY hx hfb ej c1
   obtain⟨xn,xk⟩:=x
   simp only at c2
   generalize l.length=ln at *
   go_enter Tryz.func91,Tryz.ntmps91
   go_wp2_with fail
   refine (hf.o).mono ?_
   rintro e w' ⟨rfl,hb⟩
   have c3:=((hb0.trans (hb.mono (by simp))).cell hlt).trans c2
   have HB:=ae (hb0.trans (hb.mono (by simp)))
   clear hb hb0
   go_wp2_with fail
   go_ret2
   exact⟨by rw[hz2.o];rfl,HB.o⟩
 have h1':(k==1)=false:=by simpa using h1
 by_cases h2:k=2
 ·subst h2
  have hz2:Hid (jC cols (.mk 2 s n l)=(1,0)):=ae (by rw[jC,if_neg (by decide),if_pos rfl])
  generalize jC cols (.mk 2 s n l)=q at *
  clear hA hAc hM jY hb0 h1 h1'
  generalize l.length=ln at *
  go_enter Tryz.func91,Tryz.ntmps91
  go_wp2_with fail
  go_ret2
  exact⟨by rw[hz2.o];rfl,HB0.o⟩
 have h2':(k==2)=false:=by simpa using h2
 by_cases h3:k=3
 ·subst h3
  have hz2:Hid (jC cols (.mk 3 s n l)=(2,0)):=ae (by rw[jC,if_neg (by decide),if_neg (by decide),if_pos rfl])
  generalize jC cols (.mk 3 s n l)=q at *
  clear hA hAc hM jY hb0 h1 h1' h2 h2'
  generalize l.length=ln at *
  go_enter Tryz.func91,Tryz.ntmps91
  go_wp2_with fail
  go_ret2
  exact⟨by rw[hz2.o];rfl,HB0.o⟩
 have h3':(k==3)=false:=by simpa using h3
 obtain⟨hl0,hlc,hmk⟩:=QR h1 h2 h3 jY
 have hl3:l.length≤3:=by rw[hlc];exact cnt_le _
 have hz:Hid (jC cols (.mk k s n l)=if (jV cols l).2=0 then (if 0<iU s.toList (jV cols l).1 then (iU s.toList (jV cols l).1,0) else (0,22)) else (0,(jV cols l).2)):=ae (by rw[jC,if_neg h1,if_neg h2,if_neg h3])
 obtain⟨i0,hi,hz0,hz1,hz2⟩:=info_parts Ui
 have HL:=ae ((hA.low hb0).more hb0.size)
 have HC:=ae ((hAc.below hb0).more hb0.size)
 have HM:=ae hM
 have HMK:=ae hmk
 have HLC:=ae hlc
 obtain⟨m,em⟩:∃ m,m=cols.length:=⟨_,rfl⟩
 obtain⟨ln,rH⟩:∃ ln,ln=l.length:=⟨_,rfl⟩
 have Hm:=ae em
 have Hln:=ae rH
 generalize jC cols (.mk k s n l)=q at *
 rw[←em]
 rw[←rH] at hl0 hl3 hb0 HB0 HL HC ⊢
 obtain⟨w1,dZ⟩:∃ w1,w1=(w.alloc (.cells #[.int .i64 k,.string s,.int .i64 n,.slice A ln c] 38)):=⟨_,rfl⟩
 have HW1:=ae dZ
 have cs:w1.cell? ⟨w.heap.size,1,none⟩=some (.string s):=by rw[dZ];simp
 have hws:w1.heap.size=w.heap.size+1:=by rw[dZ];simp
 rw[←dZ] at HL HC HB0
 clear hA hAc hM jY hb0 h1 h2 h3 hmk hlc em rH dZ
 go_enter Tryz.func91,Tryz.ntmps91
 go_wp2_with fail
 go_loopw [8,39] (fun v i wr=>∃ (j:Nat)(ts:List Int),j≤ln∧ts.length=j∧i=.int .i64 j∧wr.ownsRow w1.heap.size 3 1 v j (ints ts)∧Below w1.heap.size w1 wr∧Hid (jV cols l=(ts++(jV cols (l.drop j)).1,(jV cols (l.drop j)).2))) (fun _ i _=>ln-(intOf i).toNat)
 case atStart=>exact⟨0,[],aX _,rfl,rfl,World.ownsRow_nil _ _ _ _,by rw[HW1.o];exact aG _ _,ae rfl⟩
 case round =>
  obtain⟨j,ts,hj,htl,rfl,hown,hb,hzl⟩:=hrel
  have HO:=ae hown
  have HB:=ae hb
  have hs:=hb.size
  have HTL:=ae htl
  clear hown htl
  by_cases hlt:j<ln
  ·obtain⟨x,hx⟩:∃ x,l[j]?=some x:=⟨_,aO (by rw[←Hln.o];exact hlt)⟩
   obtain⟨b,o,A',c',rfl,hbl,c1,c2,c3,c4,hK⟩:=HL.o.gy wr hb j x hx
   have Dv:=HM.o x (aN hx) (HMK.o x (aN hx))
   have hst:=ae (hzl.o.trans (by rw[NF cols hx]))
   clear hx hzl
   obtain⟨xk,xs,xn,xl⟩:=x
   simp only[E.k,E.s,E.n,E.kids] at c1 c2 c3 c4 hK
   have HMX:=ae Dv
   have HK:=ae hK
   clear Dv hK
   generalize hq:jC cols (.mk xk xs xn xl)=tq at *
   generalize hxm:xl.length=xm at *
   have hb1:Below w1.heap.size w1 (wr.alloc (.cells #[.int .i64 xk,.string xs,.int .i64 xn,.slice A' xm c'] 38)):=hb.alloc hs _
   have hcl:=ae (HMX.o A' Ac c' cc (wr.alloc (.cells #[.int .i64 xk,.string xs,.int .i64 xn,.slice A' xm c'] 38)) (by
    simp only[E.kids]
    have hb2:Below wr.heap.size wr (wr.alloc (.cells #[.int .i64 xk,.string xs,.int .i64 xn,.slice A' xm c'] 38)):=(aG _ _).alloc (aF _) _
    exact (HK.o.low hb2).more hb2.size) ((HC.o.below hb1).more hb1.size))
   simp only[E.val,E.k,E.s,E.n,E.kids,hq,hxm,←Hm.o] at hcl
   have HB1:=ae hb1
   clear hb1 HMX HK
   obtain⟨tk,tw⟩:=tq
   simp only at hst hcl
   go_wp2_with fail
   refine (hcl.o).mono ?_
   rintro e w2 ⟨rfl,hb3⟩
   have HB3:=ae (HB1.o.trans (hb3.mono (by simp;omega)))
   have Nj:=ae (own_below (HO.o.alloc (.cells #[.int .i64 xk,.string xs,.int .i64 xn,.slice A' xm c'] 38)) hb3)
   have hs3:=HB3.o.size
   clear hb3 HO hcl
   by_cases htw:tw=0
   ·subst htw
    have Xq:Hid (jV cols l=((ts++[tk])++(jV cols (l.drop (j+1))).1,(jV cols (l.drop (j+1))).2)):=ae (by rw[hst.o,if_pos rfl,List.append_assoc];rfl)
    clear hst
    go_wp2_with (at_builtin;refine wpList_append_own _ rfl _ _ 55 rfl w1.heap.size 3 i0 _ 1 8 Tryz.underlying55 hi hz0 hz1 hz2 rfl (by decide) _ _ _ rfl (Nj.o.alloc _) ⟨w2.heap.size,0,none⟩ 1 1 [.int .i64 tk] rfl rfl ?c1 ?c2 ?c3 ?c4 ?c5 ?_)
    case c1 =>
     intro i u hu
     match i,hu with
     | 0,hu=>simp at hu;subst hu;simp[Addr.add]
    case c2=>intro u hu;simp at hu;subst hu;rfl
    case c3=>unfold maxLen;omega
    case c4=>omega
    case c5=>simp;omega
    intro v' w3 hown' hgrow _
    have mP:Hid (w3.ownsRow w1.heap.size 3 1 v' (j+1) (ints (ts++[tk]))):=ae (by unfold ints at hown' ⊢;rw[List.map_append,hws];exact hown')
    have HB4:=ae ((HB3.o.alloc hs3 (.cells #[.int .i64 tk] 3)).grown hgrow (by simp;omega) (fun g hg=>(Nj.o.lt g hg).1))
    have agw:Hid ((ts++[tk]).length=j+1):=ae (by rw[aZ,HTL.o];rfl)
    clear hown' hgrow
    go_wp2_with fail
    go_roundw
    case rel=>exact⟨j+1,ts++[tk],by omega,agw.o,by go_num,mP.o,HB4.o,Xq⟩
    case measure=>simp[intOf];omega
   ·have ac8:(tw != 0)=true:=by simpa using htw
    have hq2:Hid (q=(0,tw)):=ae (by rw[hz.o,hst.o,if_neg htw,if_neg htw])
    clear hst hz
    go_wp2_with fail
    go_ret2
    exact⟨by rw[hq2.o];rfl,(HB0.o.trans (HB3.o.mono (by omega)))⟩
  ·obtain rfl:j=ln:=by omega
   have Xq:Hid (jV cols l=(ts,0)):=ae (by rw[hzl.o,bW (by rw[←Hln.o];exact aF _),jV,List.append_nil])
   obtain⟨A2,c2,rfl,hc2,hI⟩:=Ug (l:=ts) (by rw[HTL.o];exact HO.o)
   have hr:=ae (ND A2 c2 ts s (by rw[HTL.o];exact Hln.o.trans HLC.o) hc2 (by rw[HTL.o];exact hl0) wr hI)
   rw[HTL.o] at hr
   have cs2:wr.cell? ⟨w.heap.size,1,none⟩=some (.string s):=(hb.cell (show w.heap.size<w1.heap.size by omega)).trans cs
   have hq3:Hid (q=if 0<iU s.toList ts then (iU s.toList ts,0) else (0,22)):=ae (by rw[hz.o,Xq.o,if_pos rfl])
   rw[HTL.o]
   clear hz hzl Xq hI cs HO
   generalize iU s.toList ts=rs at *
   by_cases hrs:0<rs
   ·have hq2:Hid (q=(rs,0)):=ae (by rw[hq3.o,if_pos hrs])
    clear hq3
    go_wp2_with fail
    refine (hr.o).mono ?_
    rintro e w2 ⟨rfl,hb3⟩
    have HB3:=ae (HB.o.trans (hb3.mono hs))
    clear hb3 hr
    go_wp2_with fail
    go_ret2
    exact⟨by rw[hq2.o];rfl,(HB0.o.trans (HB3.o.mono (by omega)))⟩
   ·have hq2:Hid (q=(0,22)):=ae (by rw[hq3.o,if_neg hrs])
    clear hq3
    go_wp2_with fail
    refine (hr.o).mono ?_
    rintro e w2 ⟨rfl,hb3⟩
    have HB3:=ae (HB.o.trans (hb3.mono hs))
    clear hb3 hr
    go_wp2_with fail
    go_ret2
    exact⟨by rw[hq2.o];rfl,(HB0.o.trans (HB3.o.mono (by omega)))⟩
theorem QS (cols:List C)(hcl:cols.length≤9223372036854775807):∀ e,Dy cols e:=E.ind (NG cols hcl)
def jf (cols:List C)(e:E):Int×Int:=if gI e=true then jC cols e else (0,22)
theorem JX (cols:List C)(hcl:cols.length≤9223372036854775807)(e:E)(A Ac:Option Addr)(c cc:Nat)(w:World)(hA:iZ w w.heap.size A e.kids)(hAc:l9 w w.heap.size Ac cols) :
 Calls Tryz.prog 47 #[e.val A c,.slice Ac cols.length cc] w fun r w'=>r=.returned (.tuple #[.int .i64 (jf cols e).1,.int .i64 (jf cols e).2])∧Below w.heap.size w w':=by
 obtain⟨k,s,n,l⟩:=e
 simp only[E.val,E.k,E.s,E.n,E.kids] at hA ⊢
 have hb0:Below w.heap.size w (w.alloc (.cells #[.int .i64 k,.string s,.int .i64 n,.slice A l.length c] 38)):=(aG _ _).alloc (aF _) _
 have hm:=ae (JV (.mk k s n l) A c _ ((hA.low hb0).more hb0.size))
 simp only[E.val,E.k,E.s,E.n,E.kids] at hm
 have HB0:=ae hb0
 have hq:Hid (jf cols (.mk k s n l)=if gI (.mk k s n l)=true then jC cols (.mk k s n l) else (0,22)):=ae rfl
 generalize jf cols (.mk k s n l)=q at *
 cases hmd:gI (.mk k s n l)
 ·rw[hmd] at hq hm
  have hq2:Hid (q=(0,22)):=ae (by rw[hq.o,if_neg (by decide)])
  clear hq hA hAc
  generalize l.length=ln at *
  generalize cols.length=m at *
  go_enter Tryz.func47,Tryz.ntmps47
  go_wp2_with fail
  refine (hm.o).mono ?_
  rintro e w' ⟨rfl,hb⟩
  have HB:=ae (HB0.o.trans (hb.mono (by simp)))
  clear hb
  go_wp2_with fail
  go_ret2
  exact⟨by rw[hq2.o];rfl,HB.o⟩
 ·rw[hmd] at hq hm
  have hq2:Hid (q=jC cols (.mk k s n l)):=ae (by rw[hq.o,if_pos rfl])
  have hty:Hid (∀ w1,Below w.heap.size w w1→Calls Tryz.prog 91 #[.agg #[.int .i64 k,.string s,.int .i64 n,.slice A l.length c],.slice Ac cols.length cc] w1 fun r w'=>r=.returned (.tuple #[.int .i64 q.1,.int .i64 q.2])∧Below w1.heap.size w1 w'):=ae (fun w1 hb1=>by
   rw[hq2.o]
   exact QS cols hcl (.mk k s n l) hmd A Ac c cc w1 ((hA.low hb1).more hb1.size) ((hAc.below hb1).more hb1.size))
  clear hq hA hAc hmd
  generalize l.length=ln at *
  generalize cols.length=m at *
  go_enter Tryz.func47,Tryz.ntmps47
  go_wp2_with fail
  refine (hm.o).mono ?_
  rintro e w' ⟨rfl,hb⟩
  have hb2:=hb0.trans (hb.mono (by simp))
  have HB:=ae hb2
  have agx:=ae (hty.o w' hb2)
  have c0:w'.cell? ⟨w.heap.size,0,none⟩=some (.int .i64 k):=(hb.cell (by simp)).trans (by simp)
  have c1:w'.cell? ⟨w.heap.size,1,none⟩=some (.string s):=(hb.cell (by simp)).trans (by simp)
  have c2:w'.cell? ⟨w.heap.size,2,none⟩=some (.int .i64 n):=(hb.cell (by simp)).trans (by simp)
  have c3:w'.cell? ⟨w.heap.size,3,none⟩=some (.slice A ln c):=(hb.cell (by simp)).trans (by simp)
  have hs2:=hb.size
  clear hb hb2 hty hm hb0
  go_wp2_with fail
  refine (agx.o).mono ?_
  rintro e w3 ⟨rfl,hb⟩
  have HB3:=ae (HB.o.trans (hb.mono (by simp at hs2;omega)))
  clear hb
  go_wp2_with fail
  go_ret2
  exact⟨rfl,HB3.o⟩
inductive T where
 | mk (k:Int)(s:ByteArray)(n:Int)(kids:List T)(at_:Int)
def T.k:T→Int|.mk k _ _ _ _=>k
def T.s:T→ByteArray|.mk _ s _ _ _=>s
def T.n:T→Int|.mk _ _ n _ _=>n
def T.kids:T→List T|.mk _ _ _ l _=>l
def T.at_:T→Int|.mk _ _ _ _ a=>a
theorem T.ind {P:T→Prop} (h:∀ k s n l a,(∀ e∈l,P e)→P (.mk k s n l a)):∀ e,P e:=by
 intro e
 exact T.rec (motive_1:=P) (motive_2:=fun l=>∀ e∈l,P e) (fun k s n l a ih=>h k s n l a ih) (fun e he=>by cases he) (fun e l h1 h2 x hx=>by
  rcases bZ.1 hx with rfl|hx
  ·exact h1
  ·exact h2 x hx) e
inductive fA (w:World)(B:Nat):Option Addr→List T→Prop
 | nil (A:Option Addr):fA w B A []
 | mk (b off:Nat)(l:List T)(hn:l.length≤9223372036854775807)(hb:b<B)(A:Nat→Option Addr)(c:Nat→Nat)
    (h:∀ i e,l[i]?=some e→w.cell? ⟨b,off+i*5,none⟩=some (.int .i64 e.k)∧w.cell? ⟨b,off+i*5+1,none⟩=some (.string e.s) ∧
      w.cell? ⟨b,off+i*5+2,none⟩=some (.int .i64 e.n)∧w.cell? ⟨b,off+i*5+3,none⟩=some (.slice (A i) e.kids.length (c i))∧w.cell? ⟨b,off+i*5+4,none⟩=some (.int .i64 e.at_)∧e.kids.length≤c i)
    (hk:∀ i e,l[i]?=some e→fA w B (A i) e.kids):fA w B (some ⟨b,off,none⟩) l
theorem fA.low {w w':World} {B:Nat} {A:Option Addr} {l:List T} (h:fA w B A l)(hb:Below B w w'):fA w' B A l:=by
 induction h with
 | nil A=>exact .nil A
 | mk b off l hn hlt A c h hk ih =>
   refine .mk b off l hn hlt A c (fun i e he=>?_) (fun i e he=>ih i e he)
   obtain⟨h1,h2,h3,h4,h5,h6⟩:=h i e he
   exact⟨(hb.cell hlt).trans h1,(hb.cell hlt).trans h2,(hb.cell hlt).trans h3,(hb.cell hlt).trans h4,(hb.cell hlt).trans h5,h6⟩
theorem fA.more {w:World} {B B':Nat} {A:Option Addr} {l:List T} (h:fA w B A l)(hB:B≤B'):fA w B' A l:=by
 induction h with
 | nil A=>exact .nil A
 | mk b off l hn hlt A c h hk ih=>exact .mk b off l hn (by omega) A c h (fun i e he=>ih i e he)
theorem fA.len {w:World} {B:Nat} {A:Option Addr} {l:List T} (h:fA w B A l):l.length≤9223372036854775807:=by
 cases h with
 | nil A=>simp
 | mk b off l hn hlt A c h hk=>exact hn
theorem fA.gy {w:World} {A:Option Addr} {l:List T} (h:fA w w.heap.size A l):∀ w1,Below w.heap.size w w1→∀ i e,l[i]?=some e →
 ∃ b o A' c',A=some ⟨b,o,none⟩∧b<w.heap.size∧w1.cell? ⟨b,o+i*5,none⟩=some (.int .i64 e.k)∧w1.cell? ⟨b,o+i*5+1,none⟩=some (.string e.s) ∧
   w1.cell? ⟨b,o+i*5+2,none⟩=some (.int .i64 e.n)∧w1.cell? ⟨b,o+i*5+3,none⟩=some (.slice A' e.kids.length c')∧w1.cell? ⟨b,o+i*5+4,none⟩=some (.int .i64 e.at_)∧e.kids.length≤c'∧fA w1 w1.heap.size A' e.kids:=by
 intro w1 hb i e he
 cases h with
 | nil A=>simp at he
 | mk b off l hn hlt A c h hk =>
   obtain⟨h1,h2,h3,h4,h5,h6⟩:=h i e he
   exact⟨b,off,A i,c i,rfl,hlt,(hb.cell hlt).trans h1,(hb.cell hlt).trans h2,(hb.cell hlt).trans h3,(hb.cell hlt).trans h4,(hb.cell hlt).trans h5,h6,((hk i e he).low hb).more hb.size⟩
def T.val (e:T)(A:Option Addr)(c:Nat):Value:=.agg #[.int .i64 e.k,.string e.s,.int .i64 e.n,.slice A e.kids.length c,.int .i64 e.at_]
def zeroE:E:=.mk 0 ⟨#[]⟩ 0 []
mutual
def dX:T→E×Int×Int
 | .mk k s n l a=>if k=2 then (if nameB s then (.mk 1 s 0 [],0,0) else (zeroE,20,a))
   else if k=3 then (.mk 2 ⟨#[]⟩ n [],0,0) else if k=4 then (.mk 3 s 0 [],0,0)
   else if k=1 then
    (match l with
      | []=>(zeroE,12,a)
      | x::ks=>if x.k=2∧gX x.s.toList≠0 then
          (if ks.length=gX x.s.toList then (if (eH ks).2.1=0 then (.mk 4 x.s 0 (eH ks).1,0,0) else (zeroE,(eH ks).2.1,(eH ks).2.2)) else (zeroE,23,a))
        else (zeroE,12,a))
   else (zeroE,12,a)
def eH:List T→List E×Int×Int
 | []=>([],0,0)
 | x::l=>if (dX x).2.1=0 then ((dX x).1::(eH l).1,(eH l).2.1,(eH l).2.2) else ([],(dX x).2.1,(dX x).2.2)
end
abbrev EP:=E×Option Addr×Nat
def EP.cs (x:EP):List Value:=[.int .i64 x.1.k,.string x.1.s,.int .i64 x.1.n,.slice x.2.1 x.1.kids.length x.2.2]
def kN (l:List EP):List Value:=l.flatMap EP.cs
theorem QT (l:List EP):∀ (i:Nat)(v:EP),l[i]?=some v→(kN l)[i*4]?=some (.int .i64 v.1.k)∧(kN l)[i*4+1]?=some (.string v.1.s)∧(kN l)[i*4+2]?=some (.int .i64 v.1.n)∧(kN l)[i*4+3]?=some (.slice v.2.1 v.1.kids.length v.2.2):=by
 induction l with
 | nil=>intro i v h;simp at h
 | cons x l ih =>
   intro i v h
   have e:kN (x::l)=EP.cs x++kN l:=rfl
   rw[e]
   cases i with
   | zero =>
     obtain rfl:x=v:=by simpa using h
     exact⟨rfl,rfl,rfl,rfl⟩
   | succ i =>
     have:=ih i v (by simpa using h)
     have hl:(EP.cs x).length=4:=rfl
     rw[bK (by omega),bK (by omega),bK (by omega),bK (by omega),hl]
     rw[show (i+1)*4-4=i*4 from by omega,show (i+1)*4+1-4=i*4+1 from by omega,show (i+1)*4+2-4=i*4+2 from by omega,show (i+1)*4+3-4=i*4+3 from by omega]
     exact this
theorem nR (v:EP):kN [v]=EP.cs v:=by simp[kN]
theorem o8 (a b:List EP):kN (a++b)=kN a++kN b:=by simp[kN]
theorem xE (l:List EP):∀ u∈kN l,u.oneCell'=true:=by
 intro u hu
 obtain⟨v,_,hv⟩:=List.mem_flatMap.1 hu
 simp only[EP.cs,bZ,bI,or_false] at hv
 rcases hv with rfl|rfl|rfl|rfl <;> rfl
inductive jG (w:World)(S:Nat→Prop):Option Addr→List E→Prop
 | nil (A:Option Addr):jG w S A []
 | mk (b off:Nat)(l:List E)(hn:l.length≤9223372036854775807)(hb:S b)(A:Nat→Option Addr)(c:Nat→Nat)
    (h:∀ i e,l[i]?=some e→w.cell? ⟨b,off+i*4,none⟩=some (.int .i64 e.k)∧w.cell? ⟨b,off+i*4+1,none⟩=some (.string e.s) ∧
      w.cell? ⟨b,off+i*4+2,none⟩=some (.int .i64 e.n)∧w.cell? ⟨b,off+i*4+3,none⟩=some (.slice (A i) e.kids.length (c i)))
    (hk:∀ i e,l[i]?=some e→jG w S (A i) e.kids):jG w S (some ⟨b,off,none⟩) l
theorem jG.kept {w w':World} {S:Nat→Prop} {A:Option Addr} {l:List E} (h:jG w S A l)(hw:∀ k,S k→w'.heap[k]?=w.heap[k]?):jG w' S A l:=by
 induction h with
 | nil A=>exact .nil A
 | mk b off l hn hlt A c h hk ih =>
   refine .mk b off l hn hlt A c (fun i e he=>?_) (fun i e he=>ih i e he)
   have hc:∀ o,w'.cell? ⟨b,o,none⟩=w.cell? ⟨b,o,none⟩:=fun o=>aT (hw b hlt)
   obtain⟨h1,h2,h3,h4⟩:=h i e he
   exact⟨(hc _).trans h1,(hc _).trans h2,(hc _).trans h3,(hc _).trans h4⟩
theorem jG.mono {w:World} {S S':Nat→Prop} {A:Option Addr} {l:List E} (h:jG w S A l)(hS:∀ k,S k→S' k):jG w S' A l:=by
 induction h with
 | nil A=>exact .nil A
 | mk b off l hn hlt A c h hk ih=>exact .mk b off l hn (hS b hlt) A c h (fun i e he=>ih i e he)
theorem jG.to {w:World} {S:Nat→Prop} {B:Nat} {A:Option Addr} {l:List E} (h:jG w S A l)(hS:∀ k,S k→k<B):iZ w B A l:=by
 induction h with
 | nil A=>exact .nil A
 | mk b off l hn hlt A c h hk ih=>exact .mk b off l hn (hS b hlt) A c h (fun i e he=>ih i e he)
theorem wF {w:World} {base:Nat} {e:TypeId} {v:Value} {l:List EP} (h:w.ownsRow base e 4 v l.length (kN l))(hn:l.length≤9223372036854775807) {S:Nat→Prop} (hS:∀ g,base≤g→g<w.heap.size→S g)(hk:∀ x∈l,jG w S x.2.1 x.1.kids) :
 ∃ A c,v=.slice A (l.map Prod.fst).length c∧jG w S A (l.map Prod.fst):=by
 obtain⟨_,hcase⟩:=id h
 rcases hcase with⟨rfl,h0⟩|⟨g,cap,cur,rfl,hg,hh,hc,hcap,hsz,htake⟩
 ·have e0:l=[]:=bF h0
  subst e0
  exact⟨none,0,rfl,.nil _⟩
 ·refine⟨some ⟨g,0,none⟩,cap,by rw[bM],.mk g 0 _ (by rw[bM];exact hn) ?_ (fun i=>((l[i]?).map fun x=>x.2.1).getD none) (fun i=>((l[i]?).map fun x=>x.2.2).getD 0) (fun i x hx=>?_) (fun i x hx=>?_)⟩
  ·refine hS g hg ?_
   rcases Nat.lt_or_ge g w.heap.size with hlt|hge
   ·exact hlt
   ·rw[Array.getElem?_eq_none hge] at hh;cases hh
  ·rw[bP] at hx
   cases hl:l[i]? with
   | none=>rw[hl] at hx;cases hx
   | some y =>
     rw[hl] at hx
     obtain rfl:y.1=x:=by simpa using hx
     obtain⟨f1,f2,f3,f4⟩:=QT l i y hl
     have hi:i<l.length:=(aV.1 hl).1
     rw[Nat.zero_add,h.cellAt _ (by omega),h.cellAt _ (by omega),h.cellAt _ (by omega),h.cellAt _ (by omega)]
     exact⟨f1,f2,f3,f4⟩
  ·rw[bP] at hx
   cases hl:l[i]? with
   | none=>rw[hl] at hx;cases hx
   | some y =>
     rw[hl] at hx
     obtain rfl:y.1=x:=by simpa using hx
     exact hk y (aN hl)
theorem GG {w:World} {g k:Nat} {a b c d u:Value} {t:TypeId} (h:w.heap[g]?=some (.cells #[a,b,c,d] t (0,0))):(w.setCell ⟨g,k,none⟩ u).heap[g]?=some (.cells (#[a,b,c,d].set! k u) t (0,0)):=by
 show (w.heap.modify g _)[g]?=_
 rw[Array.getElem?_modify]
 simp[h]
def qL (w:World)(p:Nat)(x0 x1 x2 x3:Value):World:=(((w.setCell ⟨p,0,none⟩ x0).setCell ⟨p,1,none⟩ x1).setCell ⟨p,2,none⟩ x2).setCell ⟨p,3,none⟩ x3
theorem eY {w:World} {p:Nat} {a b c d x0 x1 x2 x3:Value} {t:TypeId} (h:w.heap[p]?=some (.cells #[a,b,c,d] t (0,0))):(qL w p x0 x1 x2 x3).heap[p]?=some (.cells #[x0,x1,x2,x3] t (0,0)) :=
 GG (k:=3) (GG (k:=2) (GG (k:=1) (GG (k:=0) h)))
theorem fC {w a:World} {p B:Nat} {x0 x1 x2 x3:Value} (h:Below B a w)(hp:B≤p):Below B a (qL w p x0 x1 x2 x3) :=
 (((h.setCell (p:=⟨p,0,none⟩) hp x0).setCell (p:=⟨p,1,none⟩) hp x1).setCell (p:=⟨p,2,none⟩) hp x2).setCell (p:=⟨p,3,none⟩) hp x3
theorem fQ {w:World} {g:Nat} {a b c d:Value} {t:TypeId} (h:w.heap[g]?=some (.cells #[a,b,c,d] t (0,0))) :
 (w.cell? ⟨g,0,none⟩=some a∧w.cell? ⟨g,1,none⟩=some b∧w.cell? ⟨g,2,none⟩=some c∧w.cell? ⟨g,3,none⟩=some d)∧w.frozen? ⟨g,0,none⟩=false∧w.frozen? ⟨g,1,none⟩=false∧w.frozen? ⟨g,2,none⟩=false∧w.frozen? ⟨g,3,none⟩=false:=by
 simp[World.cell?,World.frozen?,h]
theorem eP {fn:Func} {p q r:Tmp} (h:fn.results=#[.cell p 38,.tmp q,.tmp r]) {tmps:Array Value} {w:World} {g:Nat} {x0 x1 x2 x3 u v:Value} {t:TypeId}
 (hp:tmps.getD p undef=.pointer (some ⟨g,0,none⟩))(hq:tmps.getD q undef=u)(hr:tmps.getD r undef=v)(hg:w.heap[g]?=some (.cells #[x0,x1,x2,x3] t (0,0))):(results fn tmps).run Tryz.prog w=.ok (.tuple #[.agg #[x0,x1,x2,x3],u,v]) w:=by
 have hp':tmps[p]?.getD undef=.pointer (some ⟨g,0,none⟩):=by simpa using hp
 have hq':tmps[q]?.getD undef=u:=by simpa using hq
 have hr':tmps[r]?.getD undef=v:=by simpa using hr
 have hl:=run_loadVar_row (P:=Tryz.prog) w g t 38 #[x0,x1,x2,x3] (0,0) _ hg Tryz.underlying38 rfl (by show _=some 4;kernel_rfl)
 simp[results,h,hp',hq',hr',asAddr,hl]
inductive T.Fine:T→Prop
 | mk (k:Int)(s:ByteArray)(n:Int)(l:List T)(a:Int)(h1:-9223372036854775808≤n)(h2:n≤9223372036854775807)(h3:s.size≤1048576)(h:∀ e∈l,T.Fine e):T.Fine (.mk k s n l a)
def wG (t:T):Prop:=∀ (A:Option Addr)(c:Nat)(w:World),t.kids.length≤c→fA w w.heap.size A t.kids →
 Calls Tryz.prog 106 #[t.val A c] w fun r w'=>(∃ A' c',r=.returned (.tuple #[(dX t).1.val A' c',.int .i64 (dX t).2.1,.int .i64 (dX t).2.2])∧jG w' (fun k=>w.heap.size≤k∧k<w'.heap.size) A' (dX t).1.kids)∧Below w.heap.size w w'
theorem QU (k:Int)(s:ByteArray)(n:Int)(l:List T)(a:Int)(hk1:k≠1):wG (.mk k s n l a):=by
 intro A c w _ hA
 simp only[T.val,T.k,T.s,T.n,T.kids,T.at_] at hA ⊢
 have hz:Hid (dX (.mk k s n l a)=if k=2 then (if nameB s then (.mk 1 s 0 [],0,0) else (zeroE,20,a)) else if k=3 then (.mk 2 ⟨#[]⟩ n [],0,0) else if k=4 then (.mk 3 s 0 [],0,0) else (zeroE,12,a)):=ae (by
  rw[dX.eq_def]
  simp only[if_neg hk1])
 obtain⟨w1,dZ⟩:∃ w1,w1=(w.alloc (.cells #[.int .i64 k,.string s,.int .i64 n,.slice A l.length c,.int .i64 a] 71)).alloc (.cells #[.int .i64 0,.string ⟨#[]⟩,.int .i64 0,.slice none 0 0] 38):=⟨_,rfl⟩
 have hb1:Below w.heap.size w w1:=by rw[dZ];exact ((aG _ _).alloc (aF _) _).alloc (by simp) _
 have HB1:=ae hb1
 have hB:Hid (w1.heap[w.heap.size+1]?=some (.cells #[.int .i64 0,.string ⟨#[]⟩,.int .i64 0,.slice none 0 0] 38 (0,0))):=ae (by
  rw[dZ]
  have:=aH (w.alloc (.cells #[.int .i64 k,.string s,.int .i64 n,.slice A l.length c,.int .i64 a] 71)) (.cells #[.int .i64 0,.string ⟨#[]⟩,.int .i64 0,.slice none 0 0] 38)
  simpa using this)
 have rq:Hid (w1.cell? ⟨w.heap.size,0,none⟩=some (.int .i64 k)∧w1.cell? ⟨w.heap.size,1,none⟩=some (.string s)∧w1.cell? ⟨w.heap.size,2,none⟩=some (.int .i64 n)∧w1.cell? ⟨w.heap.size,3,none⟩=some (.slice A l.length c)):=ae (by rw[dZ];simp)
 have HD:Hid (w1.cell? ⟨w.heap.size,4,none⟩=some (.int .i64 a)):=ae (by rw[dZ];simp)
 have HW1:=ae dZ
 have hN:=ae (name_any s w1)
 generalize dX (.mk k s n l a)=q at *
 generalize l.length=ln at *
 clear hA dZ hb1
 have ac9:(k==1)=false:=by simpa using hk1
 by_cases h2:k=2
 ·subst h2
  cases hnb:nameB s
  ·have hq:Hid (q=(zeroE,20,a)):=ae (by rw[hz.o,if_pos rfl,hnb];rfl)
   rw[hnb] at hN
   clear hz
   go_enter Tryz.func106,Tryz.ntmps106
   go_wp2_with fail
   rw[←HW1.o]
   refine (hN.o).mono ?_
   rintro e w2 ⟨rfl,rfl⟩
   obtain⟨⟨k0,k1,k2,k3⟩,f0,f1,f2,f3⟩:=fQ hB.o
   have d4:=HD.o
   go_wp2_with fail
   go_region
   go_wp2_with fail
   refine aJ (eP rfl rfl rfl rfl (show ((qL w1 (w.heap.size+1) _ _ _ _).drew).heap[w.heap.size+1]?=_ from eY hB.o)) rfl ?_
   exact⟨⟨none,0,by rw[hq.o];rfl,by rw[hq.o];exact .nil _⟩,(fC HB1.o (aW _)).drew⟩
  ·have hq:Hid (q=(.mk 1 s 0 [],0,0)):=ae (by rw[hz.o,if_pos rfl,hnb];rfl)
   rw[hnb] at hN
   clear hz
   go_enter Tryz.func106,Tryz.ntmps106
   go_wp2_with fail
   rw[←HW1.o]
   refine (hN.o).mono ?_
   rintro e w2 ⟨rfl,rfl⟩
   obtain⟨⟨k0,k1,k2,k3⟩,f0,f1,f2,f3⟩:=fQ hB.o
   obtain⟨d0,d1,d2,d3⟩:=rq.o
   go_wp2_with fail
   refine aJ (eP rfl rfl rfl rfl (eY hB.o)) rfl ?_
   exact⟨⟨none,0,by rw[hq.o];rfl,by rw[hq.o];exact .nil _⟩,fC HB1.o (aW _)⟩
 have h2':(k==2)=false:=by simpa using h2
 by_cases h3:k=3
 ·subst h3
  have hq:Hid (q=(.mk 2 ⟨#[]⟩ n [],0,0)):=ae (by rw[hz.o,if_neg (by decide),if_pos rfl])
  clear hz hN
  go_enter Tryz.func106,Tryz.ntmps106
  go_upto_if 7 with (fail)
  rw[←HW1.o]
  obtain⟨⟨k0,k1,k2,k3⟩,f0,f1,f2,f3⟩:=fQ hB.o
  obtain⟨d0,d1,d2,d3⟩:=rq.o
  go_wp2_with fail
  refine aJ (eP rfl rfl rfl rfl (eY hB.o)) rfl ?_
  exact⟨⟨none,0,by rw[hq.o];rfl,by rw[hq.o];exact .nil _⟩,fC HB1.o (aW _)⟩
 have h3':(k==3)=false:=by simpa using h3
 by_cases h4:k=4
 ·subst h4
  have hq:Hid (q=(.mk 3 s 0 [],0,0)):=ae (by rw[hz.o,if_neg (by decide),if_neg (by decide),if_pos rfl])
  clear hz hN
  go_enter Tryz.func106,Tryz.ntmps106
  go_upto_if 7 with (fail)
  rw[←HW1.o]
  obtain⟨⟨k0,k1,k2,k3⟩,f0,f1,f2,f3⟩:=fQ hB.o
  obtain⟨d0,d1,d2,d3⟩:=rq.o
  go_wp2_with fail
  refine aJ (eP rfl rfl rfl rfl (eY hB.o)) rfl ?_
  exact⟨⟨none,0,by rw[hq.o];rfl,by rw[hq.o];exact .nil _⟩,fC HB1.o (aW _)⟩
 have h4':(k==4)=false:=by simpa using h4
 have hq:Hid (q=(zeroE,12,a)):=ae (by rw[hz.o,if_neg h2,if_neg h3,if_neg h4])
 clear hz hN
 go_enter Tryz.func106,Tryz.ntmps106
 go_upto_if 7 with (fail)
 rw[←HW1.o]
 obtain⟨⟨k0,k1,k2,k3⟩,f0,f1,f2,f3⟩:=fQ hB.o
 obtain⟨d0,d1,d2,d3⟩:=rq.o
 have d4:=HD.o
 go_wp2_with fail
 go_region
 go_wp2_with fail
 refine aJ (eP rfl rfl rfl rfl (show ((qL w1 (w.heap.size+1) _ _ _ _).drew).heap[w.heap.size+1]?=_ from eY hB.o)) rfl ?_
 exact⟨⟨none,0,by rw[hq.o];rfl,by rw[hq.o];exact .nil _⟩,(fC HB1.o (aW _)).drew⟩
def nC (q:E×Int×Int)(w:World)(r:Ending)(w':World):Prop:=(∃ A' c',r=.returned (.tuple #[q.1.val A' c',.int .i64 q.2.1,.int .i64 q.2.2])∧jG w' (fun k=>w.heap.size≤k∧k<w'.heap.size) A' q.1.kids)∧Below w.heap.size w w'
theorem GH (s:ByteArray)(n:Int)(l:List T)(a:Int)(hbad:l=[]∨∃ x ks,l=x::ks∧(x.k≠2∨gX x.s.toList=0))(A:Option Addr)(c:Nat)(w:World)(hA:fA w w.heap.size A l) :
 Calls Tryz.prog 141 #[.agg #[.int .i64 1,.string s,.int .i64 n,.slice A l.length c,.int .i64 a]] w (nC (zeroE,12,a) w):=by
 obtain⟨w1,dZ⟩:∃ w1,w1=(w.alloc (.cells #[.int .i64 1,.string s,.int .i64 n,.slice A l.length c,.int .i64 a] 71)).alloc (.cells #[.int .i64 0,.string ⟨#[]⟩,.int .i64 0,.slice none 0 0] 38):=⟨_,rfl⟩
 have hb1:Below w.heap.size w w1:=by rw[dZ];exact ((aG _ _).alloc (aF _) _).alloc (by simp) _
 have HB1:=ae hb1
 have hB:Hid (w1.heap[w.heap.size+1]?=some (.cells #[.int .i64 0,.string ⟨#[]⟩,.int .i64 0,.slice none 0 0] 38 (0,0))):=ae (by
  rw[dZ]
  have:=aH (w.alloc (.cells #[.int .i64 1,.string s,.int .i64 n,.slice A l.length c,.int .i64 a] 71)) (.cells #[.int .i64 0,.string ⟨#[]⟩,.int .i64 0,.slice none 0 0] 38)
  simpa using this)
 have rq:Hid (w1.cell? ⟨w.heap.size,3,none⟩=some (.slice A l.length c)∧w1.cell? ⟨w.heap.size,4,none⟩=some (.int .i64 a)):=ae (by rw[dZ];simp)
 have HW1:=ae dZ
 have HA:=ae ((hA.low hb1).more hb1.size)
 clear dZ hb1 hA
 rcases hbad with rfl|⟨x,ks,rfl,hx⟩
 ·simp only[List.length_nil] at rq HW1 ⊢
  go_enter Tryz.func141,Tryz.ntmps141
  go_upto_region 1 with (fail)
  rw[←HW1.o]
  obtain⟨⟨k0,k1,k2,k3⟩,f0,f1,f2,f3⟩:=fQ hB.o
  obtain⟨d3,d4⟩:=rq.o
  go_wp2_with fail
  go_region
  go_wp2_with fail
  refine aJ (eP rfl rfl rfl rfl (show ((qL w1 (w.heap.size+1) _ _ _ _).drew).heap[w.heap.size+1]?=_ from eY hB.o)) rfl ?_
  exact⟨⟨none,0,rfl,.nil _⟩,(fC HB1.o (aW _)).drew⟩
 ·obtain⟨b,o,A',c',rfl,hlt,x0,x1,_,_,_,_,_⟩:=HA.o.gy w1 (aG _ _) 0 x rfl
  rw[Nat.zero_mul,Nat.add_zero] at x0 x1
  have hlen:(x::ks).length≤9223372036854775807:=HA.o.len
  obtain⟨m,em⟩:∃ m,m=ks.length:=⟨_,rfl⟩
  simp only[bf,←em] at rq HW1 hlen ⊢
  have hm0:(0:Int)<((m+1:Nat):Int):=by omega
  have hm1:(((m+1:Nat):Int)==0)=false:=by simp;omega
  obtain⟨xk,xs,xn,xl,xa⟩:=x
  simp only[T.k,T.s] at x0 x1 hx
  have hC:=ae (count_any xs w1)
  clear HA em
  by_cases hk:xk=2
  ·subst hk
   have hc0:gX xs.toList=0:=by
    rcases hx with hx|hx
    ·exact absurd rfl hx
    ·exact hx
   rw[hc0] at hC
   clear hx hc0
   go_enter Tryz.func141,Tryz.ntmps141
   go_upto_region 1 with (fail)
   rw[←HW1.o]
   obtain⟨⟨k0,k1,k2,k3⟩,f0,f1,f2,f3⟩:=fQ hB.o
   obtain⟨d3,d4⟩:=rq.o
   go_wp2_with fail
   refine hC.o.mono ?_
   rintro e w2 ⟨rfl,rfl⟩
   go_wp2_with fail
   go_region
   go_wp2_with fail
   refine aJ (eP rfl rfl rfl rfl (show ((qL w1 (w.heap.size+1) _ _ _ _).drew).heap[w.heap.size+1]?=_ from eY hB.o)) rfl ?_
   exact⟨⟨none,0,rfl,.nil _⟩,(fC HB1.o (aW _)).drew⟩
  ·have hk':(xk != 2)=true:=by simpa using hk
   clear hx hC
   go_enter Tryz.func141,Tryz.ntmps141
   go_upto_region 1 with (fail)
   rw[←HW1.o]
   obtain⟨⟨k0,k1,k2,k3⟩,f0,f1,f2,f3⟩:=fQ hB.o
   obtain⟨d3,d4⟩:=rq.o
   go_wp2_with fail
   go_region
   go_wp2_with fail
   refine aJ (eP rfl rfl rfl rfl (show ((qL w1 (w.heap.size+1) _ _ _ _).drew).heap[w.heap.size+1]?=_ from eY hB.o)) rfl ?_
   exact⟨⟨none,0,rfl,.nil _⟩,(fC HB1.o (aW _)).drew⟩
theorem JY (s:ByteArray)(n:Int)(x:T)(ks:List T)(a:Int)(hk2:x.k=2)(hc0:gX x.s.toList≠0)(hne:ks.length≠gX x.s.toList)(A:Option Addr)(c:Nat)(w:World)(hA:fA w w.heap.size A (x::ks)) :
 Calls Tryz.prog 141 #[.agg #[.int .i64 1,.string s,.int .i64 n,.slice A (x::ks).length c,.int .i64 a]] w (nC (zeroE,23,a) w):=by
 obtain⟨m,em⟩:∃ m,m=ks.length:=⟨_,rfl⟩
 have hlen:(x::ks).length≤9223372036854775807:=hA.len
 rw[←em] at hne
 simp only[bf,←em] at hlen ⊢
 obtain⟨w1,dZ⟩:∃ w1,w1=(w.alloc (.cells #[.int .i64 1,.string s,.int .i64 n,.slice A (m+1) c,.int .i64 a] 71)).alloc (.cells #[.int .i64 0,.string ⟨#[]⟩,.int .i64 0,.slice none 0 0] 38):=⟨_,rfl⟩
 have hb1:Below w.heap.size w w1:=by rw[dZ];exact ((aG _ _).alloc (aF _) _).alloc (by simp) _
 have hws:w1.heap.size=w.heap.size+2:=by rw[dZ];simp
 have HB1:=ae hb1
 have hB:Hid (w1.heap[w.heap.size+1]?=some (.cells #[.int .i64 0,.string ⟨#[]⟩,.int .i64 0,.slice none 0 0] 38 (0,0))):=ae (by
  rw[dZ]
  have:=aH (w.alloc (.cells #[.int .i64 1,.string s,.int .i64 n,.slice A (m+1) c,.int .i64 a] 71)) (.cells #[.int .i64 0,.string ⟨#[]⟩,.int .i64 0,.slice none 0 0] 38)
  simpa using this)
 have rq:Hid (w1.cell? ⟨w.heap.size,3,none⟩=some (.slice A (m+1) c)∧w1.cell? ⟨w.heap.size,4,none⟩=some (.int .i64 a)):=ae (by rw[dZ];simp)
 have HW1:=ae dZ
 obtain⟨b,o,A',c',rfl,hlt,x0,x1,_,_,_,_,_⟩:=((hA.low hb1).more hb1.size).gy w1 (aG _ _) 0 x rfl
 rw[Nat.zero_mul,Nat.add_zero] at x0 x1
 have hm0:(0:Int)<((m+1:Nat):Int):=by omega
 have hm1:(((m+1:Nat):Int)==0)=false:=by simp;omega
 obtain⟨xk,xs,xn,xl,xa⟩:=x
 simp only[T.k,T.s] at x0 x1 hk2 hc0 hne
 subst hk2
 have hC:=ae (count_any xs)
 generalize gX xs.toList=cn at *
 have hcz:((cn:Int)==0)=false:=by simp;omega
 have hn1:((m:Int) != (cn:Int))=true:=by simp;omega
 clear hA em dZ hb1 hc0 hne
 have hb2:Below w1.heap.size w1 (w1.alloc (.cells #[.int .i64 4,.string xs,.int .i64 0,.slice none 0 0] 38)):=(aG _ _).alloc (aF _) _
 have hB2:Hid ((w1.alloc (.cells #[.int .i64 4,.string xs,.int .i64 0,.slice none 0 0] 38)).heap[w.heap.size+1]?=some (.cells #[.int .i64 0,.string ⟨#[]⟩,.int .i64 0,.slice none 0 0] 38 (0,0))):=ae ((hb2.block _ (by omega)).trans hB.o)
 have HD2:Hid ((w1.alloc (.cells #[.int .i64 4,.string xs,.int .i64 0,.slice none 0 0] 38)).cell? ⟨w.heap.size,3,none⟩=some (.slice (some ⟨b,o,none⟩) (m+1) c)∧(w1.alloc (.cells #[.int .i64 4,.string xs,.int .i64 0,.slice none 0 0] 38)).cell? ⟨w.heap.size,4,none⟩=some (.int .i64 a)) :=
  ae ⟨(hb2.cell (p:=⟨w.heap.size,3,none⟩) (show w.heap.size<_ by omega)).trans rq.o.1,(hb2.cell (p:=⟨w.heap.size,4,none⟩) (show w.heap.size<_ by omega)).trans rq.o.2⟩
 have HE2:Hid ((w1.alloc (.cells #[.int .i64 4,.string xs,.int .i64 0,.slice none 0 0] 38)).cell? ⟨w.heap.size+2,1,none⟩=some (.string xs)):=ae (by rw[←hws];simp)
 have HB2:=ae (HB1.o.trans (hb2.mono (by omega)))
 clear hb2
 go_enter Tryz.func141,Tryz.ntmps141
 go_upto_region 1 with (fail)
 rw[←HW1.o]
 obtain⟨d3,d4⟩:=rq.o
 go_wp2_with fail
 refine (hC.o _).mono ?_
 rintro e w2 ⟨rfl,rfl⟩
 go_upto_region 4 with (fail)
 generalize (w1.alloc (.cells #[.int .i64 4,.string xs,.int .i64 0,.slice none 0 0] 38))=w2 at *
 obtain⟨y3,y4⟩:=HD2.o
 have y1:=HE2.o
 obtain⟨⟨k0,k1,k2,k3⟩,f0,f1,f2,f3⟩:=fQ hB2.o
 clear x0 x1 hlt d3 d4
 go_quiet ((go_at_call 131;exact Calls.quiet_of_same ((hC.o _).mono fun e w' ⟨h1,h2⟩=>⟨h1,h2.symm⟩)))
 go_wp2_with fail
 go_region
 go_wp2_with fail
 refine aJ (eP rfl rfl rfl rfl (show (qL (w2.drewN _) (w.heap.size+1) _ _ _ _).heap[w.heap.size+1]?=_ from eY (show (w2.drewN _).heap[w.heap.size+1]?=_ from hB2.o))) rfl ?_
 exact⟨⟨none,0,rfl,.nil _⟩,fC (below_drewN HB2.o _) (aW _)⟩
theorem IJ (a:Addr)(n:Nat):(a.add n).block=a.block:=by unfold Addr.add;split <;> rfl
def Reads (w:World)(B size:Nat)(A:Option Addr)(n:Nat)(xs:List Value):Prop :=
 xs.length=n*size∧(0<n→∃ ad,A=some ad∧ad.block<B∧∀ j u,xs[j]?=some u→w.cell? (ad.add j)=some u)
section
variable {w w':World} {B B' size n:Nat} {A:Option Addr} {xs:List Value}
theorem Reads.none_:Reads w B size A 0 []:=⟨by simp,fun h=>absurd h (by omega)⟩
theorem Reads.keep (h:Reads w B size A n xs)(hk:∀ p:Addr,p.block<B→w'.cell? p=w.cell? p):Reads w' B size A n xs :=
 ⟨h.1,fun hn=>by
   obtain⟨ad,e,hb,hc⟩:=h.2 hn
   exact⟨ad,e,hb,fun j u hu=>(hk _ (by rw[IJ];exact hb)).trans (hc j u hu)⟩⟩
theorem Reads.more (h:Reads w B size A n xs)(hB:B≤B'):Reads w B' size A n xs :=
 ⟨h.1,fun hn=>by
   obtain⟨ad,e,hb,hc⟩:=h.2 hn
   exact⟨ad,e,by omega,hc⟩⟩
theorem Reads.below (h:Reads w B size A n xs)(hb:Below B w w'):Reads w' B size A n xs:=h.keep fun _ hp=>hb.cell hp
theorem Reads.drew (h:Reads w B size A n xs):Reads w.drew B size A n xs:=h
theorem Reads.alloc (h:Reads w B size A n xs)(hB:B≤w.heap.size)(o:Obj):Reads (w.alloc o) B size A n xs:=h.keep fun p hp=>World.cell?_alloc_lt w o p (by omega)
theorem Reads.aal {base:Nat} {e:TypeId} {c:Nat} (h:w.ownsRow base e size (.slice A n c) n xs):Reads w w.heap.size size A n xs:=by
 refine⟨h.1,fun hn=>?_⟩
 obtain⟨g,cap,hv,_,hlt⟩:=h.form hn
 have hA:A=some ⟨g,0,none⟩:=by injection hv
 subst hA
 exact⟨_,rfl,hlt,h.cells (g:=g) rfl⟩
end
def JI (w:World)(g:Nat)(t:TypeId)(cs:Array Value):Prop:=w.heap[g]?=some (.cells cs t (0,0))
section
variable {w w':World} {g:Nat} {t:TypeId} {cs:Array Value}
theorem JI.frozen (h:JI w g t cs)(i:Nat):w.frozen? ⟨g,i,none⟩=false:=by
 unfold JI at h
 simp[World.frozen?,h]
theorem JI.FY (h:JI w g t cs)(i:Nat)(u:Value):JI (w.setCell ⟨g,i,none⟩ u) g t (cs.setIfInBounds i u):=by
 unfold JI at h ⊢
 simp[World.setCell,Array.getElem?_modify,h]
end
section
variable {P:Program} (w:World)
theorem yF (base:Nat)(t ty e:TypeId)(i:TypeInfo)(size:Nat)(ht:P.underlying t=some (.slice e))(hi:P.info? e=some i)
 (v:Value)(n:Nat)(xs:List Value)(hown:w.ownsRow base e size v n xs)(c:Nat):(Builtin.append_ #[t,t] ty #[v,.slice none 0 c]).run P w=.ok v w:=by
 rcases hown.2 with⟨rfl,rfl⟩|⟨g,cap,cur,rfl,_,_,hnc,_⟩
 ·simp[Builtin.append_,run_underlying ht,sizeOf,typeInfo,hi,Builtin.lenOf,Builtin.firstCells]
 ·simp[Builtin.append_,run_underlying ht,sizeOf,typeInfo,hi,Builtin.lenOf,Builtin.firstCells,hnc,storeCells]
theorem Dz (base:Nat)(t ty e:TypeId)(i:TypeInfo)(z:Value)(size bytes:Nat)(ht:P.underlying t=some (.slice e))(hi:P.info? e=some i)(hz:i.zero=some z)
 (hsize:i.size=size)(hby:i.bytes=bytes)(hzs:z.cells.size=size)(hsz:0<size)
 (v:Value)(n:Nat)(xs:List Value)(hown:w.ownsRow base e size v n xs)
 (B:Nat)(A:Option Addr)(m c:Nat)(news:List Value)(hr:Reads w B size A m news)(h1:∀ u∈news,u.oneCell'=true)
 (h63:n+m≤maxLen)(hbytes:(n+m)*bytes≤140737488355328)(hbase:base≤w.heap.size) :
 ∃ v' w',(Builtin.append_ #[t,t] ty #[v,.slice A m c]).run P w=.ok v' w'∧w'.ownsRow base e size v' (n+m) (xs++news)∧w.grownBy w' v.ownBlock ∧
   (v'.ownBlock=v.ownBlock∨v'.ownBlock=some w.heap.size):=by
 rcases A with _|ad
 ·have hm:m=0:=by
   rcases Nat.eq_zero_or_pos m with h0|h0
   ·exact h0
   ·obtain⟨ad,h,_⟩:=hr.2 h0
    cases h
  subst hm
  have hn:news=[]:=bF (by simpa using hr.1)
  subst hn
  exact⟨v,w,yF w base t ty e i size ht hi v n xs hown c,by simpa using hown,World.grownBy.refl w _,.inl rfl⟩
 ·have hcells:∀ j u,news[j]?=some u→w.cell? (ad.add j)=some u:=by
   intro j u hu
   rcases Nat.eq_zero_or_pos m with h0|h0
   ·subst h0
    have hn:news=[]:=bF (by simpa using hr.1)
    subst hn
    simp at hu
   ·obtain⟨ad',h,_,hc⟩:=hr.2 h0
    injection h with h
    subst h
    exact hc j u hu
  obtain⟨v',w',hrun,h2,h3,_,h5⟩:=run_append_own_at (P:=P) w base t ty e i z size bytes ht hi hz hsize hby hzs hsz v n xs hown ad m c news hr.1 hcells h1 h63 hbytes hbase
  exact⟨v',w',hrun,h2,h3,h5⟩
theorem xg {o:Oper} {a:Act} {K:Act→World→Prop} {Q:Exit→Act→World→Prop} (s x:Operand)(t:TypeId)
 (ho:o.op=.call { callee:=.builtin .append,args:=#[s,x],argTypes:=#[t,t] })
 (base:Nat)(e:TypeId)(i:TypeInfo)(z:Value)(size bytes:Nat)(ht:P.underlying t=some (.slice e))(hi:P.info? e=some i)(hz:i.zero=some z)
 (hsize:i.size=size)(hby:i.bytes=bytes)(hzs:z.cells.size=size)(hsz:0<size)
 (v:Value)(n:Nat)(xs:List Value)(hs:a.eval s=v)(hown:w.ownsRow base e size v n xs)
 (B:Nat)(A:Option Addr)(m c:Nat)(news:List Value)(hx:a.eval x=.slice A m c)(hr:Reads w B size A m news)(h1:∀ u∈news,u.oneCell'=true)
 (h63:n+m≤maxLen)(hbytes:(n+m)*bytes≤140737488355328)(hbase:base≤w.heap.size)
 (h:∀ v' w',w'.ownsRow base e size v' (n+m) (xs++news)→w.grownBy w' v.ownBlock→(v'.ownBlock=v.ownBlock∨v'.ownBlock=some w.heap.size)→K (a.put o.dst v') w'):o.wp P a w K Q:=by
 obtain⟨v',w',hrun,h2,h3,h4⟩:=Dz (P:=P) w base t o.type e i z size bytes ht hi hz hsize hby hzs hsz v n xs hown B A m c news hr h1 h63 hbytes hbase
 unfold Oper.wp execOp
 simp only[ho,resolve,invoke,builtin,Sem.run_bind,Sem.run_pure,Result.andThen_ok,List.map_toArray,List.map_cons,List.map_nil,hs,hx,hrun]
 exact h v' w' h2 h3 h4
theorem jQ {ops:Array Oper} {rest:List Oper} {o:Oper} {a:Act} {Q:Exit→Act→World→Prop} (hgd:o.guard=none)(s x:Operand)(t:TypeId)
 (ho:o.op=.call { callee:=.builtin .append,args:=#[s,x],argTypes:=#[t,t] })
 (base:Nat)(e:TypeId)(i:TypeInfo)(z:Value)(size bytes:Nat)(ht:P.underlying t=some (.slice e))(hi:P.info? e=some i)(hz:i.zero=some z)
 (hsize:i.size=size)(hby:i.bytes=bytes)(hzs:z.cells.size=size)(hsz:0<size)
 (v:Value)(n:Nat)(xs:List Value)(hs:a.eval s=v)(hown:w.ownsRow base e size v n xs)
 (B:Nat)(A:Option Addr)(m c:Nat)(news:List Value)(hx:a.eval x=.slice A m c)(hr:Reads w B size A m news)(h1:∀ u∈news,u.oneCell'=true)
 (h63:n+m≤maxLen)(hbytes:(n+m)*bytes≤140737488355328)(hbase:base≤w.heap.size)
 (h:∀ v' w',w'.ownsRow base e size v' (n+m) (xs++news)→w.grownBy w' v.ownBlock→(v'.ownBlock=v.ownBlock∨v'.ownBlock=some w.heap.size)→wpList P ops Q rest (a.put o.dst v') w'):wpList P ops Q (o::rest) a w :=
 wpList_plain hgd fun _ hK=>xg w s x t ho base e i z size bytes ht hi hz hsize hby hzs hsz v n xs hs hown B A m c news hx hr h1 h63 hbytes hbase fun v' w' h2 h3 h4=>hK _ _ (h v' w' h2 h3 h4)
theorem fG {ops:Array Oper} {o:Oper} {a:Act} {K:Act→World→Prop} {Q:Exit→Act→World→Prop} {E:Prop} (hgd:o.guard=none)(s x:Operand)(t:TypeId)
 (ho:o.op=.call { callee:=.builtin .append,args:=#[s,x],argTypes:=#[t,t] })
 (base:Nat)(e:TypeId)(i:TypeInfo)(z:Value)(size bytes:Nat)(ht:P.underlying t=some (.slice e))(hi:P.info? e=some i)(hz:i.zero=some z)
 (hsize:i.size=size)(hby:i.bytes=bytes)(hzs:z.cells.size=size)(hsz:0<size)
 (v:Value)(n:Nat)(xs:List Value)(hs:a.eval s=v)(hown:w.ownsRow base e size v n xs)
 (B:Nat)(A:Option Addr)(m c:Nat)(news:List Value)(hx:a.eval x=.slice A m c)(hr:Reads w B size A m news)(h1:∀ u∈news,u.oneCell'=true)
 (h63:n+m≤maxLen)(hbytes:(n+m)*bytes≤140737488355328)(hbase:base≤w.heap.size)
 (h:∀ v' w',w'.ownsRow base e size v' (n+m) (xs++news)→w.grownBy w' v.ownBlock→(v'.ownBlock=v.ownBlock∨v'.ownBlock=some w.heap.size)→K (a.put o.dst v') w') :
 if Region.wanted o (yielded ops a.tmps)=true then Oper.wp P o a w K Q else E:=by
 have hw:Region.wanted o (yielded ops a.tmps)=true:=by simp[Region.wanted,hgd]
 rw[if_pos hw]
 exact xg w s x t ho base e i z size bytes ht hi hz hsize hby hzs hsz v n xs hs hown B A m c news hx hr h1 h63 hbytes hbase h
end
end Go.Proofs.YtjhkihkiebnpaaaGreatDoor
namespace Go.Proofs.YtjhkihkiebnpaaaGreatDoor
def eQ (J:Nat→Act→World→Prop)(Q:Exit→Act→World→Prop):Exit→Act→World→Prop
 | .goto l,a,w=>J l a w
 | e,a,w=>Q e a w
section
variable {P:Program} {a:Act} {w:World} {Q:Exit→Act→World→Prop}
theorem Gs {c:Code} (J:Nat→Act→World→Prop) (μ:Nat→Act→World→Nat)
 (first:c.wp P (eQ J Q) a w)
 (pass:∀ l a w,J l a w→∃ rest,findLabel c l=some rest∧rest.wp P (eQ (fun l' a' w'=>J l' a' w'∧μ l' a' w'<μ l a w) Q) a w):(Code.scope c).wp P Q a w:=by
 intro b k cs
 have hg:∀ {l:Nat} {rest:Code},findLabel c l=some rest→gotoIn l (.inScope c::k)=some (.code rest::.inScope c::k):=fun h=>by simp[gotoIn,h]
 have key:∀ n l a w rest,μ l a w=n→J l a w→findLabel c l=some rest→∃ e a' w',Q e a' w'∧Arrives P (lone (b.at a (.code rest::.inScope c::k)) cs w) b k cs e a' w':=by
  intro n
  induction n using Nat.strongRecOn with
  | _ n ih =>
    intro l a w rest hn hJ hf
    obtain⟨rest',hf',hp⟩:=pass l a w hJ
    obtain rfl:rest'=rest:=aY (hf'.symm.trans hf)
    obtain⟨e,a₁,w₁,hq,harr⟩:=hp b (.inScope c::k) cs
    cases e with
    | normal=>exact⟨.normal,a₁,w₁,hq,Steps.trans harr (.one step_inScope)⟩
    | exit id=>exact⟨.exit id,a₁,w₁,hq,fun k' hk=>harr k' (by simp[exitTo,hk])⟩
    | goto l' =>
      obtain⟨hJ',hlt⟩:=hq
      obtain⟨aen,hf2,_⟩:=pass l' a₁ w₁ hJ'
      obtain⟨e₂,a₂,w₂,hq₂,harr₂⟩:=ih _ (by omega) l' a₁ w₁ aen rfl hJ' hf2
      exact⟨e₂,a₂,w₂,hq₂,.of_steps (harr _ (hg hf2)) harr₂⟩
    | ret=>exact⟨_,a₁,w₁,hq,harr⟩
    | panic ch=>exact⟨_,a₁,w₁,hq,harr⟩
    | outgrown=>exact⟨_,a₁,w₁,hq,harr⟩
 obtain⟨e,a₁,w₁,hq,harr⟩:=first b (.inScope c::k) cs
 cases e with
 | normal=>exact⟨.normal,a₁,w₁,hq,.head step_scope (Steps.trans harr (.one step_inScope))⟩
 | exit id=>exact⟨.exit id,a₁,w₁,hq,fun k' hk=>.head step_scope (harr k' (by simp[exitTo,hk]))⟩
 | goto l' =>
   obtain⟨rest,hf,_⟩:=pass l' a₁ w₁ hq
   obtain⟨e₂,a₂,w₂,hq₂,harr₂⟩:=key _ l' a₁ w₁ rest rfl hq hf
   exact⟨e₂,a₂,w₂,hq₂,.of_steps (.head step_scope (harr _ (hg hf))) harr₂⟩
 | ret=>exact⟨_,a₁,w₁,hq,.of_steps (.one step_scope) harr⟩
 | panic ch=>exact⟨_,a₁,w₁,hq,.of_steps (.one step_scope) harr⟩
 | outgrown=>exact⟨_,a₁,w₁,hq,.of_steps (.one step_scope) harr⟩
theorem CP {c:Code} (J:Nat→Act→World→Prop) (μ:Nat→Act→World→Nat)
 (first:(∀ l X,findLabel c l=some (.seq .skip X)→∀ a w,J l a w→X.wp P (eQ J Q) a w)→c.wp P (eQ J Q) a w)
 (pass:∀ l a w,J l a w→∃ X,findLabel c l=some (.seq .skip X)∧X.wp P (eQ (fun l' a' w'=>J l' a' w'∧μ l' a' w'<μ l a w) Q) a w):(Code.scope c).wp P Q a w:=by
 refine Gs J μ (first fun l X hX a w hJ=>?_) fun l a w hJ=>?_
 ·obtain⟨X',hX',h⟩:=pass l a w hJ
  rw[hX] at hX'
  injection hX' with hX'
  injection hX' with _ hX'
  subst hX'
  refine wp_mono h fun e a w h=>?_
  cases e <;> first|exact h|exact h.1
 ·obtain⟨X,hX,h⟩:=pass l a w hJ
  exact⟨_,hX,wp_seq (wp_skip h)⟩
theorem EM {c:Code} (J:Nat→Nat→Act→World→Prop)
 (first:(∀ n l X,findLabel c l=some (.seq .skip X)→∀ a w,J n l a w→X.wp P (eQ (fun l a w=>∃ n,J n l a w) Q) a w)→c.wp P (eQ (fun l a w=>∃ n,J n l a w) Q) a w)
 (pass:∀ n l a w,J n l a w→∃ X,findLabel c l=some (.seq .skip X)∧X.wp P (eQ (fun l' a' w'=>∃ n',n'<n∧J n' l' a' w') Q) a w):(Code.scope c).wp P Q a w:=by
 have first':c.wp P (eQ (fun l a w=>∃ n,J n l a w) Q) a w:=first fun n l X hX a w hJ=>by
  obtain⟨X',hX',h⟩:=pass n l a w hJ
  rw[hX] at hX'
  injection hX' with hX'
  injection hX' with _ hX'
  subst hX'
  refine wp_mono h fun e a w h=>?_
  cases e <;> first|exact h|exact h.elim fun n hn=>⟨n,hn.2⟩
 intro b k cs
 have hg:∀ {l:Nat} {rest:Code},findLabel c l=some rest→gotoIn l (.inScope c::k)=some (.code rest::.inScope c::k):=fun h=>by simp[gotoIn,h]
 have key:∀ n l a w rest,J n l a w→findLabel c l=some rest→∃ e a' w',Q e a' w'∧Arrives P (lone (b.at a (.code rest::.inScope c::k)) cs w) b k cs e a' w':=by
  intro n
  induction n using Nat.strongRecOn with
  | _ n ih =>
    intro l a w rest hJ hf
    obtain⟨X,hf',hp⟩:=pass n l a w hJ
    obtain rfl:Code.seq .skip X=rest:=aY (hf'.symm.trans hf)
    obtain⟨e,a₁,w₁,hq,harr⟩:=(wp_seq (wp_skip hp)) b (.inScope c::k) cs
    cases e with
    | normal=>exact⟨.normal,a₁,w₁,hq,Steps.trans harr (.one step_inScope)⟩
    | exit id=>exact⟨.exit id,a₁,w₁,hq,fun k' hk=>harr k' (by simp[exitTo,hk])⟩
    | goto l' =>
      obtain⟨n',hlt,hJ'⟩:=hq
      obtain⟨X2,hf2,_⟩:=pass n' l' a₁ w₁ hJ'
      obtain⟨e₂,a₂,w₂,hq₂,harr₂⟩:=ih n' hlt l' a₁ w₁ _ hJ' hf2
      exact⟨e₂,a₂,w₂,hq₂,.of_steps (harr _ (hg hf2)) harr₂⟩
    | ret=>exact⟨_,a₁,w₁,hq,harr⟩
    | panic ch=>exact⟨_,a₁,w₁,hq,harr⟩
    | outgrown=>exact⟨_,a₁,w₁,hq,harr⟩
 obtain⟨e,a₁,w₁,hq,harr⟩:=first' b (.inScope c::k) cs
 cases e with
 | normal=>exact⟨.normal,a₁,w₁,hq,.head step_scope (Steps.trans harr (.one step_inScope))⟩
 | exit id=>exact⟨.exit id,a₁,w₁,hq,fun k' hk=>.head step_scope (harr k' (by simp[exitTo,hk]))⟩
 | goto l' =>
   obtain⟨n,hJ⟩:=hq
   obtain⟨X,hf,_⟩:=pass n l' a₁ w₁ hJ
   obtain⟨e₂,a₂,w₂,hq₂,harr₂⟩:=key n l' a₁ w₁ _ hJ hf
   exact⟨e₂,a₂,w₂,hq₂,.of_steps (.head step_scope (harr _ (hg hf))) harr₂⟩
 | ret=>exact⟨_,a₁,w₁,hq,.of_steps (.one step_scope) harr⟩
 | panic ch=>exact⟨_,a₁,w₁,hq,.of_steps (.one step_scope) harr⟩
 | outgrown=>exact⟨_,a₁,w₁,hq,.of_steps (.one step_scope) harr⟩
end
theorem VL {tm:Array Value} {n:Nat} (h:tm.size=n):tm=((List.range n).map fun i=>tm.getD i undef).toArray:=by
 apply Array.ext
 ·simp[h]
 ·intro i h1 h2
  simp[Array.getD,h1]
end Go.Proofs.YtjhkihkiebnpaaaGreatDoor
namespace Go.Proofs.YtjhkihkiebnpaaaGreatDoor
open Go.RowKit
def qG (c:UInt8):Bool:=decide (97≤(c.toNat:Int))&&decide ((c.toNat:Int)≤122)
def CJ (c:UInt8):Bool:=decide (48≤(c.toNat:Int))&&decide ((c.toNat:Int)≤57)
theorem zC (c:UInt8)(w:World):Calls Tryz.prog 78 #[.int .u8 (c.toNat:Int)] w fun e w'=>e=.returned (.bool (qG c))∧w=w':=by
 unfold qG
 cases a1:decide (97≤(c.toNat:Int))
 ·go_enter Tryz.func78,Tryz.ntmps78
  go_wp2
  go_ret
  exact⟨rfl,rfl⟩
 ·cases a2:decide ((c.toNat:Int)≤122)
  all_goals
   go_enter Tryz.func78,Tryz.ntmps78
   go_wp2
   go_ret
   exact⟨rfl,rfl⟩
theorem vK (c:UInt8)(w:World):Calls Tryz.prog 79 #[.int .u8 (c.toNat:Int)] w fun e w'=>e=.returned (.bool (CJ c))∧w=w':=by
 unfold CJ
 cases a1:decide (48≤(c.toNat:Int))
 ·go_enter Tryz.func79,Tryz.ntmps79
  go_wp2
  go_ret
  exact⟨rfl,rfl⟩
 ·cases a2:decide ((c.toNat:Int)≤57)
  all_goals
   go_enter Tryz.func79,Tryz.ntmps79
   go_wp2
   go_ret
   exact⟨rfl,rfl⟩
theorem Sl (c:UInt8)(w:World):Calls Tryz.prog 154 #[.int .u8 (c.toNat:Int)] w fun e w'=>(∃ h:Int,e=.returned (.int .i64 h)∧-1≤h∧h≤15)∧w=w':=by
 have hD:=ae (vK c w)
 by_cases h1:CJ c=true
 ·have h1':=h1
  rw[h1] at hD
  unfold CJ at h1
  simp only[Bool.and_eq_true,decide_eq_true_eq] at h1
  obtain⟨b1,b2⟩:=h1
  clear h1'
  go_enter Tryz.func154,Tryz.ntmps154
  go_wp2_with fail
  refine (hD.o).mono ?_
  rintro e w' ⟨rfl,rfl⟩
  go_wp2_with fail
  go_ret
  exact⟨⟨_,rfl,by omega,by omega⟩,rfl⟩
 ·have h1':CJ c=false:=by simpa using h1
  rw[h1'] at hD
  clear h1 h1'
  by_cases a1:97≤(c.toNat:Int)
  ·by_cases a2:(c.toNat:Int)≤102
   ·go_enter Tryz.func154,Tryz.ntmps154
    go_wp2_with fail
    refine (hD.o).mono ?_
    rintro e w' ⟨rfl,rfl⟩
    go_wp2_with fail
    go_ret
    exact⟨⟨_,rfl,by omega,by omega⟩,rfl⟩
   ·go_enter Tryz.func154,Tryz.ntmps154
    go_wp2_with fail
    refine (hD.o).mono ?_
    rintro e w' ⟨rfl,rfl⟩
    go_wp2_with fail
    go_ret
    exact⟨⟨_,rfl,by omega,by omega⟩,rfl⟩
  ·go_enter Tryz.func154,Tryz.ntmps154
   go_wp2_with fail
   refine (hD.o).mono ?_
   rintro e w' ⟨rfl,rfl⟩
   go_wp2_with fail
   go_ret
   exact⟨⟨_,rfl,by omega,by omega⟩,rfl⟩
mutual
def ja:T→T
 | .mk k s n l _=>if k=2 then .mk 2 s 0 [] 0 else if k=3 then .mk 3 ⟨#[]⟩ n [] 0 else if k=4 then .mk 4 s 0 [] 0 else .mk 1 ⟨#[]⟩ 0 (xN l) 0
def xN:List T→List T
 | []=>[]
 | x::l=>ja x::xN l
end
mutual
def iy:E→T
 | .mk k s n l=>if k=1 then .mk 2 s 0 [] 0 else if k=2 then .mk 3 ⟨#[]⟩ n [] 0 else if k=3 then .mk 4 s 0 [] 0 else .mk 1 ⟨#[]⟩ 0 (.mk 2 s 0 [] 0::kV l) 0
def kV:List E→List T
 | []=>[]
 | x::l=>iy x::kV l
end
inductive qC:E→Prop
 | xH (s:ByteArray)(h:nameB s=true):qC (.mk 1 s 0 [])
 | num (n:Int):qC (.mk 2 ⟨#[]⟩ n [])
 | str (s:ByteArray):qC (.mk 3 s 0 [])
 | app (s:ByteArray)(l:List E)(h0:gX s.toList≠0)(hl:l.length=gX s.toList)(hk:∀ e∈l,qC e):qC (.mk 4 s 0 l)
theorem sV (l:List E):(kV l).length=l.length:=by
 induction l with
 | nil=>rfl
 | cons x l ih=>rw[kV,bf,bf,ih]
def ZF (t:T):Prop:=(dX t).2.1=0→iy (dX t).1=ja t∧dX (iy (dX t).1)=((dX t).1,0,0)∧qC (dX t).1
theorem G6:∀ (l:List T),(∀ t∈l,ZF t)→(eH l).2.1=0→kV (eH l).1=xN l∧eH (kV (eH l).1)=((eH l).1,0,0)∧(∀ e∈(eH l).1,qC e)∧(eH l).1.length=l.length
 | [],_,_=>by
   rw[eH]
   exact⟨by rw[kV,xN],by rw[kV,eH],(fun e he=>by cases he),rfl⟩
 | x::l,hM,h=>by
   rw[eH] at h ⊢
   by_cases hx:(dX x).2.1=0
   ·rw[if_pos hx] at h ⊢
    simp only at h ⊢
    obtain⟨h1,h2,h3⟩:=hM x bH hx
    obtain⟨g1,g2,g3,g4⟩:=G6 l (fun t ht=>hM t (bG _ ht)) h
    refine⟨by rw[kV,xN,h1,g1],?_,fun e he=>?_,by rw[bf,bf,g4]⟩
    ·rw[kV,eH,h2,if_pos rfl,g2]
    ·rcases bZ.1 he with rfl|he
     ·exact h3
     ·exact g3 e he
   ·rw[if_neg hx] at h
    exact absurd h hx
theorem yU (s:ByteArray)(n:Int)(l:List E):iy (.mk 1 s n l)=.mk 2 s 0 [] 0:=by unfold iy;rw[if_pos rfl]
theorem yV (s:ByteArray)(n:Int)(l:List E):iy (.mk 2 s n l)=.mk 3 ⟨#[]⟩ n [] 0:=by unfold iy;rw[if_neg (by decide),if_pos rfl]
theorem yX (s:ByteArray)(n:Int)(l:List E):iy (.mk 3 s n l)=.mk 4 s 0 [] 0:=by unfold iy;rw[if_neg (by decide),if_neg (by decide),if_pos rfl]
theorem yY (s:ByteArray)(n:Int)(l:List E):iy (.mk 4 s n l)=.mk 1 ⟨#[]⟩ 0 (.mk 2 s 0 [] 0::kV l) 0:=by unfold iy;rw[if_neg (by decide),if_neg (by decide),if_neg (by decide)]
theorem DT (s:ByteArray)(n a:Int)(l:List T):dX (.mk 2 s n l a)=if nameB s then (.mk 1 s 0 [],0,0) else (zeroE,20,a):=by unfold dX;rw[if_pos rfl]
theorem Kt (s:ByteArray)(n a:Int)(l:List T):dX (.mk 3 s n l a)=(.mk 2 ⟨#[]⟩ n [],0,0):=by unfold dX;rw[if_neg (by decide),if_pos rfl]
theorem Ku (s:ByteArray)(n a:Int)(l:List T):dX (.mk 4 s n l a)=(.mk 3 s 0 [],0,0):=by unfold dX;rw[if_neg (by decide),if_neg (by decide),if_pos rfl]
theorem yZ (s:ByteArray)(n a:Int)(x:T)(ks:List T):dX (.mk 1 s n (x::ks) a)=if x.k=2∧gX x.s.toList≠0 then
 (if ks.length=gX x.s.toList then (if (eH ks).2.1=0 then (.mk 4 x.s 0 (eH ks).1,0,0) else (zeroE,(eH ks).2.1,(eH ks).2.2)) else (zeroE,23,a)) else (zeroE,12,a):=by
 unfold dX
 rw[if_neg (by decide),if_neg (by decide),if_neg (by decide),if_pos rfl]
theorem Kv {s:ByteArray} {n a:Int} {x:T} {ks:List T} (h1:x.k=2)(h2:gX x.s.toList≠0)(h3:ks.length=gX x.s.toList)(h4:(eH ks).2.1=0):dX (.mk 1 s n (x::ks) a)=(.mk 4 x.s 0 (eH ks).1,0,0):=by
 rw[yZ,if_pos ⟨h1,h2⟩,if_pos h3,if_pos h4]
theorem G7 (s:ByteArray)(n a:Int):dX (.mk 1 s n [] a)=(zeroE,12,a):=by
 unfold dX
 rw[if_neg (by decide),if_neg (by decide),if_neg (by decide),if_pos rfl]
theorem Kw {k:Int} (h1:k≠1)(h2:k≠2)(h3:k≠3)(h4:k≠4)(s:ByteArray)(n a:Int)(l:List T):dX (.mk k s n l a)=(zeroE,12,a):=by
 unfold dX
 rw[if_neg h2,if_neg h3,if_neg h4,if_neg h1]
theorem vz:∀ t,ZF t:=T.ind (fun k s n l a ih=>by
 intro h
 by_cases h2:k=2
 ·subst h2
  by_cases hn:nameB s=true
  ·rw[DT,if_pos hn]
   refine⟨?_,?_,.xH s hn⟩
   ·rw[yU];unfold ja;rw[if_pos rfl]
   ·rw[yU,DT,if_pos hn]
  ·rw[DT,if_neg hn] at h
   simp at h
 ·by_cases h3:k=3
  ·subst h3
   rw[Kt]
   refine⟨?_,?_,.num n⟩
   ·rw[yV];unfold ja;rw[if_neg (by decide),if_pos rfl]
   ·rw[yV,Kt]
  ·by_cases h4:k=4
   ·subst h4
    rw[Ku]
    refine⟨?_,?_,.str s⟩
    ·rw[yX];unfold ja;rw[if_neg (by decide),if_neg (by decide),if_pos rfl]
    ·rw[yX,Ku]
   ·by_cases h1:k=1
    ·subst h1
     cases l with
     | nil=>rw[G7] at h;simp at h
     | cons x ks =>
       rw[yZ] at h
       by_cases hx:x.k=2∧gX x.s.toList≠0
       ·rw[if_pos hx] at h
        by_cases hl:ks.length=gX x.s.toList
        ·rw[if_pos hl] at h
         by_cases hr:(eH ks).2.1=0
         ·obtain⟨g1,g2,g3,g4⟩:=G6 ks (fun t ht=>ih t (bG _ ht)) hr
          rw[yZ,if_pos hx,if_pos hl,if_pos hr]
          refine⟨?_,?_,.app x.s _ hx.2 (by rw[g4];exact hl) g3⟩
          ·rw[yY]
           obtain⟨xk,xs,xn,xl,xa⟩:=x
           simp only[T.k,T.s] at hx ⊢
           unfold ja
           rw[if_neg (by decide),if_neg (by decide),if_neg (by decide)]
           unfold xN ja
           rw[if_pos hx.1,g1]
          ·obtain⟨xk,xs,xn,xl,xa⟩:=x
           rw[yY]
           have:=Kv (s:=⟨#[]⟩) (n:=0) (a:=0) (x:=T.mk 2 xs 0 [] 0) (ks:=kV (eH ks).1) rfl hx.2 (by rw[sV,g4];exact hl) (by rw[g2])
           rw[g2] at this
           exact this
         ·rw[if_neg hr] at h
          exact absurd h hr
        ·rw[if_neg hl] at h
         simp at h
       ·rw[if_neg hx] at h
        simp at h
    ·rw[Kw h1 h2 h3 h4] at h
     simp at h)
theorem qC.ok {e:E} (h:qC e):gI e=true:=by
 induction h with
 | xH s h=>rw[gI,if_pos rfl,h];rfl
 | num n=>rw[gI,if_neg (by decide),if_pos rfl];kernel_rfl
 | str s=>rw[gI,if_neg (by decide),if_neg (by decide),if_pos rfl];rfl
 | app s l h0 hl hk ih =>
   rw[gI,if_neg (by decide),if_neg (by decide),if_neg (by decide),if_pos rfl,Ah l,List.all_eq_true.2 ih]
   have h1:decide (0<gX s.toList)=true:=decide_eq_true (by omega)
   rw[h1,hl]
   simp
theorem XJ:(Tryz.prog.info? 5).map (fun i=>(i.zero,i.size,i.bytes))=some (some (.int .u8 0),1,1):=by kernel_rfl
def XK (l:List UInt8):List Value:=l.map fun c=>.int .u8 c.toNat
theorem XL (l:List UInt8):(XK l).length=l.length:=by simp[XK]
theorem xP (a b:List UInt8):XK (a++b)=XK a++XK b:=by simp[XK]
def OwnB (B:Nat)(w:World)(v:Value)(l:List UInt8):Prop:=w.ownsRow B 5 1 v l.length (XK l)
theorem own_base {w:World} {B B' n:Nat} {e:TypeId} {z:Nat} {v:Value} {xs:List Value} (h:w.ownsRow B e z v n xs)(hB:B'≤B):w.ownsRow B' e z v n xs:=by
 rcases h with⟨h1,h2⟩
 refine⟨h1,?_⟩
 rcases h2 with h2|⟨g,cap,cur,rfl,h3,h4⟩
 ·exact .inl h2
 ·exact .inr ⟨g,cap,cur,rfl,by omega,h4⟩
theorem ownB_of {w:World} {B m:Nat} {v:Value} {xs:List Value} {l:List UInt8} (h:w.ownsRow B 5 1 v m xs)(hx:xs=XK l):OwnB B w v l:=by
 subst hx
 have h1:=h.1
 rw[XL,Nat.mul_one] at h1
 subst h1
 exact h
theorem UD {w:World} {B:Nat} {v:Value} {l:List UInt8} (h:OwnB B w v l):(convert 151 9 v).run Tryz.prog w=.ok (.string ⟨l.toArray⟩) w:=by
 unfold OwnB at h
 rcases id h.2 with⟨rfl,h0⟩|⟨g,cap,cur,rfl,_⟩
 ·have e0:l=[]:=bF h0
  subst e0
  rw[run_convert_bytes_nil (P:=Tryz.prog) w 151 5 Tryz.underlying151 Tryz.underlying5 _ _ 9 Tryz.underlying9]
  rfl
 ·exact run_convert_bytes_back (P:=Tryz.prog) w 151 9 5 ⟨g,0,none⟩ cap l Tryz.underlying151 Tryz.underlying5 Tryz.underlying9 (fun q hq=>h.cells rfl q _ (by simp[XK,hq]))
end Go.Proofs.YtjhkihkiebnpaaaGreatDoor
namespace Go.Proofs.YtjhkihkiebnpaaaGreatDoor
namespace dL
section
variable {P:Program} {ops:Array Oper} {Q:Exit→Act→World→Prop} {md:Region.Mode} {S:World→Prop} {Ks:List Nat}
def iw (P:Program)(md:Region.Mode)(ops:Array Oper)(Q:Exit→Act→World→Prop)(S:World→Prop)(Ks:List Nat):Nat→Array Bool→Act→World→Prop
 | 0,listed,a,w=>Region.ready md ops listed=[]∧Q .normal a w
 | fuel+1,listed,a,w =>
   (Region.ready md ops listed=[]→Q .normal a w) ∧
   ∀ i∈Region.ready md ops listed,wpOp P ops Q i (fun a' w'=>(i ∉ Ks→S w')∧iw P md ops Q S Ks fuel (listed.setIfInBounds i true) a' w') a w
theorem lZ:∀ (fuel:Nat)(listed:Array Bool)(a:Act)(w:World),iw P md ops Q S Ks fuel listed a w→wpAny P md ops Q fuel listed a w
 | 0,_,_,_,h=>h
 | fuel+1,_,_,_,h=>⟨h.1,fun i hi=>wpOp_mono (fun a' w' h'=>lZ fuel _ a' w' h'.2) (h.2 i hi)⟩
theorem tK {i:Nat} {oi:Oper} {v:Value} {C:List Nat} (hi:ops[i]?=some oi)(hsel:∀ (j:Nat)(o:Oper) cs b,ops[j]?=some o→o.op≠.select cs b)
 (hQ:∀ c a w,Q (.panic c) (a.put oi.dst v) w→Q (.panic c) a w)(hkC:∀ k∈Ks,k∈C)
 (hC:∀ c∈C,c≠i→∀ o,ops[c]?=some o→∃ e∈o.after,Region.binds md e=true∧e.on∈C) :
 ∀ (fuel:Nat)(listed:Array Bool)(a:Act)(w:World),
   (∀ j oj,ops[j]?=some oj→j≠i→listed.getD j true=false→(∀ e∈oj.after,Region.binds md e=true→e.on≠i)→oi.apart ops oj=true) →
   (∀ c∈C,listed.getD c true=false) →
   i∈Region.ready md ops listed→YieldsIf P ops S oi v a→S w →
   iw P md ops Q S Ks fuel (listed.setIfInBounds i true) (a.put oi.dst v) w→iw P md ops Q S Ks (fuel+1) listed a w:=by
 intro fuel
 induction fuel with
 | zero =>
   intro listed a w _ _ hr hy hS H
   refine⟨fun h=>(by rw[h] at hr;cases hr),fun j hj=>?_⟩
   by_cases hji:j=i
   ·subst hji;exact hy.wpOp hi hS ⟨fun _=>hS,H⟩
   ·have:=ready_mono hj hji
    rw[H.1] at this
    cases this
 | succ fuel ih =>
   intro listed a w hfree hun hr hy hS H
   refine⟨fun h=>(by rw[h] at hr;cases hr),fun j hj=>?_⟩
   by_cases hji:j=i
   ·subst hji;exact hy.wpOp hi hS ⟨fun _=>hS,H⟩
   ·have h1:=H.2 j (ready_mono hj hji)
    obtain⟨hjun,oj,hoj,hall⟩:=mem_ready.1 hj
    have hjC:j ∉ C:=fun hm=>by
     obtain⟨e,he,hb,heC⟩:=hC j hm hji oj hoj
     have t1:=hall e he hb
     have t2:=hun e.on heC
     rcases Nat.lt_or_ge e.on listed.size with h'|h'
     ·simp[h'] at t1 t2;rw[t1] at t2;cases t2
     ·simp[Array.getElem?_eq_none h'] at t1
    have hjk:j ∉ Ks:=fun e=>hjC (hkC j e)
    have hnot:∀ e∈oj.after,Region.binds md e=true→e.on≠i:=fun e he hb heq=>by
     have h1:=hall e he hb
     have h0:=(mem_ready.1 hr).1
     rw[heq] at h1
     rcases Nat.lt_or_ge i listed.size with h'|h'
     ·simp[h'] at h0 h1;rw[h0] at h1;cases h1
     ·simp[Array.getElem?_eq_none h'] at h1
    have h2:=wpOp_putIf hoj (hfree j oj hoj hji hjun hnot) (fun cs b=>hsel i oi cs b hi) (fun cs b=>hsel j oj cs b hoj) hQ hy h1
    have hfree':∀ k ok,ops[k]?=some ok→k≠i→(listed.setIfInBounds j true).getD k true=false →
     (∀ e∈ok.after,Region.binds md e=true→e.on≠i)→oi.apart ops ok=true:=fun k ok hk hki hun hno=>by
     refine hfree k ok hk hki ?_ hno
     by_cases hjk:j=k
     ·subst hjk;exact hjun
     ·rw[getD_set_ne true hjk] at hun;exact hun
    have hun':∀ c∈C,(listed.setIfInBounds j true).getD c true=false:=fun c hc=>by
     have hne:j≠c:=fun e=>hjC (by rw[e];exact hc)
     rw[getD_set_ne true hne];exact hun c hc
    refine wpOp_mono (fun a' w' h3=>⟨h3.2.1,ih (listed.setIfInBounds j true) a' w' hfree' hun' (ready_mono hr (Ne.symm hji)) h3.1 (h3.2.1 hjk) ?_⟩) h2
    rw[Array.setIfInBounds_comm _ _ hji]
    exact h3.2.2
def tN (md:Region.Mode)(ops:Array Oper)(listed:Array Bool)(C:List Nat)(i:Nat)(Ks:List Nat):Bool :=
 (Ks.all fun k=>C.contains k)&&C.all fun c=>(!(listed.getD c true))&&(Nat.beq c i || match ops[c]? with
   | some o=>o.after.any fun e=>Region.binds md e&&C.contains e.on
   | none=>true)
theorem dI {i:Nat} {oi:Oper} {v:Value} {C:List Nat} {fuel:Nat} {listed:Array Bool} {a:Act} {w:World} (hi:ops[i]?=some oi)
 (hs:Region.noSelect ops=true)(hf:Region.free md ops listed i=true)(hr:(Region.ready md ops listed).contains i=true)(hc:tN md ops listed C i Ks=true)
 (hQ:∀ c a w,Q (.panic c) (a.put oi.dst v) w→Q (.panic c) a w)(hy:YieldsIf P ops S oi v a)(hS:S w)
 (h:iw P md ops Q S Ks fuel (listed.setIfInBounds i true) (a.put oi.dst v) w):iw P md ops Q S Ks (fuel+1) listed a w:=by
 unfold tN at hc
 simp only[Bool.and_eq_true,List.all_eq_true,Bool.or_eq_true,Nat.beq_eq] at hc
 obtain⟨hk,hc⟩:=hc
 refine tK hi (Region.noSelect_spec hs) hQ (by simpa using hk) (fun c hm hne o ho=>?_) fuel listed a w (Region.free_spec hi hf) (fun c hm=>by have:=(hc c hm).1;simpa using this) (by simpa using hr) hy hS h
 rcases (hc c hm).2 with h'|h'
 ·exact absurd h' hne
 ·rw[ho] at h'
  simp only[Array.any_eq_true,Bool.and_eq_true] at h'
  obtain⟨n,hn,hb,hcn⟩:=h'
  exact⟨o.after[n],Array.getElem_mem hn,hb,by simpa using hcn⟩
theorem Gf {i:Nat} {oi:Oper} {v:Value} (hiK:i∈Ks)(hi:ops[i]?=some oi)(hsel:∀ (j:Nat)(o:Oper) cs b,ops[j]?=some o→o.op≠.select cs b)
 (hQ:∀ c a w,Q (.panic c) (a.put oi.dst v) w→Q (.panic c) a w) :
 ∀ (fuel:Nat)(listed:Array Bool)(a:Act)(w:World),
   (∀ j oj,ops[j]?=some oj→j≠i→listed.getD j true=false→(∀ e∈oj.after,Region.binds md e=true→e.on≠i)→oi.apart ops oj=true) →
   i∈Region.ready md ops listed→YieldsIf P ops (fun _=>True) oi v a →
   iw P md ops Q S Ks fuel (listed.setIfInBounds i true) (a.put oi.dst v) w→iw P md ops Q S Ks (fuel+1) listed a w:=by
 intro fuel
 induction fuel with
 | zero =>
   intro listed a w _ hr hy H
   refine⟨fun h=>(by rw[h] at hr;cases hr),fun j hj=>?_⟩
   by_cases hji:j=i
   ·subst hji;exact hy.wpOp hi trivial ⟨fun e=>absurd hiK e,H⟩
   ·have:=ready_mono hj hji
    rw[H.1] at this
    cases this
 | succ fuel ih =>
   intro listed a w hfree hr hy H
   refine⟨fun h=>(by rw[h] at hr;cases hr),fun j hj=>?_⟩
   by_cases hji:j=i
   ·subst hji;exact hy.wpOp hi trivial ⟨fun e=>absurd hiK e,H⟩
   ·have h1:=H.2 j (ready_mono hj hji)
    obtain⟨hjun,oj,hoj,hall⟩:=mem_ready.1 hj
    have hnot:∀ e∈oj.after,Region.binds md e=true→e.on≠i:=fun e he hb heq=>by
     have h1:=hall e he hb
     have h0:=(mem_ready.1 hr).1
     rw[heq] at h1
     rcases Nat.lt_or_ge i listed.size with h'|h'
     ·simp[h'] at h0 h1;rw[h0] at h1;cases h1
     ·simp[Array.getElem?_eq_none h'] at h1
    have h2:=wpOp_putIf hoj (hfree j oj hoj hji hjun hnot) (fun cs b=>hsel i oi cs b hi) (fun cs b=>hsel j oj cs b hoj) hQ hy h1
    have hfree':∀ k ok,ops[k]?=some ok→k≠i→(listed.setIfInBounds j true).getD k true=false →
     (∀ e∈ok.after,Region.binds md e=true→e.on≠i)→oi.apart ops ok=true:=fun k ok hk hki hun hno=>by
     refine hfree k ok hk hki ?_ hno
     by_cases hjk:j=k
     ·subst hjk;exact hjun
     ·rw[getD_set_ne true hjk] at hun;exact hun
    refine wpOp_mono (fun a' w' h3=>⟨h3.2.1,ih (listed.setIfInBounds j true) a' w' hfree' (ready_mono hr (Ne.symm hji)) h3.1 ?_⟩) h2
    rw[Array.setIfInBounds_comm _ _ hji]
    exact h3.2.2
theorem lJ {i:Nat} {oi:Oper} {v:Value} {fuel:Nat} {listed:Array Bool} {a:Act} {w:World} (hiK:i∈Ks)(hi:ops[i]?=some oi)
 (hs:Region.noSelect ops=true)(hf:Region.free md ops listed i=true)(hr:(Region.ready md ops listed).contains i=true)
 (hQ:∀ c a w,Q (.panic c) (a.put oi.dst v) w→Q (.panic c) a w)(hy:YieldsIf P ops (fun _=>True) oi v a)
 (h:iw P md ops Q S Ks fuel (listed.setIfInBounds i true) (a.put oi.dst v) w):iw P md ops Q S Ks (fuel+1) listed a w :=
 Gf hiK hi (Region.noSelect_spec hs) hQ fuel listed a w (Region.free_spec hi hf) (by simpa using hr) hy h
theorem RH {i:Nat} {oi:Oper} {v:Value} {C:List Nat} {fuel:Nat} {listed:Array Bool} {a:Act} {w:World} (hi:ops[i]?=some oi)
 (hb:(Region.noSelect ops&&(Region.free md ops listed i&&((Region.ready md ops listed).contains i&&tN md ops listed C i Ks)))=true)
 (hQ:∀ c a w,Q (.panic c) (a.put oi.dst v) w→Q (.panic c) a w)(hy:YieldsIf P ops S oi v a)(hS:S w)
 (h:iw P md ops Q S Ks fuel (listed.setIfInBounds i true) (a.put oi.dst v) w):iw P md ops Q S Ks (fuel+1) listed a w:=by
 simp only[Bool.and_eq_true] at hb
 exact dI hi hb.1 hb.2.1 hb.2.2.1 hb.2.2.2 hQ hy hS h
def dJ (P:Program)(md:Region.Mode)(ops:Array Oper)(Q:Exit→Act→World→Prop)(S:World→Prop)(Ks:List Nat)(fuel:Nat)(listed:Array Bool)(a:Act)(w:World)(rs:List Nat):Prop :=
 ∀ i∈rs,wpOp P ops Q i (fun a' w'=>(i ∉ Ks→S w')∧iw P md ops Q S Ks fuel (listed.setIfInBounds i true) a' w') a w
theorem dJ.nil {fuel:Nat} {listed:Array Bool} {a:Act} {w:World}:dJ P md ops Q S Ks fuel listed a w []:=fun _ h=>by cases h
theorem dJ.cons {fuel:Nat} {listed:Array Bool} {a:Act} {w:World} {i:Nat} {o:Oper} {rs:List Nat} (ho:ops[i]?=some o)
 (h:∀ K':Act→World→Prop,Shut (∀ a w,S w→(S w→iw P md ops Q S Ks fuel (listed.setIfInBounds i true) a w)→K' a w)→if Region.wanted o (yielded ops a.tmps)=true then Oper.wp P o a w K' Q else K' (a.put o.dst undef) w)
 (hs:dJ P md ops Q S Ks fuel listed a w rs):dJ P md ops Q S Ks fuel listed a w (i::rs):=fun j hj=>by
 rcases bZ.1 hj with rfl|hj
 ·exact wpOp_step ho (fun K' hK=>h K' (fun a w hS hW=>hK a w ⟨fun _=>hS,hW hS⟩))
 ·exact hs j hj
theorem dJ.late {fuel:Nat} {listed:Array Bool} {a:Act} {w:World} {i:Nat} {o:Oper} {rs:List Nat} (hi:i∈Ks)(ho:ops[i]?=some o)
 (h:∀ K':Act→World→Prop,Shut (∀ a w,iw P md ops Q S Ks fuel (listed.setIfInBounds i true) a w→K' a w)→if Region.wanted o (yielded ops a.tmps)=true then Oper.wp P o a w K' Q else K' (a.put o.dst undef) w)
 (hs:dJ P md ops Q S Ks fuel listed a w rs):dJ P md ops Q S Ks fuel listed a w (i::rs):=fun j hj=>by
 rcases bZ.1 hj with rfl|hj
 ·exact wpOp_step ho (fun K' hK=>h K' (fun a w hW=>hK a w ⟨fun e=>absurd hi e,hW⟩))
 ·exact hs j hj
theorem dM {rs:List Nat} {fuel:Nat} {listed:Array Bool} {a:Act} {w:World} (hr:Region.ready md ops listed=rs)(hne:rs≠[])
 (h:dJ P md ops Q S Ks fuel listed a w rs):iw P md ops Q S Ks (fuel+1) listed a w:=⟨fun h0=>absurd (hr ▸ h0) hne,hr ▸ h⟩
theorem gW {listed:Array Bool} {a:Act} {w:World} (hr:Region.ready md ops listed=[])(h:Q .normal a w) :
 ∀ fuel,iw P md ops Q S Ks fuel listed a w
 | 0=>⟨hr,h⟩
 | _+1=>⟨fun _=>h,by rw[hr];simp⟩
theorem iP {id:Nat} {a:Act} {w:World} (S:World→Prop)(Ks:List Nat)(hm:P.follows .mixedOrders=true)(hS:S w.drew)
 (h:S w.drew→iw P .any ops Q S Ks ops.size (Array.replicate ops.size false) a w.drew):(Code.region id ops true).wp P Q a w :=
 wp_region_any hm (lZ _ _ _ _ (h hS))
end
end dL
end Go.Proofs.YtjhkihkiebnpaaaGreatDoor
