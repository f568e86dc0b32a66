/-
  Values, rows and columns as they lie in memory; what stays of them while the world grows. No program in sight.
-/
import Derived.WalkKit
import Derived.WalkSpells
import Derived.Lib.Hide
import Derived.Deep.Draws
import Derived.RegionTactic
import Derived.Test.YtjhkihkiebnpaaaGreatDoorRows
import Derived.WalkLawsBesides
import Derived.Deep.QuietTactic
import Derived.BigQuiet
import Derived.Deep.RegionHeld3
import Derived.Deep.AppendLies
import Derived.ChangeAlike
import Derived.Deep.DeepCutAuto
set_option linter.unusedVariables false
set_option linter.unusedSimpArgs false
set_option maxRecDepth 100000
set_option maxHeartbeats 40000000
namespace Go.Proofs.YtjhkihkiebnpaaaGreatDoor
open Go.RowKit
universe u
theorem anc {p:Prop} (h:p):Hid p:=Lib.hid h
theorem ane {α:Type u} {xs:List α} {i:Nat} (h:i<xs.toArray.size):xs.toArray[i]=xs[i]'(by simpa using h):=rfl
theorem anf {α:Type u} {a:α} {bs:List α} (h:0<(a::bs).length):(a::bs)[0]=a:=rfl
theorem ang {α:Type u} {a:α} {bs:List α} {i:Nat} (h:i+1<(a::bs).length):(a::bs)[i+1]=bs[i]'(Nat.lt_of_succ_lt_succ h):=rfl
theorem anh {α:Type u} (l:List α) (i:Nat) (a:α):l.toArray.setIfInBounds i a=(l.set i a).toArray:=List.setIfInBounds_toArray l i a
theorem ani {α:Type u} {x:α} {xs:List α} {a:α}:(x::xs).set 0 a=a::xs:=rfl
theorem anj {α:Type u} {x:α} {xs:List α} {i:Nat} {a:α}:(x::xs).set (i+1) a=x::xs.set i a:=rfl
abbrev ank:=@Nat.le_refl
abbrev anl:=@Below.refl
abbrev anm:=@heap_alloc_new
abbrev ann:=@Below.heap_setCell
abbrev ano:=@bodyPost_ret
abbrev anp:=@Nat.lt_of_lt_of_le
abbrev anq:=@List.mem_of_getElem?.{u}
abbrev anr:=@List.getElem?_eq_getElem.{u}
abbrev ant:=@Below.heap_alloc
abbrev anu:=@Nat.lt_of_lt_of_eq
abbrev anv:=@Nat.le_trans
abbrev anw:=@World.cell?_of_block
structure V where
 k:Int
 n:Int
 s:ByteArray
structure C where
 nm:ByteArray
 k:Int
def V.okB (v:V):Bool:=(v.k == 1 && v.s.toList.isEmpty) || (v.k == 2 && (v.n == 0 && decide ((v.s.size:Int)≤40)))
def Rn (w:World)(b off:Nat)(l:List C):Prop:=∀ i c,l[i]?=some c →
 w.cell? ⟨b,off+i * 2,none⟩=some (.string c.nm)∧w.cell? ⟨b,off+i * 2+1,none⟩=some (.int .i64 c.k)
def kG (w:World)(B:Nat)(A:Option Addr)(l:List C):Prop:=l=[]∨∃ b off,A=some ⟨b,off,none⟩∧b < B∧Rn w b off l
section
variable {w w':World} {B B' b off:Nat} {A:Option Addr} {l:List V} {m:List C}
theorem Rn.below (h:Rn w b off m)(hb:Below B w w')(hB:b < B):Rn w' b off m:=fun i v hv=>by
 obtain ⟨h1,h2⟩:=h i v hv
 exact ⟨(hb.cell hB).trans h1,(hb.cell hB).trans h2⟩
theorem kG.below (h:kG w B A m)(hb:Below B w w'):kG w' B A m:=by
 rcases h with h | ⟨b,off,hA,hB,h⟩
 ·exact .inl h
 ·exact .inr ⟨b,off,hA,hB,h.below hb hB⟩
theorem kG.more (h:kG w B A m)(hB:B≤B'):kG w B' A m:=by
 rcases h with h | ⟨b,off,hA,hb,h⟩
 ·exact .inl h
 ·exact .inr ⟨b,off,hA,by omega,h⟩
end
theorem below_drewN {B:Nat} {a w:World} (h:Below B a w)(n:Nat):Below B a (w.drewN n):=⟨h.os,h.tape,h.output,h.size,h.block⟩
section
variable {P:Program} {md:Region.Mode} {ops:Array Oper} {Q:Exit→Act→World→Prop}
end
theorem zM (k n:Int)(s:ByteArray)(w:World) :
 Calls Tryz.prog 111 #[.agg #[.int .i64 k,.int .i64 n,.string s]] w fun e w' =>
  e=.returned (.bool (V.okB ⟨k,n,s⟩))∧w.alloc (.cells #[.int .i64 k,.int .i64 n,.string s] 114)=w':=by
 by_cases h1:(k == 1)=true
 ·have hr:V.okB ⟨k,n,s⟩=s.toList.isEmpty:=by
   have:(k == 2)=false:=by simp at h1 ⊢;omega
   simp [V.okB,h1,this]
  rw [hr]
  clear hr
  go_enter Tryz.func111,Tryz.ntmps111
  go_wp2
  go_ret
  exact ⟨rfl,rfl⟩
 ·have h1':(k == 1)=false:=by simpa using h1
  clear h1
  by_cases h2:(k == 2)=true
  ·by_cases h3:n=0
   ·subst h3
    have hr:V.okB ⟨k,0,s⟩=decide ((s.size:Int)≤40):=by simp [V.okB,h1',h2]
    rw [hr]
    clear hr
    go_enter Tryz.func111,Tryz.ntmps111
    go_wp2
    go_ret
    exact ⟨rfl,rfl⟩
   ·have hr:V.okB ⟨k,n,s⟩=false:=by simp [V.okB,h1',h3]
    rw [hr]
    clear hr
    go_enter Tryz.func111,Tryz.ntmps111
    go_wp2
    go_ret
    exact ⟨rfl,rfl⟩
  ·have h2':(k == 2)=false:=by simpa using h2
   clear h2
   have hr:V.okB ⟨k,n,s⟩=false:=by simp [V.okB,h1',h2']
   rw [hr]
   clear hr
   go_enter Tryz.func111,Tryz.ntmps111
   go_wp2
   go_ret
   exact ⟨rfl,rfl⟩
def idx {α:Type} (p:α→Bool):List α→Nat→Int
 | [],_=>-1
 | x :: l,k=>if p x then (k:Int) else idx p l (k+1)
theorem kH {α:Type} {p:α→Bool} {l:List α} {k:Nat} {x:α} (h:l[k]?=some x):idx p (l.drop k) k=if p x then (k:Int) else idx p (l.drop (k+1)) (k+1):=by
 obtain ⟨h1,e1⟩:=List.getElem?_eq_some_iff.1 h
 rw [List.drop_eq_getElem_cons h1,e1]
 rfl
theorem YQ {α:Type} (p:α→Bool)(l:List α):∀ k:Nat,-1≤idx p l k∧idx p l k < k+l.length∧(idx p l k=-1∨(k:Int)≤idx p l k):=by
 induction l with
 | nil=>intro k;simp [idx];omega
 | cons x l ih =>
   intro k
   unfold idx
   have:=ih (k+1)
   split
   ·simp;omega
   ·simp only [List.length_cons];omega
def C.mO (nm:ByteArray)(c:C):Bool:=c.nm.toList == nm.toList
theorem F6 (cn:ByteArray)(ck:Int)(nm:ByteArray)(p:Addr)(w:World)(h0:w.cell? p=some (.string nm)) :
 Calls Tryz.prog 28 #[.agg #[.string cn,.int .i64 ck],.pointer (some p)] w fun e w'=>e=.returned (.bool (C.mO nm ⟨cn,ck⟩))∧w.alloc (.cells #[.string cn,.int .i64 ck] 42)=w':=by
 have hp:=block_lt_of_cell h0
 go_enter Tryz.func28,Tryz.ntmps28
 go_wp2
 go_ret
 exact ⟨rfl,rfl⟩
theorem ve (b o:Nat)(n c:Nat)(l:List C)(hl:l.length=n)(hn:n≤9223372036854775807)(nm:ByteArray)(pb po:Nat)(w:World)(hb:b < w.heap.size)(hL:Rn w b o l)
 (h0:w.cell? ⟨pb,po,none⟩=some (.string nm)) :
 Calls Tryz.prog 27 #[.slice (some ⟨b,o,none⟩) n c,.func (.func 28) #[] #[.pointer (some ⟨pb,po,none⟩)]] w fun e w' =>
  e=.returned (.int .i64 (idx (C.mO nm) l 0))∧Below w.heap.size w w':=by
 have HL:=anc hL
 have Hl:=anc hl
 have hp:=block_lt_of_cell h0
 have H0:=anc h0
 clear hL hl h0
 go_enter Tryz.func27,Tryz.ntmps27
 go_wp2_with fail
 go_loopw [8] (fun i wr=>∃ k:Nat,k≤n∧i=.int .i64 k∧Below w.heap.size w wr∧Hid (idx (C.mO nm) l 0=idx (C.mO nm) (l.drop k) k)) (fun i _=>n - (intOf i).toNat)
 case atStart=>exact ⟨0,Nat.zero_le _,rfl,anl _ _,rfl⟩
 case round =>
  obtain ⟨k,hk,rfl,hbl,hz⟩:=hrel
  by_cases hlt:k < n
  ·obtain ⟨cc,hc⟩:∃ c,l[k]?=some c:=⟨_,anr (by rw [Hl.out];exact hlt)⟩
   have hst:=anc (hz.out.trans (kH (p:=C.mO nm) hc))
   obtain ⟨c1,c2⟩:=HL.out.below hbl hb k cc hc
   clear hc hz
   obtain ⟨cn,ck⟩:=cc
   have hs:=hbl.size
   have hcl:=anc (F6 cn ck nm ⟨pb,po,none⟩ wr ((hbl.cell hp).trans H0.out))
   by_cases he:C.mO nm ⟨cn,ck⟩=true
   ·rw [he] at hcl
    rw [if_pos he] at hst
    clear he
    go_wp2_with fail
    refine (hcl.out).mono ?_
    rintro e w' ⟨rfl,rfl⟩
    go_wp2_with fail
    go_ret
    exact ⟨by rw [hst.out];rfl,hbl.alloc hs _⟩
   ·have he':C.mO nm ⟨cn,ck⟩=false:=by simpa using he
    rw [he'] at hcl
    rw [if_neg he] at hst
    clear he he'
    go_wp2_with fail
    refine (hcl.out).mono ?_
    rintro e w' ⟨rfl,rfl⟩
    go_wp2_with fail
    go_roundw
    case rel=>exact ⟨k+1,by omega,by go_num,hbl.alloc hs _,hst⟩
    case measure=>simp [intOf];omega
  ·go_wp2_with fail
   go_ret
   have e:k=n:=by omega
   subst e
   exact ⟨by rw [hz.out,List.drop_of_length_le (by rw [Hl.out];omega)];rfl,hbl⟩
theorem DY (A:Option Addr)(c:Nat)(l:List C)(hn:l.length≤9223372036854775807)(nm:ByteArray)(pb po:Nat)(w:World)(hA:kG w w.heap.size A l)
 (h0:w.cell? ⟨pb,po,none⟩=some (.string nm)) :
 Calls Tryz.prog 27 #[.slice A l.length c,.func (.func 28) #[] #[.pointer (some ⟨pb,po,none⟩)]] w fun e w' =>
  e=.returned (.int .i64 (idx (C.mO nm) l 0))∧Below w.heap.size w w':=by
 rcases hA with rfl | ⟨b,o,rfl,hb,hL⟩
 ·clear h0
  go_enter Tryz.func27,Tryz.ntmps27
  go_wp2
  refine wp_loop_rounds 1 ?_
  rw [rounds_succ]
  go_wp2
  go_ret
  exact ⟨rfl,anl _ _⟩
 ·exact ve b o l.length c l rfl hn nm pb po w hb hL h0
def dL (l:List C)(nm:ByteArray):Int:=if 0≤idx (C.mO nm) l 0 then idx (C.mO nm) l 0 else 0
def df (l:List C)(nm:ByteArray):Bool:=decide (0≤idx (C.mO nm) l 0)
theorem oP (A:Option Addr)(c:Nat)(l:List C)(hn:l.length≤9223372036854775807)(nm:ByteArray)(w:World)(hA:kG w w.heap.size A l) :
 Calls Tryz.prog 13 #[.slice A l.length c,.string nm] w fun e w' =>
  e=.returned (.tuple #[.int .i64 (dL l nm),.bool (df l nm)])∧Below w.heap.size w w':=by
 have hb0:Below w.heap.size w (w.alloc (.cells #[.string nm] 9)):=(anl _ _).alloc (ank _) _
 have hc:=anc (DY A c l hn nm w.heap.size 0 (w.alloc (.cells #[.string nm] 9)) ((hA.below hb0).more (by simp)) (by simp))
 obtain ⟨b1,b2,b3⟩:=YQ (C.mO nm) l 0
 unfold dL df
 clear hA
 generalize idx (C.mO nm) l 0=r at *
 by_cases hr:0≤r
 ·rw [if_pos hr,decide_eq_true hr]
  go_enter Tryz.func13,Tryz.ntmps13
  go_wp2_with fail
  refine (hc.out).mono ?_
  rintro e w' ⟨rfl,hb⟩
  have hb2:=hb0.trans (hb.mono (by simp))
  clear hb hb0
  go_wp2_with fail
  go_ret2
  exact ⟨rfl,hb2⟩
 ·obtain rfl:r=-1:=by omega
  rw [if_neg hr,decide_eq_false hr]
  clear hr b1 b2 b3
  go_enter Tryz.func13,Tryz.ntmps13
  go_wp2_with fail
  refine (hc.out).mono ?_
  rintro e w' ⟨rfl,hb⟩
  have hb2:=hb0.trans (hb.mono (by simp))
  clear hb hb0
  go_wp2_with fail
  go_ret2
  exact ⟨rfl,hb2⟩
def eH:List (List UInt8):=[[116,97,98,108,101],[102,105,108,116,101,114],[112,114,111,106,101,99,116],[106,111,105,110],[117,110,105,111,110],[100,105,115,116,105,110,99,116],[103,114,111,117,112],[99,111,117,110,116],[115,117,109],[109,105,110],[109,97,120],[97,100,100],[115,117,98],[109,117,108],[110,101,103],[101,113],[108,116],[97,110,100],[111,114],[110,111,116],[99,97,116],[108,101,110],[105,102]]
def yI (s:ByteArray):Bool:=eH.any fun x=>s.toList == x
theorem any_false {α:Type} {l:List α} {p:α→Bool} (h:l.any p=false):∀ x ∈ l,p x=false:=by
 simpa [List.any_eq_false] using h
theorem wJ (s:ByteArray)(w:World):Calls Tryz.prog 52 #[.string s] w fun e w'=>e=.returned (.bool (yI s))∧w=w':=by
 by_cases h:yI s=true
 ·rw [h]
  obtain ⟨x,hx,e⟩:=List.any_eq_true.1 h
  have hs:s.toList=x:=by simpa using e
  clear h e
  subst hs
  simp only [eH,List.mem_cons,List.not_mem_nil,or_false] at hx
  rcases hx with hx | hx | hx | hx | hx | hx | hx | hx | hx | hx | hx | hx | hx | hx | hx | hx | hx | hx | hx | hx | hx | hx | hx
  all_goals
   go_enter Tryz.func52,Tryz.ntmps52
   go_wp2
   go_ret
   exact ⟨rfl,rfl⟩
 ·have h':yI s=false:=by simpa using h
  rw [h']
  have hn:=any_false h'
  clear h h'
  simp only [eH,List.mem_cons,List.not_mem_nil,or_false,forall_eq_or_imp,forall_eq] at hn
  obtain ⟨h0,h1,h2,h3,h4,h5,h6,h7,h8,h9,h10,h11,h12,h13,h14,h15,h16,h17,h18,h19,h20,h21,h22⟩:=hn
  go_enter Tryz.func52,Tryz.ntmps52
  go_wp2
  go_ret
  exact ⟨rfl,rfl⟩
def ru (l:List UInt8):Bool:=l.all fun c=>decide (97≤(c.toNat:Int)) && decide ((c.toNat:Int)≤122)
theorem Ey (s:ByteArray)(k:Nat)(h:k < s.size):ru (s.data.toList.drop k)=((decide (97≤(s[k].toNat:Int)) && decide ((s[k].toNat:Int)≤122)) && ru (s.data.toList.drop (k+1))):=by
 rw [List.drop_eq_getElem_cons (by simpa using h)]
 rfl
def nameB (s:ByteArray):Bool:=((!s.toList.isEmpty && decide (s.size≤12)) && !yI s) && ru s.data.toList
theorem OY (s:ByteArray)(w:World)(h1:s.toList.isEmpty=false)(h2:s.size≤12)(h3:yI s=false) :
 Calls Tryz.prog 26 #[.string s] w fun e w'=>e=.returned (.bool (ru s.data.toList))∧w=w':=by
 have HR:=anc (wJ s)
 rw [h3] at HR
 clear h3
 have hd:decide (12 < (s.size:Int))=false:=by simp;omega
 go_enter Tryz.func26,Tryz.ntmps26
 go_wp2_with fail
 refine (HR.out _).mono ?_
 rintro e w' ⟨rfl,rfl⟩
 go_wp2_with fail
 go_loop [17] (fun i=>∃ k:Nat,k≤s.size∧i=.int .i64 k∧Hid (ru s.data.toList=ru (s.data.toList.drop k))) (fun i=>s.size - (intOf i).toNat)
 case atStart=>exact ⟨0,Nat.zero_le _,rfl,rfl⟩
 case round =>
  obtain ⟨k,hk,rfl,hz⟩:=hrel
  by_cases hlt:k < s.size
  ·have hst:=anc (hz.out.trans (Ey s k hlt))
   clear hz
   by_cases a1:97≤(s[k].toNat:Int)
   ·by_cases a2:(s[k].toNat:Int)≤122
    ·rw [decide_eq_true a1,decide_eq_true a2] at hst
     have hst':Hid (ru s.data.toList=ru (s.data.toList.drop (k+1))):=by
      have:=hst.out;rwa [Bool.and_self,Bool.true_and] at this
     clear hst
     go_wp2_with fail
     go_round
     case rel=>exact ⟨k+1,by omega,by go_num,hst'⟩
     case measure=>simp [intOf];omega
    ·have hst':Hid (ru s.data.toList=false):=by
      have:=hst.out;rwa [decide_eq_false a2,Bool.and_false,Bool.false_and] at this
     clear hst
     go_wp2_with fail
     go_ret
     exact ⟨by rw [hst'.out];rfl,rfl⟩
   ·have hst':Hid (ru s.data.toList=false):=by
     have:=hst.out;rwa [decide_eq_false a1,Bool.false_and,Bool.false_and] at this
    clear hst
    go_wp2_with fail
    go_ret
    exact ⟨by rw [hst'.out];rfl,rfl⟩
  ·go_wp2_with fail
   go_ret
   have e:k=s.size:=by omega
   subst e
   exact ⟨by rw [hz.out,List.drop_of_length_le (by simp)];rfl,rfl⟩
theorem name_any (s:ByteArray)(w:World):Calls Tryz.prog 26 #[.string s] w fun e w'=>e=.returned (.bool (nameB s))∧w=w':=by
 by_cases h1:s.toList.isEmpty=true
 ·have e0:nameB s=false:=by simp [nameB,h1]
  rw [e0]
  clear e0
  go_enter Tryz.func26,Tryz.ntmps26
  go_wp2
  go_ret
  exact ⟨rfl,rfl⟩
 ·have h1':s.toList.isEmpty=false:=by simpa using h1
  clear h1
  by_cases h2:s.size≤12
  ·by_cases h3:yI s=true
   ·have e0:nameB s=false:=by simp [nameB,h3]
    rw [e0]
    have HR:=anc (wJ s)
    rw [h3] at HR
    clear h3 e0
    go_enter Tryz.func26,Tryz.ntmps26
    go_wp2_with fail
    refine (HR.out _).mono ?_
    rintro e w' ⟨rfl,rfl⟩
    go_wp2_with fail
    go_ret
    exact ⟨rfl,rfl⟩
   ·have h3':yI s=false:=by simpa using h3
    have e0:nameB s=ru s.data.toList:=by simp [nameB,h1',h2,h3']
    rw [e0]
    exact OY s w h1' h2 h3'
  ·have e0:nameB s=false:=by simp [nameB,h2]
   rw [e0]
   clear e0
   go_enter Tryz.func26,Tryz.ntmps26
   go_wp2
   go_ret
   exact ⟨rfl,rfl⟩
def jY (k:Int):Bool:=k == 1 || k == 2
def dh (pre:List C):List C→Int
 | []=>0
 | c :: r=>if (!(nameB c.nm)) || !(jY c.k) then 20 else if df pre c.nm then 21 else dh (pre ++ [c]) r
theorem Ik {l:List C} {k:Nat} {c:C} (h:l[k]?=some c) :
 dh (l.take k) (l.drop k)=if (!(nameB c.nm)) || !(jY c.k) then 20 else if df (l.take k) c.nm then 21 else dh (l.take (k+1)) (l.drop (k+1)):=by
 obtain ⟨h1,e1⟩:=List.getElem?_eq_some_iff.1 h
 rw [List.drop_eq_getElem_cons h1,e1,List.take_succ_eq_append_getElem h1,e1]
 rfl
def fK (l:List C):Int:=if decide (l.length=0) || decide (6 < l.length) then 23 else dh [] l
theorem Rn.take {w:World} {b o:Nat} {l:List C} (h:Rn w b o l)(k:Nat):Rn w b o (l.take k):=fun i c hc=>h i c (by
 rw [List.getElem?_take] at hc
 split at hc
 ·exact hc
 ·cases hc)
theorem F7 (b o n c:Nat)(l:List C)(hl:l.length=n)(hn:n≤6)(hnc:n≤c)(hp:0 < n)(w:World)(hb:b < w.heap.size)(hL:Rn w b o l) :
 Calls Tryz.prog 11 #[.slice (some ⟨b,o,none⟩) n c] w fun e w'=>e=.returned (.int .i64 (dh [] l))∧Below w.heap.size w w':=by
 have HL:=anc hL
 have Hl:=anc hl
 clear hL hl
 have hg:((n:Int) == 0)=false:=by simp;omega
 have hd:decide (6 < (n:Int))=false:=by simp;omega
 go_enter Tryz.func11,Tryz.ntmps11
 go_wp2_with fail
 go_loopw [17] (fun i wr=>∃ k:Nat,k≤n∧i=.int .i64 k∧Below w.heap.size w wr∧Hid (dh [] l=dh (l.take k) (l.drop k))) (fun i _=>n - (intOf i).toNat)
 case atStart=>exact ⟨0,Nat.zero_le _,rfl,anl _ _,rfl⟩
 case round =>
  obtain ⟨k,hk,rfl,hbl,hz⟩:=hrel
  have hs:=hbl.size
  by_cases hlt:k < n
  ·obtain ⟨cc,hc⟩:∃ c,l[k]?=some c:=⟨_,anr (by rw [Hl.out];exact hlt)⟩
   have hst:=anc (hz.out.trans (Ik hc))
   obtain ⟨c1,c2⟩:=HL.out.below hbl hb k cc hc
   clear hc hz
   obtain ⟨cn,ck⟩:=cc
   have hname:=anc (name_any cn)
   have HB:=anc (hbl.alloc hs (.cells #[.string cn,.int .i64 ck] 42))
   have hfind:Hid (∀ w1,Below w.heap.size w w1→Calls Tryz.prog 13 #[.slice (some ⟨b,o,none⟩) k c,.string cn] w1 fun e w' =>
    e=.returned (.tuple #[.int .i64 (dL (l.take k) cn),.bool (df (l.take k) cn)])∧Below w1.heap.size w1 w'):=anc fun w1 hw1=>by
    have:=oP (some ⟨b,o,none⟩) c (l.take k) (by simp;omega) cn w1 (.inr ⟨b,o,rfl,by have:=hw1.size;omega,(HL.out.below hw1 hb).take k⟩)
    rwa [List.length_take_of_le (by rw [Hl.out];omega)] at this
   by_cases hnm:nameB cn=true
   ·by_cases hkd:jY ck=true
    ·rw [hnm] at hname
     have hst':Hid (dh [] l=if df (l.take k) cn then 21 else dh (l.take (k+1)) (l.drop (k+1))):=anc (by rw [hst.out,if_neg (by simp [hnm,hkd])])
     clear hst
     have hcases:ck=1∨ck=2:=by
      unfold jY at hkd
      simpa using hkd
     have hk0:(0:Int)≤(k:Int):=by omega
     have hk1:(k:Int)≤(c:Int):=by omega
     clear hkd hnm
     generalize dL (l.take k) cn=fn at *
     by_cases hfb:df (l.take k) cn=true
     ·rw [hfb] at hfind
      have hst2:Hid (dh [] l=21):=anc (by rw [hst'.out,if_pos hfb])
      clear hst' hfb
      rcases hcases with rfl | rfl
      all_goals
       go_wp2_with fail
       refine (hname.out _).mono ?_
       rintro e w' ⟨rfl,rfl⟩
       go_wp2_with fail
       go_region_held3 (fun w'=>w'.cell? ⟨wr.heap.size,0,none⟩=some (.string cn)) (first | go_keep | (exact (hb3.cell (by simp)).trans (by simp)))
        (first | (go_at_call 13;refine (hfind.out _ HB.out.drew).mono ?_;rintro e w3 ⟨rfl,hb3⟩))
       have HB3:=anc (HB.out.drew.trans (hb3.mono (by simp;omega)))
       clear hb3
       go_wp2_with fail
       go_ret
       exact ⟨by rw [hst2.out];rfl,HB3.out⟩
     ·have abB:df (l.take k) cn=false:=by simpa using hfb
      rw [abB] at hfind
      have hst2:Hid (dh [] l=dh (l.take (k+1)) (l.drop (k+1))):=anc (by rw [hst'.out,if_neg hfb])
      clear hst' hfb abB
      rcases hcases with rfl | rfl
      all_goals
       go_wp2_with fail
       refine (hname.out _).mono ?_
       rintro e w' ⟨rfl,rfl⟩
       go_wp2_with fail
       go_region_held3 (fun w'=>w'.cell? ⟨wr.heap.size,0,none⟩=some (.string cn)) (first | go_keep | (exact (hb3.cell (by simp)).trans (by simp)))
        (first | (go_at_call 13;refine (hfind.out _ HB.out.drew).mono ?_;rintro e w3 ⟨rfl,hb3⟩))
       have hb4:=HB.out.drew.trans (hb3.mono (by simp;omega))
       clear hb3
       go_wp2_with fail
       go_roundw
       case rel=>exact ⟨k+1,by omega,by go_num,hb4,hst2⟩
       case measure=>simp [intOf];omega
    ·rw [hnm] at hname
     have hst':Hid (dh [] l=20):=anc (by rw [hst.out,if_pos (by simp [hkd])])
     have h1:(ck != 1)=true:=by unfold jY at hkd;simp at hkd ⊢;omega
     have h2:(ck != 2)=true:=by unfold jY at hkd;simp at hkd ⊢;omega
     clear hst hkd hnm hfind
     go_wp2_with fail
     refine (hname.out _).mono ?_
     rintro e w' ⟨rfl,rfl⟩
     go_wp2_with fail
     go_ret
     exact ⟨by rw [hst'.out];rfl,HB.out⟩
   ·have hnm':nameB cn=false:=by simpa using hnm
    rw [hnm'] at hname
    have hst':Hid (dh [] l=20):=anc (by rw [hst.out,if_pos (by simp [hnm'])])
    clear hst hnm hnm' hfind
    go_wp2_with fail
    refine (hname.out _).mono ?_
    rintro e w' ⟨rfl,rfl⟩
    go_wp2_with fail
    go_ret
    exact ⟨by rw [hst'.out];rfl,HB.out⟩
  ·have hst:Hid (dh [] l=0):=anc (by rw [hz.out,List.drop_of_length_le (by rw [Hl.out];omega)];rfl)
   clear hz
   go_wp2_with fail
   go_ret
   exact ⟨by rw [hst.out];rfl,hbl⟩
theorem zN (A:Option Addr)(c:Nat)(l:List C)(hl:l.length≤9223372036854775807)(hc:l.length≤c)(w:World)(hA:kG w w.heap.size A l) :
 Calls Tryz.prog 11 #[.slice A l.length c] w fun e w'=>e=.returned (.int .i64 (fK l))∧Below w.heap.size w w':=by
 by_cases h0:l.length=0
 ·have e0:fK l=23:=by simp [fK,h0]
  rw [e0,h0]
  clear hA h0 e0
  go_enter Tryz.func11,Tryz.ntmps11
  go_wp2
  go_ret
  exact ⟨rfl,anl _ _⟩
 ·by_cases h6:6 < l.length
  ·have e0:fK l=23:=by simp [fK,h6]
   have hg:((l.length:Int) == 0)=false:=by simp;intro h;subst h;simp at h0
   rw [e0]
   clear hA h0 e0
   generalize l.length=n at *
   go_enter Tryz.func11,Tryz.ntmps11
   go_wp2
   go_ret
   exact ⟨rfl,anl _ _⟩
  ·have e0:fK l=dh [] l:=by unfold fK;rw [if_neg];simp [h0,h6]
   rw [e0]
   rcases hA with rfl | ⟨b,o,rfl,hb,hL⟩
   ·exact absurd rfl h0
   ·exact F7 b o l.length c l rfl (by omega) hc (by omega) w hb hL
def gV (w:World)(S:Nat→Prop)(A:Option Addr)(l:List C):Prop:=l=[]∨∃ b off,A=some ⟨b,off,none⟩∧S b∧Rn w b off l
section
variable {w w':World} {S S':Nat→Prop} {B b off:Nat} {A:Option Addr} {m:List C}
theorem gV.kept (h:gV w S A m)(hk:∀ k,S k→w'.heap[k]?=w.heap[k]?):gV w' S A m:=by
 rcases h with h | ⟨b,o,hA,hS,h⟩
 ·exact .inl h
 ·refine .inr ⟨b,o,hA,hS,fun i c hc=>?_⟩
  have hcc:∀ o,w'.cell? ⟨b,o,none⟩=w.cell? ⟨b,o,none⟩:=fun o=>anw (hk b hS)
  obtain ⟨h1,h2⟩:=h i c hc
  exact ⟨(hcc _).trans h1,(hcc _).trans h2⟩
theorem gV.mono (h:gV w S A m)(hS:∀ k,S k→S' k):gV w S' A m:=by
 rcases h with h | ⟨b,o,hA,hb,h⟩
 ·exact .inl h
 ·exact .inr ⟨b,o,hA,hS b hb,h⟩
theorem gV.to (h:gV w S A m)(hS:∀ k,S k→k < B):kG w B A m:=by
 rcases h with h | ⟨b,o,hA,hb,h⟩
 ·exact .inl h
 ·exact .inr ⟨b,o,hA,hS b hb,h⟩
end
structure DM where
 nm:ByteArray
 cA:Option Addr
 cc:Nat
 cols:List C
def DM.key (t:DM):ByteArray×List C:=(t.nm,t.cols)
def DAt (w:World)(b off:Nat)(l:List DM):Prop:=∀ i t,l[i]?=some t→w.cell? ⟨b,off+i * 2,none⟩=some (.string t.nm)∧w.cell? ⟨b,off+i * 2+1,none⟩=some (.slice t.cA t.cols.length t.cc)
structure kS (w:World)(S:Nat→Prop)(A:Option Addr)(l:List DM):Prop where
 at_:l=[]∨∃ b off,A=some ⟨b,off,none⟩∧S b∧DAt w b off l
 cols:∀ t ∈ l,gV w S t.cA t.cols
 cap:∀ t ∈ l,t.cols.length≤t.cc
section
variable {w w':World} {S S':Nat→Prop} {B b off:Nat} {A:Option Addr} {l:List DM}
theorem DAt.kept (h:DAt w b off l)(hk:w'.heap[b]?=w.heap[b]?):DAt w' b off l:=fun i t ht=>by
 obtain ⟨h1,h2⟩:=h i t ht
 have hc:∀ o,w'.cell? ⟨b,o,none⟩=w.cell? ⟨b,o,none⟩:=fun o=>anw hk
 exact ⟨(hc _).trans h1,(hc _).trans h2⟩
theorem kS.kept (h:kS w S A l)(hk:∀ k,S k→w'.heap[k]?=w.heap[k]?):kS w' S A l :=
 ⟨by
   rcases h.at_ with h | ⟨b,o,hA,hS,h⟩
   ·exact .inl h
   ·exact .inr ⟨b,o,hA,hS,h.kept (hk b hS)⟩,fun t ht=>(h.cols t ht).kept hk,h.cap⟩
theorem kS.mono (h:kS w S A l)(hS:∀ k,S k→S' k):kS w S' A l :=
 ⟨by
   rcases h.at_ with h | ⟨b,o,hA,hb,h⟩
   ·exact .inl h
   ·exact .inr ⟨b,o,hA,hS b hb,h⟩,fun t ht=>(h.cols t ht).mono hS,h.cap⟩
theorem kS.below (h:kS w S A l)(hb:Below B w w')(hS:∀ k,S k→k < B):kS w' S A l:=h.kept fun k hk=>hb.block k (hS k hk)
theorem kS.get {i:Nat} {t:DM} (h:kS w S A l)(ht:l[i]?=some t):∃ b off,A=some ⟨b,off,none⟩∧S b∧w.cell? ⟨b,off+i * 2,none⟩=some (.string t.nm)∧w.cell? ⟨b,off+i * 2+1,none⟩=some (.slice t.cA t.cols.length t.cc):=by
 rcases h.at_ with rfl | ⟨b,off,hA,hS,h⟩
 ·simp at ht
 ·exact ⟨b,off,hA,hS,h i t ht⟩
theorem kS.take (h:kS w S A l)(k:Nat):kS w S A (l.take k) :=
 ⟨(by
   rcases h.at_ with rfl | ⟨b,o,hA,hS,h'⟩
   ·exact .inl (by simp)
   ·refine .inr ⟨b,o,hA,hS,fun i t ht=>h' i t ?_⟩
    rw [List.getElem?_take] at ht
    split at ht
    ·exact ht
    ·cases ht),fun t ht=>h.cols t (List.mem_of_mem_take ht),fun t ht=>h.cap t (List.mem_of_mem_take ht)⟩
end
def DM.mO (nm:ByteArray)(t:DM):Bool:=t.nm.toList == nm.toList
theorem DZ (tn nm:ByteArray)(c1:Option Addr)(n1 m1:Nat)(p:Addr)(w:World)(h0:w.cell? p=some (.string nm)) :
 Calls Tryz.prog 43 #[.agg #[.string tn,.slice c1 n1 m1],.pointer (some p)] w fun e w'=>e=.returned (.bool (tn.toList == nm.toList))∧w.alloc (.cells #[.string tn,.slice c1 n1 m1] 66)=w':=by
 have hp:=block_lt_of_cell h0
 go_enter Tryz.func43,Tryz.ntmps43
 go_wp2
 go_ret
 exact ⟨rfl,rfl⟩
theorem D5 (A:Option Addr)(c:Nat)(l:List DM)(nm:ByteArray)(pb po:Nat)(w:World) {S:Nat→Prop} (hA:kS w S A l)(hS:∀ k,S k→k < w.heap.size)(hl:l.length≤1073741824)(h0:w.cell? ⟨pb,po,none⟩=some (.string nm)) :
 Calls Tryz.prog 44 #[.slice A l.length c,.func (.func 43) #[] #[.pointer (some ⟨pb,po,none⟩)]] w fun e w'=>e=.returned (.int .i64 (idx (DM.mO nm) l 0))∧Below w.heap.size w w':=by
 obtain ⟨n,hn⟩:∃ n,l.length=n:=⟨_,rfl⟩
 have HN:=anc hn
 have HA:=anc hA
 have HS:=anc hS
 have hp:=block_lt_of_cell h0
 have H0:=anc h0
 rw [hn] at hl ⊢
 clear hA hS hn h0
 go_enter Tryz.func44,Tryz.ntmps44
 go_wp2_with fail
 go_loopw [8] (fun i wr=>∃ k:Nat,k≤n∧i=.int .i64 k∧Below w.heap.size w wr∧Hid (idx (DM.mO nm) l 0=idx (DM.mO nm) (l.drop k) k)) (fun i _=>n - (intOf i).toNat)
 case atStart=>exact ⟨0,Nat.zero_le _,rfl,anl _ _,anc (by simp)⟩
 case round =>
  obtain ⟨k,hk,rfl,hb,HL⟩:=hrel
  have HB:=anc hb
  have hs:=hb.size
  clear hb
  by_cases hlt:k < n
  ·obtain ⟨x,hx⟩:∃ x,l[k]?=some x:=⟨_,anr (by rw [HN.out];exact hlt)⟩
   obtain ⟨b1,aeu,rfl,_,hc1,hc2⟩:=(HA.out.below HB.out HS.out).get hx
   have hq:=anc (DZ x.nm nm x.cA x.cols.length x.cc ⟨pb,po,none⟩ wr ((HB.out.cell hp).trans H0.out))
   have HD:=anc (HL.out.trans (kH (p:=DM.mO nm) hx))
   rw [show DM.mO nm x=(x.nm.toList == nm.toList) from rfl] at HD
   generalize (x.nm.toList == nm.toList)=z at hq HD
   obtain ⟨xn,cA,cc,cl⟩:=x
   dsimp only at hc1 hc2 hq
   generalize cl.length=n1 at hc2 hq
   clear hx HL
   cases z
   ·go_wp2_with fail
    refine hq.out.mono ?_
    rintro e w3 ⟨rfl,rfl⟩
    have NY:Hid (idx (DM.mO nm) l 0=idx (DM.mO nm) (l.drop (k+1)) (k+1)):=anc (by rw [HD.out];rfl)
    clear HD
    go_wp2_with fail
    go_roundw
    case rel=>exact ⟨k+1,by omega,by go_num,HB.out.alloc hs _,NY⟩
    case measure=>simp [intOf];omega
   ·go_wp2_with fail
    refine hq.out.mono ?_
    rintro e w3 ⟨rfl,rfl⟩
    have HF:Hid (idx (DM.mO nm) l 0=(k:Int)):=anc (by rw [HD.out];rfl)
    clear HD
    go_wp2_with fail
    go_ret
    exact ⟨by rw [HF.out];rfl,HB.out.alloc hs _⟩
  ·obtain rfl:k=n:=by omega
   have HF:Hid (idx (DM.mO nm) l 0=-1):=anc (by
    rw [HL.out,List.drop_of_length_le (by rw [HN.out];exact ank _)]
    rfl)
   go_wp2_with fail
   go_ret
   exact ⟨by rw [HF.out];rfl,HB.out⟩
theorem ry {α:Type} (p:α→Bool)(l:List α):∀ k:Nat,decide (0≤idx p l k)=l.any p:=by
 induction l with
 | nil=>intro k;simp [idx]
 | cons x l ih =>
   intro k
   unfold idx
   cases h:p x
   ·simp [h,ih]
   ·simp [h]
theorem yJ (A:Option Addr)(c:Nat)(l:List DM)(nm:ByteArray)(pb po:Nat)(w:World) {S:Nat→Prop} (hA:kS w S A l)(hS:∀ k,S k→k < w.heap.size)(hl:l.length≤1073741824)(h0:w.cell? ⟨pb,po,none⟩=some (.string nm)) :
 Calls Tryz.prog 42 #[.slice A l.length c,.func (.func 43) #[] #[.pointer (some ⟨pb,po,none⟩)]] w fun e w'=>e=.returned (.bool (l.any (DM.mO nm)))∧Below w.heap.size w w':=by
 have h:=anc (D5 A c l nm pb po w hA hS hl h0)
 rw [← ry (DM.mO nm) l 0]
 generalize idx (DM.mO nm) l 0=z at h
 generalize l.length=n at h
 clear hA hS hl h0
 go_enter Tryz.func42,Tryz.ntmps42
 go_wp2_with fail
 refine h.out.mono ?_
 rintro e w4 ⟨rfl,hb4⟩
 have HB4:=anc hb4
 clear hb4
 go_wp2
 go_ret
 exact ⟨rfl,HB4.out⟩
def Ez (pre:List (ByteArray×List C)):List (ByteArray×List C)→Int
 | []=>0
 | d :: l=>if nameB d.1=false then 20 else if pre.any (fun o=>o.1.toList == d.1.toList)=true then 21 else if fK d.2=0 then Ez (pre ++ [d]) l else fK d.2
def zO (l:List (ByteArray×List C)):Int:=Ez [] l
theorem KO {l:List DM} {k:Nat} {x:DM} (hx:l[k]?=some x) :
 Ez ((l.take k).map DM.key) ((l.drop k).map DM.key)=if nameB x.nm=false then 20 else if (l.take k).any (DM.mO x.nm)=true then 21 else if fK x.cols=0 then Ez ((l.take (k+1)).map DM.key) ((l.drop (k+1)).map DM.key) else fK x.cols:=by
 obtain ⟨h1,e1⟩:=List.getElem?_eq_some_iff.1 hx
 rw [List.drop_eq_getElem_cons h1,e1,List.take_succ_eq_append_getElem h1,e1,List.map_append]
 have e:((l.take k).map DM.key).any (fun o=>o.1.toList == x.nm.toList)=(l.take k).any (DM.mO x.nm):=by rw [List.any_map];rfl
 rw [← e]
 rfl
theorem OZ (A:Option Addr)(c:Nat)(l:List DM)(w:World) {S:Nat→Prop} (hA:kS w S A l)(hS:∀ k,S k→k < w.heap.size)(hl:l.length≤1000000)(hlc:l.length≤c)(hcl:∀ t ∈ l,t.cols.length≤1000000) :
 Calls Tryz.prog 22 #[.slice A l.length c] w fun e w'=>e=.returned (.int .i64 (zO (l.map DM.key)))∧Below w.heap.size w w':=by
 obtain ⟨n,hn⟩:∃ n,l.length=n:=⟨_,rfl⟩
 have HN:=anc hn
 have HA:=anc hA
 have HS:=anc hS
 have jq:=anc hcl
 rw [hn] at hl hlc ⊢
 clear hA hS hcl hn
 go_enter Tryz.func22,Tryz.ntmps22
 go_wp2_with fail
 go_loopw [8] (fun i wr=>∃ k:Nat,k≤n∧i=.int .i64 k∧Below w.heap.size w wr∧Hid (zO (l.map DM.key)=Ez ((l.take k).map DM.key) ((l.drop k).map DM.key))) (fun i _=>n - (intOf i).toNat)
 case atStart=>exact ⟨0,Nat.zero_le _,rfl,anl _ _,anc (by simp [zO])⟩
 case round =>
  rename World=>wo
  obtain ⟨k,hk,rfl,hb,HL⟩:=hrel
  have HB:=anc hb
  have hs:=hb.size
  clear hb
  by_cases hlt:k < n
  ·obtain ⟨x,hx⟩:∃ x,l[k]?=some x:=⟨_,anr (by rw [HN.out];exact hlt)⟩
   obtain ⟨b,off,rfl,hSb,hc1,hc2⟩:=(HA.out.below HB.out HS.out).get hx
   have hm:=anq hx
   have HD:=anc (HL.out.trans (KO hx))
   have hnm:=anc (fun w1=>name_any x.nm w1)
   have hcf:=anc (fun g0 w1 (hb:Below w.heap.size w w1)(h0:w1.cell? ⟨g0,0,none⟩=some (.string x.nm))=>yJ (some ⟨b,off,none⟩) c (l.take k) x.nm g0 0 w1 (S:=fun k=>k < w1.heap.size) (((HA.out.take k).below hb HS.out).mono fun k hk=>anp (HS.out k hk) hb.size) (fun k hk=>hk) (by rw [List.length_take];omega) h0)
   have htk:(l.take k).length=k:=by rw [List.length_take,HN.out];omega
   rw [htk] at hcf
   have hco:=anc (fun w1 (hb:Below w.heap.size w w1)=>zN x.cA x.cc x.cols (by have:=jq.out x hm;omega) (HA.out.cap x hm) w1 (((HA.out.cols x hm).kept fun k hk=>hb.block k (HS.out k hk)).to fun k hk=>anp (HS.out k hk) hb.size))
   obtain ⟨Kv,xcA,xcc,xcl⟩:=x
   dsimp only at hc1 hc2 hnm hcf hco HD
   generalize nameB Kv=q1 at hnm HD
   generalize (l.take k).any (DM.mO Kv)=q2 at hcf HD
   obtain ⟨ce,hce⟩:∃ ce,fK xcl=ce:=⟨_,rfl⟩
   rw [hce] at hco HD
   generalize xcl.length=xn at hc2 hco
   clear hx hm hSb htk HL hce
   go_wp2_with fail
   refine (hnm.out _).mono ?_
   rintro e w' ⟨rfl,rfl⟩
   cases q1
   ·go_wp2_with fail
    go_ret
    exact ⟨by rw [HD.out];rfl,HB.out.alloc hs _⟩
   ·go_wp2_with fail
    refine (hcf.out _ _ (HB.out.alloc hs _) (by simp)).mono ?_
    rintro e w1 ⟨rfl,hb1⟩
    have d1:w1.cell? ⟨wo.heap.size,1,none⟩=some (.slice xcA xn xcc):=(hb1.cell (by simp)).trans (by simp)
    have hx1:wo.heap.size < w1.heap.size:=by have:=hb1.size;simp at this;omega
    have HB1:=anc ((HB.out.alloc hs _).trans (hb1.mono (by simp;omega)))
    clear hb1 hnm hcf
    cases q2
    ·go_wp2_with fail
     refine (hco.out _ HB1.out).mono ?_
     rintro e w2 ⟨rfl,hb2⟩
     have HB2:=anc (HB1.out.trans (hb2.mono HB1.out.size))
     clear hb2 hco d1
     by_cases hc0:ce=0
     ·subst hc0
      have HF:Hid (zO (l.map DM.key)=Ez ((l.take (k+1)).map DM.key) ((l.drop (k+1)).map DM.key)):=anc (by rw [HD.out];rfl)
      clear HD
      go_wp2_with fail
      go_roundw
      case rel=>exact ⟨k+1,by omega,by go_num,HB2.out,HF⟩
      case measure=>simp [intOf];omega
     ·have NZ:=anc hc0
      go_wp2_with fail
      go_ret
      exact ⟨by rw [HD.out,if_neg (by decide),if_neg (by decide),if_neg NZ.out];rfl,HB2.out⟩
    ·go_wp2_with fail
     go_ret
     exact ⟨by rw [HD.out];rfl,HB1.out⟩
  ·obtain rfl:k=n:=by omega
   have HF:Hid (zO (l.map DM.key)=0):=anc (by
    rw [HL.out,List.drop_of_length_le (by rw [HN.out];exact ank _)]
    rfl)
   go_wp2_with fail
   go_ret
   exact ⟨by rw [HF.out];rfl,HB.out⟩
inductive E where
 | mk (k:Int)(s:ByteArray)(n:Int)(kids:List E)
def E.k:E→Int | .mk k _ _ _=>k
def E.s:E→ByteArray | .mk _ s _ _=>s
def E.n:E→Int | .mk _ _ n _=>n
def E.kids:E→List E | .mk _ _ _ l=>l
theorem E.ind {P:E→Prop} (h:∀ k s n l,(∀ e ∈ l,P e)→P (.mk k s n l)):∀ e,P e:=by
 intro e
 exact E.rec (motive_1:=P) (motive_2:=fun l=>∀ e ∈ l,P e) (fun k s n l ih=>h k s n l ih) (fun e he=>by cases he) (fun e l h1 h2 x hx=>by
  rcases List.mem_cons.1 hx with rfl | hx
  ·exact h1
  ·exact h2 x hx) e
inductive eQ (w:World)(B:Nat):Option Addr→List E→Prop
 | nil (A:Option Addr):eQ w B A []
 | mk (b off:Nat)(l:List E)(hn:l.length≤9223372036854775807)(hb:b < B)(A:Nat→Option Addr)(c:Nat→Nat)
    (h:∀ i e,l[i]?=some e→w.cell? ⟨b,off+i * 4,none⟩=some (.int .i64 e.k)∧w.cell? ⟨b,off+i * 4+1,none⟩=some (.string e.s) ∧
      w.cell? ⟨b,off+i * 4+2,none⟩=some (.int .i64 e.n)∧w.cell? ⟨b,off+i * 4+3,none⟩=some (.slice (A i) e.kids.length (c i)))
    (hk:∀ i e,l[i]?=some e→eQ w B (A i) e.kids):eQ w B (some ⟨b,off,none⟩) l
theorem eQ.low {w w':World} {B:Nat} {A:Option Addr} {l:List E} (h:eQ w B A l)(hb:Below B w w'):eQ w' B A l:=by
 induction h with
 | nil A=>exact .nil A
 | mk b off l hn hlt A c h hk ih =>
   refine .mk b off l hn hlt A c (fun i e he=>?_) (fun i e he=>ih i e he)
   obtain ⟨h1,h2,h3,h4⟩:=h i e he
   exact ⟨(hb.cell hlt).trans h1,(hb.cell hlt).trans h2,(hb.cell hlt).trans h3,(hb.cell hlt).trans h4⟩
theorem eQ.more {w:World} {B B':Nat} {A:Option Addr} {l:List E} (h:eQ w B A l)(hB:B≤B'):eQ w B' A l:=by
 induction h with
 | nil A=>exact .nil A
 | mk b off l hn hlt A c h hk ih=>exact .mk b off l hn (by omega) A c h (fun i e he=>ih i e he)
theorem eQ.len {w:World} {B:Nat} {A:Option Addr} {l:List E} (h:eQ w B A l):l.length≤9223372036854775807:=by
 cases h with
 | nil A=>simp
 | mk b off l hn hlt A c h hk=>exact hn
theorem eQ.cu {w:World} {A:Option Addr} {l:List E} (h:eQ w w.heap.size A l):∀ w1,Below w.heap.size w w1→∀ i e,l[i]?=some e →
 ∃ b o A' c',A=some ⟨b,o,none⟩∧b < w.heap.size∧w1.cell? ⟨b,o+i * 4,none⟩=some (.int .i64 e.k)∧w1.cell? ⟨b,o+i * 4+1,none⟩=some (.string e.s) ∧
   w1.cell? ⟨b,o+i * 4+2,none⟩=some (.int .i64 e.n)∧w1.cell? ⟨b,o+i * 4+3,none⟩=some (.slice A' e.kids.length c')∧eQ w1 w1.heap.size A' e.kids:=by
 intro w1 hb i e he
 cases h with
 | nil A=>simp at he
 | mk b off l hn hlt A c h hk =>
   obtain ⟨h1,h2,h3,h4⟩:=h i e he
   exact ⟨b,off,A i,c i,rfl,hlt,(hb.cell hlt).trans h1,(hb.cell hlt).trans h2,(hb.cell hlt).trans h3,(hb.cell hlt).trans h4,((hk i e he).low hb).more hb.size⟩
def E.val (e:E)(A:Option Addr)(c:Nat):Value:=.agg #[.int .i64 e.k,.string e.s,.int .i64 e.n,.slice A e.kids.length c]
def zQ:List UInt8:=[97,100,100]
def zS:List UInt8:=[115,117,98]
def zT:List UInt8:=[109,117,108]
def yK:List UInt8:=[101,113]
def yL:List UInt8:=[108,116]
def zU:List UInt8:=[97,110,100]
def Il:List UInt8:=[111,114]
def qP:List UInt8:=[99,97,116]
def zV:List UInt8:=[110,101,103]
def zW:List UInt8:=[110,111,116]
def qQ:List UInt8:=[108,101,110]
def Aw:List UInt8:=[105,102]
def opsL:List (List UInt8):=[zQ,zS,zT,yK,yL,zU,Il,qP,zV,zW,qQ,Aw]
theorem Io (l:List UInt8):l ∈ opsL∨∀ x ∈ opsL,(l == x)=false:=by
 by_cases h:l ∈ opsL
 ·exact .inl h
 ·refine .inr fun x hx=>?_
  cases e:l == x
  ·rfl
  ·rw [show l=x by simpa using e] at h
   exact absurd hx h
def dB (l:List UInt8):Nat :=
 if l=zQ∨l=zS∨l=zT∨l=yK∨l=yL∨l=zU∨l=Il∨l=qP then 2
 else if l=zV∨l=zW∨l=qQ then 1 else if l=Aw then 3 else 0
mutual
def cZ:E→Bool
 | .mk k s n l=>if k=1 then nameB s && (n == 0 && l.length == 0) else if k=2 then s.toList.isEmpty && l.length == 0
   else if k=3 then n == 0 && l.length == 0 else if k=4 then decide (0 < dB s.toList) && (dB s.toList == l.length && (n == 0 && jH l)) else false
def jH:List E→Bool
 | []=>true
 | e :: l=>cZ e && jH l
end
theorem yM (l:List E):jH l=l.all cZ:=by
 induction l with
 | nil=>rfl
 | cons e l ih=>rw [jH,ih];rfl
def dZ (op:List UInt8)(l:List Int):Int :=
 if op=yK∨op=yL then (if l.getD 0 0=l.getD 1 0 then 1 else 0)
 else if op=qP then (if l.all (· == 2) then 2 else 0)
 else if op=qQ then (if l.all (· == 2) then 1 else 0)
 else if op=Aw then (if l.getD 0 0=1∧l.getD 1 0=l.getD 2 0 then l.getD 1 0 else 0)
 else if l.all (· == 1) then 1 else 0
mutual
def fM (cols:List C):E→Int×Int
 | .mk k s n l=>if k=1 then (if df cols s then ((cols.getD (dL cols s).toNat ⟨⟨#[]⟩,0⟩).k,0) else (0,20))
   else if k=2 then (1,0) else if k=3 then (2,0)
   else if (iH cols l).2=0 then (if 0 < dZ s.toList (iH cols l).1 then (dZ s.toList (iH cols l).1,0) else (0,22)) else (0,(iH cols l).2)
def iH (cols:List C):List E→List Int×Int
 | []=>([],0)
 | e :: l=>if (fM cols e).2=0 then ((fM cols e).1 :: (iH cols l).1,(iH cols l).2) else ([],(fM cols e).2)
end
theorem count_any (s:ByteArray)(w:World):Calls Tryz.prog 131 #[.string s] w fun e w'=>e=.returned (.int .i64 (dB s.toList:Nat))∧w=w':=by
 rcases Io s.toList with h | h
 ·simp only [opsL,zQ,zS,zT,yK,yL,zU,Il,qP,zV,zW,qQ,Aw,List.mem_cons,List.not_mem_nil,or_false] at h
  rcases h with h | h | h | h | h | h | h | h | h | h | h | h
  all_goals
   obtain ⟨q,hq⟩:∃ q,q=dB s.toList:=⟨_,rfl⟩
   rw [← hq]
   rw [h] at hq
   change q=_ at hq
   simp only [dB,zQ,zS,zT,yK,yL,zU,Il,qP,zV,zW,qQ,Aw] at hq
   simp at hq
   subst hq
   go_enter Tryz.func131,Tryz.ntmps131
   go_wp2
   go_ret
   exact ⟨rfl,rfl⟩
 ·have hq:dB s.toList=0:=by
   have hne:∀ x ∈ opsL,s.toList≠x:=fun x hx e=>by have:=h x hx;rw [e] at this;simp at this
   simp only [opsL,List.mem_cons,List.not_mem_nil,or_false,forall_eq_or_imp,forall_eq] at hne
   obtain ⟨h0,h1,h2,h3,h4,h5,h6,h7,h8,h9,h10,h11⟩:=hne
   simp [dB,h0,h1,h2,h3,h4,h5,h6,h7,h8,h9,h10,h11]
  rw [hq]
  clear hq
  simp only [opsL,zQ,zS,zT,yK,yL,zU,Il,qP,zV,zW,qQ,Aw,List.mem_cons,List.not_mem_nil,or_false,forall_eq_or_imp,forall_eq] at h
  obtain ⟨h0,h1,h2,h3,h4,h5,h6,h7,h8,h9,h10,h11⟩:=h
  go_enter Tryz.func131,Tryz.ntmps131
  go_wp2
  go_ret
  exact ⟨rfl,rfl⟩
def pX (e:E):Prop:=∀ (A:Option Addr)(c:Nat)(w:World),eQ w w.heap.size A e.kids →
 Calls Tryz.prog 90 #[e.val A c] w fun r w'=>r=.returned (.bool (cZ e))∧Below w.heap.size w w'
theorem F8 (k:Int)(s:ByteArray)(n:Int)(l:List E)(hM:pX (.mk k s n l))(A:Option Addr)(c:Nat)(w:World)(hA:eQ w w.heap.size A l) :
 Calls Tryz.prog 133 #[.agg #[.int .i64 k,.string s,.int .i64 n,.slice A l.length c]] w fun r w'=>r=.returned (.bool (!cZ (.mk k s n l)))∧Below w.heap.size w w':=by
 have hb0:Below w.heap.size w (w.alloc (.cells #[.int .i64 k,.string s,.int .i64 n,.slice A l.length c] 38)):=(anl _ _).alloc (ank _) _
 have hc:=anc (hM A c _ ((hA.low hb0).more hb0.size))
 clear hM hA
 simp only [E.val,E.k,E.s,E.n,E.kids] at hc
 generalize cZ (.mk k s n l)=q at *
 generalize l.length=m at *
 go_enter Tryz.func133,Tryz.ntmps133
 go_wp2_with fail
 refine (hc.out).mono ?_
 rintro e w' ⟨rfl,hb⟩
 have hb2:=hb0.trans (hb.mono (by simp))
 clear hb hb0
 go_wp2_with fail
 go_ret
 exact ⟨rfl,hb2⟩
theorem Bq (A:Option Addr)(c:Nat)(l:List E)(hM:∀ e ∈ l,pX e)(w:World)(hA:eQ w w.heap.size A l) :
 Calls Tryz.prog 156 #[.slice A l.length c,.func (.func 133) #[] #[]] w fun e w' =>
  e=.returned (.int .i64 (idx (fun e=>!cZ e) l 0))∧Below w.heap.size w w':=by
 have hn:=hA.len
 have HL:=anc hA.cu
 have HM:=anc hM
 obtain ⟨n,en⟩:∃ n,n=l.length:=⟨_,rfl⟩
 have Hl:=anc en
 rw [← en] at hn ⊢
 clear hA hM en
 go_enter Tryz.func156,Tryz.ntmps156
 go_wp2_with fail
 go_loopw [8] (fun i wr=>∃ k:Nat,k≤n∧i=.int .i64 k∧Below w.heap.size w wr∧Hid (idx (fun e=>!cZ e) l 0=idx (fun e=>!cZ e) (l.drop k) k)) (fun i _=>n - (intOf i).toNat)
 case atStart=>exact ⟨0,Nat.zero_le _,rfl,anl _ _,rfl⟩
 case round =>
  obtain ⟨k,hk,rfl,hbl,hz⟩:=hrel
  by_cases hlt:k < n
  ·obtain ⟨x,hx⟩:∃ x,l[k]?=some x:=⟨_,anr (by rw [← Hl.out];exact hlt)⟩
   have hst:=anc (hz.out.trans (kH (p:=fun e=>!cZ e) hx))
   obtain ⟨b,o,A',c',rfl,hb,c1,c2,c3,c4,hK⟩:=HL.out wr hbl k x hx
   have Bv:=HM.out x (anq hx)
   clear hx hz
   obtain ⟨xk,xs,xn,xl⟩:=x
   simp only [E.k,E.s,E.n,E.kids] at c1 c2 c3 c4 hK
   have hs:=hbl.size
   have hcl:=anc (F8 xk xs xn xl Bv A' c' wr hK)
   clear Bv hK
   by_cases he:cZ (.mk xk xs xn xl)=true
   ·rw [he] at hcl
    have hst':Hid (idx (fun e=>!cZ e) l 0=idx (fun e=>!cZ e) (l.drop (k+1)) (k+1)):=by
     have:=hst.out
     rwa [if_neg (by simp [he])] at this
    clear he hst
    generalize xl.length=xm at *
    go_wp2_with fail
    refine (hcl.out).mono ?_
    rintro e w' ⟨rfl,hb2⟩
    have hb3:=hbl.trans (hb2.mono hs)
    clear hb2
    go_wp2_with fail
    go_roundw
    case rel=>exact ⟨k+1,by omega,by go_num,hb3,hst'⟩
    case measure=>simp [intOf];omega
   ·have he':cZ (.mk xk xs xn xl)=false:=by simpa using he
    rw [he'] at hcl
    have hst':Hid (idx (fun e=>!cZ e) l 0=(k:Int)):=by
     have:=hst.out
     rwa [if_pos (by simp [he'])] at this
    clear he he' hst
    generalize xl.length=xm at *
    go_wp2_with fail
    refine (hcl.out).mono ?_
    rintro e w' ⟨rfl,hb2⟩
    have hb3:=hbl.trans (hb2.mono hs)
    clear hb2
    go_wp2_with fail
    go_ret
    exact ⟨by rw [hst'.out];rfl,hb3⟩
  ·go_wp2_with fail
   go_ret
   have e:k=n:=by omega
   subst e
   exact ⟨by rw [hz.out,List.drop_of_length_le (by rw [← Hl.out];omega)];rfl,hbl⟩
theorem wK {α:Type} (p:α→Bool)(l:List α):∀ k,decide (0≤idx p l k)=l.any p:=by
 induction l with
 | nil=>intro k;rfl
 | cons x l ih =>
   intro k
   unfold idx
   by_cases h:p x=true
   ·rw [if_pos h];simp [h]
   ·rw [if_neg h,ih];simp [h]
theorem Bz {α:Type} (p:α→Bool)(l:List α):(!(l.all p))=l.any fun v=>!p v:=by
 induction l with
 | nil=>rfl
 | cons x l ih=>rw [List.all_cons,List.any_cons,Bool.not_and,ih]
theorem wL (A:Option Addr)(c:Nat)(l:List E)(hM:∀ e ∈ l,pX e)(w:World)(hA:eQ w w.heap.size A l) :
 Calls Tryz.prog 132 #[.slice A l.length c,.func (.func 133) #[] #[]] w fun e w' =>
  e=.returned (.bool (!(jH l)))∧Below w.heap.size w w':=by
 have hc:=anc (Bq A c l hM w hA)
 have e0:(!(jH l))=decide (0≤idx (fun v=>!cZ v) l 0):=by
  rw [wK,yM];exact Bz cZ l
 rw [e0]
 clear hA e0 hM
 generalize idx (fun v=>!cZ v) l 0=r at *
 generalize l.length=m at *
 go_enter Tryz.func132,Tryz.ntmps132
 go_wp2_with fail
 refine (hc.out).mono ?_
 rintro e w' ⟨rfl,hb⟩
 have HB:=anc hb
 clear hb
 go_wp2_with fail
 go_ret
 exact ⟨rfl,HB.out⟩
theorem oQ (m:Nat):((m:Int) == 0)=(m == 0):=by
 cases m with
 | zero=>rfl
 | succ m=>have:((m+1:Nat):Int)≠0:=by omega
           simp
           omega
theorem O0 (k:Int)(s:ByteArray)(n:Int)(l:List E)(hM:∀ e ∈ l,pX e):pX (.mk k s n l):=by
 intro A c w hA
 simp only [E.val,E.k,E.s,E.n,E.kids] at hA ⊢
 have hb0:Below w.heap.size w (w.alloc (.cells #[.int .i64 k,.string s,.int .i64 n,.slice A l.length c] 38)):=(anl _ _).alloc (ank _) _
 have HB0:=anc hb0
 have hc:=anc (wL A c l hM _ ((hA.low hb0).more hb0.size))
 have hN:=anc (name_any s)
 have hC:=anc (count_any s)
 have hlen:=hA.len
 have hz:Hid (cZ (.mk k s n l)=if k=1 then nameB s && (n == 0 && l.length == 0) else if k=2 then s.toList.isEmpty && l.length == 0
  else if k=3 then n == 0 && l.length == 0 else if k=4 then decide (0 < dB s.toList) && (dB s.toList == l.length && (n == 0 && jH l)) else false):=anc (by rw [cZ])
 generalize cZ (.mk k s n l)=q at *
 generalize nameB s=qn at *
 generalize dB s.toList=cn at *
 generalize jH l=ql at *
 generalize l.length=m at *
 clear hM hA hb0
 by_cases h1:k=1
 ·subst h1
  have hz1:Hid (q=(qn && (n == 0 && m == 0))):=anc (by rw [hz.out,if_pos rfl])
  clear hz hc hC
  cases qn
  ·obtain rfl:q=false:=by rw [hz1.out];rfl
   go_enter Tryz.func90,Tryz.ntmps90
   go_wp2_with fail
   refine (hN.out _).mono ?_
   rintro e w' ⟨rfl,rfl⟩
   go_wp2_with fail
   go_ret
   exact ⟨rfl,HB0.out⟩
  ·by_cases hn:n=0
   ·subst hn
    have hz2:Hid (q=((m:Int) == 0)):=anc (by rw [hz1.out,oQ];simp)
    clear hz1
    go_enter Tryz.func90,Tryz.ntmps90
    go_wp2_with fail
    refine (hN.out _).mono ?_
    rintro e w' ⟨rfl,rfl⟩
    go_wp2_with fail
    go_ret
    exact ⟨by rw [hz2.out];rfl,HB0.out⟩
   ·have hn':(n == 0)=false:=by simpa using hn
    obtain rfl:q=false:=by rw [hz1.out,hn'];rfl
    clear hz1 hn
    go_enter Tryz.func90,Tryz.ntmps90
    go_wp2_with fail
    refine (hN.out _).mono ?_
    rintro e w' ⟨rfl,rfl⟩
    go_wp2_with fail
    go_ret
    exact ⟨rfl,HB0.out⟩
 have h1':(k == 1)=false:=by simpa using h1
 by_cases h2:k=2
 ·subst h2
  have hz1:Hid (q=(s.toList.isEmpty && m == 0)):=anc (by rw [hz.out,if_neg (by decide),if_pos rfl])
  clear hz hc hC hN h1 h1'
  by_cases he:s.toList=[]
  ·have hz2:Hid (q=((m:Int) == 0)):=anc (by rw [hz1.out,he,oQ];simp)
   clear hz1
   go_enter Tryz.func90,Tryz.ntmps90
   go_wp2_with fail
   go_ret
   exact ⟨by rw [hz2.out];rfl,HB0.out⟩
  ·have he':(s.toList == [])=false:=by simpa using he
   obtain rfl:q=false:=by rw [hz1.out];cases h:s.toList with
    | nil=>exact absurd h he
    | cons a l=>rfl
   clear hz1 he
   go_enter Tryz.func90,Tryz.ntmps90
   go_wp2_with fail
   go_ret
   exact ⟨rfl,HB0.out⟩
 have h2':(k == 2)=false:=by simpa using h2
 by_cases h3:k=3
 ·subst h3
  have hz1:Hid (q=(n == 0 && m == 0)):=anc (by rw [hz.out,if_neg (by decide),if_neg (by decide),if_pos rfl])
  clear hz hc hC hN h1 h1' h2 h2'
  by_cases hn:n=0
  ·subst hn
   have hz2:Hid (q=((m:Int) == 0)):=anc (by rw [hz1.out,oQ];simp)
   clear hz1
   go_enter Tryz.func90,Tryz.ntmps90
   go_wp2_with fail
   go_ret
   exact ⟨by rw [hz2.out];rfl,HB0.out⟩
  ·have hn':(n == 0)=false:=by simpa using hn
   obtain rfl:q=false:=by rw [hz1.out,hn'];rfl
   clear hz1 hn
   go_enter Tryz.func90,Tryz.ntmps90
   go_wp2_with fail
   go_ret
   exact ⟨rfl,HB0.out⟩
 have h3':(k == 3)=false:=by simpa using h3
 by_cases h4:k=4
 ·subst h4
  have hz1:Hid (q=(decide (0 < cn) && (cn == m && (n == 0 && ql)))):=anc (by rw [hz.out,if_neg (by decide),if_neg (by decide),if_neg (by decide),if_pos rfl])
  clear hz hN h1 h1' h2 h2' h3 h3'
  by_cases hc0:cn=0
  ·subst hc0
   obtain rfl:q=false:=by rw [hz1.out];rfl
   go_enter Tryz.func90,Tryz.ntmps90
   go_wp2_with fail
   refine (hC.out _).mono ?_
   rintro e w' ⟨rfl,rfl⟩
   go_wp2_with fail
   go_ret
   exact ⟨rfl,HB0.out⟩
  have hcp:0 < cn:=by omega
  have ajQ:decide ((0:Int) < (cn:Int))=true:=by rw [decide_eq_true_eq];omega
  by_cases hm:cn=m
  ·subst hm
   by_cases hn:n=0
   ·subst hn
    have hz2:Hid (q=ql):=anc (by rw [hz1.out];simp [hcp])
    clear hz1
    go_enter Tryz.func90,Tryz.ntmps90
    go_wp2_with fail
    refine (hC.out _).mono ?_
    rintro e w' ⟨rfl,rfl⟩
    go_wp2_with fail
    refine (hc.out).mono ?_
    rintro e w' ⟨rfl,hb⟩
    have HB:=anc (HB0.out.trans (hb.mono (by simp)))
    clear hb
    go_wp2_with fail
    go_ret
    exact ⟨by rw [hz2.out];rfl,HB.out⟩
   ·have hn':(n == 0)=false:=by simpa using hn
    obtain rfl:q=false:=by rw [hz1.out,hn'];simp
    clear hz1 hn
    go_enter Tryz.func90,Tryz.ntmps90
    go_wp2_with fail
    refine (hC.out _).mono ?_
    rintro e w' ⟨rfl,rfl⟩
    go_wp2_with fail
    go_ret
    exact ⟨rfl,HB0.out⟩
  ·have hm':((cn:Int) == (m:Int))=false:=by simp;omega
   have hm2:(cn == m)=false:=by simpa using hm
   obtain rfl:q=false:=by rw [hz1.out,hm2];simp
   clear hz1
   go_enter Tryz.func90,Tryz.ntmps90
   go_wp2_with fail
   refine (hC.out _).mono ?_
   rintro e w' ⟨rfl,rfl⟩
   go_wp2_with fail
   go_ret
   exact ⟨rfl,HB0.out⟩
 ·have h4':(k == 4)=false:=by simpa using h4
  obtain rfl:q=false:=by rw [hz.out,if_neg h1,if_neg h2,if_neg h3,if_neg h4]
  clear hz hN hc hC
  go_enter Tryz.func90,Tryz.ntmps90
  go_wp2_with fail
  go_ret
  exact ⟨rfl,HB0.out⟩
theorem Ip:∀ e,pX e:=E.ind O0
def D6 (w:World)(B:Nat)(A:Option Addr)(l:List Int):Prop:=l=[]∨∃ b off,A=some ⟨b,off,none⟩∧b < B∧∀ i z,l[i]?=some z→w.cell? ⟨b,off+i,none⟩=some (.int .i64 z)
def ints (l:List Int):List Value:=l.map fun z=>.int .i64 z
theorem D6.below {w w':World} {B:Nat} {A:Option Addr} {l:List Int} (h:D6 w B A l)(hb:Below B w w'):D6 w' B A l:=by
 rcases h with h | ⟨b,o,hA,hB,h⟩
 ·exact .inl h
 ·exact .inr ⟨b,o,hA,hB,fun i z hz=>(hb.cell hB).trans (h i z hz)⟩
theorem D6.more {w:World} {B B':Nat} {A:Option Addr} {l:List Int} (h:D6 w B A l)(hB:B≤B'):D6 w B' A l:=by
 rcases h with h | ⟨b,o,hA,hb,h⟩
 ·exact .inl h
 ·exact .inr ⟨b,o,hA,by omega,h⟩
theorem own_below {w w':World} {B n:Nat} {e:TypeId} {z:Nat} {v:Value} {xs:List Value} (h:w.ownsRow B e z v n xs)(hb:Below w.heap.size w w'):w'.ownsRow B e z v n xs:=by
 refine ⟨h.1,?_⟩
 rcases h.2 with hn | ⟨g,cap,cur,rfl,hg,hgg,rest⟩
 ·exact .inl hn
 ·exact .inr ⟨g,cap,cur,rfl,hg,by rw [hb.block g (Array.getElem?_eq_some_iff.1 hgg).1];exact hgg,rest⟩
theorem Ry {w:World} {base:Nat} {e:TypeId} {v:Value} {l:List Int} (h:w.ownsRow base e 1 v l.length (ints l)):∃ A c,v=.slice A l.length c∧l.length≤c∧D6 w w.heap.size A l:=by
 obtain ⟨_,hcase⟩:=id h
 rcases hcase with ⟨rfl,h0⟩ | ⟨g,cap,cur,rfl,hg,hh,hn,hcap,hsz,htake⟩
 ·exact ⟨none,0,by rw [h0],by omega,.inl (List.eq_nil_of_length_eq_zero h0)⟩
 ·refine ⟨some ⟨g,0,none⟩,cap,rfl,hn,.inr ⟨g,0,rfl,?_,?_⟩⟩
  ·rcases Nat.lt_or_ge g w.heap.size with hlt | hge
   ·exact hlt
   ·rw [Array.getElem?_eq_none hge] at hh;cases hh
  ·intro i z hz
   have hi:i < l.length:=(List.getElem?_eq_some_iff.1 hz).1
   rw [Nat.zero_add,h.cellAt _ (by omega),ints,List.getElem?_map,hz]
   rfl
theorem Iq (z k:Int)(b o:Nat)(w:World)(h0:w.cell? ⟨b,o,none⟩=some (.int .i64 k)) :
 Calls Tryz.prog 172 #[.int .i64 z,.pointer (some ⟨b,o,none⟩)] w fun e w'=>e=.returned (.bool (z != k))∧w=w':=by
 have hp:=block_lt_of_cell h0
 go_enter Tryz.func172,Tryz.ntmps172
 go_wp2
 go_ret
 exact ⟨rfl,rfl⟩
theorem BA (A:Option Addr)(c:Nat)(l:List Int)(hn:l.length≤9223372036854775807)(k0:Int)(pb po:Nat)(w:World)(hA:D6 w w.heap.size A l)(h0:w.cell? ⟨pb,po,none⟩=some (.int .i64 k0)) :
 Calls Tryz.prog 181 #[.slice A l.length c,.func (.func 172) #[] #[.pointer (some ⟨pb,po,none⟩)]] w fun e w' =>
  e=.returned (.int .i64 (idx (fun z=>z != k0) l 0))∧w=w':=by
 have HL:=anc hA
 obtain ⟨n,en⟩:∃ n,n=l.length:=⟨_,rfl⟩
 have Hl:=anc en
 have hcl:=anc (fun z=>Iq z k0 pb po w h0)
 rw [← en] at hn ⊢
 clear hA en h0
 go_enter Tryz.func181,Tryz.ntmps181
 go_wp2_with fail
 go_loop [8] (fun i=>∃ k:Nat,k≤n∧i=.int .i64 k∧Hid (idx (fun z=>z != k0) l 0=idx (fun z=>z != k0) (l.drop k) k)) (fun i=>n - (intOf i).toNat)
 case atStart=>exact ⟨0,Nat.zero_le _,rfl,rfl⟩
 case round =>
  obtain ⟨k,hk,rfl,hz⟩:=hrel
  by_cases hlt:k < n
  ·obtain ⟨x,hx⟩:∃ x,l[k]?=some x:=⟨_,anr (by rw [← Hl.out];exact hlt)⟩
   have hst:=anc (hz.out.trans (kH (p:=fun z=>z != k0) hx))
   rcases HL.out with hnil | ⟨b,o,rfl,hb,hc⟩
   ·rw [hnil] at hx;simp at hx
   have c1:=hc k x hx
   clear hx hz hc
   by_cases he:(x != k0)=true
   ·have hst':Hid (idx (fun z=>z != k0) l 0=(k:Int)):=by
     have:=hst.out
     rwa [if_pos he] at this
    clear hst
    go_wp2_with fail
    refine (hcl.out x).mono ?_
    rintro e w' ⟨rfl,rfl⟩
    rw [he]
    go_wp2_with fail
    go_ret
    exact ⟨by rw [hst'.out];rfl,rfl⟩
   ·have he':(x != k0)=false:=by simpa using he
    have hst':Hid (idx (fun z=>z != k0) l 0=idx (fun z=>z != k0) (l.drop (k+1)) (k+1)):=by
     have:=hst.out
     rwa [if_neg he] at this
    clear he hst
    go_wp2_with fail
    refine (hcl.out x).mono ?_
    rintro e w' ⟨rfl,rfl⟩
    rw [he']
    go_wp2_with fail
    go_round
    case rel=>exact ⟨k+1,by omega,by go_num,hst'⟩
    case measure=>simp [intOf];omega
  ·go_wp2_with fail
   go_ret
   have e:k=n:=by omega
   subst e
   exact ⟨by rw [hz.out,List.drop_of_length_le (by rw [← Hl.out];omega)];rfl,rfl⟩
theorem VG (A:Option Addr)(c:Nat)(l:List Int)(hn:l.length≤9223372036854775807)(k:Int)(w:World)(hA:D6 w w.heap.size A l) :
 Calls Tryz.prog 157 #[.slice A l.length c,.int .i64 k] w fun e w'=>e=.returned (.bool (l.all (· == k)))∧Below w.heap.size w w':=by
 have hb0:Below w.heap.size w (w.alloc (.cells #[.int .i64 k] 3)):=(anl _ _).alloc (ank _) _
 have hc:=anc (BA A c l hn k w.heap.size 0 (w.alloc (.cells #[.int .i64 k] 3)) ((hA.below hb0).more hb0.size) (by simp))
 have e0:l.all (· == k)=!decide (0≤idx (fun z=>z != k) l 0):=by
  rw [wK,← Bool.not_not (l.all (· == k)),Bz];rfl
 rw [e0]
 clear hA e0 hn
 generalize idx (fun z=>z != k) l 0=r at *
 generalize l.length=m at *
 have hmf:∀ (fn:Fn)(first cap:Array Value)(w:World),(Instr.makeFunc fn first cap).run Tryz.prog w=.ok (.func fn first cap) w:=fun _ _ _ _=>rfl
 have hcf:Hid (Calls Tryz.prog 171 #[.slice A m c,.func (.func 172) #[] #[.pointer (some ⟨w.heap.size,0,none⟩)]] (w.alloc (.cells #[.int .i64 k] 3)) fun e w'=>e=.returned (.bool (decide (0≤r)))∧(w.alloc (.cells #[.int .i64 k] 3))=w'):=by
  refine anc ?_
  generalize (w.alloc (.cells #[.int .i64 k] 3))=w1 at *
  go_enter Tryz.func171,Tryz.ntmps171
  go_wp2_with fail
  refine (hc.out).mono ?_
  rintro e w' ⟨rfl,rfl⟩
  go_wp2_with fail
  go_ret
  exact ⟨rfl,rfl⟩
 clear hc
 go_enter Tryz.func157,Tryz.ntmps157
 go_wp2_with fail
 refine (hcf.out).mono ?_
 rintro e w' ⟨rfl,rfl⟩
 go_wp2_with fail
 go_ret
 exact ⟨rfl,hb0⟩
theorem KP (A:Option Addr)(c:Nat)(l:List Int)(s:ByteArray)(hl:l.length=dB s.toList)(hlc:l.length≤c)(h0:0 < l.length)(w:World)(hA:D6 w w.heap.size A l) :
 Calls Tryz.prog 134 #[.string s,.slice A l.length c] w fun e w'=>e=.returned (.int .i64 (dZ s.toList l))∧Below w.heap.size w w':=by
 have hl3:l.length≤3:=by rw [hl];unfold dB;repeat (first | split | omega)
 have hal:=anc (fun k=>VG A c l (by omega) k w hA)
 rcases hA with hnil | ⟨b,o,rfl,hb,hc⟩
 ·rw [hnil] at h0;simp at h0
 by_cases he:s.toList=yK∨s.toList=yL
 ·have h2:l.length=2:=by rw [hl];rcases he with he | he <;> rw [he] <;> rfl
  obtain ⟨a,b1,rfl⟩:∃ a b1,l=[a,b1]:=by
   match l,h2 with
   | [a,b1],_=>exact ⟨a,b1,rfl⟩
  have c0:=hc 0 a rfl
  have c1:=hc 1 b1 rfl
  rw [Nat.add_zero] at c0
  have hr:dZ s.toList [a,b1]=if (a == b1)=true then 1 else 0:=by
   unfold dZ
   rw [if_pos he]
   simp
  rw [hr]
  clear hr hc hl hal
  simp only [List.length_cons,List.length_nil,Nat.zero_add,Nat.reduceAdd] at hlc ⊢
  have hx1:(1:Int) < 2:=by omega
  rcases he with he | he
  all_goals
   simp only [yK,yL] at he
   cases hq:(a == b1)
   all_goals
    go_enter Tryz.func134,Tryz.ntmps134
    go_wp2_with fail
    go_quiet (fail)
    go_wp2_with fail
    go_ret
    exact ⟨rfl,below_drewN (anl _ _) _⟩
 have he1:s.toList≠yK:=fun h=>he (.inl h)
 have he2:s.toList≠yL:=fun h=>he (.inr h)
 have e1:(s.toList == [101,113])=false:=by simpa [yK] using he1
 have e2:(s.toList == [108,116])=false:=by simpa [yL] using he2
 by_cases h3:s.toList=qP
 ·have hr:dZ s.toList l=if l.all (· == 2)=true then 2 else 0:=by
   unfold dZ
   rw [if_neg he,if_pos h3]
  rw [hr]
  have ha:=anc (hal.out 2)
  clear hr he he1 he2 hal hc e1 e2 hl
  generalize l.all (· == 2)=q at *
  generalize l.length=n at *
  simp only [qP] at h3
  cases q
  all_goals
   go_enter Tryz.func134,Tryz.ntmps134
   go_wp2_with fail
   refine (ha.out).mono ?_
   rintro e w' ⟨rfl,hb2⟩
   have HB:=anc hb2
   clear hb2
   go_wp2_with fail
   go_ret
   exact ⟨rfl,HB.out⟩
 have e3:(s.toList == [99,97,116])=false:=by simpa [qP] using h3
 by_cases h4:s.toList=qQ
 ·have hr:dZ s.toList l=if l.all (· == 2)=true then 1 else 0:=by
   unfold dZ
   rw [if_neg he,if_neg h3,if_pos h4]
  rw [hr]
  have ha:=anc (hal.out 2)
  clear hr he he1 he2 hal hc e1 e2 h3 e3 hl
  generalize l.all (· == 2)=q at *
  generalize l.length=n at *
  simp only [qQ] at h4
  cases q
  all_goals
   go_enter Tryz.func134,Tryz.ntmps134
   go_wp2_with fail
   refine (ha.out).mono ?_
   rintro e w' ⟨rfl,hb2⟩
   have HB:=anc hb2
   clear hb2
   go_wp2_with fail
   go_ret
   exact ⟨rfl,HB.out⟩
 have e4:(s.toList == [108,101,110])=false:=by simpa [qQ] using h4
 by_cases h5:s.toList=Aw
 ·have h2:l.length=3:=by rw [hl,h5];rfl
  obtain ⟨a,b1,d,rfl⟩:∃ a b1 d,l=[a,b1,d]:=by
   match l,h2 with
   | [a,b1,d],_=>exact ⟨a,b1,d,rfl⟩
  have c0:=hc 0 a rfl
  have c1:=hc 1 b1 rfl
  have c2:=hc 2 d rfl
  rw [Nat.add_zero] at c0
  have hr:dZ s.toList [a,b1,d]=if (a == 1)=true then (if (b1 == d)=true then b1 else 0) else 0:=by
   unfold dZ
   rw [if_neg he,if_neg h3,if_neg h4,if_pos h5]
   simp only [List.getD_cons_zero,List.getD_cons_succ,beq_iff_eq]
   by_cases ha:a=1 <;> by_cases hb:b1=d <;> simp [ha,hb]
  rw [hr]
  clear hr hc hl hal he he1 he2 e1 e2 h3 e3 h4 e4
  simp only [List.length_cons,List.length_nil,Nat.zero_add,Nat.reduceAdd] at hlc ⊢
  have hx1:(1:Int) < 3:=by omega
  have hx2:(2:Int) < 3:=by omega
  simp only [Aw] at h5
  cases hq:(a == 1)
  ·go_enter Tryz.func134,Tryz.ntmps134
   go_wp2_with fail
   go_quiet (fail)
   go_wp2_with fail
   go_ret
   exact ⟨rfl,below_drewN (anl _ _) _⟩
  ·cases hq2:(b1 == d)
   all_goals
    go_enter Tryz.func134,Tryz.ntmps134
    go_wp2_with fail
    go_quiet (fail)
    go_wp2_with fail
    go_ret
    exact ⟨rfl,below_drewN (anl _ _) _⟩
 have e5:(s.toList == [105,102])=false:=by simpa [Aw] using h5
 have hr:dZ s.toList l=if l.all (· == 1)=true then 1 else 0:=by
  unfold dZ
  rw [if_neg he,if_neg h3,if_neg h4,if_neg h5]
 rw [hr]
 have ha:=anc (hal.out 1)
 clear hr he he1 he2 hal hc h3 h4 h5 hl
 generalize l.all (· == 1)=q at *
 generalize l.length=n at *
 cases q
 all_goals
  go_enter Tryz.func134,Tryz.ntmps134
  go_wp2_with fail
  refine (ha.out).mono ?_
  rintro e w' ⟨rfl,hb2⟩
  have HB:=anc hb2
  clear hb2
  go_wp2_with fail
  go_ret
  exact ⟨rfl,HB.out⟩
theorem kG.cu {w:World} {A:Option Addr} {l:List C} (h:kG w w.heap.size A l) {k:Nat} {v:C} (hv:l[k]?=some v):∃ b o,A=some ⟨b,o,none⟩∧b < w.heap.size ∧
 w.cell? ⟨b,o+k * 2,none⟩=some (.string v.nm)∧w.cell? ⟨b,o+k * 2+1,none⟩=some (.int .i64 v.k):=by
 rcases h with rfl | ⟨b,o,rfl,hlt,hA⟩
 ·simp at hv
 ·obtain ⟨h1,h2⟩:=hA k v hv
  exact ⟨b,o,rfl,hlt,h1,h2⟩
theorem Rz {α:Type} (p:α→Bool)(l:List α):∀ k:Nat,0≤idx p l k→∃ j x,idx p l k=((k+j:Nat):Int)∧l[j]?=some x:=by
 induction l with
 | nil=>intro k h;simp [idx] at h
 | cons x l ih =>
   intro k h
   unfold idx at h ⊢
   by_cases hp:p x=true
   ·rw [if_pos hp]
    exact ⟨0,x,rfl,rfl⟩
   ·rw [if_neg hp] at h ⊢
    obtain ⟨j,y,e,hy⟩:=ih (k+1) h
    exact ⟨j+1,y,by rw [e];congr 1;omega,by simpa using hy⟩
theorem VH {l:List C} {nm:ByteArray} (h:df l nm=true):∃ (j:Nat)(x:C),dL l nm=(j:Int)∧l[j]?=some x:=by
 unfold df at h
 rw [decide_eq_true_eq] at h
 obtain ⟨j,x,e,hx⟩:=Rz _ _ 0 h
 refine ⟨j,x,?_,hx⟩
 unfold dL
 rw [if_pos h,e,Nat.zero_add]
theorem KQ (cols:List C) {l:List E} {k:Nat} {x:E} (hx:l[k]?=some x) :
 iH cols (l.drop k)=if (fM cols x).2=0 then ((fM cols x).1 :: (iH cols (l.drop (k+1))).1,(iH cols (l.drop (k+1))).2) else ([],(fM cols x).2):=by
 obtain ⟨h1,e1⟩:=List.getElem?_eq_some_iff.1 hx
 rw [List.drop_eq_getElem_cons h1,e1,iH]
theorem O1 {s:ByteArray} {k n:Int} {l:List E} (hk1:k≠1)(hk2:k≠2)(hk3:k≠3)(h:cZ (.mk k s n l)=true):0 < l.length∧l.length=dB s.toList∧∀ e ∈ l,cZ e=true:=by
 rw [cZ,if_neg hk1,if_neg hk2,if_neg hk3] at h
 split at h
 ·simp only [Bool.and_eq_true,decide_eq_true_eq,beq_iff_eq,yM,List.all_eq_true] at h
  obtain ⟨h1,h2,h3,h4⟩:=h
  exact ⟨by omega,h2.symm,h4⟩
 ·cases h
theorem cnt_le (s:List UInt8):dB s≤3:=by unfold dB;repeat (first | split | omega)
def BB (cols:List C)(e:E):Prop:=cZ e=true→∀ (A Ac:Option Addr)(c cc:Nat)(w:World),eQ w w.heap.size A e.kids→kG w w.heap.size Ac cols →
 Calls Tryz.prog 91 #[e.val A c,.slice Ac cols.length cc] w fun r w'=>r=.returned (.tuple #[.int .i64 (fM cols e).1,.int .i64 (fM cols e).2])∧Below w.heap.size w w'
theorem RF:(Tryz.prog.info? 3).map (fun i=>(i.zero,i.size,i.bytes))=some (some (.int .i64 0),1,8):=by kernel_rfl
theorem KR (cols:List C)(hcl:cols.length≤9223372036854775807)(k:Int)(s:ByteArray)(n:Int)(l:List E)(hM:∀ e ∈ l,BB cols e):BB cols (.mk k s n l):=by
 intro iL A Ac c cc w hA hAc
 simp only [E.val,E.k,E.s,E.n,E.kids] at hA ⊢
 have hb0:Below w.heap.size w (w.alloc (.cells #[.int .i64 k,.string s,.int .i64 n,.slice A l.length c] 38)):=(anl _ _).alloc (ank _) _
 have HB0:=anc hb0
 by_cases h1:k=1
 ·subst h1
  have hz:Hid (fM cols (.mk 1 s n l)=(if df cols s then ((cols.getD (dL cols s).toNat ⟨⟨#[]⟩,0⟩).k,0) else (0,20))):=anc (by rw [fM,if_pos rfl])
  have hf:=anc (oP Ac cc cols hcl s _ ((hAc.below hb0).more hb0.size))
  cases hfb:df cols s
  ·rw [hfb] at hz hf
   have hz2:Hid (fM cols (.mk 1 s n l)=(0,20)):=anc (by rw [hz.out];rfl)
   generalize fM cols (.mk 1 s n l)=q at *
   generalize dL cols s=fn at *
   generalize cols.length=m at *
   clear hz hA hAc hM iL hb0
   generalize l.length=ln at *
   go_enter Tryz.func91,Tryz.ntmps91
   go_wp2_with fail
   refine (hf.out).mono ?_
   rintro e w' ⟨rfl,hb⟩
   have HB:=anc (HB0.out.trans (hb.mono (by simp)))
   clear hb
   go_wp2_with fail
   go_ret2
   exact ⟨by rw [hz2.out];rfl,HB.out⟩
  ·obtain ⟨j,x,ej,hx⟩:=VH hfb
   have hz2:Hid (fM cols (.mk 1 s n l)=(x.k,0)):=anc (by rw [hz.out,if_pos hfb,ej,Int.toNat_natCast,List.getD_eq_getElem?_getD,hx];rfl)
   obtain ⟨b,o,rfl,hlt,c1,c2⟩:=hAc.cu hx
   have hj:j < cols.length:=(List.getElem?_eq_some_iff.1 hx).1
   rw [hfb,ej] at hf
   generalize fM cols (.mk 1 s n l)=q at *
   generalize cols.length=m at *
   clear hz hA hAc hM iL hx hfb ej c1
   obtain ⟨xn,xk⟩:=x
   simp only at c2
   generalize l.length=ln at *
   go_enter Tryz.func91,Tryz.ntmps91
   go_wp2_with fail
   refine (hf.out).mono ?_
   rintro e w' ⟨rfl,hb⟩
   have c3:=((hb0.trans (hb.mono (by simp))).cell hlt).trans c2
   have HB:=anc (hb0.trans (hb.mono (by simp)))
   clear hb hb0
   go_wp2_with fail
   go_ret2
   exact ⟨by rw [hz2.out];rfl,HB.out⟩
 have h1':(k == 1)=false:=by simpa using h1
 by_cases h2:k=2
 ·subst h2
  have hz2:Hid (fM cols (.mk 2 s n l)=(1,0)):=anc (by rw [fM,if_neg (by decide),if_pos rfl])
  generalize fM cols (.mk 2 s n l)=q at *
  clear hA hAc hM iL hb0 h1 h1'
  generalize l.length=ln at *
  go_enter Tryz.func91,Tryz.ntmps91
  go_wp2_with fail
  go_ret2
  exact ⟨by rw [hz2.out];rfl,HB0.out⟩
 have h2':(k == 2)=false:=by simpa using h2
 by_cases h3:k=3
 ·subst h3
  have hz2:Hid (fM cols (.mk 3 s n l)=(2,0)):=anc (by rw [fM,if_neg (by decide),if_neg (by decide),if_pos rfl])
  generalize fM cols (.mk 3 s n l)=q at *
  clear hA hAc hM iL hb0 h1 h1' h2 h2'
  generalize l.length=ln at *
  go_enter Tryz.func91,Tryz.ntmps91
  go_wp2_with fail
  go_ret2
  exact ⟨by rw [hz2.out];rfl,HB0.out⟩
 have h3':(k == 3)=false:=by simpa using h3
 obtain ⟨hl0,hlc,hmk⟩:=O1 h1 h2 h3 iL
 have hl3:l.length≤3:=by rw [hlc];exact cnt_le _
 have hz:Hid (fM cols (.mk k s n l)=if (iH cols l).2=0 then (if 0 < dZ s.toList (iH cols l).1 then (dZ s.toList (iH cols l).1,0) else (0,22)) else (0,(iH cols l).2)):=anc (by rw [fM,if_neg h1,if_neg h2,if_neg h3])
 obtain ⟨i0,hi,hz0,hz1,hz2⟩:=info_parts RF
 have HL:=anc ((hA.low hb0).more hb0.size)
 have HC:=anc ((hAc.below hb0).more hb0.size)
 have HM:=anc hM
 have YR:=anc hmk
 have HLC:=anc hlc
 obtain ⟨m,em⟩:∃ m,m=cols.length:=⟨_,rfl⟩
 obtain ⟨ln,oL⟩:∃ ln,ln=l.length:=⟨_,rfl⟩
 have Hm:=anc em
 have Hln:=anc oL
 generalize fM cols (.mk k s n l)=q at *
 rw [← em]
 rw [← oL] at hl0 hl3 hb0 HB0 HL HC ⊢
 obtain ⟨w1,aK⟩:∃ w1,w1=(w.alloc (.cells #[.int .i64 k,.string s,.int .i64 n,.slice A ln c] 38)):=⟨_,rfl⟩
 have HW1:=anc aK
 have cs:w1.cell? ⟨w.heap.size,1,none⟩=some (.string s):=by rw [aK];simp
 have hws:w1.heap.size=w.heap.size+1:=by rw [aK];simp
 rw [← aK] at HL HC HB0
 clear hA hAc hM iL hb0 h1 h2 h3 hmk hlc em oL aK
 go_enter Tryz.func91,Tryz.ntmps91
 go_wp2_with fail
 go_loopw [8,39] (fun v i wr=>∃ (j:Nat)(ts:List Int),j≤ln∧ts.length=j∧i=.int .i64 j∧wr.ownsRow w1.heap.size 3 1 v j (ints ts)∧Below w1.heap.size w1 wr∧Hid (iH cols l=(ts ++ (iH cols (l.drop j)).1,(iH cols (l.drop j)).2))) (fun _ i _=>ln - (intOf i).toNat)
 case atStart=>exact ⟨0,[],Nat.zero_le _,rfl,rfl,World.ownsRow_nil _ _ _ _,by rw [HW1.out];exact anl _ _,anc rfl⟩
 case round =>
  obtain ⟨j,ts,hj,htl,rfl,hown,hb,hzl⟩:=hrel
  have HO:=anc hown
  have HB:=anc hb
  have hs:=hb.size
  have YS:=anc htl
  clear hown htl
  by_cases hlt:j < ln
  ·obtain ⟨x,hx⟩:∃ x,l[j]?=some x:=⟨_,anr (by rw [← Hln.out];exact hlt)⟩
   obtain ⟨b,o,A',c',rfl,hbl,c1,c2,c3,c4,hK⟩:=HL.out.cu wr hb j x hx
   have Bv:=HM.out x (anq hx) (YR.out x (anq hx))
   have hst:=anc (hzl.out.trans (by rw [KQ cols hx]))
   clear hx hzl
   obtain ⟨xk,xs,xn,xl⟩:=x
   simp only [E.k,E.s,E.n,E.kids] at c1 c2 c3 c4 hK
   have YT:=anc Bv
   have HK:=anc hK
   clear Bv hK
   generalize hq:fM cols (.mk xk xs xn xl)=tq at *
   generalize hxm:xl.length=xm at *
   have hb1:Below w1.heap.size w1 (wr.alloc (.cells #[.int .i64 xk,.string xs,.int .i64 xn,.slice A' xm c'] 38)):=hb.alloc hs _
   have hcl:=anc (YT.out A' Ac c' cc (wr.alloc (.cells #[.int .i64 xk,.string xs,.int .i64 xn,.slice A' xm c'] 38)) (by
    simp only [E.kids]
    have hb2:Below wr.heap.size wr (wr.alloc (.cells #[.int .i64 xk,.string xs,.int .i64 xn,.slice A' xm c'] 38)):=(anl _ _).alloc (ank _) _
    exact (HK.out.low hb2).more hb2.size) ((HC.out.below hb1).more hb1.size))
   simp only [E.val,E.k,E.s,E.n,E.kids,hq,hxm,← Hm.out] at hcl
   have HB1:=anc hb1
   clear hb1 YT HK
   obtain ⟨tk,tw⟩:=tq
   simp only at hst hcl
   go_wp2_with fail
   refine (hcl.out).mono ?_
   rintro e w2 ⟨rfl,hb3⟩
   have HB3:=anc (HB1.out.trans (hb3.mono (by simp;omega)))
   have Kw:=anc (own_below (HO.out.alloc (.cells #[.int .i64 xk,.string xs,.int .i64 xn,.slice A' xm c'] 38)) hb3)
   have hs3:=HB3.out.size
   clear hb3 HO hcl
   by_cases htw:tw=0
   ·subst htw
    have VI:Hid (iH cols l=((ts ++ [tk]) ++ (iH cols (l.drop (j+1))).1,(iH cols (l.drop (j+1))).2)):=anc (by rw [hst.out,if_pos rfl,List.append_assoc];rfl)
    clear hst
    go_wp2_with (at_builtin;refine wpList_append_own _ rfl _ _ 55 rfl w1.heap.size 3 i0 _ 1 8 Tryz.underlying55 hi hz0 hz1 hz2 rfl (by decide) _ _ _ rfl (Kw.out.alloc _) ⟨w2.heap.size,0,none⟩ 1 1 [.int .i64 tk] rfl rfl ?c1 ?c2 ?c3 ?c4 ?c5 ?_)
    case c1 =>
     intro i u hu
     match i,hu with
     | 0,hu=>simp at hu;subst hu;simp [Addr.add]
    case c2=>intro u hu;simp at hu;subst hu;rfl
    case c3=>unfold maxLen;omega
    case c4=>omega
    case c5=>simp;omega
    intro v' w3 hown' hgrow _
    have jZ:Hid (w3.ownsRow w1.heap.size 3 1 v' (j+1) (ints (ts ++ [tk]))):=anc (by unfold ints at hown' ⊢;rw [List.map_append,hws];exact hown')
    have HB4:=anc ((HB3.out.alloc hs3 (.cells #[.int .i64 tk] 3)).grown hgrow (by simp;omega) (fun g hg=>(Kw.out.lt g hg).1))
    have aew:Hid ((ts ++ [tk]).length=j+1):=anc (by rw [List.length_append,YS.out];rfl)
    clear hown' hgrow
    go_wp2_with fail
    go_roundw
    case rel=>exact ⟨j+1,ts ++ [tk],by omega,aew.out,by go_num,jZ.out,HB4.out,VI⟩
    case measure=>simp [intOf];omega
   ·have abC:(tw != 0)=true:=by simpa using htw
    have hq2:Hid (q=(0,tw)):=anc (by rw [hz.out,hst.out,if_neg htw,if_neg htw])
    clear hst hz
    go_wp2_with fail
    go_ret2
    exact ⟨by rw [hq2.out];rfl,(HB0.out.trans (HB3.out.mono (by omega)))⟩
  ·obtain rfl:j=ln:=by omega
   have VI:Hid (iH cols l=(ts,0)):=anc (by rw [hzl.out,List.drop_of_length_le (by rw [← Hln.out];exact ank _),iH,List.append_nil])
   obtain ⟨A2,c2,rfl,hc2,hI⟩:=Ry (l:=ts) (by rw [YS.out];exact HO.out)
   have hr:=anc (KP A2 c2 ts s (by rw [YS.out];exact Hln.out.trans HLC.out) hc2 (by rw [YS.out];exact hl0) wr hI)
   rw [YS.out] at hr
   have cs2:wr.cell? ⟨w.heap.size,1,none⟩=some (.string s):=(hb.cell (show w.heap.size < w1.heap.size by omega)).trans cs
   have hq3:Hid (q=if 0 < dZ s.toList ts then (dZ s.toList ts,0) else (0,22)):=anc (by rw [hz.out,VI.out,if_pos rfl])
   rw [YS.out]
   clear hz hzl VI hI cs HO
   generalize dZ s.toList ts=rs at *
   by_cases hrs:0 < rs
   ·have hq2:Hid (q=(rs,0)):=anc (by rw [hq3.out,if_pos hrs])
    clear hq3
    go_wp2_with fail
    refine (hr.out).mono ?_
    rintro e w2 ⟨rfl,hb3⟩
    have HB3:=anc (HB.out.trans (hb3.mono hs))
    clear hb3 hr
    go_wp2_with fail
    go_ret2
    exact ⟨by rw [hq2.out];rfl,(HB0.out.trans (HB3.out.mono (by omega)))⟩
   ·have hq2:Hid (q=(0,22)):=anc (by rw [hq3.out,if_neg hrs])
    clear hq3
    go_wp2_with fail
    refine (hr.out).mono ?_
    rintro e w2 ⟨rfl,hb3⟩
    have HB3:=anc (HB.out.trans (hb3.mono hs))
    clear hb3 hr
    go_wp2_with fail
    go_ret2
    exact ⟨by rw [hq2.out];rfl,(HB0.out.trans (HB3.out.mono (by omega)))⟩
theorem O3 (cols:List C)(hcl:cols.length≤9223372036854775807):∀ e,BB cols e:=E.ind (KR cols hcl)
def ed (cols:List C)(e:E):Int×Int:=if cZ e=true then fM cols e else (0,22)
theorem Ir (cols:List C)(hcl:cols.length≤9223372036854775807)(e:E)(A Ac:Option Addr)(c cc:Nat)(w:World)(hA:eQ w w.heap.size A e.kids)(hAc:kG w w.heap.size Ac cols) :
 Calls Tryz.prog 47 #[e.val A c,.slice Ac cols.length cc] w fun r w'=>r=.returned (.tuple #[.int .i64 (ed cols e).1,.int .i64 (ed cols e).2])∧Below w.heap.size w w':=by
 obtain ⟨k,s,n,l⟩:=e
 simp only [E.val,E.k,E.s,E.n,E.kids] at hA ⊢
 have hb0:Below w.heap.size w (w.alloc (.cells #[.int .i64 k,.string s,.int .i64 n,.slice A l.length c] 38)):=(anl _ _).alloc (ank _) _
 have hm:=anc (Ip (.mk k s n l) A c _ ((hA.low hb0).more hb0.size))
 simp only [E.val,E.k,E.s,E.n,E.kids] at hm
 have HB0:=anc hb0
 have hq:Hid (ed cols (.mk k s n l)=if cZ (.mk k s n l)=true then fM cols (.mk k s n l) else (0,22)):=anc rfl
 generalize ed cols (.mk k s n l)=q at *
 cases hmd:cZ (.mk k s n l)
 ·rw [hmd] at hq hm
  have hq2:Hid (q=(0,22)):=anc (by rw [hq.out,if_neg (by decide)])
  clear hq hA hAc
  generalize l.length=ln at *
  generalize cols.length=m at *
  go_enter Tryz.func47,Tryz.ntmps47
  go_wp2_with fail
  refine (hm.out).mono ?_
  rintro e w' ⟨rfl,hb⟩
  have HB:=anc (HB0.out.trans (hb.mono (by simp)))
  clear hb
  go_wp2_with fail
  go_ret2
  exact ⟨by rw [hq2.out];rfl,HB.out⟩
 ·rw [hmd] at hq hm
  have hq2:Hid (q=fM cols (.mk k s n l)):=anc (by rw [hq.out,if_pos rfl])
  have hty:Hid (∀ w1,Below w.heap.size w w1→Calls Tryz.prog 91 #[.agg #[.int .i64 k,.string s,.int .i64 n,.slice A l.length c],.slice Ac cols.length cc] w1 fun r w'=>r=.returned (.tuple #[.int .i64 q.1,.int .i64 q.2])∧Below w1.heap.size w1 w'):=anc (fun w1 hb1=>by
   rw [hq2.out]
   exact O3 cols hcl (.mk k s n l) hmd A Ac c cc w1 ((hA.low hb1).more hb1.size) ((hAc.below hb1).more hb1.size))
  clear hq hA hAc hmd
  generalize l.length=ln at *
  generalize cols.length=m at *
  go_enter Tryz.func47,Tryz.ntmps47
  go_wp2_with fail
  refine (hm.out).mono ?_
  rintro e w' ⟨rfl,hb⟩
  have hb2:=hb0.trans (hb.mono (by simp))
  have HB:=anc hb2
  have aex:=anc (hty.out w' hb2)
  have c0:w'.cell? ⟨w.heap.size,0,none⟩=some (.int .i64 k):=(hb.cell (by simp)).trans (by simp)
  have c1:w'.cell? ⟨w.heap.size,1,none⟩=some (.string s):=(hb.cell (by simp)).trans (by simp)
  have c2:w'.cell? ⟨w.heap.size,2,none⟩=some (.int .i64 n):=(hb.cell (by simp)).trans (by simp)
  have c3:w'.cell? ⟨w.heap.size,3,none⟩=some (.slice A ln c):=(hb.cell (by simp)).trans (by simp)
  have hs2:=hb.size
  clear hb hb2 hty hm hb0
  go_wp2_with fail
  refine (aex.out).mono ?_
  rintro e w3 ⟨rfl,hb⟩
  have HB3:=anc (HB.out.trans (hb.mono (by simp at hs2;omega)))
  clear hb
  go_wp2_with fail
  go_ret2
  exact ⟨rfl,HB3.out⟩
inductive T where
 | mk (k:Int)(s:ByteArray)(n:Int)(kids:List T)(at_:Int)
def T.k:T→Int | .mk k _ _ _ _=>k
def T.s:T→ByteArray | .mk _ s _ _ _=>s
def T.n:T→Int | .mk _ _ n _ _=>n
def T.kids:T→List T | .mk _ _ _ l _=>l
def T.at_:T→Int | .mk _ _ _ _ a=>a
theorem T.ind {P:T→Prop} (h:∀ k s n l a,(∀ e ∈ l,P e)→P (.mk k s n l a)):∀ e,P e:=by
 intro e
 exact T.rec (motive_1:=P) (motive_2:=fun l=>∀ e ∈ l,P e) (fun k s n l a ih=>h k s n l a ih) (fun e he=>by cases he) (fun e l h1 h2 x hx=>by
  rcases List.mem_cons.1 hx with rfl | hx
  ·exact h1
  ·exact h2 x hx) e
inductive bz (w:World)(B:Nat):Option Addr→List T→Prop
 | nil (A:Option Addr):bz w B A []
 | mk (b off:Nat)(l:List T)(hn:l.length≤9223372036854775807)(hb:b < B)(A:Nat→Option Addr)(c:Nat→Nat)
    (h:∀ i e,l[i]?=some e→w.cell? ⟨b,off+i * 5,none⟩=some (.int .i64 e.k)∧w.cell? ⟨b,off+i * 5+1,none⟩=some (.string e.s) ∧
      w.cell? ⟨b,off+i * 5+2,none⟩=some (.int .i64 e.n)∧w.cell? ⟨b,off+i * 5+3,none⟩=some (.slice (A i) e.kids.length (c i))∧w.cell? ⟨b,off+i * 5+4,none⟩=some (.int .i64 e.at_)∧e.kids.length≤c i)
    (hk:∀ i e,l[i]?=some e→bz w B (A i) e.kids):bz w B (some ⟨b,off,none⟩) l
theorem bz.low {w w':World} {B:Nat} {A:Option Addr} {l:List T} (h:bz w B A l)(hb:Below B w w'):bz w' B A l:=by
 induction h with
 | nil A=>exact .nil A
 | mk b off l hn hlt A c h hk ih =>
   refine .mk b off l hn hlt A c (fun i e he=>?_) (fun i e he=>ih i e he)
   obtain ⟨h1,h2,h3,h4,h5,h6⟩:=h i e he
   exact ⟨(hb.cell hlt).trans h1,(hb.cell hlt).trans h2,(hb.cell hlt).trans h3,(hb.cell hlt).trans h4,(hb.cell hlt).trans h5,h6⟩
theorem bz.more {w:World} {B B':Nat} {A:Option Addr} {l:List T} (h:bz w B A l)(hB:B≤B'):bz w B' A l:=by
 induction h with
 | nil A=>exact .nil A
 | mk b off l hn hlt A c h hk ih=>exact .mk b off l hn (by omega) A c h (fun i e he=>ih i e he)
theorem bz.len {w:World} {B:Nat} {A:Option Addr} {l:List T} (h:bz w B A l):l.length≤9223372036854775807:=by
 cases h with
 | nil A=>simp
 | mk b off l hn hlt A c h hk=>exact hn
theorem bz.cu {w:World} {A:Option Addr} {l:List T} (h:bz w w.heap.size A l):∀ w1,Below w.heap.size w w1→∀ i e,l[i]?=some e →
 ∃ b o A' c',A=some ⟨b,o,none⟩∧b < w.heap.size∧w1.cell? ⟨b,o+i * 5,none⟩=some (.int .i64 e.k)∧w1.cell? ⟨b,o+i * 5+1,none⟩=some (.string e.s) ∧
   w1.cell? ⟨b,o+i * 5+2,none⟩=some (.int .i64 e.n)∧w1.cell? ⟨b,o+i * 5+3,none⟩=some (.slice A' e.kids.length c')∧w1.cell? ⟨b,o+i * 5+4,none⟩=some (.int .i64 e.at_)∧e.kids.length≤c'∧bz w1 w1.heap.size A' e.kids:=by
 intro w1 hb i e he
 cases h with
 | nil A=>simp at he
 | mk b off l hn hlt A c h hk =>
   obtain ⟨h1,h2,h3,h4,h5,h6⟩:=h i e he
   exact ⟨b,off,A i,c i,rfl,hlt,(hb.cell hlt).trans h1,(hb.cell hlt).trans h2,(hb.cell hlt).trans h3,(hb.cell hlt).trans h4,(hb.cell hlt).trans h5,h6,((hk i e he).low hb).more hb.size⟩
def T.val (e:T)(A:Option Addr)(c:Nat):Value:=.agg #[.int .i64 e.k,.string e.s,.int .i64 e.n,.slice A e.kids.length c,.int .i64 e.at_]
def zeroE:E:=.mk 0 ⟨#[]⟩ 0 []
mutual
def aI:T→E×Int×Int
 | .mk k s n l a=>if k=2 then (if nameB s then (.mk 1 s 0 [],0,0) else (zeroE,20,a))
   else if k=3 then (.mk 2 ⟨#[]⟩ n [],0,0) else if k=4 then (.mk 3 s 0 [],0,0)
   else if k=1 then
    (match l with
      | []=>(zeroE,12,a)
      | x :: ks=>if x.k=2∧dB x.s.toList≠0 then
          (if ks.length=dB x.s.toList then (if (aN ks).2.1=0 then (.mk 4 x.s 0 (aN ks).1,0,0) else (zeroE,(aN ks).2.1,(aN ks).2.2)) else (zeroE,23,a))
        else (zeroE,12,a))
   else (zeroE,12,a)
def aN:List T→List E×Int×Int
 | []=>([],0,0)
 | x :: l=>if (aI x).2.1=0 then ((aI x).1 :: (aN l).1,(aN l).2.1,(aN l).2.2) else ([],(aI x).2.1,(aI x).2.2)
end
abbrev EP:=E×Option Addr×Nat
def EP.cs (x:EP):List Value:=[.int .i64 x.1.k,.string x.1.s,.int .i64 x.1.n,.slice x.2.1 x.1.kids.length x.2.2]
def iZ (l:List EP):List Value:=l.flatMap EP.cs
theorem O4 (l:List EP):∀ (i:Nat)(v:EP),l[i]?=some v→(iZ l)[i * 4]?=some (.int .i64 v.1.k)∧(iZ l)[i * 4+1]?=some (.string v.1.s)∧(iZ l)[i * 4+2]?=some (.int .i64 v.1.n)∧(iZ l)[i * 4+3]?=some (.slice v.2.1 v.1.kids.length v.2.2):=by
 induction l with
 | nil=>intro i v h;simp at h
 | cons x l ih =>
   intro i v h
   have e:iZ (x :: l)=EP.cs x ++ iZ l:=rfl
   rw [e]
   cases i with
   | zero =>
     obtain rfl:x=v:=by simpa using h
     exact ⟨rfl,rfl,rfl,rfl⟩
   | succ i =>
     have:=ih i v (by simpa using h)
     have hl:(EP.cs x).length=4:=rfl
     rw [List.getElem?_append_right (by omega),List.getElem?_append_right (by omega),List.getElem?_append_right (by omega),List.getElem?_append_right (by omega),hl]
     rw [show (i+1) * 4 - 4=i * 4 from by omega,show (i+1) * 4+1 - 4=i * 4+1 from by omega,show (i+1) * 4+2 - 4=i * 4+2 from by omega,show (i+1) * 4+3 - 4=i * 4+3 from by omega]
     exact this
theorem kY (v:EP):iZ [v]=EP.cs v:=by simp [iZ]
theorem mf (a b:List EP):iZ (a ++ b)=iZ a ++ iZ b:=by simp [iZ]
theorem vg (l:List EP):∀ u ∈ iZ l,u.oneCell'=true:=by
 intro u hu
 obtain ⟨v,_,hv⟩:=List.mem_flatMap.1 hu
 simp only [EP.cs,List.mem_cons,List.not_mem_nil,or_false] at hv
 rcases hv with rfl | rfl | rfl | rfl <;> rfl
inductive gy (w:World)(S:Nat→Prop):Option Addr→List E→Prop
 | nil (A:Option Addr):gy w S A []
 | mk (b off:Nat)(l:List E)(hn:l.length≤9223372036854775807)(hb:S b)(A:Nat→Option Addr)(c:Nat→Nat)
    (h:∀ i e,l[i]?=some e→w.cell? ⟨b,off+i * 4,none⟩=some (.int .i64 e.k)∧w.cell? ⟨b,off+i * 4+1,none⟩=some (.string e.s) ∧
      w.cell? ⟨b,off+i * 4+2,none⟩=some (.int .i64 e.n)∧w.cell? ⟨b,off+i * 4+3,none⟩=some (.slice (A i) e.kids.length (c i)))
    (hk:∀ i e,l[i]?=some e→gy w S (A i) e.kids):gy w S (some ⟨b,off,none⟩) l
theorem gy.kept {w w':World} {S:Nat→Prop} {A:Option Addr} {l:List E} (h:gy w S A l)(hw:∀ k,S k→w'.heap[k]?=w.heap[k]?):gy w' S A l:=by
 induction h with
 | nil A=>exact .nil A
 | mk b off l hn hlt A c h hk ih =>
   refine .mk b off l hn hlt A c (fun i e he=>?_) (fun i e he=>ih i e he)
   have hc:∀ o,w'.cell? ⟨b,o,none⟩=w.cell? ⟨b,o,none⟩:=fun o=>anw (hw b hlt)
   obtain ⟨h1,h2,h3,h4⟩:=h i e he
   exact ⟨(hc _).trans h1,(hc _).trans h2,(hc _).trans h3,(hc _).trans h4⟩
theorem gy.mono {w:World} {S S':Nat→Prop} {A:Option Addr} {l:List E} (h:gy w S A l)(hS:∀ k,S k→S' k):gy w S' A l:=by
 induction h with
 | nil A=>exact .nil A
 | mk b off l hn hlt A c h hk ih=>exact .mk b off l hn (hS b hlt) A c h (fun i e he=>ih i e he)
theorem gy.to {w:World} {S:Nat→Prop} {B:Nat} {A:Option Addr} {l:List E} (h:gy w S A l)(hS:∀ k,S k→k < B):eQ w B A l:=by
 induction h with
 | nil A=>exact .nil A
 | mk b off l hn hlt A c h hk ih=>exact .mk b off l hn (hS b hlt) A c h (fun i e he=>ih i e he)
theorem tX {w:World} {base:Nat} {e:TypeId} {v:Value} {l:List EP} (h:w.ownsRow base e 4 v l.length (iZ l))(hn:l.length≤9223372036854775807) {S:Nat→Prop} (hS:∀ g,base≤g→g < w.heap.size→S g)(hk:∀ x ∈ l,gy w S x.2.1 x.1.kids) :
 ∃ A c,v=.slice A (l.map Prod.fst).length c∧gy w S A (l.map Prod.fst):=by
 obtain ⟨_,hcase⟩:=id h
 rcases hcase with ⟨rfl,h0⟩ | ⟨g,cap,cur,rfl,hg,hh,hc,hcap,hsz,htake⟩
 ·have e0:l=[]:=List.eq_nil_of_length_eq_zero h0
  subst e0
  exact ⟨none,0,rfl,.nil _⟩
 ·refine ⟨some ⟨g,0,none⟩,cap,by rw [List.length_map],.mk g 0 _ (by rw [List.length_map];exact hn) ?_ (fun i=>((l[i]?).map fun x=>x.2.1).getD none) (fun i=>((l[i]?).map fun x=>x.2.2).getD 0) (fun i x hx=>?_) (fun i x hx=>?_)⟩
  ·refine hS g hg ?_
   rcases Nat.lt_or_ge g w.heap.size with hlt | hge
   ·exact hlt
   ·rw [Array.getElem?_eq_none hge] at hh;cases hh
  ·rw [List.getElem?_map] at hx
   cases hl:l[i]? with
   | none=>rw [hl] at hx;cases hx
   | some y =>
     rw [hl] at hx
     obtain rfl:y.1=x:=by simpa using hx
     obtain ⟨f1,f2,f3,f4⟩:=O4 l i y hl
     have hi:i < l.length:=(List.getElem?_eq_some_iff.1 hl).1
     rw [Nat.zero_add,h.cellAt _ (by omega),h.cellAt _ (by omega),h.cellAt _ (by omega),h.cellAt _ (by omega)]
     exact ⟨f1,f2,f3,f4⟩
  ·rw [List.getElem?_map] at hx
   cases hl:l[i]? with
   | none=>rw [hl] at hx;cases hx
   | some y =>
     rw [hl] at hx
     obtain rfl:y.1=x:=by simpa using hx
     exact hk y (anq hl)
theorem EC {w:World} {g k:Nat} {a b c d u:Value} {t:TypeId} (h:w.heap[g]?=some (.cells #[a,b,c,d] t (0,0))):(w.setCell ⟨g,k,none⟩ u).heap[g]?=some (.cells (#[a,b,c,d].set! k u) t (0,0)):=by
 show (w.heap.modify g _)[g]?=_
 rw [Array.getElem?_modify]
 simp [h]
def nO (w:World)(p:Nat)(x0 x1 x2 x3:Value):World:=(((w.setCell ⟨p,0,none⟩ x0).setCell ⟨p,1,none⟩ x1).setCell ⟨p,2,none⟩ x2).setCell ⟨p,3,none⟩ x3
theorem aZ {w:World} {p:Nat} {a b c d x0 x1 x2 x3:Value} {t:TypeId} (h:w.heap[p]?=some (.cells #[a,b,c,d] t (0,0))):(nO w p x0 x1 x2 x3).heap[p]?=some (.cells #[x0,x1,x2,x3] t (0,0)) :=
 EC (k:=3) (EC (k:=2) (EC (k:=1) (EC (k:=0) h)))
theorem bF {w a:World} {p B:Nat} {x0 x1 x2 x3:Value} (h:Below B a w)(hp:B≤p):Below B a (nO w p x0 x1 x2 x3) :=
 (((h.setCell (p:=⟨p,0,none⟩) hp x0).setCell (p:=⟨p,1,none⟩) hp x1).setCell (p:=⟨p,2,none⟩) hp x2).setCell (p:=⟨p,3,none⟩) hp x3
theorem bQ {w:World} {g:Nat} {a b c d:Value} {t:TypeId} (h:w.heap[g]?=some (.cells #[a,b,c,d] t (0,0))) :
 (w.cell? ⟨g,0,none⟩=some a∧w.cell? ⟨g,1,none⟩=some b∧w.cell? ⟨g,2,none⟩=some c∧w.cell? ⟨g,3,none⟩=some d)∧w.frozen? ⟨g,0,none⟩=false∧w.frozen? ⟨g,1,none⟩=false∧w.frozen? ⟨g,2,none⟩=false∧w.frozen? ⟨g,3,none⟩=false:=by
 simp [World.cell?,World.frozen?,h]
theorem aS {fn:Func} {p q r:Tmp} (h:fn.results=#[.cell p 38,.tmp q,.tmp r]) {tmps:Array Value} {w:World} {g:Nat} {x0 x1 x2 x3 u v:Value} {t:TypeId}
 (hp:tmps.getD p undef=.pointer (some ⟨g,0,none⟩))(hq:tmps.getD q undef=u)(hr:tmps.getD r undef=v)(hg:w.heap[g]?=some (.cells #[x0,x1,x2,x3] t (0,0))):(results fn tmps).run Tryz.prog w=.ok (.tuple #[.agg #[x0,x1,x2,x3],u,v]) w:=by
 have hp':tmps[p]?.getD undef=.pointer (some ⟨g,0,none⟩):=by simpa using hp
 have hq':tmps[q]?.getD undef=u:=by simpa using hq
 have hr':tmps[r]?.getD undef=v:=by simpa using hr
 have hl:=run_loadVar_row (P:=Tryz.prog) w g t 38 #[x0,x1,x2,x3] (0,0) _ hg Tryz.underlying38 rfl (by show _=some 4;kernel_rfl)
 simp [results,h,hp',hq',hr',asAddr,hl]
inductive T.Fine:T→Prop
 | mk (k:Int)(s:ByteArray)(n:Int)(l:List T)(a:Int)(h1:-9223372036854775808≤n)(h2:n≤9223372036854775807)(h3:s.size≤1048576)(h:∀ e ∈ l,T.Fine e):T.Fine (.mk k s n l a)
def tY (t:T):Prop:=∀ (A:Option Addr)(c:Nat)(w:World),t.kids.length≤c→bz w w.heap.size A t.kids →
 Calls Tryz.prog 106 #[t.val A c] w fun r w'=>(∃ A' c',r=.returned (.tuple #[(aI t).1.val A' c',.int .i64 (aI t).2.1,.int .i64 (aI t).2.2])∧gy w' (fun k=>w.heap.size≤k∧k < w'.heap.size) A' (aI t).1.kids)∧Below w.heap.size w w'
theorem O5 (k:Int)(s:ByteArray)(n:Int)(l:List T)(a:Int)(hk1:k≠1):tY (.mk k s n l a):=by
 intro A c w _ hA
 simp only [T.val,T.k,T.s,T.n,T.kids,T.at_] at hA ⊢
 have hz:Hid (aI (.mk k s n l a)=if k=2 then (if nameB s then (.mk 1 s 0 [],0,0) else (zeroE,20,a)) else if k=3 then (.mk 2 ⟨#[]⟩ n [],0,0) else if k=4 then (.mk 3 s 0 [],0,0) else (zeroE,12,a)):=anc (by
  rw [aI.eq_def]
  simp only [if_neg hk1])
 obtain ⟨w1,aK⟩:∃ w1,w1=(w.alloc (.cells #[.int .i64 k,.string s,.int .i64 n,.slice A l.length c,.int .i64 a] 71)).alloc (.cells #[.int .i64 0,.string ⟨#[]⟩,.int .i64 0,.slice none 0 0] 38):=⟨_,rfl⟩
 have hb1:Below w.heap.size w w1:=by rw [aK];exact ((anl _ _).alloc (ank _) _).alloc (by simp) _
 have HB1:=anc hb1
 have hB:Hid (w1.heap[w.heap.size+1]?=some (.cells #[.int .i64 0,.string ⟨#[]⟩,.int .i64 0,.slice none 0 0] 38 (0,0))):=anc (by
  rw [aK]
  have:=anm (w.alloc (.cells #[.int .i64 k,.string s,.int .i64 n,.slice A l.length c,.int .i64 a] 71)) (.cells #[.int .i64 0,.string ⟨#[]⟩,.int .i64 0,.slice none 0 0] 38)
  simpa using this)
 have oD:Hid (w1.cell? ⟨w.heap.size,0,none⟩=some (.int .i64 k)∧w1.cell? ⟨w.heap.size,1,none⟩=some (.string s)∧w1.cell? ⟨w.heap.size,2,none⟩=some (.int .i64 n)∧w1.cell? ⟨w.heap.size,3,none⟩=some (.slice A l.length c)):=anc (by rw [aK];simp)
 have HD:Hid (w1.cell? ⟨w.heap.size,4,none⟩=some (.int .i64 a)):=anc (by rw [aK];simp)
 have HW1:=anc aK
 have hN:=anc (name_any s w1)
 generalize aI (.mk k s n l a)=q at *
 generalize l.length=ln at *
 clear hA aK hb1
 have abD:(k == 1)=false:=by simpa using hk1
 by_cases h2:k=2
 ·subst h2
  cases hnb:nameB s
  ·have hq:Hid (q=(zeroE,20,a)):=anc (by rw [hz.out,if_pos rfl,hnb];rfl)
   rw [hnb] at hN
   clear hz
   go_enter Tryz.func106,Tryz.ntmps106
   go_wp2_with fail
   rw [← HW1.out]
   refine (hN.out).mono ?_
   rintro e w2 ⟨rfl,rfl⟩
   obtain ⟨⟨k0,k1,k2,k3⟩,f0,f1,f2,f3⟩:=bQ hB.out
   have d4:=HD.out
   go_wp2_with fail
   go_region
   go_wp2_with fail
   refine ano (aS rfl rfl rfl rfl (show ((nO w1 (w.heap.size+1) _ _ _ _).drew).heap[w.heap.size+1]?=_ from aZ hB.out)) rfl ?_
   exact ⟨⟨none,0,by rw [hq.out];rfl,by rw [hq.out];exact .nil _⟩,(bF HB1.out (Nat.le_succ _)).drew⟩
  ·have hq:Hid (q=(.mk 1 s 0 [],0,0)):=anc (by rw [hz.out,if_pos rfl,hnb];rfl)
   rw [hnb] at hN
   clear hz
   go_enter Tryz.func106,Tryz.ntmps106
   go_wp2_with fail
   rw [← HW1.out]
   refine (hN.out).mono ?_
   rintro e w2 ⟨rfl,rfl⟩
   obtain ⟨⟨k0,k1,k2,k3⟩,f0,f1,f2,f3⟩:=bQ hB.out
   obtain ⟨d0,d1,d2,d3⟩:=oD.out
   go_wp2_with fail
   refine ano (aS rfl rfl rfl rfl (aZ hB.out)) rfl ?_
   exact ⟨⟨none,0,by rw [hq.out];rfl,by rw [hq.out];exact .nil _⟩,bF HB1.out (Nat.le_succ _)⟩
 have h2':(k == 2)=false:=by simpa using h2
 by_cases h3:k=3
 ·subst h3
  have hq:Hid (q=(.mk 2 ⟨#[]⟩ n [],0,0)):=anc (by rw [hz.out,if_neg (by decide),if_pos rfl])
  clear hz hN
  go_enter Tryz.func106,Tryz.ntmps106
  go_upto_if 7 with (fail)
  rw [← HW1.out]
  obtain ⟨⟨k0,k1,k2,k3⟩,f0,f1,f2,f3⟩:=bQ hB.out
  obtain ⟨d0,d1,d2,d3⟩:=oD.out
  go_wp2_with fail
  refine ano (aS rfl rfl rfl rfl (aZ hB.out)) rfl ?_
  exact ⟨⟨none,0,by rw [hq.out];rfl,by rw [hq.out];exact .nil _⟩,bF HB1.out (Nat.le_succ _)⟩
 have h3':(k == 3)=false:=by simpa using h3
 by_cases h4:k=4
 ·subst h4
  have hq:Hid (q=(.mk 3 s 0 [],0,0)):=anc (by rw [hz.out,if_neg (by decide),if_neg (by decide),if_pos rfl])
  clear hz hN
  go_enter Tryz.func106,Tryz.ntmps106
  go_upto_if 7 with (fail)
  rw [← HW1.out]
  obtain ⟨⟨k0,k1,k2,k3⟩,f0,f1,f2,f3⟩:=bQ hB.out
  obtain ⟨d0,d1,d2,d3⟩:=oD.out
  go_wp2_with fail
  refine ano (aS rfl rfl rfl rfl (aZ hB.out)) rfl ?_
  exact ⟨⟨none,0,by rw [hq.out];rfl,by rw [hq.out];exact .nil _⟩,bF HB1.out (Nat.le_succ _)⟩
 have h4':(k == 4)=false:=by simpa using h4
 have hq:Hid (q=(zeroE,12,a)):=anc (by rw [hz.out,if_neg h2,if_neg h3,if_neg h4])
 clear hz hN
 go_enter Tryz.func106,Tryz.ntmps106
 go_upto_if 7 with (fail)
 rw [← HW1.out]
 obtain ⟨⟨k0,k1,k2,k3⟩,f0,f1,f2,f3⟩:=bQ hB.out
 obtain ⟨d0,d1,d2,d3⟩:=oD.out
 have d4:=HD.out
 go_wp2_with fail
 go_region
 go_wp2_with fail
 refine ano (aS rfl rfl rfl rfl (show ((nO w1 (w.heap.size+1) _ _ _ _).drew).heap[w.heap.size+1]?=_ from aZ hB.out)) rfl ?_
 exact ⟨⟨none,0,by rw [hq.out];rfl,by rw [hq.out];exact .nil _⟩,(bF HB1.out (Nat.le_succ _)).drew⟩
end Go.Proofs.YtjhkihkiebnpaaaGreatDoor
