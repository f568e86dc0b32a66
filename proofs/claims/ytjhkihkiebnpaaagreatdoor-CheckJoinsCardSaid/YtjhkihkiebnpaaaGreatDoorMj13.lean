/-
  The reference's plans: agg.
-/
import Derived.Test.YtjhkihkiebnpaaaGreatDoorMj0
import Derived.Test.YtjhkihkiebnpaaaGreatDoorMj5
import Derived.RegionTactic
import Derived.Test.YtjhkihkiebnpaaaGreatDoorMj3
import Derived.Test.YtjhkihkiebnpaaaGreatDoorMj2
import Derived.Test.YtjhkihkiebnpaaaGreatDoorMj7
import Derived.Test.YtjhkihkiebnpaaaGreatDoorMj11
import Derived.BigQuiet
import Derived.Test.YtjhkihkiebnpaaaGreatDoorMj1
import Derived.Deep.Onto
import Derived.WalkLawsBesides
import Derived.Deep.AppendLies
import Derived.Deep.RegionHeld3
set_option linter.unusedVariables false
set_option linter.unusedSimpArgs false
set_option maxRecDepth 100000
set_option maxHeartbeats 40000000
namespace Go.Proofs.YtjhkihkiebnpaaaGreatDoor
open Go.RowKit
theorem lM {fn:Func} {p q r:Tmp} (h:fn.results=#[.cell p 46,.tmp q,.tmp r]) {tmps:Array Value} {w:World} {g:Nat} {x0 x1 x2 u v:Value} {t:TypeId}
 (hp:tmps.getD p undef=.pointer (some ⟨g,0,none⟩))(hq:tmps.getD q undef=u)(hr:tmps.getD r undef=v)(hg:w.heap[g]?=some (.cells #[x0,x1,x2] t (0,0))):(results fn tmps).run Tryz.prog w=.ok (.tuple #[.agg #[x0,x1,x2],u,v]) w:=by
 have hp':tmps[p]?.getD undef=.pointer (some ⟨g,0,none⟩):=by simpa using hp
 have hq':tmps[q]?.getD undef=u:=by simpa using hq
 have hr':tmps[r]?.getD undef=v:=by simpa using hr
 have hl:=run_loadVar_row (P:=Tryz.prog) w g t 46 #[x0,x1,x2] (0,0) _ hg Tryz.underlying46 rfl (by show _=some 3;kernel_rfl)
 simp[results,h,hp',hq',hr',asAddr,hl]
theorem OC {w:World} {g k:Nat} {a b c u:Value} {t:TypeId} (h:w.heap[g]?=some (.cells #[a,b,c] t (0,0))):(w.setCell ⟨g,k,none⟩ u).heap[g]?=some (.cells (#[a,b,c].set! k u) t (0,0)):=by
 show (w.heap.modify g _)[g]?=_
 rw[Array.getElem?_modify]
 simp[h]
def Vr (w:World)(p:Nat)(x0 x1 x2:Value):World:=((w.setCell ⟨p,0,none⟩ x0).setCell ⟨p,1,none⟩ x1).setCell ⟨p,2,none⟩ x2
theorem lD {w:World} {p:Nat} {a b c x0 x1 x2:Value} {t:TypeId} (h:w.heap[p]?=some (.cells #[a,b,c] t (0,0))):(Vr w p x0 x1 x2).heap[p]?=some (.cells #[x0,x1,x2] t (0,0)) :=
 OC (k:=2) (OC (k:=1) (OC (k:=0) h))
theorem lF {w a:World} {p B:Nat} {x0 x1 x2:Value} (h:Below B a w)(hp:B≤p):Below B a (Vr w p x0 x1 x2) :=
 ((h.setCell (p:=⟨p,0,none⟩) hp x0).setCell (p:=⟨p,1,none⟩) hp x1).setCell (p:=⟨p,2,none⟩) hp x2
theorem rD {w:World} {g:Nat} {a b c:Value} {t:TypeId} (h:w.heap[g]?=some (.cells #[a,b,c] t (0,0))) :
 (w.cell? ⟨g,0,none⟩=some a∧w.cell? ⟨g,1,none⟩=some b∧w.cell? ⟨g,2,none⟩=some c)∧w.frozen? ⟨g,0,none⟩=false∧w.frozen? ⟨g,1,none⟩=false∧w.frozen? ⟨g,2,none⟩=false:=by
 simp[World.cell?,World.frozen?,h]
def CO (l:List T):Prop:=nameB (l.getD 0 dW).s=true∧qO l=true∧(l.length=3→nameB (l.getD 2 dW).s=true)
theorem OD {l:List T} (h:CO l)(s:jL):rV l s=s:=by
 obtain⟨h1,h2,h3⟩:=h
 have e1:qP l s=s:=by unfold qP jl;rw[if_pos h2,if_pos h1]
 unfold rV
 split
 ·rename_i h
  unfold jl
  rw[if_pos (h3 h),e1]
 ·exact e1
def Jg (l:List T):Prop:=∃ x y:T,l[0]?=some x∧l[1]?=some y∧l.length=2∧nameB x.s=true∧y.s.toList=ig
def aaR (l:List T)(e:Ending):Prop :=
 (CO l∧e=.returned (.tuple #[.agg #[.string (qp l).nm,.string (qp l).fn,.string (qp l).xH],.int .i64 0,.int .i64 0])) ∨
 (∃ x0 x1 x2 why at_,why≠0∧e=.returned (.tuple #[.agg #[.string x0,.string x1,.string x2],.int .i64 why,.int .i64 at_])∧¬Jg l)
theorem Vs {l:List T} {x y:T} (h:l.length=2)(hx:l[0]?=some x)(hy:l[1]?=some y)(hn:nameB x.s=true)(hc:y.s.toList=ig):CO l∧qp l=⟨x.s,⟨ig.toArray⟩,⟨#[]⟩⟩:=by
 refine⟨⟨by rw[getD_some hx];exact hn,?_,fun e=>by omega⟩,?_⟩
 ·unfold qO;rw[if_pos h,getD_some hy,hc];rfl
 ·unfold qp
  rw[getD_some hx,getD_some hy,if_neg (by omega)]
  congr 1
  apply ByteArray.ext
  apply Array.ext'
  rw[←hc]
  simp[ByteArray.toList_eq]
theorem OE {l:List T} {x y z:T} (h:l.length=3)(hx:l[0]?=some x)(hy:l[1]?=some y)(hz:l[2]?=some z)(hn:nameB x.s=true)(hc:y.s.toList=pY∨y.s.toList=uS∨y.s.toList=uT)(hm:nameB z.s=true):CO l∧qp l=⟨x.s,y.s,z.s⟩:=by
 refine⟨⟨by rw[getD_some hx];exact hn,?_,fun e=>by rw[getD_some hz];exact hm⟩,?_⟩
 ·unfold qO
  rw[if_neg (by omega),getD_some hy]
  rcases hc with hc|hc|hc <;> rw[hc] <;> rfl
 ·unfold qp
  rw[getD_some hx,getD_some hy,getD_some hz,if_pos h]
theorem OG (l:List T)(hn:l.length=2∨l.length=3)(hs:∀ x∈l,x.s.size≤600)(A:Option Addr)(c:Nat)(w:World)(hA:fA w w.heap.size A l) :
 Calls Tryz.prog 86 #[.slice A l.length c] w fun r w'=>aaR l r∧Below w.heap.size w w':=by
 obtain⟨x,hx⟩:∃ x,l[0]?=some x:=⟨_,aO (by omega)⟩
 obtain⟨y,hy⟩:∃ y,l[1]?=some y:=⟨_,aO (by omega)⟩
 obtain⟨w1,dZ⟩:∃ w1,w1=w.alloc (.cells #[.string ⟨#[]⟩,.string ⟨#[]⟩,.string ⟨#[]⟩] 46):=⟨_,rfl⟩
 have hb1:Below w.heap.size w w1:=by rw[dZ];exact (aG _ _).alloc (aF _) _
 have hs1:w.heap.size<w1.heap.size:=by rw[dZ];simp
 have HR1:Hid (w1.heap[w.heap.size]?=some (.cells #[.string ⟨#[]⟩,.string ⟨#[]⟩,.string ⟨#[]⟩] 46 (0,0))):=ae (by rw[dZ];exact aH w _)
 have Nk:=ae ((hA.low hb1).more hb1.size)
 have HW1:=ae dZ
 have HB1:=ae hb1
 obtain⟨b,o,A1,c1,rfl,hbg,m0,m1,m2,m3,m4,hc1,hK1⟩:=Nk.o.gy _ (aG _ _) 0 x hx
 have hcl:=ae (oK x (by have:=hs x (aN hx);omega) A1 c1 w1)
 rw[Nat.zero_mul,Nat.add_zero] at m0 m1 m2 m3 m4
 have hcs:=vP (nameB x.s) x.s x.at_
 have H2:Hid (l.length=2→nameB x.s=true→y.s.toList=ig→CO l∧qp l=⟨x.s,⟨ig.toArray⟩,⟨#[]⟩⟩):=ae fun h h1 h2=>Vs h hx hy h1 h2
 have H3:Hid (∀ z,l.length=3→l[2]?=some z→nameB x.s=true→(y.s.toList=pY∨y.s.toList=uS∨y.s.toList=uT)→nameB z.s=true→CO l∧qp l=⟨x.s,y.s,z.s⟩):=ae fun z h hz h1 h2 h3=>OE h hx hy hz h1 h2 h3
 have N1:Hid (nameB x.s=false→¬Jg l):=ae (fun h ⟨x',y',hx',hy',h2,h3,h4⟩=>by rw[hx] at hx';obtain rfl:=aY hx';rw[h] at h3;cases h3)
 have N2:Hid (¬y.s.toList=ig→¬Jg l):=ae (fun h ⟨x',y',hx',hy',h2,h3,h4⟩=>by rw[hy] at hy';obtain rfl:=aY hy';exact h h4)
 have N3:Hid (l.length=3→¬Jg l):=ae (fun h ⟨x',y',hx',hy',h2,h3,h4⟩=>by omega)
 have HY:=ae hy
 have HS:=ae hs
 have ZP:Hid (l.length=l.length):=ae rfl
 generalize (bif nameB x.s then x.s else ⟨#[]⟩)=r1 at *
 generalize (bif nameB x.s then (0:Int) else 20)=r2 at *
 generalize (bif nameB x.s then (0:Int) else x.at_)=r3 at *
 generalize nameB x.s=q at *
 obtain⟨xk,xs,xn,xl,xa⟩:=x
 simp only[T.val,T.k,T.s,T.n,T.kids,T.at_] at m0 m1 m2 m3 m4 hcl hcs H2 H3
 clear dZ hb1 hA hs hx hy hc1 hK1
 generalize xl.length=xm at *
 obtain⟨m,hm⟩:∃ m,l.length=m:=⟨_,rfl⟩
 have HM:=ae hm
 rw[hm] at hn ⊢
 clear hm ZP
 have hm0:0<m:=by omega
 have hm1:1<m:=by omega
 rcases hcs with⟨rfl,rfl,rfl,rfl⟩|⟨rfl,rfl⟩
 ·go_enter Tryz.func86,Tryz.ntmps86
  go_upto_region 1 with (fail)
  rw[←HW1.o]
  go_wp2_with fail
  refine (hcl.o).mono ?_
  rintro e w2 ⟨rfl,hb2⟩
  have HB2:=ae (HB1.o.trans (hb2.mono HB1.o.size))
  have HR2:=ae ((hb2.block _ hs1).trans HR1.o)
  have xQ:=ae ((Nk.o.low hb2).more hb2.size)
  have hs2:=hb2.size
  clear hb2 hcl m0 m1 m2 m3 m4
  obtain⟨b',o',A2,c2,e9,NP,p0,p1,p2,p3,p4,hc2,hK2⟩:=xQ.o.gy _ (aG _ _) 1 y HY.o
  obtain⟨rfl,rfl⟩:b=b'∧o=o':=by injection e9 with e9;injection e9 with e9 e10;exact⟨e9,e10⟩
  rw[Nat.one_mul] at p0 p1 p2 p3 p4
  obtain⟨yk,ys,yn,yl,ya⟩:=y
  simp only[T.val,T.k,T.s,T.n,T.kids,T.at_] at p0 p1 p2 p3 p4 H2 H3 N2
  clear p0 p2 p3 hc2 hK2 e9
  obtain⟨⟨t0,t1,t2⟩,f0,f1,f2⟩:=rD HR2.o
  rcases hn with rfl|rfl
  ·by_cases hct:ys.toList=ig
   ·have h2:=ae (H2.o HM.o (by first|rfl|trivial) hct)
    have Vt:(ys.toList==[99,111,117,110,116])=true:=by rw[hct];rfl
    clear H2 H3
    go_wp2_with fail
    refine aJ (lM rfl rfl rfl rfl (lD HR2.o)) rfl ?_
    refine⟨.inl ⟨h2.o.1,?_⟩,lF HB2.o (aF _)⟩
    rw[h2.o.2]
    rfl
   ·have Vt:(ys.toList==[99,111,117,110,116])=false:=by rw[beq_eq_false_iff_ne];exact hct
    have N4:=ae (N2.o hct)
    clear H2 H3 hct
    go_upto_region 5 with (fail)
    go_region
    all_goals
     go_wp2_with fail
     refine aJ (lM rfl rfl rfl rfl (lD HR2.o)) rfl ?_
     exact⟨.inr ⟨_,_,_,_,_,by decide,rfl,N4.o⟩,(lF HB2.o (aF _)).drew⟩
  ·have N4:=ae (N3.o HM.o)
   by_cases hco:ys.toList=pY∨ys.toList=uS∨ys.toList=uT
   ·obtain⟨z,hz⟩:∃ z,l[2]?=some z:=⟨_,aO (by rw[HM.o];decide)⟩
    obtain⟨b',o',A3,c3,e9,akj,g0,g1,g2,g3,g4,hc3,hK3⟩:=xQ.o.gy _ (aG _ _) 2 z hz
    obtain⟨rfl,rfl⟩:b=b'∧o=o':=by injection e9 with e9;injection e9 with e9 e10;exact⟨e9,e10⟩
    have hcl:=ae (oK z (by have:=HS.o z (aN hz);omega) A3 c3 w2)
    have hcs:=vP (nameB z.s) z.s z.at_
    have h3:=ae (fun h=>H3.o z HM.o hz (by first|rfl|trivial) hco h)
    have ahu:=ae hco
    generalize (bif nameB z.s then z.s else ⟨#[]⟩)=u1 at *
    generalize (bif nameB z.s then (0:Int) else 20)=u2 at *
    generalize (bif nameB z.s then (0:Int) else z.at_)=u3 at *
    generalize hqz:nameB z.s=q at *
    have HQZ:=ae hqz
    clear hqz
    obtain⟨zk,zs,zn,zl,za⟩:=z
    simp only[T.val,T.k,T.s,T.n,T.kids,T.at_] at g0 g1 g2 g3 g4 hcl hcs h3
    generalize zl.length=zm at *
    have hp1:=ae p1
    clear H2 H3 hz hc3 hK3 e9 hco
    rcases ahu.o with h|h|h
    all_goals
     simp only[pY,uS,uT] at h
     rcases hcs with⟨rfl,rfl,rfl,rfl⟩|⟨rfl,rfl⟩
     ·go_wp2_with fail
      refine (hcl.o).mono ?_
      rintro e w3 ⟨rfl,hb3⟩
      have HB3:=ae (HB2.o.trans (hb3.mono HB2.o.size))
      have HR3:=ae ((hb3.block _ (by omega)).trans HR2.o)
      have p1':=(hb3.cell NP).trans hp1.o
      obtain⟨⟨t0,t1,t2⟩,f0,f1,f2⟩:=rD HR3.o
      have h3':=ae (h3.o (by first|exact HQZ.o|rfl|trivial))
      clear hb3 h3 hcl
      go_wp2_with fail
      refine aJ (lM rfl rfl rfl rfl (lD HR3.o)) rfl ?_
      refine⟨.inl ⟨h3'.o.1,?_⟩,lF HB3.o (aF _)⟩
      rw[h3'.o.2]
      rfl
     ·go_wp2_with fail
      refine (hcl.o).mono ?_
      rintro e w3 ⟨rfl,hb3⟩
      have HB3:=ae (HB2.o.trans (hb3.mono HB2.o.size))
      have HR3:=ae ((hb3.block _ (by omega)).trans HR2.o)
      obtain⟨⟨t0,t1,t2⟩,f0,f1,f2⟩:=rD HR3.o
      clear hb3 h3 hcl
      go_wp2_with fail
      refine aJ (lM rfl rfl rfl rfl (lD HR3.o)) rfl ?_
      exact⟨.inr ⟨_,_,_,_,_,by decide,rfl,N4.o⟩,lF HB3.o (aF _)⟩
   ·have n1:(ys.toList==[115,117,109])=false:=by rw[beq_eq_false_iff_ne];exact fun h=>hco (.inl h)
    have n2:(ys.toList==[109,105,110])=false:=by rw[beq_eq_false_iff_ne];exact fun h=>hco (.inr (.inl h))
    have n3:(ys.toList==[109,97,120])=false:=by rw[beq_eq_false_iff_ne];exact fun h=>hco (.inr (.inr h))
    clear H2 H3 hco
    go_upto_region 9 with (fail)
    go_region
    all_goals
     go_wp2_with fail
     refine aJ (lM rfl rfl rfl rfl (lD HR2.o)) rfl ?_
     exact⟨.inr ⟨_,_,_,_,_,by decide,rfl,N4.o⟩,(lF HB2.o (aF _)).drew⟩
 ·go_enter Tryz.func86,Tryz.ntmps86
  go_upto_region 1 with (fail)
  rw[←HW1.o]
  go_wp2_with fail
  refine (hcl.o).mono ?_
  rintro e w2 ⟨rfl,hb2⟩
  have HB2:=ae (HB1.o.trans (hb2.mono HB1.o.size))
  have HR2:=ae ((hb2.block _ hs1).trans HR1.o)
  obtain⟨⟨t0,t1,t2⟩,f0,f1,f2⟩:=rD HR2.o
  clear hb2 hcl
  go_wp2_with fail
  refine aJ (lM rfl rfl rfl rfl (lD HR2.o)) rfl ?_
  exact⟨.inr ⟨_,_,_,_,_,by decide,rfl,N1.o (by first|rfl|trivial)⟩,lF HB2.o (aF _)⟩
theorem KH {k n:Int} {s:ByteArray} (hok:V.okB ⟨k,n,s⟩=true)(hk:(k==1)=false):(k==2)=true∧s.size≤40:=by
 unfold V.okB at hok
 rw[show ((V.mk k n s).k==1)=false from hk,Bool.false_and,Bool.false_or] at hok
 simp only[Bool.and_eq_true,decide_eq_true_eq] at hok
 exact⟨hok.1,by have:=hok.2.2;omega⟩
theorem UO (s:ByteArray)(w:World):Calls Tryz.prog 63 #[.agg #[.int .i64 2,.int .i64 0,.string s]] w fun e w'=>e=.returned (.string ⟨(uA s).toArray⟩)∧Below w.heap.size w w':=by
 unfold uA
 have hr:=ae (Bq 2 0 s)
 cases hok:V.okB ⟨2,0,s⟩
 ·rw[hok] at hr
  simp only[Bool.false_eq_true,if_false]
  clear hok
  go_enter Tryz.func63,Tryz.ntmps63
  go_wp2_with fail
  refine (hr.o _).mono ?_
  rintro e w' ⟨rfl,rfl⟩
  go_wp2_with fail
  go_ret
  exact⟨rfl,((aG _ _).alloc (aF _) _).alloc (by simp) _⟩
 ·exact Rk s (KH hok rfl).2 0 2 rfl hok w
theorem XO (s:ByteArray)(w:World):Calls Tryz.prog 64 #[.string s] w fun e w'=>e=.returned (.agg #[.int .i64 2,.int .i64 0,.string s])∧Below w.heap.size w w':=by
 go_enter Tryz.func64,Tryz.ntmps64
 go_wp2
 exact aJ (v:=.agg #[.int .i64 2,.int .i64 0,.string s]) (by simp[results,Tryz.results64,go_sem]) rfl ⟨rfl,(aG _ _).alloc (aF _) _⟩
inductive uG:T→Prop
 | mk (k:Int)(s:ByteArray)(n:Int)(l:List T)(a:Int)(h1:-9223372036854775808≤n)(h2:n≤9223372036854775807)(hl:k=1→l.length≤600∧(Lib.join (kX l) [32]).length≤100000000000000)(hk:k=1→∀ e∈l,uG e):uG (.mk k s n l a)
abbrev UQ (w:World):Prop:=Lib.TabIs Tryz.prog w "internal/strconv.uint64pow10" .u64 Lib.pow10Tab
def I5 (t:T):Prop:=uG t→∀ (A:Option Addr)(c:Nat)(w:World),t.kids.length≤c→fA w w.heap.size A t.kids→(∀ w',Below w.heap.size w w'→UQ w') →
 Calls Tryz.prog 31 #[t.val A c] w fun e w'=>e=.returned (.string ⟨(jr t).toArray⟩)∧Below w.heap.size w w'
theorem UR {l:List T} {j:Nat} {x:T} (h:l[j]?=some x):(kX l).take (j+1)=(kX l).take j++[jr x]:=by
 induction l generalizing j with
 | nil=>simp at h
 | cons y l ih =>
   cases j with
   | zero =>
     obtain rfl:y=x:=by simpa using h
     rw[kX]
     rfl
   | succ j =>
     rw[kX,List.take_succ_cons,List.take_succ_cons,ih (by simpa using h)]
     rfl
theorem UT:(Tryz.prog.info? 9).map (fun i=>(i.zero,i.size,i.bytes))=some (some (.string ByteArray.empty),1,16):=by kernel_rfl
def D7 (l:List (List UInt8)):List Value:=l.map fun x=>.string ⟨x.toArray⟩
theorem Oh (l:List UInt8):(⟨#[40]⟩:ByteArray)++⟨l.toArray⟩++⟨#[41]⟩=⟨(40::(l++[41])).toArray⟩:=by
 apply ByteArray.ext
 simp[ByteArray.data_append]
theorem Oi (k:Int)(s:ByteArray)(n:Int)(l:List T)(a:Int)(hM:∀ e∈l,I5 e):I5 (.mk k s n l a):=by
 intro hp A c w hc hA hT
 obtain⟨_,_,_,_,_,n1,n2,hl,hk⟩:=hp
 simp only[T.val,T.k,T.s,T.n,T.kids,T.at_] at hc hA ⊢
 obtain⟨ln,rH⟩:∃ ln,ln=l.length:=⟨_,rfl⟩
 have hlen:=hA.len
 obtain⟨w1,dZ⟩:∃ w1,w1=w.alloc (.cells #[.int .i64 k,.string s,.int .i64 n,.slice A ln c,.int .i64 a] 71):=⟨_,rfl⟩
 have hb1:Below w.heap.size w w1:=by rw[dZ];exact (aG _ _).alloc (aF _) _
 have hs1:w1.heap.size=w.heap.size+1:=by rw[dZ];simp
 have hx1:w1.heap[w.heap.size]?=some (.cells #[.int .i64 k,.string s,.int .i64 n,.slice A ln c,.int .i64 a] 71 (0,0)):=by rw[dZ];exact aH w _
 obtain⟨⟨k0,k1,k2,k3,k4⟩,_,_,_,_,_⟩:=dN hx1
 obtain⟨pr,hpr⟩:∃ pr,pr=jr (.mk k s n l a):=⟨_,rfl⟩
 rw[←hpr,←rH]
 have D6:=ae hpr
 have HW1:=ae dZ
 have HB1:=ae hb1
 have jJ:=ae hx1
 have HK:=ae hA
 have HM:=ae hM
 have kC:=ae rH
 have HT:=ae hT
 clear hpr dZ hb1 hx1 hA hM hT rH
 by_cases h1:k=1
 ·subst h1
  obtain⟨Aw,hlj⟩:=hl rfl
  have Nu:=ae (hk rfl)
  have HLJ:=ae hlj
  obtain⟨i0,hi,hz0,hz1,hz2⟩:=info_parts UT
  have agU:ln≤600:=by have:=kC.o;omega
  clear hk hl hlj Aw
  go_enter Tryz.func31,Tryz.ntmps31
  go_upto_region 1 with (fail)
  rw[←HW1.o]
  go_wp2_with fail
  go_loopw [3,13] (fun v i wr=>∃ (j:Nat)(A':Option Addr)(c':Nat),j≤ln∧i=.int .i64 j∧v=.slice A' j c'∧wr.ownsRow w1.heap.size 9 1 (.slice A' j c') j (D7 ((kX l).take j))∧Below w1.heap.size w1 wr) (fun _ i _=>ln-(intOf i).toNat)
  case atStart=>exact⟨0,none,0,aX _,rfl,rfl,⟨rfl,.inl ⟨rfl,rfl⟩⟩,aG _ _⟩
  case round =>
   obtain⟨j,A',c',hj,rfl,rfl,hown,hb⟩:=hrel
   have HO:=ae hown
   have HB:=ae hb
   have hs:=hb.size
   have gZ:=ae (HB1.o.trans (hb.mono (by omega)))
   clear hown hb
   by_cases hlt:j<ln
   ·obtain⟨x,hx⟩:∃ x,l[j]?=some x:=⟨_,aO (by rw[←kC.o];exact hlt)⟩
    obtain⟨b,o,A2,c2,rfl,hbl,m1,m2,m3,m4,m5,hcx,hKx⟩:=HK.o.gy wr gZ.o j x hx
    have htk:=ae (UR hx)
    have Dv:=HM.o x (aN hx) (Nu.o x (aN hx))
    obtain⟨wx,iK⟩:∃ wx,wx=wr.alloc (.cells #[.int .i64 x.k,.string x.s,.int .i64 x.n,.slice A2 x.kids.length c2,.int .i64 x.at_] 71):=⟨_,rfl⟩
    have hbx:Below wr.heap.size wr wx:=by rw[iK];exact (aG _ _).alloc (aF _) _
    have hnx:wx.heap[wr.heap.size]?=some (.cells #[.int .i64 x.k,.string x.s,.int .i64 x.n,.slice A2 x.kids.length c2,.int .i64 x.at_] 71 (0,0)):=by rw[iK];exact aH wr _
    have tH:Below w.heap.size w wx:=gZ.o.trans (hbx.mono (by have:=gZ.o.size;omega))
    have hcl:=ae (Dv A2 c2 wx hcx ((hKx.low hbx).more hbx.size) (fun w' h=>HT.o w' (tH.trans (h.mono tH.size))))
    have jW:=ae (HB.o.trans (hbx.mono hs))
    have ni:=ae iK
    obtain⟨⟨n0,n1',n2',n3,n4⟩,_,_,_,_,_⟩:=dN hnx
    have HOX:=ae (own_below HO.o hbx)
    obtain⟨pt,hpt⟩:∃ pt,pt=jr x:=⟨_,rfl⟩
    rw[←hpt] at hcl htk
    clear hx hKx Dv hcx iK hbx hnx tH hpt
    obtain⟨xk,xs,xn,xl,xa⟩:=x
    simp only[T.val,T.k,T.s,T.n,T.kids,T.at_] at m1 m2 m3 m4 m5 hcl ni n0 n1' n2' n3 n4
    generalize xl.length=xm at *
    go_upto_region 7 with (fail)
    rw[←ni.o]
    go_wp2_with fail
    refine (hcl.o).mono ?_
    rintro e w2 ⟨rfl,hb2⟩
    have HB2:=ae (jW.o.trans (hb2.mono jW.o.size))
    have QZ:=ae (own_below HOX.o hb2)
    have hs2:=HB2.o.size
    clear hb2
    go_wp2_with (at_builtin;refine wpList_append_own _ rfl _ _ 23 rfl w1.heap.size 9 i0 _ 1 16 Tryz.underlying23 hi hz0 hz1 hz2 rfl (by decide) (.slice A' j c') j (D7 ((kX l).take j)) rfl (own_below QZ.o ((aG w2.heap.size w2).alloc (aF _) _)) ⟨w2.heap.size,0,none⟩ 1 1 [.string ⟨pt.toArray⟩] rfl rfl ?c1 ?c2 ?c3 ?c4 ?c5 ?_)
    case c1=>exact bz (aH w2 _)
    case c2=>first|rfl|(intro u hu;simp at hu;subst hu;rfl)
    case c3=>unfold maxLen;omega
    case c4=>omega
    case c5=>first|omega|(simp;omega)
    intro v' w5 hown5 hgrow _
    have JJ:=((HB2.o.alloc (by omega) (.cells #[.string ⟨pt.toArray⟩] 9)).grown hgrow (by simp;omega) (fun g hg=>(QZ.o.lt g hg).1))
    obtain⟨g5,cap5,XA,_⟩:=hown5.form (by omega)
    subst XA
    have jq:Hid (w5.ownsRow w1.heap.size 9 1 (.slice (some ⟨g5,0,none⟩) (j+1) cap5) (j+1) (D7 ((kX l).take (j+1)))):=ae (by
     have e:D7 ((kX l).take (j+1))=D7 ((kX l).take j)++[.string ⟨pt.toArray⟩]:=by rw[htk.o];simp[D7]
     rw[e,hs1]
     exact hown5)
    have jA:=ae JJ
    clear hown5 hgrow JJ
    go_wp2_with fail
    go_roundw
    case rel=>exact⟨j+1,_,cap5,by omega,by go_num,rfl,jq.o,jA.o⟩
    case measure=>simp[intOf];omega
   ·obtain rfl:j=ln:=by omega
    have hpl:(kX l).length=j:=by rw[nV];exact kC.o.symm
    have hown:=HO.o
    rw[bJ (by omega)] at hown
    rcases Nat.eq_zero_or_pos j with h0|agV
    ·subst h0
     have hl0:kX l=[]:=bF hpl
     have hjn:=ae (Tryz.strings_Join_none A' c' ⟨#[32]⟩ wr)
     have Qi:Hid (pr=[40,41]):=ae (by rw[D6.o,jr,if_pos rfl,hl0];rfl)
     clear hown
     go_wp2_with fail
     refine (hjn.o).mono ?_
     rintro e w2 ⟨rfl,hw2⟩
     obtain rfl:wr=w2:=hw2.symm
     clear hw2
     go_wp2_with fail
     go_ret
     exact⟨by rw[Qi.o];rfl,gZ.o⟩
    ·obtain⟨g,cap,hv,_,hgl⟩:=hown.form agV
     have hA':A'=some ⟨g,0,none⟩:=by injection hv
     have hcap:j≤c':=by
      rcases hown.2 with⟨h,h0⟩|⟨_,cap2,_,h,_,_,h2,_⟩
      ·omega
      ·injection h with _ _ h;omega
     subst hA'
     have hcells:∀ (i:Nat) x,((kX l).map fun x=>(⟨x.toArray⟩:ByteArray))[i]?=some x→wr.cell? ⟨g,0+i,none⟩=some (.string x):=fun i x hx=>by
      have hi2:i<j:=by have:=(aV.1 hx).1;rw[bM,hpl] at this;exact this
      rw[Nat.zero_add,hown.cellAt i (by omega)]
      rw[bP] at hx
      unfold D7
      rw[bP]
      cases hq:(kX l)[i]? with
      | none=>rw[hq] at hx;cases hx
      | some y=>rw[hq] at hx;simp at hx;subst hx;rfl
     have hmm:((kX l).map fun x=>(⟨x.toArray⟩:ByteArray)).map (·.data.toList)=kX l:=by
      rw[List.map_map]
      conv=>rhs;rw[←List.map_id (kX l)]
      apply List.map_congr_left
      intro x _
      simp
     have UU:=Tryz.strings_Join g 0 c' ((kX l).map fun x=>(⟨x.toArray⟩:ByteArray)) ⟨#[32]⟩ wr hcells hgl (by rw[bM,hpl];omega) (by rw[bM,hpl];exact hcap) (by rw[hmm];have:=HLJ.o;show (Lib.join (kX l) [32]).length≤_;omega)
     rw[bM,hpl,hmm] at UU
     have HJ:Hid (Calls Tryz.prog 61 #[.slice (some ⟨g,0,none⟩) j c',.string ⟨#[32]⟩] wr fun e w'=>e=.returned (.string ⟨(Lib.join (kX l) [32]).toArray⟩)∧Below wr.heap.size wr w'):=ae UU
     have Qi:Hid (pr=40::(Lib.join (kX l) [32]++[41])):=ae (by rw[D6.o,jr,if_pos rfl])
     have HSZ:=HLJ.o
     generalize Lib.join (kX l) [32]=jn at *
     have hz1':(⟨jn.toArray⟩:ByteArray).size=jn.length:=rfl
     have hz2':(⟨#[40]⟩++(⟨jn.toArray⟩:ByteArray)).size=1+jn.length:=by rw[bT];rfl
     clear hcells hmm UU hown hv
     go_wp2_with fail
     refine (HJ.o).mono ?_
     rintro e w2 ⟨rfl,hb2⟩
     have HB2:=ae (gZ.o.trans (hb2.mono gZ.o.size))
     clear hb2
     go_wp2_with fail
     go_ret
     exact⟨by rw[Qi.o,←Oh];rfl,HB2.o⟩
 ·have aaA:(k==1)=false:=by simpa using h1
  by_cases h2:k=2
  ·subst h2
   have Qi:Hid (pr=s.data.toList):=ae (by rw[D6.o,jr,if_neg (by decide),if_pos rfl])
   clear aaA hl hk h1
   go_enter Tryz.func31,Tryz.ntmps31
   go_upto_region 1 with (fail)
   rw[←HW1.o]
   go_wp2_with fail
   go_ret
   exact⟨by rw[Qi.o];rfl,HB1.o⟩
  ·by_cases h3:k=3
   ·subst h3
    have Qi:Hid (pr=Lib.itoa n):=ae (by rw[D6.o,jr,if_neg (by decide),if_neg (by decide),if_pos rfl])
    have hf:=ae (Tryz.strconv_FormatInt_10 n n1 n2 w1 (HT.o w1 HB1.o))
    clear aaA hl hk h1 h2
    go_enter Tryz.func31,Tryz.ntmps31
    go_upto_region 1 with (fail)
    rw[←HW1.o]
    go_wp2_with fail
    refine (hf.o).mono ?_
    rintro e w2 ⟨rfl,q,os,rfl⟩
    have B2:=ae (HB1.o.trans (Lib.below_grow w.heap.size _ HB1.o.size q os))
    go_wp2_with fail
    go_ret
    exact⟨by rw[Qi.o];rfl,B2.o⟩
   ·have agW:(k==2)=false:=by simpa using h2
    have agX:(k==3)=false:=by simpa using h3
    by_cases h4:k=4
    ·subst h4
     have Qi:Hid (pr=uA s):=ae (by rw[D6.o,jr,if_neg (by decide),if_neg (by decide),if_neg (by decide),if_pos rfl])
     have hv:=ae (fun w=>XO s w)
     have hw:=ae (fun w=>UO s w)
     clear aaA agW agX hl hk h1 h2 h3
     go_enter Tryz.func31,Tryz.ntmps31
     go_upto_region 1 with (fail)
     rw[←HW1.o]
     go_wp2_with fail
     refine (hv.o _).mono ?_
     rintro e w2 ⟨rfl,hb2⟩
     have HB2:=ae (HB1.o.trans (hb2.mono HB1.o.size))
     clear hb2
     go_wp2_with fail
     refine (hw.o _).mono ?_
     rintro e w3 ⟨rfl,hb3⟩
     have HB3:=ae (HB2.o.trans (hb3.mono HB2.o.size))
     clear hb3
     go_wp2_with fail
     go_ret
     exact⟨by rw[Qi.o];rfl,HB3.o⟩
    ·have ang:(k==4)=false:=by simpa using h4
     have Qi:Hid (pr=[]):=ae (by rw[D6.o,jr,if_neg h1,if_neg h2,if_neg h3,if_neg h4])
     clear hl hk
     go_enter Tryz.func31,Tryz.ntmps31
     go_upto_region 1 with (fail)
     rw[←HW1.o]
     go_wp2_with fail
     go_ret
     exact⟨by rw[Qi.o];rfl,HB1.o⟩
theorem print_any:∀ t,I5 t:=T.ind Oi
def I4 (e:E):Prop:=E.Fine e→qC e→∀ (A:Option Addr)(c:Nat)(w:World),iZ w w.heap.size A e.kids →
 Calls Tryz.prog 88 #[e.val A c] w fun r w'=>(∃ A' c',r=.returned ((iy e).val A' c')∧(iy e).kids.length≤c'∧mQ w' (fun k=>w.heap.size≤k∧k<w'.heap.size) A' (iy e).kids)∧Below w.heap.size w w'
theorem oz {fn:Func} {p:Tmp} (h:fn.results=#[.cell p 86]) {tmps:Array Value} {w:World} {g:Nat} {x0 x1 x2 x3 x4:Value} {t:TypeId}
 (hp:tmps.getD p undef=.pointer (some ⟨g,0,none⟩))(hg:w.heap[g]?=some (.cells #[x0,x1,x2,x3,x4] t (0,0))):(results fn tmps).run Tryz.prog w=.ok (.agg #[x0,x1,x2,x3,x4]) w:=by
 have hp':tmps[p]?.getD undef=.pointer (some ⟨g,0,none⟩):=by simpa using hp
 have hl:=run_loadVar_row (P:=Tryz.prog) w g t 86 #[x0,x1,x2,x3,x4] (0,0) _ hg Tryz.underlying86 rfl (by show _=some 5;kernel_rfl)
 simp[results,h,hp',asAddr,hl]
theorem KG:(Tryz.prog.info? 86).map (fun i=>(i.zero,i.size,i.bytes))=some (some (.agg #[.int .i64 0,.string ByteArray.empty,.int .i64 0,.slice none 0 0,.int .i64 0]),5,64):=by kernel_rfl
theorem Og (k:Int)(s:ByteArray)(n:Int)(l:List E)(hM:∀ e∈l,I4 e):I4 (.mk k s n l):=by
 intro oZ hm A c w hA
 have jY:=Rw (.mk k s n l) oZ
 rw[hm.ok] at jY
 simp only[E.val,E.k,E.s,E.n,E.kids] at hA jY ⊢
 obtain⟨tr,htr⟩:∃ tr,tr=iy (.mk k s n l):=⟨_,rfl⟩
 rw[←htr]
 have IP:=ae htr
 clear htr
 obtain⟨ln,rH⟩:∃ ln,ln=l.length:=⟨_,rfl⟩
 have hlen:=hA.len
 rw[←rH] at hlen jY ⊢
 obtain⟨wa,qx⟩:∃ wa,wa=w.alloc (.cells #[.int .i64 k,.string s,.int .i64 n,.slice A ln c] 38):=⟨_,rfl⟩
 have hba:Below w.heap.size w wa:=by rw[qx];exact (aG _ _).alloc (aF _) _
 have hsa:wa.heap.size=w.heap.size+1:=by rw[qx];simp
 have hxa:wa.heap[w.heap.size]?=some (.cells #[.int .i64 k,.string s,.int .i64 n,.slice A ln c] 38 (0,0)):=by rw[qx];exact aH w _
 obtain⟨w1,dZ⟩:∃ w1,w1=wa.alloc (.cells #[.int .i64 0,.string ⟨#[]⟩,.int .i64 0,.slice none 0 0,.int .i64 0] 86):=⟨_,rfl⟩
 have hb1:Below wa.heap.size wa w1:=by rw[dZ];exact (aG _ _).alloc (aF _) _
 have hs1:w1.heap.size=w.heap.size+2:=by rw[dZ];simp;omega
 have hr1:w1.heap[w.heap.size+1]?=some (.cells #[.int .i64 0,.string ⟨#[]⟩,.int .i64 0,.slice none 0 0,.int .i64 0] 86 (0,0)):=by rw[dZ,←hsa];exact aH wa _
 have hx1:w1.heap[w.heap.size]?=some (.cells #[.int .i64 k,.string s,.int .i64 n,.slice A ln c] 38 (0,0)):=(hb1.block _ (by omega)).trans hxa
 have hbw:Below w.heap.size w w1:=hba.trans (hb1.mono (by omega))
 have hmd:=ae (jY A c w1 ((hA.low hbw).more hbw.size))
 obtain⟨⟨k0,k1,k2,k3⟩,_,_,_,_⟩:=fQ hx1
 have HW1:=ae (show w1=(w.alloc (.cells #[.int .i64 k,.string s,.int .i64 n,.slice A ln c] 38)).alloc (.cells #[.int .i64 0,.string ⟨#[]⟩,.int .i64 0,.slice none 0 0,.int .i64 0] 86) by rw[dZ,qx])
 have jJ:=ae hx1
 have HR1:=ae hr1
 have HB1:=ae hbw
 have HK:=ae hA
 have kC:=ae rH
 have HM:=ae hM
 have HFK:Hid (∀ e∈l,E.Fine e):=ae (by cases oZ;assumption)
 clear qx hba hsa hxa dZ hb1 hr1 hx1 hbw jY hA hM rH wa
 go_enter Tryz.func88,Tryz.ntmps88
 go_upto_region 1 with (fail)
 rw[←HW1.o]
 go_wp2_with fail
 refine (hmd.o).mono ?_
 rintro r wm ⟨rfl,hbm⟩
 have ZG:=ae ((hbm.block w.heap.size (by omega)).trans jJ.o)
 have Ux:=ae ((hbm.block (w.heap.size+1) (by omega)).trans HR1.o)
 have XE:=ae (HB1.o.trans (hbm.mono (by omega)))
 have hsm:=hbm.size
 obtain⟨⟨k0,k1,k2,k3⟩,_,_,_,_⟩:=fQ ZG.o
 obtain⟨⟨r0,r1,r2,r3,r4⟩,s0,s1,s2,s3,s4⟩:=dN Ux.o
 clear hbm
 cases hm with
 | xH s h =>
   go_wp2_with fail
   refine aJ (oz rfl rfl (dR Ux.o)) rfl ?_
   rw[IP.o,yU]
   exact⟨⟨none,0,rfl,aF _,.nil _⟩,dS XE.o (aW _)⟩
 | num n =>
   go_wp2_with fail
   refine aJ (oz rfl rfl (dR Ux.o)) rfl ?_
   rw[IP.o,yV]
   exact⟨⟨none,0,rfl,aF _,.nil _⟩,dS XE.o (aW _)⟩
 | str s =>
   go_wp2_with fail
   refine aJ (oz rfl rfl (dR Ux.o)) rfl ?_
   rw[IP.o,yX]
   exact⟨⟨none,0,rfl,aF _,.nil _⟩,dS XE.o (aW _)⟩
 | app s l h0 hl hk =>
   have hlf:ln≤600:=by have:=IM s;have:=kC.o;omega
   obtain⟨i0,hi,hz0,hz1,hz2⟩:=info_parts KG
   obtain⟨wn,Uy⟩:∃ wn,wn=wm.alloc (.cells #[.int .i64 2,.string s,.int .i64 0,.slice none 0 0,.int .i64 0] 86):=⟨_,rfl⟩
   have hbn:Below wm.heap.size wm wn:=by rw[Uy];exact (aG _ _).alloc (aF _) _
   have hsn:wn.heap.size=wm.heap.size+1:=by rw[Uy];simp
   have hnn:wn.heap[wm.heap.size]?=some (.cells #[.int .i64 2,.string s,.int .i64 0,.slice none 0 0,.int .i64 0] 86 (0,0)):=by rw[Uy];exact aH wm _
   obtain⟨wl,Uz⟩:∃ wl,wl=wn.alloc (.cells #[.int .i64 1,.string ⟨#[]⟩,.int .i64 0,.slice (some ⟨wm.heap.size,0,none⟩) 1 1,.int .i64 0] 86):=⟨_,rfl⟩
   have hbl:Below wn.heap.size wn wl:=by rw[Uz];exact (aG _ _).alloc (aF _) _
   have hsl:wl.heap.size=wm.heap.size+2:=by rw[Uz];simp;omega
   have HTB:Hid (wl.heap[wm.heap.size+1]?=some (.cells #[.int .i64 1,.string ⟨#[]⟩,.int .i64 0,.slice (some ⟨wm.heap.size,0,none⟩) 1 1,.int .i64 0] 86 (0,0))):=ae (by rw[Uz,←hsn];exact aH wn _)
   have ZH:Hid (wl.ownsRow wm.heap.size 86 5 (.slice (some ⟨wm.heap.size,0,none⟩) 1 1) 1 (ed [((.mk 2 s 0 [] 0:T),none,0)])):=ae ⟨rfl,.inr ⟨wm.heap.size,1,_,rfl,aF _,(hbl.block _ (by omega)).trans hnn,aF _,by decide,rfl,rfl⟩⟩
   have IQ:Below wm.heap.size wm wl:=hbn.trans (hbl.mono (by omega))
   have TZ:=ae (XE.o.trans (IQ.mono (by omega)))
   have DV:=ae ((IQ.block w.heap.size (by omega)).trans ZG.o)
   have HRL:=ae ((IQ.block (w.heap.size+1) (by omega)).trans Ux.o)
   have HWL:=ae (show wl=(wm.alloc (.cells #[.int .i64 2,.string s,.int .i64 0,.slice none 0 0,.int .i64 0] 86)).alloc (.cells #[.int .i64 1,.string ⟨#[]⟩,.int .i64 0,.slice (some ⟨wm.heap.size,0,none⟩) 1 1,.int .i64 0] 86) by rw[Uz,Uy])
   have HMK:=ae hk
   clear Uy hbn hnn Uz hbl IQ wn hsn hk h0 hl
   go_upto_region 11 with (fail)
   rw[←HWL.o]
   obtain⟨⟨k0,k1,k2,k3⟩,_,_,_,_⟩:=fQ DV.o
   go_wp2_with fail
   go_loopw [4] (fun i wr=>∃ (j:Nat)(ps:List TP)(v:Value),j≤ln∧ps.length=j+1∧i=.int .i64 j∧wr.heap[wm.heap.size+1]?=some (.cells #[.int .i64 1,.string ⟨#[]⟩,.int .i64 0,v,.int .i64 0] 86 (0,0)) ∧
    wr.ownsRow wm.heap.size 86 5 v (j+1) (ed ps)∧v.ownBlock≠some (wm.heap.size+1)∧Hid (∀ p∈ps,p.1.kids.length≤p.2.2∧mQ wr (fun k=>wl.heap.size≤k∧k<wr.heap.size∧v.ownBlock≠some k) p.2.1 p.1.kids)∧Below wm.heap.size wl wr∧Hid (ps.map Prod.fst=.mk 2 s 0 [] 0::(kV l).take j)) (fun i _=>ln-(intOf i).toNat)
   case atStart=>exact⟨0,[((.mk 2 s 0 [] 0:T),none,0)],_,aX _,rfl,rfl,HTB.o,ZH.o,by simp[Value.ownBlock],ae (rX s _ _),aG _ _,ae (by simp)⟩
   case round =>
    obtain⟨j,ps,v,hj,hpl,rfl,hbox,hown,hvt,hxk,hb,hzl⟩:=hrel
    have HO:=ae hown
    have HB:=ae hb
    have hs:=hb.size
    have lV:=ae hpl
    have jW:=ae hbox
    have HVT:=ae hvt
    have gZ:=ae (TZ.o.trans (hb.mono (by omega)))
    clear hown hpl hbox hvt hb
    by_cases hlt2:j<ln
    ·obtain⟨x,hx⟩:∃ x,l[j]?=some x:=⟨_,aO (by rw[←kC.o];exact hlt2)⟩
     obtain⟨b,o,A',c',rfl,IU,c0,c1,c2,c3,hKx⟩:=iZ.gy HK.o wr gZ.o j x hx
     have Dv:=HM.o x (aN hx) (HFK.o x (aN hx)) (HMK.o x (aN hx))
     have htk:Hid ((kV l).take (j+1)=(kV l).take j++[iy x]):=ae (DU hx)
     have hbd:Below wr.heap.size wr wr.drew:=(aG _ _).drew
     have lG:=ae (Dv A' c' wr.drew ((hKx.low hbd).more hbd.size))
     obtain⟨y,hy⟩:∃ y,y=iy x:=⟨_,rfl⟩
     rw[←hy] at lG htk
     clear hx hKx Dv hbd hy
     obtain⟨xk,xs,xn,xl⟩:=x
     obtain⟨tk,ts,tn,tl,ta⟩:=y
     simp only[E.val,E.k,E.s,E.n,E.kids,T.val,T.k,T.s,T.n,T.kids,T.at_] at c0 c1 c2 c3 lG
     generalize xl.length=xm at *
     obtain⟨⟨q0,q1,q2,q3⟩,_,_,_,_⟩:=fQ ((HB.o.block _ (by omega)).trans DV.o)
     obtain⟨⟨k0,k1,k2,k3,k4⟩,f0,f1,f2,f3,f4⟩:=dN jW.o
     go_upto_region 14 with (fail)
     go_region_law (first
      | (refine step_append_lies _ rfl _ _ _ rfl wm.heap.size 86 i0 _ 5 64 Tryz.underlying84 hi hz0 hz1 hz2 rfl (by decide) _ _ _ rfl (Nj.o.alloc _) ⟨w3.heap.size,0,none⟩ 1 1 (TP.cs ((.mk tk ts tn tl ta:T),A3,c3')) rfl rfl (bz (aH w3 _)) (by rw[←fB];exact fF _) (by decide) (by unfold maxLen;omega) (by omega) (by simp;omega) _ rfl ?_;intro g cap w5 hown5 hgrow hat hlt
         have jq:=ae hown5
         have sW:Hid (w3.grownBy w5 v.ownBlock):=ae ((World.grownBy_alloc _ _ _).trans hgrow)
         have jP:Hid ((Value.slice (some ⟨g,0,none⟩) (j+1+1) cap).ownBlock=v.ownBlock∨∃ n,(Value.slice (some ⟨g,0,none⟩) (j+1+1) cap).ownBlock=some n∧w3.heap.size≤n):=ae (hat.imp (fun h=>h.symm) fun h=>⟨g,rfl,by rw[h];simp⟩)
         have NT:=ae ((sW.o.block (wm.heap.size+1) (by omega) (fun e=>HVT.o e.symm)).trans Ky.o)
         obtain⟨⟨p0,p1,p2,p3,p4⟩,q0,q1,q2,q3,q4⟩:=dN NT.o
         clear hown5 hgrow hat)
      | (go_simp;go_at_call 88;refine (lG.o).mono ?_;rintro e w3 ⟨⟨A3,c3',rfl,hc3,hX⟩,hb3⟩
         have nO:=ae hX
         have HB3:Hid (Below wr.heap.size wr w3):=ae ((((aG wr.heap.size wr).drew)).trans (hb3.mono (by simp)))
         have Nj:=ae (own_below HO.o HB3.o)
         have agH:wr.heap.size≤w3.heap.size:=by have:=hb3.size;simp at this;omega
         have Ky:=ae ((HB3.o.block (wm.heap.size+1) (by omega)).trans jW.o)
         have g3:w3.cell? ⟨wm.heap.size+1,3,none⟩=some v:=(dN Ky.o).1.2.2.2.1
         have Ua:(w3.alloc (.cells #[.int .i64 tk,.string ts,.int .i64 tn,.slice A3 tl.length c3',.int .i64 ta] 86)).cell? ⟨wm.heap.size+1,3,none⟩=some v:=(World.cell?_alloc_some _ _ _ (by rw[g3];rfl)).trans g3
         clear hX hb3))
     all_goals
      go_wp2_with fail
      go_roundw
      case measure=>simp[intOf];omega
      case rel =>
       have hs5:=sW.o.size
       have hgt:g≠wm.heap.size+1:=fun e=>by
        rcases jP.o with h|⟨n,h,h2⟩
        ·exact HVT.o (by rw[←h];simp[Value.ownBlock,e])
        ·have:n=g:=by simpa [Value.ownBlock] using h.symm
         omega
       have hother:∀ k,k≠wm.heap.size+1→k<w3.heap.size→v.ownBlock≠some k→(w5.setCell ⟨wm.heap.size+1,3,none⟩ (.slice (some ⟨g,0,none⟩) (j+1+1) cap)).heap[k]?=w3.heap[k]?:=fun k h1 h2 h3 =>
        (aI w5 ⟨wm.heap.size+1,3,none⟩ _ k h1).trans (sW.o.block k (by omega) fun e=>h3 e.symm)
       refine⟨j+1,ps++[((.mk tk ts tn tl ta:T),A3,c3')],.slice (some ⟨g,0,none⟩) (j+1+1) cap,by omega,by rw[aZ,lV.o];rfl,by go_num,nP (k:=3) NT.o,?_,by simpa [Value.ownBlock] using hgt,ae ?_,?_,ae ?_⟩
       ·rw[jv,fB]
        exact nK jq.o (aI w5 ⟨wm.heap.size+1,3,none⟩ _ g hgt)
       ·refine J3 hxk.o hc3 (nO.o.mono fun k hk=>⟨by have:=hk.1;simp at this;omega,hk.2⟩) (by omega) (fun k h1 h2 h3=>(hother k (by omega) (by omega) h3).trans (HB3.o.block k h2)) (fun k h1 h2=>hother k (by omega) (by omega) fun e=>by have:=(HO.o.lt _ e).2;omega) (by omega) ?_ (fun k e=>(HO.o.lt _ e).2) jP.o
        simp only[World.setCell,Array.size_modify]
        omega
       ·exact ((HB.o.trans (HB3.o.mono (by omega))).grown sW.o (by omega) (fun g hg=>by have:=(HO.o.lt g hg).1;omega)).setCell (p:=⟨wm.heap.size+1,3,none⟩) (by show wm.heap.size≤wm.heap.size+1;omega) _
       ·rw[htk.o,List.map_append,hzl.o];rfl
    ·obtain rfl:j=ln:=by omega
     have hps:ps.map Prod.fst=.mk 2 s 0 [] 0::kV l:=by rw[hzl.o,kC.o,←sV,List.take_length]
     have hO2:wr.ownsRow wm.heap.size 86 5 v ps.length (ed ps):=by rw[lV.o];exact HO.o
     obtain⟨A9,c9,rfl,IV,yu⟩:=rP hO2 (by rw[lV.o];omega) (S:=fun k=>w.heap.size+2≤k∧k<wr.heap.size) (fun g u1 u2=>⟨by omega,u2⟩) (fun p hp=>⟨(hxk.o p hp).1,(hxk.o p hp).2.mono (fun k hk=>⟨by have:=hk.1;omega,hk.2.1⟩)⟩)
     rw[hps] at IV yu jW
     have GI:=ae yu
     have HC9:=ae IV
     have G8:Hid (wr.heap[w.heap.size+1]?=some (.cells #[.int .i64 0,.string ⟨#[]⟩,.int .i64 0,.slice none 0 0,.int .i64 0] 86 (0,0))):=ae ((HB.o.block _ (by omega)).trans HRL.o)
     obtain⟨⟨k0,k1,k2,k3,k4⟩,f0,f1,f2,f3,f4⟩:=dN jW.o
     obtain⟨⟨q0,q1,q2,q3,q4⟩,e0,e1,e2,e3,e4⟩:=dN G8.o
     obtain⟨⟨a0,a1,a2,a3⟩,_,_,_,_⟩:=fQ ((HB.o.block _ (by omega)).trans DV.o)
     clear hO2 yu hxk hzl hps IV
     go_wp2_with fail
     refine aJ (oz rfl rfl (dR G8.o)) rfl ?_
     rw[IP.o,yY]
     refine⟨⟨A9,c9,rfl,HC9.o,?_⟩,dS gZ.o (aW _)⟩
     exact (GI.o.kept (fun k hk=>nS (by have:=hk.1;omega))).mono (fun k hk=>⟨by have:=hk.1;omega,aQ hk.2 rQ.symm⟩)
theorem Hg:∀ e,I4 e:=E.ind (fun k s n l h=>Og k s n l h)
theorem CW (A:Option Addr)(c:Nat)(l:List C)(hn:l.length≤1000000)(nm:ByteArray)(w:World)(hA:l9 w w.heap.size A l) :
 Calls Tryz.prog 92 #[.slice A l.length c,.string nm] w fun e w'=>e=.returned (.bool (fO l nm))∧Below w.heap.size w w':=by
 have hf:=ae (oG A c l (by omega) nm w hA)
 generalize gU l nm=i at *
 generalize fO l nm=q at *
 generalize l.length=n at *
 clear hA
 go_enter Tryz.func92,Tryz.ntmps92
 go_wp2_with fail
 refine (hf.o).mono ?_
 rintro e w' ⟨rfl,hb⟩
 have HB:=ae hb
 clear hb
 go_wp2_with fail
 go_ret
 exact⟨rfl,HB.o⟩
theorem vg (A:Option Addr)(c:Nat)(l:List C)(hn:l.length≤1000000)(hc:l.length≤c)(w:World) {S:Nat→Prop} (hA:iY w S A l)(hS:∀ k,S k→k<w.heap.size) :
 Calls Tryz.prog 93 #[.slice A l.length c] w fun e w'=>yT S (gQ l) e w'∧Below w.heap.size w w':=by
 obtain⟨R,hR⟩:∃ R,R=gQ l:=⟨_,rfl⟩
 rw[←hR]
 obtain⟨w1,dZ⟩:∃ w1,w1=w.alloc (.cells #[.int .i64 0,.string ⟨#[]⟩] 61):=⟨_,rfl⟩
 have hb1:Below w.heap.size w w1:=by rw[dZ];exact (aG _ _).alloc (aF _) _
 have hx1:w1.heap[w.heap.size]?=some (.cells #[.int .i64 0,.string ⟨#[]⟩] 61 (0,0)):=by rw[dZ];exact aH w _
 have HW1:=ae dZ
 have HB1:=ae hb1
 have jJ:=ae hx1
 have HA:=ae hA
 have HS:=ae hS
 have Q5:Hid (l.length≤c):=ae hc
 obtain⟨⟨k0,k1⟩,f0,f1⟩:=cell2 hx1
 clear dZ hb1 hx1 hA hS hc
 have HR0:Hid (l.length=0∨6<l.length→R=kQ 23 ⟨#[]⟩):=ae (fun h=>by rw[hR];unfold gQ;rw[if_pos h])
 have HR1:Hid (¬(l.length=0∨6<l.length)→R=(l,0,⟨#[]⟩)):=ae (fun h=>by rw[hR];unfold gQ;rw[if_neg h])
 obtain⟨n,en⟩:∃ n,l.length=n:=⟨_,rfl⟩
 have HN:=ae en
 rw[en] at HR0 HR1 Q5 hn ⊢
 clear hR en
 by_cases h0:n=0
 ·subst h0
  have hr:=ae (HR0.o (.inl rfl))
  go_enter Tryz.func93,Tryz.ntmps93
  go_upto_region 1 with (fail)
  rw[←HW1.o]
  go_wp2_with fail
  refine aJ (eF rfl rfl rfl (eX jJ.o)) rfl ?_
  exact⟨je (by decide) hr.o rfl,eG HB1.o (aF _)⟩
 ·have h0':((n:Int)==0)=false:=by simp;omega
  by_cases h6:6<n
  ·have h6':(6:Int)<(n:Int):=by omega
   have hr:=ae (HR0.o (.inr h6))
   go_enter Tryz.func93,Tryz.ntmps93
   go_upto_region 1 with (fail)
   rw[←HW1.o]
   go_wp2_with fail
   refine aJ (eF rfl rfl rfl (eX jJ.o)) rfl ?_
   exact⟨je (by decide) hr.o rfl,eG HB1.o (aF _)⟩
  ·have h6':decide ((6:Int)<(n:Int))=false:=decide_eq_false (by omega)
   have hr:=ae (HR1.o (by omega))
   clear h6
   go_enter Tryz.func93,Tryz.ntmps93
   go_upto_region 1 with (fail)
   rw[←HW1.o]
   go_wp2_with fail
   refine aJ (eF rfl rfl rfl (eX jJ.o)) rfl ?_
   refine⟨⟨A,n,c,by rw[hr.o];rfl,fun _=>?_⟩,eG HB1.o (aF _)⟩
   rw[hr.o]
   refine⟨HN.o.symm,Q5.o,HA.o.kept fun k hk=>?_⟩
   have:=HS.o k hk
   exact (jT (by omega)).trans (HB1.o.block k this)
theorem vk {w:World} {p n:Nat} {a b x0 x1:Value} {t:TypeId} (h:w.heap[p]?=some (.cells #[a,b] t (0,0))):(xK (w.drewN n) p x0 x1).heap[p]?=some (.cells #[x0,x1] t (0,0)):=eX (w:=w.drewN n) (show (w.drewN n).heap[p]?=some (.cells #[a,b] t (0,0)) from h)
theorem Kq {a l r:List C} {k:Nat} {x y:C} (hx:l[k]?=some x)(hy:r[k]?=some y):kS a (l.drop k) (r.drop k)=if x.k=y.k then kS a (l.drop (k+1)) (r.drop (k+1)) else kQ 22 x.nm:=by
 obtain⟨h1,e1⟩:=aV.1 hx
 obtain⟨h2,e2⟩:=aV.1 hy
 rw[bY h1,e1,bY h2,e2,kS]
theorem NR {a l r:List C} {k:Nat} (h:l.length≤k):kS a (l.drop k) (r.drop k)=(a,0,⟨#[]⟩):=by
 rw[bW h]
 cases r.drop k <;> rfl
theorem iY.get {w:World} {S:Nat→Prop} {A:Option Addr} {l:List C} (h:iY w S A l) {i:Nat} {x:C} (hx:l[i]?=some x):∃ b off,A=some ⟨b,off,none⟩∧S b∧w.cell? ⟨b,off+i*2,none⟩=some (.string x.nm)∧w.cell? ⟨b,off+i*2+1,none⟩=some (.int .i64 x.k):=by
 rcases h with rfl|⟨b,off,e,hb,h⟩
 ·simp at hx
 ·exact⟨b,off,e,hb,h i x hx⟩
theorem Q7 (A B:Option Addr)(c d:Nat)(a b:List C)(ha:a.length≤1000000)(hb:b.length≤1000000)(hc:a.length≤c)(w:World) {S:Nat→Prop} (hA:iY w S A a)(hB:iY w S B b)(hS:∀ k,S k→k<w.heap.size) :
 Calls Tryz.prog 50 #[.slice A a.length c,.slice B b.length d] w fun e w'=>yT S (qy a b) e w'∧Below w.heap.size w w':=by
 obtain⟨w1,dZ⟩:∃ w1,w1=w.alloc (.cells #[.int .i64 0,.string ⟨#[]⟩] 61):=⟨_,rfl⟩
 have hb1:Below w.heap.size w w1:=by rw[dZ];exact (aG _ _).alloc (aF _) _
 have hx1:w1.heap[w.heap.size]?=some (.cells #[.int .i64 0,.string ⟨#[]⟩] 61 (0,0)):=by rw[dZ];exact aH w _
 have hs1:w.heap.size<w1.heap.size:=(aU.1 hx1).1
 have HW1:=ae dZ
 have HB1:=ae hb1
 have jJ:=ae hx1
 have HA:=ae hA
 have HB:=ae hB
 have HS:=ae hS
 obtain⟨⟨k0,k1⟩,f0,f1⟩:=cell2 hx1
 clear dZ hb1 hx1 hA hB hS
 obtain⟨n,en⟩:∃ n,a.length=n:=⟨_,rfl⟩
 obtain⟨m,em⟩:∃ m,b.length=m:=⟨_,rfl⟩
 have HN:=ae en
 have HM:=ae em
 obtain⟨R,hR⟩:∃ R,R=qy a b:=⟨_,rfl⟩
 have HR:=ae hR
 have Q5:Hid (n≤c):=ae (by omega)
 rw[←hR,en,em]
 rw[en] at ha
 rw[em] at hb
 clear hR en em hc
 by_cases hnm:n=m
 ·subst hnm
  have HR1:Hid (R=kS a a b):=ae (by rw[HR.o];unfold qy;rw[if_pos (HN.o.trans HM.o.symm)])
  go_enter Tryz.func50,Tryz.ntmps50
  go_upto_region 1 with (fail)
  rw[←HW1.o]
  go_wp2_with fail
  go_loopw [16] (fun i wr=>∃ k:Nat,k≤n∧i=.int .i64 k∧Below w1.heap.size w1 wr∧Hid (R=kS a (a.drop k) (b.drop k))) (fun i _=>n-(intOf i).toNat)
  case atStart=>exact⟨0,aX _,rfl,aG _ _,by simpa using HR1⟩
  case round =>
   obtain⟨k,hk,rfl,hbr,HL⟩:=hrel
   have TY:=ae hbr
   have hs:=hbr.size
   have gZ:=ae (HB1.o.trans (hbr.mono (bV hs1)))
   have xq:=ae ((hbr.block w.heap.size hs1).trans jJ.o)
   clear hbr k0 k1 f0 f1
   by_cases hlt:k<n
   ·obtain⟨x,hx⟩:∃ x,a[k]?=some x:=⟨_,aO (by rw[HN.o];exact hlt)⟩
    obtain⟨y,hy⟩:∃ y,b[k]?=some y:=⟨_,aO (by rw[HM.o];exact hlt)⟩
    obtain⟨b1,o1,rfl,hS1,c1,c2⟩:=HA.o.get hx
    obtain⟨b2,o2,rfl,hS2,e1,e2⟩:=HB.o.get hy
    have hl1:=HS.o b1 hS1
    have hl2:=HS.o b2 hS2
    have x1:=(gZ.o.cell hl1).trans c1
    have x2:=(gZ.o.cell hl1).trans c2
    have y2:=(gZ.o.cell hl2).trans e2
    have hst:=ae (HL.o.trans (Kq hx hy))
    have hlk:(k:Int)<(n:Int):=by omega
    obtain⟨xn,xk⟩:=x
    obtain⟨yn,yk⟩:=y
    simp only at x1 x2 y2 hst
    obtain⟨wx,iK⟩:∃ wx,wx=wr.alloc (.cells #[.string xn,.int .i64 xk] 42):=⟨_,rfl⟩
    have hbx:Below wr.heap.size wr wx:=by rw[iK];exact (aG _ _).alloc (aF _) _
    have BH:Hid (wx.heap[wr.heap.size]?=some (.cells #[.string xn,.int .i64 xk] 42 (0,0))):=ae (by rw[iK];exact aH wr _)
    have z2:=(hbx.cell (show (⟨b2,o2+k*2+1,none⟩:Addr).block<wr.heap.size from aK hl2 gZ.o.size)).trans y2
    have jW:=ae (TY.o.trans (hbx.mono hs))
    have HXX:=ae ((hbx.block w.heap.size (aK hs1 hs)).trans xq.o)
    have ni:=ae iK
    have hnx:=BH.o
    obtain⟨⟨n0,n1⟩,_,_⟩:=cell2 hnx
    clear hx hy c1 c2 e1 e2 y2 iK hbx HL hnx
    go_upto_region 6 with (fail)
    rw[←ni.o]
    clear x1 x2
    by_cases hk:xk=yk
    ·subst hk
     have HL2:Hid (R=kS a (a.drop (k+1)) (b.drop (k+1))):=ae (by rw[hst.o,if_pos rfl])
     clear hst
     go_quiet (fail)
     go_wp2_with fail
     go_roundw
     case rel=>exact⟨k+1,by omega,by go_num,by first|exact jW.o|exact below_drewN jW.o _,HL2⟩
     case measure=>simp[intOf];omega
    ·have hk':(xk != yk)=true:=by simpa using hk
     have HL2:Hid (R=kQ 22 xn):=ae (by rw[hst.o,if_neg hk])
     clear hst hk
     obtain⟨⟨k0,k1⟩,f0,f1⟩:=cell2 HXX.o
     go_quiet (fail)
     go_upto_region 7 with (fail)
     go_region
     all_goals
      go_wp2_with fail
      refine aJ (eF rfl rfl rfl (vk HXX.o)) rfl ?_
      exact⟨je (by decide) HL2.o rfl,eG (below_drewN (HB1.o.trans (jW.o.mono (bV hs1))) _) (aF _)⟩
   ·obtain rfl:k=n:=by omega
    have HL2:Hid (R=(a,0,⟨#[]⟩)):=ae (by rw[HL.o,NR (by rw[HN.o];exact aF _)])
    obtain⟨⟨k0,k1⟩,f0,f1⟩:=cell2 xq.o
    clear HL
    go_wp2_with fail
    refine aJ (eF rfl rfl rfl (eX xq.o)) rfl ?_
    refine⟨⟨A,k,c,by rw[HL2.o];rfl,fun _=>?_⟩,eG gZ.o (aF _)⟩
    rw[HL2.o]
    refine⟨HN.o.symm,Q5.o,HA.o.kept fun q hq=>?_⟩
    have:=HS.o q hq
    exact (jT (by omega)).trans (gZ.o.block q this)
 ·have h1:((n:Int) != (m:Int))=true:=by simp;omega
  have HR1:Hid (R=kQ 23 ⟨#[]⟩):=ae (by rw[HR.o];unfold qy;rw[if_neg (by rw[HN.o,HM.o];exact hnm)])
  clear hnm
  go_enter Tryz.func50,Tryz.ntmps50
  go_upto_region 1 with (fail)
  rw[←HW1.o]
  go_wp2_with fail
  refine aJ (eF rfl rfl rfl (eX jJ.o)) rfl ?_
  exact⟨je (by decide) HR1.o rfl,eG HB1.o (aF _)⟩
theorem Sm (s:ByteArray):(uA s).length≤122:=by
 unfold uA
 cases h:V.okB ⟨2,0,s⟩
 ·simp
 ·have hs:=(KH h rfl).2
  simp only[if_true]
  unfold tu
  have:=Qc s.data.toList
  have h2:s.data.toList.length=s.size:=by rw[Array.length_toList];rfl
  simp only[bf,aZ,List.length_nil]
  omega
theorem La:∀ (l:List (List UInt8))(b:Nat),(∀ x∈l,x.length≤b)→(Lib.joinTail [32] l).length≤l.length*(b+1)
 | [],b,_=>by simp[Lib.joinTail]
 | x::l,b,h=>by
   have h1:=h x bH
   have h2:=La l b (fun z hz=>h z (bG _ hz))
   have e:Lib.joinTail [32] (x::l)=([32]++x)++Lib.joinTail [32] l:=by simp[Lib.joinTail]
   rw[e]
   have hm:(l.length+1)*(b+1)=l.length*(b+1)+(b+1):=Nat.succ_mul _ _
   simp only[aZ,bf,List.length_nil]
   omega
theorem Vm (l:List (List UInt8))(b:Nat)(h:∀ x∈l,x.length≤b):(Lib.join l [32]).length≤l.length*(b+1):=by
 cases l with
 | nil=>simp[Lib.join_nil]
 | cons x l =>
   have h1:=h x bH
   have h2:=La l b (fun z hz=>h z (bG _ hz))
   have hm:(l.length+1)*(b+1)=l.length*(b+1)+(b+1):=Nat.succ_mul _ _
   rw[Lib.join_cons]
   simp only[aZ,bf]
   omega
def PR (d:Nat)(t:T):Prop:=uG t∧uG (ja t)∧jr (ja t)=jr t∧(jr t).length≤700*5 ^ d
theorem Qr {d:Nat} {k:Int} {s:ByteArray} {n a:Int} {l:List T} (hk:k=2)(hs:s.size≤600)(n1:-9223372036854775808≤n)(n2:n≤9223372036854775807):PR d (.mk k s n l a):=by
 subst hk
 have e:ja (.mk 2 s n l a)=.mk 2 s 0 [] 0:=by unfold ja;rw[if_pos rfl]
 have p1:jr (.mk 2 s n l a)=s.data.toList:=by rw[jr,if_neg (by decide),if_pos rfl]
 have p2:jr (.mk 2 s 0 [] 0)=s.data.toList:=by rw[jr,if_neg (by decide),if_pos rfl]
 have h5:1≤5 ^ d:=Nat.one_le_pow _ _ (by decide)
 refine⟨.mk _ _ _ _ _ n1 n2 (fun h=>by simp at h) (fun h=>by simp at h),?_,?_,?_⟩
 ·rw[e];exact .mk _ _ _ _ _ (by decide) (by decide) (fun h=>by simp at h) (fun h=>by simp at h)
 ·rw[e,p1,p2]
 ·rw[p1]
  have h2:s.data.toList.length=s.size:=by rw[Array.length_toList];rfl
  omega
theorem Ih:∀ {l:List T},(eH l).2.1=0→∀ t∈l,(dX t).2.1=0
 | [],_,t,ht=>by cases ht
 | x::l,h,t,ht=>by
   rw[eH] at h
   by_cases hx:(dX x).2.1=0
   ·rw[if_pos hx] at h
    rcases bZ.1 ht with rfl|ht
    ·exact hx
    ·exact Ih h t ht
   ·rw[if_neg hx] at h
    exact absurd h hx
theorem Ep (l:List T):xN l=l.map ja:=by
 induction l with
 | nil=>rw[xN];rfl
 | cons x l ih=>rw[xN,ih];rfl
theorem kL (l:List T):kX l=l.map jr:=by
 induction l with
 | nil=>rw[kX];rfl
 | cons x l ih=>rw[kX,ih];rfl
theorem Yb {d:Nat} {s:ByteArray} {n a:Int} {l:List T} (hd:d≤12)(n1:-9223372036854775808≤n)(n2:n≤9223372036854775807)(h0:0<l.length)(h4:l.length≤4)(hk:∀ t∈l,PR d t):PR (d+1) (.mk 1 s n l a):=by
 have e:ja (.mk 1 s n l a)=.mk 1 ⟨#[]⟩ 0 (xN l) 0:=by unfold ja;rw[if_neg (by decide),if_neg (by decide),if_neg (by decide)]
 have hpl:kX (xN l)=kX l:=by
  rw[Ep,kL,kL,List.map_map]
  exact List.map_congr_left fun t ht=>(hk t ht).2.2.1
 have hlen:(kX l).length=l.length:=nV l
 have hj:=Vm (kX l) (700*5 ^ d) (fun x hx=>by
  rw[kL] at hx
  obtain⟨t,ht,rfl⟩:=List.mem_map.1 hx
  exact (hk t ht).2.2.2)
 rw[hlen] at hj
 have h5:1≤5 ^ d:=Nat.one_le_pow _ _ (by decide)
 have h12:5 ^ d≤5 ^ 12:=Nat.pow_le_pow_right (by decide) hd
 have ad1:(5:Nat) ^ 12=244140625:=by decide
 have hm:l.length*(700*5 ^ d+1)≤4*(700*5 ^ d+1):=Nat.mul_le_mul_right _ h4
 have hcl:(xN l).length=l.length:=by rw[Ep,bM]
 refine⟨.mk _ _ _ _ _ n1 n2 (fun _=>⟨by omega,by omega⟩) (fun _ t ht=>(hk t ht).1),?_,?_,?_⟩
 ·rw[e]
  refine .mk _ _ _ _ _ (by decide) (by decide) (fun _=>⟨by omega,by rw[hpl];omega⟩) (fun _ t ht=>?_)
  rw[Ep] at ht
  obtain⟨u,hu,rfl⟩:=List.mem_map.1 ht
  exact (hk u hu).2.1
 ·rw[e,jr,jr,if_pos rfl,if_pos rfl,hpl]
 ·rw[jr,if_pos rfl,bf,aZ,Nat.pow_succ]
  simp only[bf,List.length_nil]
  omega
theorem aaP:∀ t:T,∀ d,d≤13→t.Good→t.Deep d→(dX t).2.1=0→PR d t:=T.ind (fun k s n l a ih d hd hg hdp hr=>by
 obtain⟨_,_,_,_,_,n1,n2,hs6,hs4,Aw,hgk⟩:=hg
 by_cases h2:k=2
 ·exact Qr h2 hs6 n1 n2
 ·by_cases h3:k=3
  ·subst h3
   have e:ja (.mk 3 s n l a)=.mk 3 ⟨#[]⟩ n [] 0:=by unfold ja;rw[if_neg (by decide),if_pos rfl]
   have p:∀ s l a,jr (.mk 3 s n l a)=Lib.itoa n:=fun s l a=>by rw[jr,if_neg (by decide),if_neg (by decide),if_pos rfl]
   have h5:1≤5 ^ d:=Nat.one_le_pow _ _ (by decide)
   refine⟨.mk _ _ _ _ _ n1 n2 (fun h=>by simp at h) (fun h=>by simp at h),?_,?_,?_⟩
   ·rw[e];exact .mk _ _ _ _ _ n1 n2 (fun h=>by simp at h) (fun h=>by simp at h)
   ·rw[e,p,p]
   ·rw[p]
    have:=Lib.itoa_length_le n n1 n2
    omega
  ·by_cases h4:k=4
   ·subst h4
    have e:ja (.mk 4 s n l a)=.mk 4 s 0 [] 0:=by unfold ja;rw[if_neg (by decide),if_neg (by decide),if_pos rfl]
    have p:∀ n l a,jr (.mk 4 s n l a)=uA s:=fun n l a=>by rw[jr,if_neg (by decide),if_neg (by decide),if_neg (by decide),if_pos rfl]
    have h5:1≤5 ^ d:=Nat.one_le_pow _ _ (by decide)
    refine⟨.mk _ _ _ _ _ n1 n2 (fun h=>by simp at h) (fun h=>by simp at h),?_,?_,?_⟩
    ·rw[e];exact .mk _ _ _ _ _ (by decide) (by decide) (fun h=>by simp at h) (fun h=>by simp at h)
    ·rw[e,p,p]
    ·rw[p]
     have:=Sm s
     omega
   ·by_cases h1:k=1
    ·subst h1
     cases hdp with
     | mk d' _ _ _ _ _ hkd =>
       cases l with
       | nil=>rw[G7] at hr;simp at hr
       | cons x ks =>
         rw[yZ] at hr
         by_cases hx:x.k=2∧gX x.s.toList≠0
         ·rw[if_pos hx] at hr
          by_cases hl:ks.length=gX x.s.toList
          ·rw[if_pos hl] at hr
           by_cases hrk:(eH ks).2.1=0
           ·have hc:=IM x.s
            refine Yb (by omega) n1 n2 (by simp) (by simp only[bf];omega) (fun t ht=>?_)
            rcases bZ.1 ht with rfl|ht
            ·have hgx:=hgk t bH
             obtain⟨_,_,_,_,_,g1,g2,g3,_,_,_⟩:=hgx
             exact Qr hx.1 g3 g1 g2
            ·exact ih t (bG _ ht) d' (by omega) (hgk t (bG _ ht)) (hkd t (bG _ ht)) (Ih hrk t ht)
           ·rw[if_neg hrk] at hr
            exact absurd hr hrk
          ·rw[if_neg hl] at hr
           simp at hr
         ·rw[if_neg hx] at hr
          simp at hr
    ·rw[Kw h1 h2 h3 h4] at hr
     simp at hr)
def C.cs (c:C):List Value:=[.string c.nm,.int .i64 c.k]
def iM (l:List C):List Value:=l.flatMap C.cs
theorem GZ (l:List C):(iM l).length=l.length*2:=by
 induction l with
 | nil=>rfl
 | cons v l ih=>show ((C.cs v)++iM l).length=_;simp[ih,C.cs];omega
theorem G5 (l:List C):∀ (i:Nat)(v:C),l[i]?=some v→(iM l)[i*2]?=some (.string v.nm)∧(iM l)[i*2+1]?=some (.int .i64 v.k):=by
 induction l with
 | nil=>intro i v h;simp at h
 | cons x l ih =>
   intro i v h
   have e:iM (x::l)=C.cs x++iM l:=rfl
   rw[e]
   cases i with
   | zero =>
     obtain rfl:x=v:=by simpa using h
     exact⟨rfl,rfl⟩
   | succ i =>
     have:=ih i v (by simpa using h)
     have hl:(C.cs x).length=2:=rfl
     rw[bK (by omega),bK (by omega),hl]
     rw[show (i+1)*2-2=i*2 from by omega,show (i+1)*2+1-2=i*2+1 from by omega]
     exact this
theorem xM (l:List C):∀ u∈iM l,u.oneCell'=true:=by
 intro u hu
 obtain⟨v,_,hv⟩:=List.mem_flatMap.1 hu
 simp only[C.cs,bZ,bI,or_false] at hv
 rcases hv with rfl|rfl <;> rfl
theorem Kr (l:List C)(j:Nat)(u:Value)(h:(iM l)[j]?=some u):∃ v:C,l[j / 2]?=some v∧(iM l)[j / 2*2+j % 2]?=some u:=by
 have hj:j<(iM l).length:=(aV.1 h).1
 rw[GZ] at hj
 exact⟨l[j / 2]'(by omega),aO (by omega),by rw[show j / 2*2+j % 2=j from by omega];exact h⟩
theorem JO.news {w:World} {b off:Nat} {l:List C} (h:JO w b off l)(j:Nat)(u:Value)(hu:(iM l)[j]?=some u):w.cell? ((⟨b,off,none⟩:Addr).add j)=some u:=by
 obtain⟨v,hv,hf⟩:=Kr l j u hu
 obtain⟨f1,f2⟩:=G5 l _ v hv
 obtain⟨c1,c2⟩:=h _ v hv
 have e:(⟨b,off,none⟩:Addr).add j=⟨b,off+(j / 2*2+j % 2),none⟩:=by
  unfold Addr.add
  split
  ·subst_vars;rfl
  ·rw[show j / 2*2+j % 2=j from by omega]
 rw[e]
 have:j % 2=0∨j % 2=1:=by omega
 rcases this with h3|h3 <;> rw[h3] at hf ⊢
 ·rw[Nat.add_zero] at hf ⊢;rw[f1] at hf;rw[c1];exact hf
 ·rw[f2] at hf;rw[←Nat.add_assoc,c2];exact hf
theorem iY.reads {w:World} {S:Nat→Prop} {A:Option Addr} {l:List C} {B:Nat} (h:iY w S A l)(hS:∀ k,S k→k<B):Reads w B 2 A l.length (iM l):=by
 refine⟨GZ l,fun hn=>?_⟩
 rcases h with rfl|⟨b,off,hA,hb,h⟩
 ·simp at hn
 ·exact⟨_,hA,hS b hb,h.news⟩
theorem qA {w:World} {S:Nat→Prop} {base:Nat} {e:TypeId} {v:Value} {l:List C} (h:w.ownsRow base e 2 v l.length (iM l))(hS:∀ g,base≤g→g<w.heap.size→(∀ o,w.frozen? ⟨g,o,none⟩=false)→S g) :
 ∃ A c,v=.slice A l.length c∧l.length≤c∧iY w S A l:=by
 obtain⟨_,hcase⟩:=id h
 rcases hcase with⟨rfl,h0⟩|⟨g,cap,cur,rfl,hg,hh,hn,hcap,hsz,htake⟩
 ·exact⟨none,0,by rw[h0],by omega,.inl (bF h0)⟩
 ·have hlt:g<w.heap.size:=(aU.1 hh).1
  refine⟨some ⟨g,0,none⟩,cap,rfl,hn,.inr ⟨g,0,rfl,hS g hg hlt (fun o=>h.frozenAt o),?_⟩⟩
  intro i x hx
  obtain⟨f1,f2⟩:=G5 l i x hx
  have hi:i<l.length:=(aV.1 hx).1
  rw[Nat.zero_add,h.cellAt _ (by omega),h.cellAt _ (by omega)]
  exact⟨f1,f2⟩
theorem vw:(Tryz.prog.info? 42).map (fun i=>(i.zero,i.size,i.bytes))=some (some (.agg #[.string ByteArray.empty,.int .i64 0]),2,24):=by kernel_rfl
theorem pR (v:C):iM [v]=C.cs v:=by simp[iM]
theorem kH (a b:List C):iM (a++b)=iM a++iM b:=by simp[iM]
theorem BI (w0:World)(e:TypeId) {base:Nat} (h:base≤w0.heap.size)(z:Nat):(w0.alloc (.cells #[] e)).ownsRow base e z (.slice (some ⟨w0.heap.size,0,none⟩) 0 0) 0 [] :=
 ⟨by simp,.inr ⟨w0.heap.size,0,#[],rfl,h,aH w0 _,aF _,by decide,by simp,by simp⟩⟩
theorem cloneCols (A:Option Addr)(c:Nat)(l:List C)(w:World) {S:Nat→Prop} (hA:iY w S A l)(hS:∀ k,S k→k<w.heap.size)(hl:l.length≤1099511627776) :
 Calls Tryz.prog 46 #[.slice A l.length c] w fun e w'=>(∃ v',e=.returned v'∧w'.ownsRow w.heap.size 42 2 v' l.length (iM l))∧Below w.heap.size w w':=by
 obtain⟨i0,hi,hz0,hz1,hz2⟩:=info_parts vw
 have HR:=ae (hA.reads hS)
 have q22:∀ (w:World)(a:Option Addr)(n c n' c':Nat),(binOp .eql 29 (.slice a n c) (.slice none n' c')).run Tryz.prog w=.ok (.bool a.isNone) w:=fun w a n c n' c'=>Lib.run_eql_slice_nil w 29 42 a n c n' c' Tryz.underlying29
 obtain⟨n,hn⟩:∃ n,l.length=n:=⟨_,rfl⟩
 have HN:=ae hn
 rw[hn] at hl ⊢
 rw[hn] at HR
 clear hA hn
 rcases A with _|ad
 ·have hn0:n=0:=by
   rcases Nat.eq_zero_or_pos n with h|h
   ·exact h
   ·obtain⟨ad,h,_⟩:=HR.o.2 h;cases h
  subst hn0
  have hl0:l=[]:=bF HN.o
  subst hl0
  go_enter Tryz.func46,Tryz.ntmps46
  go_wp2
  go_ret
  exact⟨⟨_,rfl,World.ownsRow_nil _ _ _ _⟩,aG _ _⟩
 ·go_enter Tryz.func46,Tryz.ntmps46
  go_wp2_with (at_builtin;refine jQ _ rfl _ _ 29 rfl w.heap.size 42 i0 _ 2 24 Tryz.underlying29 hi hz0 hz1 hz2 rfl (by decide) _ _ _ rfl (BI w 42 (aF _) 2) w.heap.size _ _ _ (iM l) rfl (HR.o.alloc (aF _) _) ?c1 ?c2 ?c3 ?c4 ?_)
  case c1=>exact xM _
  case c2=>unfold maxLen;omega
  case c3=>omega
  case c4=>simp
  intro v' w1 hown hgrow _
  have hb:=ae (((aG w.heap.size w).alloc (aF _) _).grown hgrow (by simp) (fun k e=>by have:=aY e;simp at this;omega))
  have ho:=ae hown
  clear hown hgrow
  go_wp2_with fail
  go_ret
  exact⟨⟨_,rfl,by simpa using ho.o⟩,hb.o⟩
theorem F8 {iH acc:List C} {l:List (ByteArray×E)} {k:Nat} {c:ByteArray} {e:E} (h:l[k]?=some (c,e)) :
 iL iH acc (l.drop k)=if (jf iH e).2=0 then (if fO acc c=true then kQ 21 c else iL iH (acc++[⟨c,(jf iH e).1⟩]) (l.drop (k+1))) else kQ (jf iH e).2 ⟨#[]⟩:=by
 obtain⟨h1,e1⟩:=aV.1 h
 rw[bY h1,e1,iL]
theorem IX {iH acc:List C} {l:List (ByteArray×E)} {k:Nat} (h:l.length≤k):iL iH acc (l.drop k)=gQ acc:=by
 rw[bW h,iL]
theorem KA (p:P)(a:PA)(w:World)(hA:kY w (fun k=>k<w.heap.size) p a)(hce:p.cols.length=p.ex.length)(h6:p.ex.length≤600)(B:Option Addr)(d:Nat)(iH:List C)(hin:iH.length≤1000000)(hI:l9 w w.heap.size B iH) :
 Calls Tryz.prog 48 #[p.val a,.slice B iH.length d] w fun e w'=>yT (fun k=>w.heap.size≤k∧k<w'.heap.size) (iL iH [] (p.cols.zip p.ex)) e w'∧Below w.heap.size w w':=by
 obtain⟨k,nm,ex,cols,left,right,ag,kids⟩:=p
 obtain⟨⟨pe,pc,pl,pr',pg,l1,l2,l3,l4,l5⟩,pk⟩:=hA
 simp only[P.val,P.k,P.nm,P.ex,P.cols,P.left,P.right,P.ag,P.kids] at pe pc hce h6 ⊢
 obtain⟨ea,ec,ca,cc,la',lc,ra,rc,ga,gc,ka,kc⟩:=a
 simp only at pe pc ⊢
 obtain⟨LZ,hLZ⟩:∃ LZ,LZ=cols.zip ex:=⟨_,rfl⟩
 rw[←hLZ]
 obtain⟨R,hR⟩:∃ R,R=iL iH [] LZ:=⟨_,rfl⟩
 rw[←hR]
 have hll:LZ.length=ex.length:=by rw[hLZ,List.length_zip,hce,Nat.min_self]
 have HG:Hid (∀ j,j<ex.length→∃ c e,LZ[j]?=some (c,e)∧ex[j]?=some e∧∃ b o,ca=some ⟨b,o,none⟩∧b<w.heap.size∧w.cell? ⟨b,o+j,none⟩=some (.string c)):=ae (fun j hj=>by
  obtain⟨e,he⟩:∃ e,ex[j]?=some e:=⟨_,aO hj⟩
  obtain⟨c,hc⟩:∃ c,cols[j]?=some c:=⟨_,aO (by omega)⟩
  refine⟨c,e,by rw[hLZ,List.getElem?_zip_eq_some];exact⟨hc,he⟩,he,?_⟩
  have hcell:(strs cols)[j]?=some (.string c):=by unfold strs;rw[bP,hc];rfl
  rcases pc with h0|⟨b,o,hA,hb,hcx⟩
  ·rw[h0] at hcell;simp at hcell
  ·exact⟨b,o,hA,hb,hcx j _ hcell⟩)
 have HEK:=ae (pe.to (B:=w.heap.size) (fun k hk=>hk))
 have HII:=ae hI
 obtain⟨w0,zf⟩:∃ w0,w0=w.alloc (.cells #[.int .i64 k,.string nm,.slice ea ex.length ec,.slice ca cols.length cc,.slice la' left.length lc,.slice ra right.length rc,.slice ga ag.length gc,.slice ka kids.length kc] 27):=⟨_,rfl⟩
 have hb0:Below w.heap.size w w0:=by rw[zf];exact (aG _ _).alloc (aF _) _
 have hs0:w0.heap.size=w.heap.size+1:=by rw[zf];simp
 have hx0:w0.heap[w.heap.size]?=some (.cells #[.int .i64 k,.string nm,.slice ea ex.length ec,.slice ca cols.length cc,.slice la' left.length lc,.slice ra right.length rc,.slice ga ag.length gc,.slice ka kids.length kc] 27 (0,0)):=by rw[zf];exact aH w _
 obtain⟨w1,dZ⟩:∃ w1,w1=w0.alloc (.cells #[.int .i64 0,.string ⟨#[]⟩] 61):=⟨_,rfl⟩
 have hb1:Below w0.heap.size w0 w1:=by rw[dZ];exact (aG _ _).alloc (aF _) _
 have hs1:w.heap.size+1<w1.heap.size:=by rw[dZ];simp;omega
 have jJ:Hid (w1.heap[w.heap.size]?=some (.cells #[.int .i64 k,.string nm,.slice ea ex.length ec,.slice ca cols.length cc,.slice la' left.length lc,.slice ra right.length rc,.slice ga ag.length gc,.slice ka kids.length kc] 27 (0,0))):=ae ((hb1.block _ (by omega)).trans hx0)
 have HF1:Hid (w1.heap[w.heap.size+1]?=some (.cells #[.int .i64 0,.string ⟨#[]⟩] 61 (0,0))):=ae (by rw[dZ,←hs0];exact aH w0 _)
 have HW1:=ae (show w1=(w.alloc (.cells #[.int .i64 k,.string nm,.slice ea ex.length ec,.slice ca cols.length cc,.slice la' left.length lc,.slice ra right.length rc,.slice ga ag.length gc,.slice ka kids.length kc] 27)).alloc (.cells #[.int .i64 0,.string ⟨#[]⟩] 61) by rw[dZ,zf])
 have HB1:=ae (hb0.trans (hb1.mono (by omega)))
 obtain⟨i0,hi,hz0,hz1,hz2⟩:=info_parts vw
 obtain⟨n,en⟩:∃ n,ex.length=n:=⟨_,rfl⟩
 have HN:=ae en
 have Nl:Hid (LZ.length=n):=ae (hll.trans en)
 have HR:=ae hR
 have HCN:Hid (cols.length=n):=ae (hce.trans en)
 rw[en] at HG h6
 rw[en] at jJ HW1 ⊢
 clear pe pc pl pr' pg pk l1 l2 l3 l4 l5 hce hLZ hR hll hI zf hb0 hx0 hs0 dZ hb1 en
 generalize hm2:cols.length=m2 at *
 generalize NI:left.length=m3 at *
 generalize hm4:right.length=m4 at *
 generalize ZJ:ag.length=m5 at *
 generalize Np:kids.length=m6 at *
 obtain⟨q,eq⟩:∃ q,iH.length=q:=⟨_,rfl⟩
 have HQ:=ae eq
 rw[eq] at hin ⊢
 clear eq hm2 NI hm4 ZJ Np
 obtain⟨d0,d1,d2,d3,d4,d5,d6,d7,f0,f1,f2,f3,f4,f5,f6,f7⟩:=dO jJ.o
 go_enter Tryz.func48,Tryz.ntmps48
 go_upto_region 1 with (fail)
 rw[←HW1.o]
 go_wp2_with fail
 go_loopw [6,14] (fun v i wr=>∃ (k:Nat)(A':Option Addr)(c':Nat)(acc:List C),k≤n∧i=.int .i64 k∧acc.length=k∧v=.slice A' k c'∧wr.ownsRow w1.heap.size 42 2 (.slice A' k c') k (iM acc)∧Below w1.heap.size w1 wr∧Hid (R=iL iH acc (LZ.drop k))) (fun _ i _=>n-(intOf i).toNat)
 case atStart=>exact⟨0,none,0,[],aX _,rfl,rfl,rfl,⟨rfl,.inl ⟨rfl,rfl⟩⟩,aG _ _,by simpa using HR⟩
 case round =>
  obtain⟨j,A',c',acc,hj,rfl,hal,rfl,hown,hb,HL⟩:=hrel
  have HO:=ae hown
  have HB:=ae hb
  have hs:=hb.size
  have gZ:=ae (HB1.o.trans (hb.mono (by omega)))
  have xq:=ae ((hb.block w.heap.size (by omega)).trans jJ.o)
  have N8:=ae ((hb.block (w.heap.size+1) (by omega)).trans HF1.o)
  have C9:=ae hal
  obtain⟨A3,c3,e3,hc3,hCS⟩:=qA (S:=fun k=>w1.heap.size≤k∧k<wr.heap.size) (by rw[C9.o];exact HO.o) (fun g h1 h2 _=>⟨h1,h2⟩)
  rw[hal] at e3 hc3
  obtain⟨rfl,rfl⟩:A'=A3∧c'=c3:=by injection e3 with e4 _ e5;exact⟨e4,e5⟩
  have Rl:=ae hCS
  have HC3:=ae hc3
  clear hown hb hal d0 d1 d2 d3 d4 d5 d6 d7 f0 f1 f2 f3 f4 f5 f6 f7 e3 hCS hc3
  obtain⟨d0,d1,d2,d3,d4,d5,d6,d7,_,_,_,_,_,_,_,_⟩:=dO xq.o
  by_cases hlt:j<n
  ·obtain⟨cn,e,hz,he,bc,oc,rfl,hbc,hcc⟩:=HG.o j hlt
   have hst:=ae (HL.o.trans (F8 hz))
   obtain⟨b,o,A2,c2,rfl,hbe,z0,z1,z2,z3,hKx⟩:=HEK.o.gy wr gZ.o j e he
   obtain⟨wx,iK⟩:∃ wx,wx=wr.alloc (.cells #[.int .i64 e.k,.string e.s,.int .i64 e.n,.slice A2 e.kids.length c2] 38):=⟨_,rfl⟩
   have hbx:Below wr.heap.size wr wx:=by rw[iK];exact (aG _ _).alloc (aF _) _
   have hnx:wx.heap[wr.heap.size]?=some (.cells #[.int .i64 e.k,.string e.s,.int .i64 e.n,.slice A2 e.kids.length c2] 38 (0,0)):=by rw[iK];exact aH wr _
   have Xi:=ae (JX iH (by rw[HQ.o];omega) e A2 B c2 d wx ((hKx.low hbx).more hbx.size) ((HII.o.below (gZ.o.trans (hbx.mono gZ.o.size))).more (aS gZ.o.size hbx.size)))
   rw[HQ.o] at Xi
   have jW:=ae hbx
   have hcw:=(gZ.o.cell hbc).trans hcc
   have hcx:=(hbx.cell (aK hbc gZ.o.size)).trans hcw
   have Qd:=ae hcx
   have hjm:j≤600:=by omega
   have ni:=ae iK
   obtain⟨ty,hty⟩:∃ ty,ty=jf iH e:=⟨_,rfl⟩
   rw[←hty] at Xi hst
   have adr:=ae hnx
   obtain⟨ek,es,eN,el⟩:=e
   obtain⟨tk,tw⟩:=ty
   simp only[E.val,E.k,E.s,E.n,E.kids] at z0 z1 z2 z3 Xi adr ni hst
   generalize el.length=em at *
   obtain⟨⟨n0,n1,n2,n3⟩,_,_,_,_⟩:=fQ adr.o
   clear hz he hKx iK hbx hnx hcc hcw hcx HL hty
   go_upto_region 5 with (fail)
   rw[←ni.o]
   go_wp2_with fail
   refine (Xi.o).mono ?_
   rintro r w3 ⟨rfl,hb3⟩
   have HB3:=ae (jW.o.trans (hb3.mono jW.o.size))
   have N9:=ae (gZ.o.trans (HB3.o.mono gZ.o.size))
   have nO:=ae ((HB3.o.block w.heap.size (by omega)).trans xq.o)
   have HF3:=ae ((HB3.o.block (w.heap.size+1) (by omega)).trans N8.o)
   have ads:=(hb3.cell (show (⟨bc,oc+j,none⟩:Addr).block<wx.heap.size from aK hbc (aS gZ.o.size jW.o.size))).trans Qd.o
   have hs3:=HB3.o.size
   clear hb3 n0 n1 n2 n3 z0 z1 z2 z3 d0 d1 d2 d3 d4 d5 d6 d7
   obtain⟨d0,d1,d2,d3,d4,d5,d6,d7,_,_,_,_,_,_,_,_⟩:=dO nO.o
   obtain⟨⟨r0,r1⟩,g0,g1⟩:=cell2 HF3.o
   by_cases htw:tw=0
   ·subst htw
    have hjz:(j:Int)<(m2:Int):=by have:=HCN.o;omega
    have Nq:=ae (CW A' c' acc (by rw[C9.o];omega) cn w3 ((Rl.o.kept fun k hk=>HB3.o.block k hk.2).to fun k hk=>aK hk.2 hs3))
    rw[C9.o] at Nq
    have hst2:Hid (R=if fO acc cn=true then kQ 21 cn else iL iH (acc++[⟨cn,tk⟩]) (LZ.drop (j+1))):=ae (by rw[hst.o,if_pos rfl])
    clear hst
    generalize hfb:fO acc cn=fb at *
    clear hfb
    go_wp2_with fail
    refine (Nq.o).mono ?_
    rintro r w4 ⟨rfl,hb4⟩
    have HB4:=ae (HB3.o.trans (hb4.mono hs3))
    have wX:=ae (gZ.o.trans (HB4.o.mono gZ.o.size))
    have uz:=ae ((hb4.block w.heap.size (by omega)).trans nO.o)
    have HF4:=ae ((hb4.block (w.heap.size+1) (by omega)).trans HF3.o)
    have am2:=(hb4.cell (show (⟨bc,oc+j,none⟩:Addr).block<w3.heap.size from aK hbc N9.o.size)).trans ads
    have hs4:=HB4.o.size
    clear hb4 d0 d1 d2 d3 d4 d5 d6 d7 r0 r1 g0 g1 ads
    obtain⟨d0,d1,d2,d3,d4,d5,d6,d7,_,_,_,_,_,_,_,_⟩:=dO uz.o
    obtain⟨⟨r0,r1⟩,g0,g1⟩:=cell2 HF4.o
    cases fb
    ·have HL2:Hid (R=iL iH (acc++[⟨cn,tk⟩]) (LZ.drop (j+1))):=ae (by rw[hst2.o];rfl)
     have mP:=ae (own_below HO.o HB4.o)
     clear hst2
     go_wp2_with (at_builtin;refine wpList_append_lies _ rfl _ _ 29 rfl w1.heap.size 42 i0 _ 2 24 Tryz.underlying29 hi hz0 hz1 hz2 rfl (by decide) (.slice A' j c') j (iM acc) rfl (mP.o.alloc _) ⟨w4.heap.size,0,none⟩ 1 1 [.string cn,.int .i64 tk] rfl rfl ?c1 ?c2 (by decide) ?c3 ?c4 ?c5 _ rfl ?_)
     case c1=>exact bz (aH w4 _)
     case c2=>intro u hu;simp only[bZ,bI,or_false] at hu;rcases hu with rfl|rfl <;> rfl
     case c3=>exact oq rfl hjm
     case c4=>exact lX rfl hjm (by decide)
     case c5=>simp;omega
     intro g' cap w5 hown hgrow hat Au
     have jq:=ae hown
     have jA:=ae (((HB.o.trans (HB4.o.mono hs)).alloc (by omega) (.cells #[.string cn,.int .i64 tk] 42)).grown hgrow (by simp;omega) (fun k e=>(mP.o.lt k e).1))
     clear hown hgrow hat
     go_wp2_with fail
     go_roundw
     case rel=>exact⟨j+1,_,cap,acc++[⟨cn,tk⟩],by omega,by go_num,by simp[C9.o],rfl,by rw[kH,pR];exact jq.o,jA.o,HL2⟩
     case measure=>simp[intOf];omega
    ·have HL2:Hid (R=kQ 21 cn):=ae (by rw[hst2.o];rfl)
     clear hst2
     go_upto_region 9 with (fail)
     go_region
     all_goals
      go_wp2_with fail
      refine aJ (eF rfl rfl rfl (mW HF4.o)) rfl ?_
      exact⟨je (by decide) HL2.o rfl,(eG wX.o (aW _)).drew⟩
   ·have ac8:(tw != 0)=true:=by simpa using htw
    have HL2:Hid (R=kQ tw ⟨#[]⟩):=ae (by rw[hst.o,if_neg htw])
    clear hst
    go_wp2_with fail
    refine aJ (eF rfl rfl rfl (eX HF3.o)) rfl ?_
    exact⟨je htw HL2.o rfl,eG N9.o (aW _)⟩
  ·obtain rfl:j=n:=by omega
   have HL2:Hid (R=gQ acc):=ae (by rw[HL.o,IX (by rw[Nl.o];exact aF _)])
   have He:=ae (vg A' c' acc (by rw[C9.o];omega) (by rw[C9.o];exact HC3.o) wr Rl.o (fun k hk=>hk.2))
   rw[C9.o,←HL2.o] at He
   clear HL HL2
   go_wp2_with fail
   refine (He.o).mono ?_
   rintro r w3 ⟨⟨A9,n9,c9,rfl,G8⟩,hb3⟩
   have J8:=ae G8
   have N9:=ae (gZ.o.trans (hb3.mono gZ.o.size))
   have HF3:=ae ((hb3.block (w.heap.size+1) (by omega)).trans N8.o)
   have hs3:=hb3.size
   clear hb3 G8
   obtain⟨⟨r0,r1⟩,g0,g1⟩:=cell2 HF3.o
   go_wp2_with fail
   refine aJ (eF rfl rfl rfl (eX HF3.o)) rfl ?_
   refine⟨⟨A9,n9,c9,rfl,fun h=>?_⟩,eG N9.o (aW _)⟩
   obtain⟨h1,h2,h3⟩:=J8.o h
   refine⟨h1,h2,(h3.kept fun k hk=>jT (by omega)).mono fun k hk=>⟨by omega,by have:=hk.2;simp[World.setCell];omega⟩⟩
def eqS (s:ByteArray)(x:ByteArray):Bool:=x.toList==s.toList
theorem UG (s x:ByteArray):(s.toList==x.toList)=eqS s x:=by
 unfold eqS
 exact Bool.beq_comm
theorem zg {w:World} {S:Nat→Prop} {A:Option Addr} {l:List ByteArray} (h:Lies w S A (strs l)) {j:Nat} {x:ByteArray} (hx:l[j]?=some x):∃ b o,A=some ⟨b,o,none⟩∧S b∧w.cell? ⟨b,o+j,none⟩=some (.string x):=by
 have hcell:(strs l)[j]?=some (.string x):=by unfold strs;rw[bP,hx];rfl
 rcases h with h0|⟨b,o,hA,hb,hcx⟩
 ·rw[h0] at hcell;simp at hcell
 ·exact⟨b,o,hA,hb,hcx j _ hcell⟩
theorem Oa (A:Option Addr)(c:Nat)(l:List ByteArray)(hl:l.length≤1000000)(s:ByteArray)(w:World)(hA:Lies w (fun k=>k<w.heap.size) A (strs l)) :
 Calls Tryz.prog 135 #[.slice A l.length c,.string s] w fun e w'=>e=.returned (.int .i64 (idx (eqS s) l 0))∧w=w':=by
 obtain⟨n,en⟩:∃ n,l.length=n:=⟨_,rfl⟩
 have HN:=ae en
 have HA:=ae hA
 rw[en] at hl ⊢
 clear hA en
 go_enter Tryz.func135,Tryz.ntmps135
 go_wp2_with fail
 go_loopw [8] (fun i wr=>∃ k:Nat,k≤n∧i=.int .i64 k∧wr=w∧Hid (idx (eqS s) l 0=idx (eqS s) (l.drop k) k)) (fun i _=>n-(intOf i).toNat)
 case atStart=>exact⟨0,aX _,rfl,by first|rfl|trivial,ae (by simp)⟩
 case round =>
  obtain⟨k,hk,rfl,rfl,HL⟩:=hrel
  by_cases hlt:k<n
  ·obtain⟨x,hx⟩:∃ x,l[k]?=some x:=⟨_,aO (by rw[HN.o];exact hlt)⟩
   obtain⟨b,o,rfl,hb,c1⟩:=zg HA.o hx
   have HD:=ae (HL.o.trans (nz (p:=eqS s) hx))
   have hsw:=UG s x
   generalize hz:eqS s x=z at *
   clear hz hx HL
   cases z
   ·have P6:Hid (idx (eqS s) l 0=idx (eqS s) (l.drop (k+1)) (k+1)):=ae (by rw[HD.o];rfl)
    clear HD
    go_wp2_with fail
    go_roundw
    case rel=>exact⟨k+1,by omega,by go_num,by first|rfl|trivial,P6⟩
    case measure=>simp[intOf];omega
   ·have HF:Hid (idx (eqS s) l 0=(k:Int)):=ae (by rw[HD.o];rfl)
    clear HD
    go_wp2_with fail
    go_ret
    exact⟨by rw[HF.o];rfl,by first|rfl|trivial⟩
  ·obtain rfl:k=n:=by omega
   have HF:Hid (idx (eqS s) l 0=-1):=ae (by
    rw[HL.o,bW (by rw[HN.o];exact aF _)]
    rfl)
   go_wp2_with fail
   go_ret
   exact⟨by rw[HF.o];rfl,by first|rfl|trivial⟩
theorem ry (A:Option Addr)(c:Nat)(l:List ByteArray)(hl:l.length≤1000000)(s:ByteArray)(w:World)(hA:Lies w (fun k=>k<w.heap.size) A (strs l)) :
 Calls Tryz.prog 95 #[.slice A l.length c,.string s] w fun e w'=>e=.returned (.bool (yS l s))∧w=w':=by
 have h:=ae (Oa A c l hl s w hA)
 have e:yS l s=decide (0≤idx (eqS s) l 0):=(uP (eqS s) l 0).symm
 rw[e]
 generalize idx (eqS s) l 0=z at *
 generalize l.length=n at *
 clear hA e
 go_enter Tryz.func95,Tryz.ntmps95
 go_wp2_with fail
 refine (h.o).mono ?_
 rintro r w' ⟨rfl,rfl⟩
 go_wp2_with fail
 go_ret
 exact⟨rfl,by first|rfl|trivial⟩
theorem DZ {l:List C} {s:ByteArray} (h:fO l s=true):∃ (j:Nat)(x:C),gU l s=(j:Int)∧l[j]?=some x∧kU l (gU l s)=x:=by
 unfold fO at h
 have h0:0≤idx (C.oM s) l 0:=by simpa using h
 obtain⟨j,x,h1,h2⟩:=Uh (C.oM s) l 0 h0
 have e:gU l s=(j:Int):=by unfold gU;rw[if_pos h0,h1];simp
 refine⟨j,x,e,h2,?_⟩
 unfold kU
 rw[e,Int.toNat_natCast,List.getD_eq_getElem?_getD,h2]
 rfl
theorem Hf {w:World} {S:Nat→Prop} {A:Option Addr} {l:List ByteArray} (h:Lies w S A (strs l))(n:Nat):Lies w S A (strs (l.take n)):=by
 rcases h with h|⟨b,o,hA,hb,hc⟩
 ·left
  unfold strs at h ⊢
  rw[List.map_take,h,List.take_nil]
 ·refine .inr ⟨b,o,hA,hb,fun j u hj=>hc j u ?_⟩
  unfold strs at hj ⊢
  rw[List.map_take,List.getElem?_take] at hj
  split at hj
  ·exact hj
  ·cases hj
theorem UH (s:List ByteArray)(n:Nat)(x:ByteArray)(h:s[n]?=some x):s.getD n ⟨#[]⟩=x:=by rw[List.getD_eq_getElem?_getD,h];rfl
theorem UI (p:P)(a:PA)(w:World)(hA:kY w (fun k=>k<w.heap.size) p a)(hlc:p.left.length≤a.lc)(hrc:p.right.length≤a.rc)(n:Nat)(hn1:n<p.left.length)(hn2:n<p.right.length)(Aw:p.left.length≤600)(qK:p.right.length≤600)
 (A B:Option Addr)(c d:Nat)(la lb:List C)(hla:la.length≤1000000)(hlb:lb.length≤1000000)(XM:l9 w w.heap.size A la)(XN:l9 w w.heap.size B lb) :
 Calls Tryz.prog 94 #[p.val a,.int .i64 n,.slice A la.length c,.slice B lb.length d] w fun e w'=>e=.returned (.agg #[.int .i64 (ve la lb p.left p.right n).1,.string (ve la lb p.left p.right n).2])∧Below w.heap.size w w':=by
 obtain⟨k,nm,ex,cols,left,right,ag,kids⟩:=p
 obtain⟨⟨pe,pc,pl,pr',pg,l1,l2,l3,l4,l5⟩,pk⟩:=hA
 simp only[P.val,P.k,P.nm,P.ex,P.cols,P.left,P.right,P.ag,P.kids] at pl pr' hlc hrc hn1 hn2 Aw qK ⊢
 obtain⟨ea,ec,ca,cc,la',lc,ra,rc,ga,gc,ka,kc⟩:=a
 simp only at pl pr' hlc hrc ⊢
 obtain⟨sl,hsl⟩:∃ sl,left[n]?=some sl:=⟨_,aO hn1⟩
 obtain⟨sr,CZ⟩:∃ sr,right[n]?=some sr:=⟨_,aO hn2⟩
 obtain⟨bl,ol,rfl,KC,hcl⟩:=zg pl hsl
 obtain⟨br,or,rfl,F9,hcr⟩:=zg pr' CZ
 obtain⟨R,hR⟩:∃ R,R=ve la lb left right n:=⟨_,rfl⟩
 rw[←hR]
 unfold ve at hR
 rw[UH _ _ _ hsl,UH _ _ _ CZ] at hR
 have Nk:=ae (fun w' (hb:Below w.heap.size w w')=>ry (some ⟨bl,ol,none⟩) lc (left.take n) (by rw[List.length_take];omega) sl w' ((Hf pl n).kept (w':=w') (fun k hk=>hb.block k hk) |>.mono fun k hk=>aK hk hb.size))
 have xQ:=ae (fun w' (hb:Below w.heap.size w w')=>ry (some ⟨br,or,none⟩) rc (right.take n) (by rw[List.length_take];omega) sr w' ((Hf pr' n).kept (w':=w') (fun k hk=>hb.block k hk) |>.mono fun k hk=>aK hk hb.size))
 rw[List.length_take,Nat.min_eq_left (bV hn1)] at Nk
 rw[List.length_take,Nat.min_eq_left (bV hn2)] at xQ
 have HF1:=ae (fun w' (hb:Below w.heap.size w w')=>oG A c la (by omega) sl w' ((XM.below hb).more hb.size))
 have HF2:=ae (fun w' (hb:Below w.heap.size w w')=>oG B d lb (by omega) sr w' ((XN.below hb).more hb.size))
 have aaw:Hid (fO la sl=true→∃ (j:Nat)(x:C),gU la sl=(j:Int)∧j<la.length∧kU la (gU la sl)=x∧∃ b o,A=some ⟨b,o,none⟩∧b<w.heap.size∧w.cell? ⟨b,o+j*2+1,none⟩=some (.int .i64 x.k)):=ae (fun h=>by
  obtain⟨j,x,h1,h2,h3⟩:=DZ h
  obtain⟨b,o,hA,hb,_,hc⟩:=XM.gy h2
  exact⟨j,x,h1,(aV.1 h2).1,h3,b,o,hA,hb,hc⟩)
 have aax:Hid (fO lb sr=true→∃ (j:Nat)(x:C),gU lb sr=(j:Int)∧j<lb.length∧kU lb (gU lb sr)=x∧∃ b o,B=some ⟨b,o,none⟩∧b<w.heap.size∧w.cell? ⟨b,o+j*2+1,none⟩=some (.int .i64 x.k)):=ae (fun h=>by
  obtain⟨j,x,h1,h2,h3⟩:=DZ h
  obtain⟨b,o,hA,hb,_,hc⟩:=XN.gy h2
  exact⟨j,x,h1,(aV.1 h2).1,h3,b,o,hA,hb,hc⟩)
 clear pe pc pl pr' pg pk l1 l2 l3 l4 l5 hsl CZ XM XN
 generalize hz1:yS (left.take n) sl=z1 at *
 generalize hz2:yS (right.take n) sr=z2 at *
 clear hz1 hz2
 obtain⟨i1,hi1⟩:∃ i1,i1=gU la sl:=⟨_,rfl⟩
 obtain⟨i2,hi2⟩:∃ i2,i2=gU lb sr:=⟨_,rfl⟩
 obtain⟨K1,hK1⟩:∃ K1,K1=(kU la i1).k:=⟨_,rfl⟩
 obtain⟨K2,hK2⟩:∃ K2,K2=(kU lb i2).k:=⟨_,rfl⟩
 rw[←hi1,←hi2,←hK1,←hK2] at hR
 rw[←hi1] at HF1 aaw
 rw[←hi2] at HF2 aax
 generalize hq1:fO la sl=q1 at *
 generalize hq2:fO lb sr=q2 at *
 have Qe:Hid (q1=true→∃ j:Nat,i1=(j:Int)∧j<la.length∧∃ b o,A=some ⟨b,o,none⟩∧b<w.heap.size∧w.cell? ⟨b,o+j*2+1,none⟩=some (.int .i64 K1)):=ae (fun h=>by
  obtain⟨j,x,h1,h2,h3,b,o,h4,h5,h6⟩:=aaw.o h
  exact⟨j,h1,h2,b,o,h4,h5,by rw[hK1,h3];exact h6⟩)
 have HC2:Hid (q2=true→∃ j:Nat,i2=(j:Int)∧j<lb.length∧∃ b o,B=some ⟨b,o,none⟩∧b<w.heap.size∧w.cell? ⟨b,o+j*2+1,none⟩=some (.int .i64 K2)):=ae (fun h=>by
  obtain⟨j,x,h1,h2,h3,b,o,h4,h5,h6⟩:=aax.o h
  exact⟨j,h1,h2,b,o,h4,h5,by rw[hK2,h3];exact h6⟩)
 have HR:=ae hR
 clear aaw aax hK1 hK2 hi1 hi2 hq1 hq2 hR
 generalize hm1:ex.length=m1 at *
 generalize hm2:cols.length=m2 at *
 generalize NI:left.length=m3 at *
 generalize hm4:right.length=m4 at *
 generalize ZJ:ag.length=m5 at *
 generalize Np:kids.length=m6 at *
 generalize la.length=na at *
 generalize lb.length=nb at *
 clear hm1 hm2 NI hm4 ZJ Np
 obtain⟨w0,zf⟩:∃ w0,w0=w.alloc (.cells #[.int .i64 k,.string nm,.slice ea m1 ec,.slice ca m2 cc,.slice (some ⟨bl,ol,none⟩) m3 lc,.slice (some ⟨br,or,none⟩) m4 rc,.slice ga m5 gc,.slice ka m6 kc] 27):=⟨_,rfl⟩
 have hb0:Below w.heap.size w w0:=by rw[zf];exact (aG _ _).alloc (aF _) _
 have hs0:w0.heap.size=w.heap.size+1:=by rw[zf];simp
 have hx0:w0.heap[w.heap.size]?=some (.cells #[.int .i64 k,.string nm,.slice ea m1 ec,.slice ca m2 cc,.slice (some ⟨bl,ol,none⟩) m3 lc,.slice (some ⟨br,or,none⟩) m4 rc,.slice ga m5 gc,.slice ka m6 kc] 27 (0,0)):=by rw[zf];exact aH w _
 obtain⟨w1,dZ⟩:∃ w1,w1=w0.alloc (.cells #[.int .i64 0,.string ⟨#[]⟩] 61):=⟨_,rfl⟩
 have hb1:Below w0.heap.size w0 w1:=by rw[dZ];exact (aG _ _).alloc (aF _) _
 have hs1:w.heap.size+1<w1.heap.size:=by rw[dZ];simp;omega
 have jJ:Hid (w1.heap[w.heap.size]?=some (.cells #[.int .i64 k,.string nm,.slice ea m1 ec,.slice ca m2 cc,.slice (some ⟨bl,ol,none⟩) m3 lc,.slice (some ⟨br,or,none⟩) m4 rc,.slice ga m5 gc,.slice ka m6 kc] 27 (0,0))):=ae ((hb1.block _ (by omega)).trans hx0)
 have Ob:Hid (w1.heap[w.heap.size+1]?=some (.cells #[.int .i64 0,.string ⟨#[]⟩] 61 (0,0))):=ae (by rw[dZ,←hs0];exact aH w0 _)
 have HW1:=ae (show w1=(w.alloc (.cells #[.int .i64 k,.string nm,.slice ea m1 ec,.slice ca m2 cc,.slice (some ⟨bl,ol,none⟩) m3 lc,.slice (some ⟨br,or,none⟩) m4 rc,.slice ga m5 gc,.slice ka m6 kc] 27)).alloc (.cells #[.int .i64 0,.string ⟨#[]⟩] 61) by rw[dZ,zf])
 have HB1:=ae (hb0.trans (hb1.mono (by omega)))
 clear zf hb0 hs0 hx0 dZ hb1
 have hnl:(n:Int)<(m3:Int):=by omega
 have hnr:(n:Int)<(m4:Int):=by omega
 have am3:(n:Int)≤(m3:Int):=by omega
 have am4:(n:Int)≤(m4:Int):=by omega
 have hn0:(0:Int)≤(n:Int):=by omega
 have am5:n≤lc:=by omega
 have am6:n≤rc:=by omega
 have agM:=(HB1.o.cell (show (⟨bl,ol+n,none⟩:Addr).block<w.heap.size from KC)).trans hcl
 have lG:=ae hcl
 have HCR:=ae hcr
 obtain⟨d0,d1,d2,d3,d4,d5,d6,d7,_,_,_,_,_,_,_,_⟩:=dO jJ.o
 clear hcl hcr
 go_enter Tryz.func94,Tryz.ntmps94
 go_upto_region 1 with (fail)
 rw[←HW1.o]
 go_wp2_with fail
 refine (HF1.o w1 HB1.o).mono ?_
 rintro e w2 ⟨rfl,hb2⟩
 have HB2:=ae (HB1.o.trans (hb2.mono HB1.o.size))
 have iI:=ae ((hb2.block w.heap.size (by omega)).trans jJ.o)
 have HE2:=ae ((hb2.block (w.heap.size+1) (by omega)).trans Ob.o)
 have hs2:=hb2.size
 clear hb2 d0 d1 d2 d3 d4 d5 d6 d7 agM
 have hcr2:=(HB2.o.cell (show (⟨br,or+n,none⟩:Addr).block<w.heap.size from F9)).trans HCR.o
 obtain⟨d0,d1,d2,d3,d4,d5,d6,d7,_,_,_,_,_,_,_,_⟩:=dO iI.o
 go_wp2_with fail
 refine (HF2.o w2 HB2.o).mono ?_
 rintro e w3 ⟨rfl,hb3⟩
 have HB3:=ae (HB2.o.trans (hb3.mono HB2.o.size))
 have HX:=ae ((hb3.block w.heap.size (by omega)).trans iI.o)
 have UJ:=ae ((hb3.block (w.heap.size+1) (by omega)).trans HE2.o)
 have hs3:=hb3.size
 have hsx:w.heap.size<w3.heap.size:=by omega
 have hse:w.heap.size+1<w3.heap.size:=by omega
 have adv:bl<w3.heap.size:=by omega
 have adw:br<w3.heap.size:=by omega
 have hcbl:=ae ((HB3.o.cell (show (⟨bl,ol+n,none⟩:Addr).block<w.heap.size from KC)).trans lG.o)
 have Rn:=ae ((HB3.o.cell (show (⟨br,or+n,none⟩:Addr).block<w.heap.size from F9)).trans HCR.o)
 clear hb3 d0 d1 d2 d3 d4 d5 d6 d7 hcr2 KC F9
 obtain⟨d0,d1,d2,d3,d4,d5,d6,d7,_,_,_,_,_,_,_,_⟩:=dO HX.o
 obtain⟨⟨r0,r1⟩,g0,g1⟩:=cell2 UJ.o
 have adx:=hcbl.o
 have hcr3:=Rn.o
 have hHL:=ae (fun w' (hb:Below w3.heap.size w3 w')=>Nk.o w' (HB3.o.trans (hb.mono HB3.o.size)))
 have hHR:=ae (fun w' (hb:Below w3.heap.size w3 w')=>xQ.o w' (HB3.o.trans (hb.mono HB3.o.size)))
 have KC:=adv
 have F9:=adw
 cases q1
 ·have hr:Hid (R=(20,sl)):=ae (by rw[HR.o,if_pos rfl])
  go_wp2_with fail
  refine aJ (lH rfl rfl (eX UJ.o)) rfl ?_
  exact⟨by (rw[hr.o];first|done|rfl),eG HB3.o (aW _)⟩
 cases q2
 ·have hr:Hid (R=(20,sr)):=ae (by rw[HR.o,if_neg (by decide),if_pos rfl])
  go_wp2_with fail
  refine aJ (lH rfl rfl (eX UJ.o)) rfl ?_
  exact⟨by (rw[hr.o];first|done|rfl),eG HB3.o (aW _)⟩
 have HR2:Hid (R=if z1=true then (21,sl) else if z2=true then (21,sr) else if K1=K2 then (0,⟨#[]⟩) else (22,sl)):=ae (by rw[HR.o,if_neg (by decide),if_neg (by decide)])
 clear HR HF1 HF2 Nk xQ
 go_upto_region 7 with (fail)
 clear d0 d1 d2 d3 d4 d5 d6 d7 r0 r1 g0 g1 adx hcr3
 refine wp_region_held_drew (S:=fun w'=>Below w3.heap.size w3 w') (by kernel_rfl) ((aG _ _).drew) (fun hHeld=>?_)
 refine aC (i:=0) (v:=.pointer (some ⟨w.heap.size,4,none⟩)) rfl (by kernel_rfl) aA (bD ⟨by rfl,fun _ _=>by go_simp⟩) ‹_› ?_
 simp only[ah,ai,Act.put,au,ay,az]
 refine aC (i:=1) (v:=.slice (some ⟨bl,ol,none⟩) m3 lc) rfl (by kernel_rfl) aA (bD ⟨by rfl,fun w1' hSw=>by (obtain⟨d0,d1,d2,d3,d4,d5,d6,d7,_,_,_,_,_,_,_,_⟩:=dO ((hSw.block _ hsx).trans HX.o);go_simp)⟩) ‹_› ?_
 simp only[ah,aj,ai,Act.put,au,ay,az]
 refine aC (i:=2) (v:=.int .i64 n) rfl (by kernel_rfl) aA (bD ⟨by rfl,fun _ _=>by go_simp⟩) ‹_› ?_
 simp only[ah,aj,ai,Act.put,au,ay,az]
 refine aC (i:=3) (v:=.slice (some ⟨bl,ol,none⟩) n lc) rfl (by kernel_rfl) aA (bD ⟨by rfl,fun _ _=>by go_simp⟩) ‹_› ?_
 simp only[ah,aj,ai,Act.put,au,ay,az]
 refine aC (i:=4) (v:=.pointer (some ⟨w.heap.size,4,none⟩)) rfl (by kernel_rfl) aA (bD ⟨by rfl,fun _ _=>by go_simp⟩) ‹_› ?_
 simp only[ah,aj,ai,Act.put,au,ay,az]
 refine aC (i:=5) (v:=.slice (some ⟨bl,ol,none⟩) m3 lc) rfl (by kernel_rfl) aA (bD ⟨by rfl,fun w1' hSw=>by (obtain⟨d0,d1,d2,d3,d4,d5,d6,d7,_,_,_,_,_,_,_,_⟩:=dO ((hSw.block _ hsx).trans HX.o);go_simp)⟩) ‹_› ?_
 simp only[ah,aj,ai,Act.put,au,ay,az]
 refine aC (i:=6) (v:=.int .i64 n) rfl (by kernel_rfl) aA (bD ⟨by rfl,fun _ _=>by go_simp⟩) ‹_› ?_
 simp only[ah,aj,ai,Act.put,au,ay,az]
 refine aC (i:=7) (v:=.pointer (some ⟨bl,ol+n,none⟩)) rfl (by kernel_rfl) aA (bD ⟨by rfl,fun _ _=>by go_simp⟩) ‹_› ?_
 simp only[ah,aj,ai,Act.put,au,ay,az]
 refine aC (i:=8) (v:=.string sl) rfl (by kernel_rfl) aA (bD ⟨by rfl,fun w1' hSw=>by (have y0:=(hSw.cell KC).trans hcbl.o;go_simp)⟩) ‹_› ?_
 simp only[ah,aj,ai,Act.put,au,ay,az]
 refine wpAnyH_ready (rs:=[9]) (by kernel_rfl) (by simp) ?_
 refine AllReadyH.cons rfl (fun K hK=>?_) AllReadyH.nil
 simp only[ah,aj,ai]
 go_simp
 refine (hHL.o _ hHeld).mono ?_
 rintro r wb ⟨rfl,hwb⟩
 subst hwb
 go_wp2_with fail
 refine hK.o _ _ hHeld (fun hHeld=>?_)
 clear hK K
 refine aC (i:=10) (v:=.bool z1) rfl (by kernel_rfl) aA (bD ⟨by rfl,fun _ _=>by go_simp⟩) ‹_› ?_
 simp only[ah,aj,ai,Act.put,au,ay,az]
 refine wpAnyH_done (by kernel_rfl) ?_ _
 obtain⟨wz,tC⟩:∃ wz,wz=w3.drew:=⟨_,rfl⟩
 rw[←tC]
 have HZ:Hid (Below w3.heap.size w3 wz):=ae (by rw[tC];exact (aG _ _).drew)
 clear tC
 clear hHeld
 have IY:=ae (HB3.o.trans (HZ.o.mono HB3.o.size))
 have HXZ:=ae ((HZ.o.block _ hsx).trans HX.o)
 have HEZ:=ae ((HZ.o.block _ hse).trans UJ.o)
 obtain⟨d0,d1,d2,d3,d4,d5,d6,d7,_,_,_,_,_,_,_,_⟩:=dO HXZ.o
 obtain⟨⟨r0,r1⟩,g0,g1⟩:=cell2 HEZ.o
 have ady:=(HZ.o.cell (show (⟨bl,ol+n,none⟩:Addr).block<w3.heap.size from KC)).trans hcbl.o
 cases z1
 rotate_left
 ·have hr:Hid (R=(21,sl)):=ae (by rw[HR2.o,if_pos rfl])
  go_wp2_with fail
  refine aJ (lH rfl rfl (eX HEZ.o)) rfl ?_
  exact⟨by (rw[hr.o];first|done|rfl),eG IY.o (aW _)⟩
 have HR3:Hid (R=if z2=true then (21,sr) else if K1=K2 then (0,⟨#[]⟩) else (22,sl)):=ae (by rw[HR2.o,if_neg (by decide)])
 have agO:=aK hsx HZ.o.size
 have adz:=aK KC HZ.o.size
 have adA:=aK F9 HZ.o.size
 have adB:=ae ((HZ.o.cell (show (⟨br,or+n,none⟩:Addr).block<w3.heap.size from F9)).trans Rn.o)
 have adC:=ae ady
 have agP:=ae (fun w' (hb:Below wz.heap.size wz w')=>hHR.o w' (HZ.o.trans (hb.mono HZ.o.size)))
 clear HR2 HX hsx hHL hHR Rn hcbl F9 KC
 have HX:=HXZ
 have hsx:=agO
 have F9:=adA
 have Rn:=adB
 go_upto_region 9 with (fail)
 clear d0 d1 d2 d3 d4 d5 d6 d7 r0 r1 g0 g1 ady
 refine wp_region_held_drew (S:=fun w'=>Below wz.heap.size wz w') (by kernel_rfl) ((aG _ _).drew) (fun hHeld=>?_)
 refine aC (i:=0) (v:=.pointer (some ⟨w.heap.size,5,none⟩)) rfl (by kernel_rfl) aA (bD ⟨by rfl,fun _ _=>by go_simp⟩) ‹_› ?_
 simp only[ah,ai,Act.put,au,ay,az]
 refine aC (i:=1) (v:=.slice (some ⟨br,or,none⟩) m4 rc) rfl (by kernel_rfl) aA (bD ⟨by rfl,fun w1' hSw=>by (obtain⟨d0,d1,d2,d3,d4,d5,d6,d7,_,_,_,_,_,_,_,_⟩:=dO ((hSw.block _ hsx).trans HX.o);go_simp)⟩) ‹_› ?_
 simp only[ah,aj,ai,Act.put,au,ay,az]
 refine aC (i:=2) (v:=.int .i64 n) rfl (by kernel_rfl) aA (bD ⟨by rfl,fun _ _=>by go_simp⟩) ‹_› ?_
 simp only[ah,aj,ai,Act.put,au,ay,az]
 refine aC (i:=3) (v:=.slice (some ⟨br,or,none⟩) n rc) rfl (by kernel_rfl) aA (bD ⟨by rfl,fun _ _=>by go_simp⟩) ‹_› ?_
 simp only[ah,aj,ai,Act.put,au,ay,az]
 refine aC (i:=4) (v:=.pointer (some ⟨w.heap.size,5,none⟩)) rfl (by kernel_rfl) aA (bD ⟨by rfl,fun _ _=>by go_simp⟩) ‹_› ?_
 simp only[ah,aj,ai,Act.put,au,ay,az]
 refine aC (i:=5) (v:=.slice (some ⟨br,or,none⟩) m4 rc) rfl (by kernel_rfl) aA (bD ⟨by rfl,fun w1' hSw=>by (obtain⟨d0,d1,d2,d3,d4,d5,d6,d7,_,_,_,_,_,_,_,_⟩:=dO ((hSw.block _ hsx).trans HX.o);go_simp)⟩) ‹_› ?_
 simp only[ah,aj,ai,Act.put,au,ay,az]
 refine aC (i:=6) (v:=.int .i64 n) rfl (by kernel_rfl) aA (bD ⟨by rfl,fun _ _=>by go_simp⟩) ‹_› ?_
 simp only[ah,aj,ai,Act.put,au,ay,az]
 refine aC (i:=7) (v:=.pointer (some ⟨br,or+n,none⟩)) rfl (by kernel_rfl) aA (bD ⟨by rfl,fun _ _=>by go_simp⟩) ‹_› ?_
 simp only[ah,aj,ai,Act.put,au,ay,az]
 refine aC (i:=8) (v:=.string sr) rfl (by kernel_rfl) aA (bD ⟨by rfl,fun w1' hSw=>by (have y0:=(hSw.cell F9).trans Rn.o;go_simp)⟩) ‹_› ?_
 simp only[ah,aj,ai,Act.put,au,ay,az]
 refine wpAnyH_ready (rs:=[9]) (by kernel_rfl) (by simp) ?_
 refine AllReadyH.cons rfl (fun K hK=>?_) AllReadyH.nil
 simp only[ah,aj,ai]
 go_simp
 refine (agP.o _ hHeld).mono ?_
 rintro r wb ⟨rfl,hwb⟩
 subst hwb
 go_wp2_with fail
 refine hK.o _ _ hHeld (fun hHeld=>?_)
 clear hK K
 refine aC (i:=10) (v:=.bool z2) rfl (by kernel_rfl) aA (bD ⟨by rfl,fun _ _=>by go_simp⟩) ‹_› ?_
 simp only[ah,aj,ai,Act.put,au,ay,az]
 refine wpAnyH_done (by kernel_rfl) ?_ _
 obtain⟨wy,zY⟩:∃ wy,wy=wz.drew:=⟨_,rfl⟩
 rw[←zY]
 have HY:Hid (Below wz.heap.size wz wy):=ae (by rw[zY];exact (aG _ _).drew)
 clear zY
 clear hHeld
 have D5:=ae (IY.o.trans (HY.o.mono IY.o.size))
 have HXY:=ae ((HY.o.block _ hsx).trans HX.o)
 have HEY:=ae ((HY.o.block _ (aK hse HZ.o.size)).trans HEZ.o)
 obtain⟨d0,d1,d2,d3,d4,d5,d6,d7,_,_,_,_,_,_,_,_⟩:=dO HXY.o
 obtain⟨⟨r0,r1⟩,g0,g1⟩:=cell2 HEY.o
 have am8:=(HY.o.cell (show (⟨bl,ol+n,none⟩:Addr).block<wz.heap.size from adz)).trans adC.o
 have am9:=(HY.o.cell (show (⟨br,or+n,none⟩:Addr).block<wz.heap.size from F9)).trans Rn.o
 cases z2
 rotate_left
 ·have hr:Hid (R=(21,sr)):=ae (by rw[HR3.o,if_pos rfl])
  go_wp2_with fail
  refine aJ (lH rfl rfl (eX HEY.o)) rfl ?_
  exact⟨by (rw[hr.o];first|done|rfl),eG D5.o (aW _)⟩
 have HR4:Hid (R=if K1=K2 then (0,⟨#[]⟩) else (22,sl)):=ae (by rw[HR3.o,if_neg (by decide)])
 obtain⟨j1,rfl,hj1,b1,o1,rfl,hb1,e1⟩:=Qe.o (by first|rfl|trivial)
 obtain⟨j2,rfl,hj2,b2,o2,rfl,hb2,e2⟩:=HC2.o (by first|rfl|trivial)
 have e1y:=(D5.o.cell hb1).trans e1
 have e2y:=(D5.o.cell hb2).trans e2
 have ana:(j1:Int)<(na:Int):=by omega
 have anb:(j2:Int)<(nb:Int):=by omega
 clear HR3 Qe HC2 e1 e2
 go_upto_region 11 with (fail)
 by_cases hk:K1=K2
 ·have hkk:(K1 != K2)=false:=by simpa using hk
  have hr:Hid (R=(0,⟨#[]⟩)):=ae (by rw[HR4.o,if_pos hk])
  clear hk HR4
  go_quiet (fail)
  go_wp2_with fail
  refine aJ (lH rfl rfl (vk HEY.o)) rfl ?_
  exact⟨by rw[hr.o],eG (below_drewN D5.o _) (aW _)⟩
 ·have hkk:(K1 != K2)=true:=by simpa using hk
  have hr:Hid (R=(22,sl)):=ae (by rw[HR4.o,if_neg hk])
  clear hk HR4
  go_quiet (fail)
  go_wp2_with fail
  refine aJ (lH rfl rfl (vk HEY.o)) rfl ?_
  exact⟨by rw[hr.o],eG (below_drewN D5.o _) (aW _)⟩
theorem KD {a b:List C} {left right:List ByteArray} {n m:Nat} (h:n<m):mr a b left right n (m-n)=if (ve a b left right n).1=0 then mr a b left right (n+1) (m-(n+1)) else ve a b left right n:=by
 obtain⟨q,hq⟩:∃ q,m-n=q+1:=⟨m-n-1,by omega⟩
 rw[hq,mr,show m-(n+1)=q by omega]
theorem Oc {right:List ByteArray} {acc l:List C} {k:Nat} {x:C} (h:l[k]?=some x):kE right acc (l.drop k)=if yS right x.nm=true then kE right acc (l.drop (k+1)) else if fO acc x.nm=true then kQ 21 x.nm else kE right (acc++[x]) (l.drop (k+1)):=by
 obtain⟨h1,e1⟩:=aV.1 h
 rw[bY h1,e1,kE]
theorem Ro {right:List ByteArray} {acc l:List C} {k:Nat} (h:l.length≤k):kE right acc (l.drop k)=gQ acc:=by
 rw[bW h,kE]
theorem UK (p:P)(a:PA)(w:World)(hA:kY w (fun k=>k<w.heap.size) p a)(hlc:p.left.length≤a.lc)(hrc:p.right.length≤a.rc)(Aw:p.left.length≤600)(qK:p.right.length≤600)
 (A B:Option Addr)(c d:Nat)(la lb:List C)(hla:la.length≤1000)(hlb:lb.length≤1000)(XM:l9 w w.heap.size A la)(XN:l9 w w.heap.size B lb) :
 Calls Tryz.prog 49 #[p.val a,.slice A la.length c,.slice B lb.length d] w fun e w'=>yT (fun k=>w.heap.size≤k∧k<w'.heap.size) (qU la lb p.left p.right) e w'∧Below w.heap.size w w':=by
 have D6:=ae (fun w' (hb:Below w.heap.size w w')(n:Nat) hn1 hn2=>UI p a w' ((hA.kept (fun k hk=>hb.block k hk)).mono fun k hk=>aK hk hb.size) hlc hrc n hn1 hn2 Aw qK A B c d la lb (by omega) (by omega) ((XM.below hb).more hb.size) ((XN.below hb).more hb.size))
 obtain⟨k,nm,ex,cols,left,right,ag,kids⟩:=p
 obtain⟨⟨pe,pc,pl,pr',pg,l1,l2,l3,l4,l5⟩,pk⟩:=hA
 simp only[P.val,P.k,P.nm,P.ex,P.cols,P.left,P.right,P.ag,P.kids] at pl pr' hlc hrc Aw qK D6 ⊢
 obtain⟨ea,ec,ca,cc,la',lc,ra,rc,ga,gc,ka,kc⟩:=a
 simp only at pl pr' hlc hrc D6 ⊢
 obtain⟨R,hR⟩:∃ R,R=qU la lb left right:=⟨_,rfl⟩
 rw[←hR]
 unfold qU at hR
 have HKR:=ae (fun s w' (hb:Below w.heap.size w w')=>ry ra rc right (by omega) s w' (pr'.kept (w':=w') (fun k hk=>hb.block k hk) |>.mono fun k hk=>aK hk hb.size))
 have HCA:=ae XM
 have HCB:=ae XN
 have HR:=ae hR
 clear pe pc pl pr' pg pk l1 l2 l3 l4 l5 XM XN hR
 generalize hm1:ex.length=m1 at *
 generalize hm2:cols.length=m2 at *
 generalize NI:left.length=m3 at *
 generalize hm4:right.length=m4 at *
 generalize ZJ:ag.length=m5 at *
 generalize Np:kids.length=m6 at *
 generalize hna:la.length=na at *
 generalize hnb:lb.length=nb at *
 have Qg:=ae hna
 have HNB:=ae hnb
 clear hm1 hm2 NI hm4 ZJ Np hna hnb
 obtain⟨w0,zf⟩:∃ w0,w0=w.alloc (.cells #[.int .i64 k,.string nm,.slice ea m1 ec,.slice ca m2 cc,.slice la' m3 lc,.slice ra m4 rc,.slice ga m5 gc,.slice ka m6 kc] 27):=⟨_,rfl⟩
 have hb0:Below w.heap.size w w0:=by rw[zf];exact (aG _ _).alloc (aF _) _
 have hs0:w0.heap.size=w.heap.size+1:=by rw[zf];simp
 have hx0:w0.heap[w.heap.size]?=some (.cells #[.int .i64 k,.string nm,.slice ea m1 ec,.slice ca m2 cc,.slice la' m3 lc,.slice ra m4 rc,.slice ga m5 gc,.slice ka m6 kc] 27 (0,0)):=by rw[zf];exact aH w _
 obtain⟨w1,dZ⟩:∃ w1,w1=w0.alloc (.cells #[.int .i64 0,.string ⟨#[]⟩] 61):=⟨_,rfl⟩
 have hb1:Below w0.heap.size w0 w1:=by rw[dZ];exact (aG _ _).alloc (aF _) _
 have hs1:w.heap.size+1<w1.heap.size:=by rw[dZ];simp;omega
 have jJ:Hid (w1.heap[w.heap.size]?=some (.cells #[.int .i64 k,.string nm,.slice ea m1 ec,.slice ca m2 cc,.slice la' m3 lc,.slice ra m4 rc,.slice ga m5 gc,.slice ka m6 kc] 27 (0,0))):=ae ((hb1.block _ (by omega)).trans hx0)
 have Ob:Hid (w1.heap[w.heap.size+1]?=some (.cells #[.int .i64 0,.string ⟨#[]⟩] 61 (0,0))):=ae (by rw[dZ,←hs0];exact aH w0 _)
 have HW1:=ae (show w1=(w.alloc (.cells #[.int .i64 k,.string nm,.slice ea m1 ec,.slice ca m2 cc,.slice la' m3 lc,.slice ra m4 rc,.slice ga m5 gc,.slice ka m6 kc] 27)).alloc (.cells #[.int .i64 0,.string ⟨#[]⟩] 61) by rw[dZ,zf])
 have HB1:=ae (hb0.trans (hb1.mono (by omega)))
 clear zf hb0 hs0 hx0 dZ hb1
 obtain⟨i0,hi,hz0,hz1,hz2⟩:=info_parts vw
 obtain⟨d0,d1,d2,d3,d4,d5,d6,d7,_,_,_,_,_,_,_,_⟩:=dO jJ.o
 obtain⟨⟨r0,r1⟩,g0,g1⟩:=cell2 Ob.o
 by_cases hne:m3=m4
 rotate_left
 ·have h1:((m3:Int) != (m4:Int))=true:=by simp;omega
  have hr:Hid (R=kQ 23 ⟨#[]⟩):=ae (by rw[HR.o,if_pos (.inl hne)])
  clear hne HR
  go_enter Tryz.func49,Tryz.ntmps49
  go_upto_region 1 with (fail)
  rw[←HW1.o]
  go_wp2_with fail
  refine aJ (eF rfl rfl rfl (eX Ob.o)) rfl ?_
  exact⟨je (by decide) hr.o rfl,eG HB1.o (aW _)⟩
 subst hne
 by_cases h0:m3=0
 ·subst h0
  have hr:Hid (R=kQ 23 ⟨#[]⟩):=ae (by rw[HR.o,if_pos (.inr rfl)])
  clear HR
  go_enter Tryz.func49,Tryz.ntmps49
  go_upto_region 1 with (fail)
  rw[←HW1.o]
  go_wp2_with fail
  refine aJ (eF rfl rfl rfl (eX Ob.o)) rfl ?_
  exact⟨je (by decide) hr.o rfl,eG HB1.o (aW _)⟩
 have h0':((m3:Int)==0)=false:=by simp;omega
 have HR2:Hid (R=if (mr la lb left right 0 (m3-0)).1=0 then kE right la lb else ([],mr la lb left right 0 (m3-0))):=ae (by
  rw[HR.o,if_neg (by omega),Nat.sub_zero])
 clear HR h0
 go_enter Tryz.func49,Tryz.ntmps49
 go_upto_region 1 with (fail)
 rw[←HW1.o]
 go_upto_region 4 with (fail)
 clear d0 d1 d2 d3 d4 d5 d6 d7 r0 r1 g0 g1
 go_loopw [30] (fun i wr=>∃ k:Nat,k≤m3∧i=.int .i64 k∧Below w1.heap.size w1 wr∧Hid (mr la lb left right 0 (m3-0)=mr la lb left right k (m3-k))) (fun i _=>m3-(intOf i).toNat)
 case atStart=>exact⟨0,aX _,rfl,aG _ _,ae rfl⟩
 case round =>
  obtain⟨j,hj,rfl,hb,HL⟩:=hrel
  have HB:=ae hb
  have hs:=hb.size
  have gZ:=ae (HB1.o.trans (hb.mono (by omega)))
  have xq:=ae ((hb.block w.heap.size (by omega)).trans jJ.o)
  have HER:=ae ((hb.block (w.heap.size+1) (by omega)).trans Ob.o)
  clear hb
  obtain⟨d0,d1,d2,d3,d4,d5,d6,d7,_,_,_,_,_,_,_,_⟩:=dO xq.o
  by_cases hlt:j<m3
  ·have hst:=ae (HL.o.trans (KD hlt))
   have HCP:=ae (D6.o wr gZ.o j hlt hlt)
   obtain⟨Q,hQ⟩:∃ Q,Q=ve la lb left right j:=⟨_,rfl⟩
   rw[←hQ] at hst HCP
   obtain⟨qw,qn⟩:=Q
   simp only at HCP hst
   clear hQ HL
   go_wp2_with fail
   refine (HCP.o).mono ?_
   rintro e w3 ⟨rfl,hb3⟩
   have HB3:=ae (HB.o.trans (hb3.mono hs))
   have hs3:=HB3.o.size
   obtain⟨wx,iK⟩:∃ wx,wx=w3.alloc (.cells #[.int .i64 qw,.string qn] 61):=⟨_,rfl⟩
   have hbx:Below w3.heap.size w3 wx:=by rw[iK];exact (aG _ _).alloc (aF _) _
   have hnx:wx.heap[w3.heap.size]?=some (.cells #[.int .i64 qw,.string qn] 61 (0,0)):=by rw[iK];exact aH w3 _
   have jW:=ae (HB3.o.trans (hbx.mono hs3))
   have UL:=ae (HB1.o.trans (jW.o.mono (by omega)))
   have HEX:=ae ((jW.o.block (w.heap.size+1) (by omega)).trans Ob.o)
   have ni:=ae iK
   have BH:=ae hnx
   clear iK hbx hnx hb3 d0 d1 d2 d3 d4 d5 d6 d7
   obtain⟨⟨n0,n1⟩,_,_⟩:=cell2 BH.o
   obtain⟨⟨r0,r1⟩,g0,g1⟩:=cell2 HEX.o
   go_upto_region 7 with (fail)
   rw[←ni.o]
   by_cases hq:qw=0
   ·subst hq
    have HL2:Hid (mr la lb left right 0 (m3-0)=mr la lb left right (j+1) (m3-(j+1))):=ae (by rw[hst.o,if_pos rfl])
    clear hst
    go_wp2_with fail
    go_roundw
    case rel=>exact⟨j+1,by omega,by go_num,jW.o,HL2⟩
    case measure=>simp[intOf];omega
   ·have hq':(qw != 0)=true:=by simpa using hq
    have HL2:Hid (R=kQ qw qn):=ae (by rw[HR2.o,hst.o,if_neg hq,if_neg hq];rfl)
    clear hst
    go_upto_region 8 with (fail)
    go_region
    all_goals
     go_wp2_with fail
     refine aJ (eF rfl rfl rfl (mW HEX.o)) rfl ?_
     exact⟨je hq HL2.o rfl,(eG UL.o (aW _)).drew⟩
  ·obtain rfl:j=m3:=by omega
   have HL2:Hid (R=kE right la lb):=ae (by
    rw[HR2.o,HL.o,Nat.sub_self,mr]
    exact if_pos rfl)
   have lG:=ae (cloneCols A c la wr (S:=fun k=>k<wr.heap.size) (by rcases ((HCA.o.below gZ.o).more gZ.o.size) with h|⟨b,o,h1,h2,h3⟩;exact .inl h;exact .inr ⟨b,o,h1,h2,h3⟩) (fun k hk=>hk) (by rw[Qg.o];omega))
   rw[Qg.o] at lG
   clear HL HR2
   go_wp2_with fail
   refine (lG.o).mono ?_
   rintro e w3 ⟨⟨v3,rfl,hown3⟩,hb3⟩
   have HB3:=ae (HB.o.trans (hb3.mono hs))
   have hs3:=HB3.o.size
   have N9:=ae (HB1.o.trans (HB3.o.mono (by omega)))
   have nO:=ae ((HB3.o.block w.heap.size (by omega)).trans jJ.o)
   have UJ:=ae ((HB3.o.block (w.heap.size+1) (by omega)).trans Ob.o)
   obtain⟨A3,c3,rfl,hc3,_⟩:=qA (S:=fun k=>True) (by rw[Qg.o];exact hown3) (fun _ _ _ _=>trivial)
   rw[Qg.o] at hown3 ⊢
   have agR:=ae (own_base hown3 hs)
   have hwr:wr.heap.size≤w3.heap.size:=hb3.size
   clear hb3 hown3 hc3 d0 d1 d2 d3 d4 d5 d6 d7
   go_wp2_with fail
   go_loopw [10,47] (fun v i wr=>∃ (k:Nat)(A':Option Addr)(c':Nat)(acc:List C),k≤nb∧i=.int .i64 k∧acc.length≤na+k∧v=.slice A' acc.length c'∧wr.ownsRow w1.heap.size 42 2 (.slice A' acc.length c') acc.length (iM acc)∧Below w1.heap.size w1 wr∧Hid (R=kE right acc (lb.drop k))) (fun _ i _=>nb-(intOf i).toNat)
   case atStart=>exact⟨0,A3,c3,la,aX _,rfl,by rw[Qg.o];omega,by rw[Qg.o],by rw[Qg.o];exact agR.o,HB3.o,by simpa using HL2⟩
   case round =>
    obtain⟨j,A',c',acc,hj,rfl,hal,rfl,hown,hb,HL⟩:=hrel
    have HO:=ae hown
    have HB:=ae hb
    have hs:=hb.size
    have gZ:=ae (HB1.o.trans (hb.mono (by omega)))
    have xq:=ae ((hb.block w.heap.size (by omega)).trans jJ.o)
    have HER:=ae ((hb.block (w.heap.size+1) (by omega)).trans Ob.o)
    obtain⟨A4,c4,e4,hc4,hCS⟩:=qA (S:=fun k=>w1.heap.size≤k∧k<wr.heap.size) HO.o (fun g h1 h2 _=>⟨h1,h2⟩)
    obtain⟨rfl,rfl⟩:A'=A4∧c'=c4:=by injection e4 with e5 _ e6;exact⟨e5,e6⟩
    have Rl:=ae hCS
    have Xj:=ae hc4
    have hacc:acc.length≤2000:=by omega
    have ane:=ae hacc
    clear hown hb e4 hCS hc4 HL2
    obtain⟨d0,d1,d2,d3,d4,d5,d6,d7,_,_,_,_,_,_,_,_⟩:=dO xq.o
    by_cases hlt:j<nb
    ·obtain⟨x,hx⟩:∃ x,lb[j]?=some x:=⟨_,aO (by rw[HNB.o];exact hlt)⟩
     have hst:=ae (HL.o.trans (Oc hx))
     obtain⟨b,o,rfl,hbl,z0,z1⟩:=HCB.o.gy hx
     have y0:=(gZ.o.cell hbl).trans z0
     have y1:=(gZ.o.cell hbl).trans z1
     obtain⟨wx,iK⟩:∃ wx,wx=wr.alloc (.cells #[.string x.nm,.int .i64 x.k] 42):=⟨_,rfl⟩
     have hbx:Below wr.heap.size wr wx:=by rw[iK];exact (aG _ _).alloc (aF _) _
     have hnx:wx.heap[wr.heap.size]?=some (.cells #[.string x.nm,.int .i64 x.k] 42 (0,0)):=by rw[iK];exact aH wr _
     have jW:=ae (HB.o.trans (hbx.mono hs))
     have UL:=ae (HB1.o.trans (jW.o.mono (by omega)))
     have HXX:=ae ((jW.o.block w.heap.size (by omega)).trans jJ.o)
     have HEX:=ae ((jW.o.block (w.heap.size+1) (by omega)).trans Ob.o)
     have HKX:=ae (HKR.o x.nm wx UL.o)
     have Nq:=ae (CW A' c' acc (by omega) x.nm wx ((Rl.o.kept fun k hk=>hbx.block k hk.2).to fun k hk=>aK hk.2 hbx.size))
     have HOX:=ae (own_below HO.o hbx)
     have ni:=ae iK
     have BH:=ae hnx
     have hxs:wr.heap.size<wx.heap.size:=(aU.1 hnx).1
     obtain⟨xn,xk⟩:=x
     simp only at y0 y1 BH ni hst Nq HKX
     generalize hz:yS right xn=z at *
     generalize hf:fO acc xn=f at *
     clear z0 z1 hx iK hbx hnx hz hf HL d0 d1 d2 d3 d4 d5 d6 d7
     obtain⟨⟨n0,n1⟩,_,_⟩:=cell2 BH.o
     obtain⟨d0,d1,d2,d3,d4,d5,d6,d7,_,_,_,_,_,_,_,_⟩:=dO HXX.o
     obtain⟨⟨r0,r1⟩,g0,g1⟩:=cell2 HEX.o
     generalize IZ:acc.length=al at *
     have wY:=ae IZ
     clear IZ
     go_upto_region 14 with (fail)
     rw[←ni.o]
     cases z
     rotate_left
     ·have Nr:Hid (R=kE right acc (lb.drop (j+1))):=ae (by rw[hst.o,if_pos rfl])
      clear hst
      go_wp2_with fail
      refine (HKX.o).mono ?_
      rintro e w4 ⟨rfl,hw4⟩
      subst hw4
      go_wp2_with fail
      go_roundw
      case rel=>exact⟨j+1,A',c',acc,by omega,by go_num,by rw[wY.o];omega,by rw[wY.o],by rw[wY.o];exact HOX.o,jW.o,Nr⟩
      case measure=>simp[intOf];omega
     have hst2:Hid (R=if f=true then kQ 21 xn else kE right (acc++[⟨xn,xk⟩]) (lb.drop (j+1))):=ae (by rw[hst.o,if_neg (by decide)])
     clear hst
     go_wp2_with fail
     refine (HKX.o).mono ?_
     rintro e w4 ⟨rfl,hw4⟩
     subst hw4
     go_wp2_with fail
     refine (Nq.o).mono ?_
     rintro e w5 ⟨rfl,hb5⟩
     have jA:=ae (jW.o.trans (hb5.mono jW.o.size))
     have agS:=ae (HB1.o.trans (jA.o.mono (by omega)))
     have Qh:=ae ((hb5.block wr.heap.size hxs).trans BH.o)
     have NT:=ae ((jA.o.block (w.heap.size+1) (by omega)).trans Ob.o)
     have jq:=ae (own_below HOX.o hb5)
     have hs5:=jA.o.size
     clear hb5 n0 n1 r0 r1 g0 g1 d0 d1 d2 d3 d4 d5 d6 d7
     obtain⟨⟨n0,n1⟩,_,_⟩:=cell2 Qh.o
     obtain⟨⟨r0,r1⟩,g0,g1⟩:=cell2 NT.o
     cases f
     ·have Nr:Hid (R=kE right (acc++[⟨xn,xk⟩]) (lb.drop (j+1))):=ae (by rw[hst2.o,if_neg (by decide)])
      clear hst2
      go_wp2_with (at_builtin;refine wpList_append_lies _ rfl _ _ 29 rfl w1.heap.size 42 i0 _ 2 24 Tryz.underlying29 hi hz0 hz1 hz2 rfl (by decide) (.slice A' al c') al (iM acc) rfl (jq.o.alloc _) ⟨w5.heap.size,0,none⟩ 1 1 [.string xn,.int .i64 xk] rfl rfl ?c1 ?c2 (by decide) ?c3 ?c4 ?c5 _ rfl ?_)
      case c1=>exact bz (aH w5 _)
      case c2=>intro u hu;simp only[bZ,bI,or_false] at hu;rcases hu with rfl|rfl <;> rfl
      case c3=>unfold maxLen;omega
      case c4=>omega
      case c5=>simp;omega
      intro g' cap w6 hown hgrow hat aaz
      have qR:=ae hown
      have kD:=ae ((jA.o.alloc (by omega) (.cells #[.string xn,.int .i64 xk] 42)).grown hgrow (by simp;omega) (fun k e=>(jq.o.lt k e).1))
      clear hown hgrow hat
      go_wp2_with fail
      go_roundw
      case rel=>exact⟨j+1,some ⟨g',0,none⟩,cap,acc++[⟨xn,xk⟩],by omega,by go_num,by rw[aZ,wY.o];simp;omega,by rw[aZ,wY.o];rfl,by rw[aZ,wY.o,kH,pR];exact qR.o,kD.o,Nr⟩
      case measure=>simp[intOf];omega
     ·have Nr:Hid (R=kQ 21 xn):=ae (by rw[hst2.o,if_pos rfl])
      clear hst2
      go_upto_region 16 with (fail)
      go_region
      all_goals
       go_wp2_with fail
       refine aJ (eF rfl rfl rfl (mW NT.o)) rfl ?_
       exact⟨je (by decide) Nr.o rfl,(eG agS.o (aW _)).drew⟩
    ·obtain rfl:j=nb:=by omega
     have Nr:Hid (R=gQ acc):=ae (by rw[HL.o,Ro (by rw[HNB.o];exact aF _)])
     have He:=ae (vg A' c' acc (by omega) Xj.o wr Rl.o (fun k hk=>hk.2))
     rw[←Nr.o] at He
     clear HL Nr
     generalize IZ:acc.length=al at *
     clear IZ
     go_wp2_with fail
     refine (He.o).mono ?_
     rintro r w4 ⟨⟨A9,n9,c9,rfl,G8⟩,hb4⟩
     have J8:=ae G8
     have wX:=ae (gZ.o.trans (hb4.mono gZ.o.size))
     have Rq:=ae ((hb4.block (w.heap.size+1) (by omega)).trans HER.o)
     have hs4:=hb4.size
     clear hb4 G8
     obtain⟨⟨r0,r1⟩,g0,g1⟩:=cell2 Rq.o
     go_wp2_with fail
     refine aJ (eF rfl rfl rfl (eX Rq.o)) rfl ?_
     refine⟨⟨A9,n9,c9,rfl,fun h=>?_⟩,eG wX.o (aW _)⟩
     obtain⟨h1,h2,h3⟩:=J8.o h
     refine⟨h1,h2,(h3.kept fun k hk=>jT (by omega)).mono fun k hk=>⟨by omega,by have:=hk.2;simp[World.setCell];omega⟩⟩
end Go.Proofs.YtjhkihkiebnpaaaGreatDoor
