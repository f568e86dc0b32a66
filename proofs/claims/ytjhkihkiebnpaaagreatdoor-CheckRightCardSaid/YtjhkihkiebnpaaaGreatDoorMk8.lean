/-
  The reference's plans: agg.
-/
import Derived.Test.YtjhkihkiebnpaaaGreatDoorMk7
import Derived.Test.YtjhkihkiebnpaaaGreatDoorMk2
import Derived.RegionTactic
import Derived.Test.YtjhkihkiebnpaaaGreatDoorMk3
import Derived.Test.YtjhkihkiebnpaaaGreatDoorMk5
import Derived.Deep.CutBlock
import Derived.Deep.DeepCutAuto
import Derived.Deep.RegionHeld3
import Derived.Test.YtjhkihkiebnpaaaGreatDoorMk1
import Derived.Test.YtjhkihkiebnpaaaGreatDoorMk0
import Derived.Test.YtjhkihkiebnpaaaGreatDoorMk6
set_option linter.unusedVariables false
set_option linter.unusedSimpArgs false
set_option maxRecDepth 100000
set_option maxHeartbeats 40000000
namespace Go.Proofs.YtjhkihkiebnpaaaGreatDoor
open Go.RowKit
theorem jD {fn:Func} {p q r:Tmp} (h:fn.results=#[.cell p 46,.tmp q,.tmp r]) {tmps:Array Value} {w:World} {g:Nat} {x0 x1 x2 u v:Value} {t:TypeId}
 (hp:tmps.getD p undef=.pointer (some ⟨g,0,none⟩))(hq:tmps.getD q undef=u)(hr:tmps.getD r undef=v)(hg:w.heap[g]?=some (.cells #[x0,x1,x2] t (0,0))):(results fn tmps).run Tryz.prog w=.ok (.tuple #[.agg #[x0,x1,x2],u,v]) w:=by
 have hp':tmps[p]?.getD undef=.pointer (some ⟨g,0,none⟩):=by simpa using hp
 have hq':tmps[q]?.getD undef=u:=by simpa using hq
 have hr':tmps[r]?.getD undef=v:=by simpa using hr
 have hl:=run_loadVar_row (P:=Tryz.prog) w g t 46 #[x0,x1,x2] (0,0) _ hg Tryz.underlying46 rfl (by show _=some 3;kernel_rfl)
 simp [results,h,hp',hq',hr',asAddr,hl]
theorem MN {w:World} {g k:Nat} {a b c u:Value} {t:TypeId} (h:w.heap[g]?=some (.cells #[a,b,c] t (0,0))):(w.setCell ⟨g,k,none⟩ u).heap[g]?=some (.cells (#[a,b,c].set! k u) t (0,0)):=by
 show (w.heap.modify g _)[g]?=_
 rw [Array.getElem?_modify]
 simp [h]
def Ub (w:World)(p:Nat)(x0 x1 x2:Value):World:=((w.setCell ⟨p,0,none⟩ x0).setCell ⟨p,1,none⟩ x1).setCell ⟨p,2,none⟩ x2
theorem jm {w:World} {p:Nat} {a b c x0 x1 x2:Value} {t:TypeId} (h:w.heap[p]?=some (.cells #[a,b,c] t (0,0))):(Ub w p x0 x1 x2).heap[p]?=some (.cells #[x0,x1,x2] t (0,0)) :=
 MN (k:=2) (MN (k:=1) (MN (k:=0) h))
theorem jo {w a:World} {p B:Nat} {x0 x1 x2:Value} (h:Below B a w)(hp:B≤p):Below B a (Ub w p x0 x1 x2) :=
 ((h.setCell (p:=⟨p,0,none⟩) hp x0).setCell (p:=⟨p,1,none⟩) hp x1).setCell (p:=⟨p,2,none⟩) hp x2
theorem oJ {w:World} {g:Nat} {a b c:Value} {t:TypeId} (h:w.heap[g]?=some (.cells #[a,b,c] t (0,0))) :
 (w.cell? ⟨g,0,none⟩=some a∧w.cell? ⟨g,1,none⟩=some b∧w.cell? ⟨g,2,none⟩=some c)∧w.frozen? ⟨g,0,none⟩=false∧w.frozen? ⟨g,1,none⟩=false∧w.frozen? ⟨g,2,none⟩=false:=by
 simp [World.cell?,World.frozen?,h]
def AU (l:List T):Prop:=nameB (l.getD 0 aH).s=true∧lM l=true∧(l.length=3→nameB (l.getD 2 aH).s=true)
theorem MO {l:List T} (h:AU l)(s:eY):mg l s=s:=by
 obtain ⟨h1,h2,h3⟩:=h
 have e1:lN l s=s:=by unfold lN eF;rw [if_pos h2,if_pos h1]
 unfold mg
 split
 ·rename_i h
  unfold eF
  rw [if_pos (h3 h),e1]
 ·exact e1
def GU (l:List T):Prop:=∃ x y:T,l[0]?=some x∧l[1]?=some y∧l.length=2∧nameB x.s=true∧y.s.toList=dQ
def Zu (l:List T)(e:Ending):Prop :=
 (AU l∧e=.returned (.tuple #[.agg #[.string (kU l).nm,.string (kU l).fn,.string (kU l).vw],.int .i64 0,.int .i64 0])) ∨
 (∃ x0 x1 x2 why at_,why≠0∧e=.returned (.tuple #[.agg #[.string x0,.string x1,.string x2],.int .i64 why,.int .i64 at_])∧¬GU l)
theorem Uc {l:List T} {x y:T} (h:l.length=2)(hx:l[0]?=some x)(hy:l[1]?=some y)(hn:nameB x.s=true)(hc:y.s.toList=dQ):AU l∧kU l=⟨x.s,⟨dQ.toArray⟩,⟨#[]⟩⟩:=by
 refine ⟨⟨by rw [getD_some hx];exact hn,?_,fun e=>by omega⟩,?_⟩
 ·unfold lM;rw [if_pos h,getD_some hy,hc];rfl
 ·unfold kU
  rw [getD_some hx,getD_some hy,if_neg (by omega)]
  congr 1
  apply ByteArray.ext
  apply Array.ext'
  rw [←hc]
  simp [ByteArray.toList_eq]
theorem MP {l:List T} {x y z:T} (h:l.length=3)(hx:l[0]?=some x)(hy:l[1]?=some y)(hz:l[2]?=some z)(hn:nameB x.s=true)(hc:y.s.toList=nz∨y.s.toList=rD∨y.s.toList=rE)(hm:nameB z.s=true):AU l∧kU l=⟨x.s,y.s,z.s⟩:=by
 refine ⟨⟨by rw [getD_some hx];exact hn,?_,fun e=>by rw [getD_some hz];exact hm⟩,?_⟩
 ·unfold lM
  rw [if_neg (by omega),getD_some hy]
  rcases hc with hc | hc | hc <;> rw [hc] <;> rfl
 ·unfold kU
  rw [getD_some hx,getD_some hy,getD_some hz,if_pos h]
theorem MQ (l:List T)(hn:l.length=2∨l.length=3)(hs:∀ x∈l,x.s.size≤600)(A:Option Addr)(c:Nat)(w:World)(hA:bz w w.heap.size A l) :
 Calls Tryz.prog 86 #[.slice A l.length c] w fun r w'=>Zu l r∧Below w.heap.size w w':=by
 obtain ⟨x,hx⟩:∃ x,l[0]?=some x:=⟨_,anr (by omega)⟩
 obtain ⟨y,hy⟩:∃ y,l[1]?=some y:=⟨_,anr (by omega)⟩
 obtain ⟨w1,aK⟩:∃ w1,w1=w.alloc (.cells #[.string ⟨#[]⟩,.string ⟨#[]⟩,.string ⟨#[]⟩] 46):=⟨_,rfl⟩
 have hb1:Below w.heap.size w w1:=by rw [aK];exact (anl _ _).alloc (ank _) _
 have hs1:w.heap.size<w1.heap.size:=by rw [aK];simp
 have HR1:Hid (w1.heap[w.heap.size]?=some (.cells #[.string ⟨#[]⟩,.string ⟨#[]⟩,.string ⟨#[]⟩] 46 (0,0))):=anc (by rw [aK];exact anm w _)
 have Kz:=anc ((hA.low hb1).more hb1.size)
 have HW1:=anc aK
 have HB1:=anc hb1
 obtain ⟨b,o,A1,c1,rfl,hbg,m0,m1,m2,m3,m4,hc1,hK1⟩:=Kz.out.cu _ (anl _ _) 0 x hx
 have hcl:=anc (lV x (by have:=hs x (anq hx);omega) A1 c1 w1)
 rw [Nat.zero_mul,Nat.add_zero] at m0 m1 m2 m3 m4
 have hcs:=sN (nameB x.s) x.s x.at_
 have H2:Hid (l.length=2→nameB x.s=true→y.s.toList=dQ→AU l∧kU l=⟨x.s,⟨dQ.toArray⟩,⟨#[]⟩⟩):=anc fun h h1 h2=>Uc h hx hy h1 h2
 have H3:Hid (∀ z,l.length=3→l[2]?=some z→nameB x.s=true→(y.s.toList=nz∨y.s.toList=rD∨y.s.toList=rE)→nameB z.s=true→AU l∧kU l=⟨x.s,y.s,z.s⟩):=anc fun z h hz h1 h2 h3=>MP h hx hy hz h1 h2 h3
 have N1:Hid (nameB x.s=false→¬GU l):=anc (fun h ⟨x',y',hx',hy',h2,h3,h4⟩=>by rw [hx] at hx';obtain rfl:=Option.some.inj hx';rw [h] at h3;cases h3)
 have N2:Hid (¬y.s.toList=dQ→¬GU l):=anc (fun h ⟨x',y',hx',hy',h2,h3,h4⟩=>by rw [hy] at hy';obtain rfl:=Option.some.inj hy';exact h h4)
 have N3:Hid (l.length=3→¬GU l):=anc (fun h ⟨x',y',hx',hy',h2,h3,h4⟩=>by omega)
 have HY:=anc hy
 have HS:=anc hs
 have YA:Hid (l.length=l.length):=anc rfl
 generalize (bif nameB x.s then x.s else ⟨#[]⟩)=r1 at *
 generalize (bif nameB x.s then (0:Int) else 20)=r2 at *
 generalize (bif nameB x.s then (0:Int) else x.at_)=r3 at *
 generalize nameB x.s=q at *
 obtain ⟨xk,xs,xn,xl,xa⟩:=x
 simp only [T.val,T.k,T.s,T.n,T.kids,T.at_] at m0 m1 m2 m3 m4 hcl hcs H2 H3
 clear aK hb1 hA hs hx hy hc1 hK1
 generalize xl.length=xm at *
 obtain ⟨m,hm⟩:∃ m,l.length=m:=⟨_,rfl⟩
 have HM:=anc hm
 rw [hm] at hn ⊢
 clear hm YA
 have hm0:0<m:=by omega
 have hm1:1<m:=by omega
 rcases hcs with ⟨rfl,rfl,rfl,rfl⟩ | ⟨rfl,rfl⟩
 ·go_enter Tryz.func86,Tryz.ntmps86
  go_upto_region 1 with (fail)
  rw [←HW1.out]
  go_wp2_with fail
  refine (hcl.out).mono ?_
  rintro e w2 ⟨rfl,hb2⟩
  have HB2:=anc (HB1.out.trans (hb2.mono HB1.out.size))
  have HR2:=anc ((hb2.block _ hs1).trans HR1.out)
  have vJ:=anc ((Kz.out.low hb2).more hb2.size)
  have hs2:=hb2.size
  clear hb2 hcl m0 m1 m2 m3 m4
  obtain ⟨b',o',A2,c2,e9,La,p0,p1,p2,p3,p4,hc2,hK2⟩:=vJ.out.cu _ (anl _ _) 1 y HY.out
  obtain ⟨rfl,rfl⟩:b=b'∧o=o':=by injection e9 with e9;injection e9 with e9 e10;exact ⟨e9,e10⟩
  rw [Nat.one_mul] at p0 p1 p2 p3 p4
  obtain ⟨yk,ys,yn,yl,ya⟩:=y
  simp only [T.val,T.k,T.s,T.n,T.kids,T.at_] at p0 p1 p2 p3 p4 H2 H3 N2
  clear p0 p2 p3 hc2 hK2 e9
  obtain ⟨⟨t0,t1,t2⟩,f0,f1,f2⟩:=oJ HR2.out
  rcases hn with rfl | rfl
  ·by_cases hct:ys.toList=dQ
   ·have h2:=anc (H2.out HM.out (by first | rfl | trivial) hct)
    have Ud:(ys.toList==[99,111,117,110,116])=true:=by rw [hct];rfl
    clear H2 H3
    go_wp2_with fail
    refine ano (jD rfl rfl rfl rfl (jm HR2.out)) rfl ?_
    refine ⟨.inl ⟨h2.out.1,?_⟩,jo HB2.out (ank _)⟩
    rw [h2.out.2]
    rfl
   ·have Ud:(ys.toList==[99,111,117,110,116])=false:=by rw [beq_eq_false_iff_ne];exact hct
    have N4:=anc (N2.out hct)
    clear H2 H3 hct
    go_upto_region 5 with (fail)
    go_region
    all_goals
     go_wp2_with fail
     refine ano (jD rfl rfl rfl rfl (jm HR2.out)) rfl ?_
     exact ⟨.inr ⟨_,_,_,_,_,by decide,rfl,N4.out⟩,(jo HB2.out (ank _)).drew⟩
  ·have N4:=anc (N3.out HM.out)
   by_cases hco:ys.toList=nz∨ys.toList=rD∨ys.toList=rE
   ·obtain ⟨z,hz⟩:∃ z,l[2]?=some z:=⟨_,anr (by rw [HM.out];decide)⟩
    obtain ⟨b',o',A3,c3,e9,ahA,g0,g1,g2,g3,g4,hc3,hK3⟩:=vJ.out.cu _ (anl _ _) 2 z hz
    obtain ⟨rfl,rfl⟩:b=b'∧o=o':=by injection e9 with e9;injection e9 with e9 e10;exact ⟨e9,e10⟩
    have hcl:=anc (lV z (by have:=HS.out z (anq hz);omega) A3 c3 w2)
    have hcs:=sN (nameB z.s) z.s z.at_
    have h3:=anc (fun h=>H3.out z HM.out hz (by first | rfl | trivial) hco h)
    have afw:=anc hco
    generalize (bif nameB z.s then z.s else ⟨#[]⟩)=u1 at *
    generalize (bif nameB z.s then (0:Int) else 20)=u2 at *
    generalize (bif nameB z.s then (0:Int) else z.at_)=u3 at *
    generalize hqz:nameB z.s=q at *
    have HQZ:=anc hqz
    clear hqz
    obtain ⟨zk,zs,zn,zl,za⟩:=z
    simp only [T.val,T.k,T.s,T.n,T.kids,T.at_] at g0 g1 g2 g3 g4 hcl hcs h3
    generalize zl.length=zm at *
    have hp1:=anc p1
    clear H2 H3 hz hc3 hK3 e9 hco
    rcases afw.out with h | h | h
    all_goals
     simp only [nz,rD,rE] at h
     rcases hcs with ⟨rfl,rfl,rfl,rfl⟩ | ⟨rfl,rfl⟩
     ·go_wp2_with fail
      refine (hcl.out).mono ?_
      rintro e w3 ⟨rfl,hb3⟩
      have HB3:=anc (HB2.out.trans (hb3.mono HB2.out.size))
      have HR3:=anc ((hb3.block _ (by omega)).trans HR2.out)
      have p1':=(hb3.cell La).trans hp1.out
      obtain ⟨⟨t0,t1,t2⟩,f0,f1,f2⟩:=oJ HR3.out
      have h3':=anc (h3.out (by first | exact HQZ.out | rfl | trivial))
      clear hb3 h3 hcl
      go_wp2_with fail
      refine ano (jD rfl rfl rfl rfl (jm HR3.out)) rfl ?_
      refine ⟨.inl ⟨h3'.out.1,?_⟩,jo HB3.out (ank _)⟩
      rw [h3'.out.2]
      rfl
     ·go_wp2_with fail
      refine (hcl.out).mono ?_
      rintro e w3 ⟨rfl,hb3⟩
      have HB3:=anc (HB2.out.trans (hb3.mono HB2.out.size))
      have HR3:=anc ((hb3.block _ (by omega)).trans HR2.out)
      obtain ⟨⟨t0,t1,t2⟩,f0,f1,f2⟩:=oJ HR3.out
      clear hb3 h3 hcl
      go_wp2_with fail
      refine ano (jD rfl rfl rfl rfl (jm HR3.out)) rfl ?_
      exact ⟨.inr ⟨_,_,_,_,_,by decide,rfl,N4.out⟩,jo HB3.out (ank _)⟩
   ·have n1:(ys.toList==[115,117,109])=false:=by rw [beq_eq_false_iff_ne];exact fun h=>hco (.inl h)
    have n2:(ys.toList==[109,105,110])=false:=by rw [beq_eq_false_iff_ne];exact fun h=>hco (.inr (.inl h))
    have n3:(ys.toList==[109,97,120])=false:=by rw [beq_eq_false_iff_ne];exact fun h=>hco (.inr (.inr h))
    clear H2 H3 hco
    go_upto_region 9 with (fail)
    go_region
    all_goals
     go_wp2_with fail
     refine ano (jD rfl rfl rfl rfl (jm HR2.out)) rfl ?_
     exact ⟨.inr ⟨_,_,_,_,_,by decide,rfl,N4.out⟩,(jo HB2.out (ank _)).drew⟩
 ·go_enter Tryz.func86,Tryz.ntmps86
  go_upto_region 1 with (fail)
  rw [←HW1.out]
  go_wp2_with fail
  refine (hcl.out).mono ?_
  rintro e w2 ⟨rfl,hb2⟩
  have HB2:=anc (HB1.out.trans (hb2.mono HB1.out.size))
  have HR2:=anc ((hb2.block _ hs1).trans HR1.out)
  obtain ⟨⟨t0,t1,t2⟩,f0,f1,f2⟩:=oJ HR2.out
  clear hb2 hcl
  go_wp2_with fail
  refine ano (jD rfl rfl rfl rfl (jm HR2.out)) rfl ?_
  exact ⟨.inr ⟨_,_,_,_,_,by decide,rfl,N1.out (by first | rfl | trivial)⟩,jo HB2.out (ank _)⟩
theorem Aj:∀ l:List (List UInt8),(Lib.joinTail [32] l).length=jC l
 | []=>by simp [Lib.joinTail,jC]
 | x::l=>by
   have h:=Aj l
   have e:Lib.joinTail [32] (x::l)=([32]++x)++Lib.joinTail [32] l:=by simp [Lib.joinTail]
   rw [e]
   simp only [jC,List.map_cons,List.sum_cons,List.length_append,List.length_cons,List.length_nil] at h ⊢
   omega
theorem join_eq (l:List (List UInt8)):jC l≤(Lib.join l [32]).length+1:=by
 cases l with
 | nil=>simp [jC]
 | cons x l =>
   have h:=Aj l
   rw [Lib.join_cons]
   simp only [jC,List.map_cons,List.sum_cons,List.length_append] at h ⊢
   omega
theorem OC {l:List (List UInt8)} {j:Nat} {x:List UInt8} (h:l[j]?=some x):(bV l j).length+x.length≤jC l+1:=by
 have hj:j<l.length:=(List.getElem?_eq_some_iff.1 h).1
 have e:jC l=jC (l.take j)+jC (l.drop j):=by rw [←sH,List.take_append_drop]
 have hd:l.drop j=x::l.drop (j+1):=by
  obtain ⟨h1,e1⟩:=List.getElem?_eq_some_iff.1 h
  rw [List.drop_eq_getElem_cons h1,e1]
 have hs:jC (l.drop j)=x.length+1+jC (l.drop (j+1)):=by rw [hd];simp [jC]
 have hjn:=yg (l.take j)
 unfold bV
 rw [List.length_cons]
 omega
def CY (t:T):Prop:=oM t→∀ (A:Option Addr)(c:Nat)(w:World),t.kids.length≤c→bz w w.heap.size A t.kids →
 Calls Tryz.prog 87 #[t.val A c] w fun e w'=>e=.returned (.string ⟨(dH t).toArray⟩)∧Below w.heap.size w w'
theorem Jv (k:Int)(s:ByteArray)(n:Int)(l:List T)(a:Int)(hM:∀ e∈l,CY e):CY (.mk k s n l a):=by
 intro hp A c w hc hA
 obtain ⟨_,_,_,_,_,n1,n2,hl,hk⟩:=hp
 simp only [T.val,T.k,T.s,T.n,T.kids,T.at_] at hc hA ⊢
 obtain ⟨ln,oL⟩:∃ ln,ln=l.length:=⟨_,rfl⟩
 have hlen:=hA.len
 obtain ⟨w1,aK⟩:∃ w1,w1=w.alloc (.cells #[.int .i64 k,.string s,.int .i64 n,.slice A ln c,.int .i64 a] 86):=⟨_,rfl⟩
 have hb1:Below w.heap.size w w1:=by rw [aK];exact (anl _ _).alloc (ank _) _
 have hs1:w.heap.size<w1.heap.size:=by rw [aK];simp
 have hx1:w1.heap[w.heap.size]?=some (.cells #[.int .i64 k,.string s,.int .i64 n,.slice A ln c,.int .i64 a] 86 (0,0)):=by rw [aK];exact anm w _
 obtain ⟨⟨k0,k1,k2,k3,k4⟩,_,_,_,_,_⟩:=ay hx1
 obtain ⟨pr,hpr⟩:∃ pr,pr=dH (.mk k s n l a):=⟨_,rfl⟩
 rw [←hpr,←oL]
 have BX:=anc hpr
 have HW1:=anc aK
 have HB1:=anc hb1
 have gU:=anc hx1
 have HK:=anc hA
 have HM:=anc hM
 have jh:=anc oL
 clear hpr aK hb1 hx1 hA hM oL
 by_cases h1:k=1
 ·subst h1
  obtain ⟨xH,hlj⟩:=hl rfl
  have KH:=anc (hk rfl)
  have WQ:Hid (jC (gp l)≤100000000000001):=anc (by have:=join_eq (gp l);omega)
  have aeW:ln≤600:=by have:=jh.out;omega
  obtain ⟨L,hL⟩:∃ L,L=gp l:=⟨_,rfl⟩
  have HL:=anc hL
  have HPX:Hid (pr=bV L ln++[41]):=anc (by
   rw [BX.out,dH,if_pos rfl,←hL]
   unfold bV
   rw [List.take_of_length_le (by rw [hL,lF,jh.out];exact ank _)]
   rfl)
  rw [←hL] at WQ
  clear hk hl hlj xH hL
  go_enter Tryz.func87,Tryz.ntmps87
  go_upto_region 1 with (fail)
  rw [←HW1.out]
  go_wp2_with fail
  go_loopw [3,4] (fun v i wr=>∃ j:Nat,j≤ln∧i=.int .i64 j∧v=.string ⟨(bV L j).toArray⟩∧Below w1.heap.size w1 wr) (fun _ i _=>ln-(intOf i).toNat)
  case atStart=>exact ⟨0,Nat.zero_le _,rfl,by rw [FQ],anl _ _⟩
  case round =>
   obtain ⟨j,hj,rfl,rfl,hb⟩:=hrel
   have HB:=anc hb
   have hs:=hb.size
   have dC:=anc (HB1.out.trans (hb.mono (Nat.le_of_lt hs1)))
   have hxw:=anc ((hb.block w.heap.size hs1).trans gU.out)
   clear hb k0 k1 k2 k3 k4
   obtain ⟨⟨k0,k1,k2,k3,k4⟩,_,_,_,_,_⟩:=ay hxw.out
   by_cases hlt:j<ln
   ·obtain ⟨x,hx⟩:∃ x,l[j]?=some x:=⟨_,anr (by rw [←jh.out];exact hlt)⟩
    obtain ⟨b,o,A2,c2,rfl,hbl,m1,m2,m3,m4,m5,hcx,hKx⟩:=HK.out.cu wr dC.out j x hx
    have hpx:L[j]?=some (dH x):=by rw [HL.out,iW,List.getElem?_map,hx];rfl
    have hcl:=anc (HM.out x (anq hx) (KH.out x (anq hx)) A2 c2 wr hcx hKx)
    have hsg:=OC hpx
    have hsm:=WQ.out
    obtain ⟨pt,hpt⟩:∃ pt,pt=dH x:=⟨_,rfl⟩
    rw [←hpt] at hpx hcl hsg
    have acz:=anc hpx
    clear hx hKx hcx hpt hpx
    obtain ⟨xk,xs,xn,xl,xa⟩:=x
    simp only [T.val,T.k,T.s,T.n,T.kids,T.at_] at m1 m2 m3 m4 m5 hcl
    generalize xl.length=xm at *
    cases j with
    | zero =>
      have lW:Hid ((⟨(bV L 0).toArray⟩:ByteArray)++⟨pt.toArray⟩=⟨(bV L 1).toArray⟩):=anc (by rw [jl,Ju acz.out])
      have hz:¬9223372036854775807<(⟨(bV L 0).toArray⟩:ByteArray).size+(⟨pt.toArray⟩:ByteArray).size:=by simp only [jd];omega
      rw [Nat.zero_mul,Nat.add_zero] at m1 m2 m3 m4 m5
      clear hsg hsm
      generalize (⟨(bV L 0).toArray⟩:ByteArray)=p0 at *
      generalize (⟨pt.toArray⟩:ByteArray)=xb at *
      go_wp2_with fail
      refine (hcl.out).mono ?_
      rintro e w2 ⟨rfl,hb2⟩
      have HB2:=anc (HB.out.trans (hb2.mono hs))
      clear hb2
      go_wp2_with fail
      go_roundw
      case rel=>exact ⟨1,by omega,by go_num,by rw [lW.out],HB2.out⟩
      case measure=>simp [intOf];omega
    | succ j =>
      have lW:Hid (((⟨(bV L (j+1)).toArray⟩:ByteArray)++⟨#[32]⟩)++⟨pt.toArray⟩=⟨(bV L (j+1+1)).toArray⟩):=anc (by
       rw [show (⟨#[32]⟩:ByteArray)=⟨[32].toArray⟩ from rfl,jl,jl,zG acz.out (by omega)])
      have hz:¬9223372036854775807<((⟨(bV L (j+1)).toArray⟩:ByteArray)++⟨#[32]⟩).size+(⟨pt.toArray⟩:ByteArray).size:=by have h1:(⟨#[32]⟩:ByteArray).size=1:=rfl;simp only [ByteArray.size_append,jd,List.length_cons,List.length_nil];omega
      have hz2:¬9223372036854775807<(⟨(bV L (j+1)).toArray⟩:ByteArray).size+(⟨#[32]⟩:ByteArray).size:=by have h1:(⟨#[32]⟩:ByteArray).size=1:=rfl;simp only [jd,List.length_cons,List.length_nil];omega
      have hj0:(0:Int)<(j:Int)+1:=by omega
      clear hsg hsm
      generalize (⟨(bV L (j+1)).toArray⟩:ByteArray)=p0 at *
      generalize (⟨pt.toArray⟩:ByteArray)=xb at *
      go_wp2_with fail
      refine (hcl.out).mono ?_
      rintro e w2 ⟨rfl,hb2⟩
      have HB2:=anc (HB.out.trans (hb2.mono hs))
      clear hb2
      go_wp2_with fail
      go_roundw
      case rel=>exact ⟨j+1+1,by omega,by go_num,by rw [lW.out],HB2.out⟩
      case measure=>simp [intOf];omega
   ·obtain rfl:j=ln:=by omega
    have hlen:=CX L j
    have hsm:=WQ.out
    have lW:Hid ((⟨(bV L j).toArray⟩:ByteArray)++⟨#[41]⟩=⟨pr.toArray⟩):=anc (by rw [show (⟨#[41]⟩:ByteArray)=⟨[41].toArray⟩ from rfl,jl,HPX.out])
    have hz2:¬9223372036854775807<(⟨(bV L j).toArray⟩:ByteArray).size+(⟨#[41]⟩:ByteArray).size:=by have h2:(⟨#[41]⟩:ByteArray).size=1:=rfl;simp only [jd,List.length_cons,List.length_nil];omega
    clear hlen hsm
    generalize (⟨(bV L j).toArray⟩:ByteArray)=p0 at *
    go_wp2_with fail
    go_ret
    exact ⟨congrArg (fun x:ByteArray=>Ending.returned (Value.string x)) lW.out,dC.out⟩
 ·have h1':(k==1)=false:=by simpa using h1
  by_cases h2:k=2
  ·subst h2
   have hq:Hid (pr=s.data.toList):=anc (by rw [BX.out,dH,if_neg (by decide),if_pos rfl])
   have hq2:Hid (s=⟨pr.toArray⟩):=anc (by rw [hq.out,ba_eq])
   clear hl hk
   go_enter Tryz.func87,Tryz.ntmps87
   go_upto_region 1 with (fail)
   rw [←HW1.out]
   go_wp2_with fail
   go_ret
   exact ⟨congrArg (fun x:ByteArray=>Ending.returned (Value.string x)) hq2.out,HB1.out⟩
  ·have h2':(k==2)=false:=by simpa using h2
   by_cases h3:k=3
   ·subst h3
    have hq:Hid (pr=Lib.itoa n):=anc (by rw [BX.out,dH,if_neg (by decide),if_neg (by decide),if_pos rfl])
    have hd:=anc (CW n n1 n2 w1)
    rw [←hq.out] at hd
    clear hl hk
    go_enter Tryz.func87,Tryz.ntmps87
    go_upto_region 1 with (fail)
    rw [←HW1.out]
    go_wp2_with fail
    refine (hd.out).mono ?_
    rintro e w2 ⟨rfl,rfl⟩
    go_wp2_with fail
    go_ret
    exact ⟨rfl,HB1.out⟩
   ·have h3':(k==3)=false:=by simpa using h3
    by_cases h4:k=4
    ·subst h4
     have hq:Hid (pr=pJ s):=anc (by rw [BX.out,dH,if_neg (by decide),if_neg (by decide),if_neg (by decide),if_pos rfl])
     have hd:=anc (MM s w1)
     rw [←hq.out] at hd
     clear hl hk
     go_enter Tryz.func87,Tryz.ntmps87
     go_upto_region 1 with (fail)
     rw [←HW1.out]
     go_wp2_with fail
     refine (hd.out).mono ?_
     rintro e w2 ⟨rfl,hb2⟩
     have HB2:=anc (HB1.out.trans (hb2.mono HB1.out.size))
     clear hb2
     go_wp2_with fail
     go_ret
     exact ⟨rfl,HB2.out⟩
    ·have h4':(k==4)=false:=by simpa using h4
     have hq:Hid (pr=[]):=anc (by rw [BX.out,dH,if_neg h1,if_neg h2,if_neg h3,if_neg h4])
     clear hl hk
     go_enter Tryz.func87,Tryz.ntmps87
     go_upto_region 1 with (fail)
     rw [←HW1.out]
     go_wp2_with fail
     go_ret
     exact ⟨by rw [hq.out];rfl,HB1.out⟩
theorem CZ:∀ t,CY t:=T.ind fun k s n l a ih=>Jv k s n l a ih
inductive TxP:P→Prop
 | mk (k:Int)(nm:ByteArray)(ex:List E)(cols left right:List ByteArray)(ag:List Ag)(kids:List P)(h1:1≤k)(h7:k≤7)(hm:∀ e∈ex,E.Fine e∧nD e)(hc:cols.length≤ex.length)(hx:k=2→ex.length=1)(hk1:k=1→kids=[])
    (hs:∀ x∈left++right,x.size≤600)(ll:left.length≤600)(lr:right.length≤600)(le:ex.length≤600)(la:ag.length≤600)(lk:kids.length≤600)(hk:∀ p∈kids,TxP p):TxP (.mk k nm ex cols left right ag kids)
def GV (p:P):Prop:=TxP p→oM (aV p)→∀ (a:PA)(w:World),jS w (fun k=>k<w.heap.size) p a→Calls Tryz.prog 41 #[p.val a] w fun e w'=>e=.returned (.string ⟨(dH (aV p)).toArray⟩)∧Below w.heap.size w w'
theorem OD {l:List T} (h:oM (kP l)):∀ t∈l,oM t:=by cases h with | mk _ _ _ _ _ _ _ _ hk=>exact hk rfl
theorem WR {l:List T} (h:oM (kP l)):jC (gp l)≤100000000000001:=by
 cases h with
 | mk _ _ _ _ _ _ _ hl _ =>
   have:=join_eq (gp l)
   have:=(hl rfl).2
   omega
theorem WS (W:List UInt8)(L:List (List UInt8)):bV (W::L) 1=40::W:=by
 unfold bV
 rw [List.take_succ_cons,List.take_zero,Lib.join_cons]
 simp [Lib.joinTail]
theorem kR {L:List (List UInt8)} {j:Nat} {x:List UInt8} (h:L[j+1]?=some x):bV L (j+1+1)=(bV L (j+1)++[32])++x:=zG h (by omega)
theorem Ue (c:ByteArray)(e:E):dH (Jc c e)=40::c.data.toList++32::dH (dm e)++[41]:=by
 unfold Jc
 rw [pO]
 have p2:dH (fE c)=c.data.toList:=by unfold fE;rw [dH,if_neg (by decide),if_pos rfl]
 simp only [gp,p2,Lib.join_cons]
 simp [Lib.joinTail]
theorem Bh (c:ByteArray):dH (fE c)=c.data.toList:=by unfold fE;rw [dH,if_neg (by decide),if_pos rfl]
theorem GX (g:Ag):dH (dX (vP g))=40::g.nm.data.toList++32::g.fn.data.toList++(if g.fn.toList=dQ then [] else 32::g.vw.data.toList)++[41]:=by
 unfold dX
 rw [pO]
 unfold vP
 split
 ·simp only [List.map_cons,List.map_nil,gp,Bh,Lib.join_cons]
  simp [Lib.joinTail]
 ·simp only [List.map_cons,List.map_nil,gp,Bh,Lib.join_cons]
  simp [Lib.joinTail]
theorem WT {W:List UInt8} {M K:List (List UInt8)} {j:Nat} {x:List UInt8} (h:M[j]?=some x):(W::(M++K))[j+1]?=some x:=by
 rw [List.getElem?_cons_succ,List.getElem?_append_left (List.getElem?_eq_some_iff.1 h).1]
 exact h
theorem WU {W:List UInt8} {M K:List (List UInt8)} {m j:Nat} {x:List UInt8} (hm:M.length=m)(h:K[j]?=some x):(W::(M++K))[m+j+1]?=some x:=by
 rw [List.getElem?_cons_succ,List.getElem?_append_right (by omega),show m+j-M.length=j by omega]
 exact h
theorem Jw {w:World} {S:Nat→Prop} {A:Option Addr} {l:List Ag} (h:Lies w S A (fB l)) {j:Nat} {g:Ag} (hg:l[j]?=some g):∃ b o,A=some ⟨b,o,none⟩∧S b∧w.cell? ⟨b,o+j*3,none⟩=some (.string g.nm)∧w.cell? ⟨b,o+j*3+1,none⟩=some (.string g.fn)∧w.cell? ⟨b,o+j*3+2,none⟩=some (.string g.vw):=by
 have key:∀ (l:List Ag)(j:Nat),l[j]?=some g→(fB l)[j*3]?=some (.string g.nm)∧(fB l)[j*3+1]?=some (.string g.fn)∧(fB l)[j*3+2]?=some (.string g.vw):=by
  intro l
  induction l with
  | nil=>intro j h;simp at h
  | cons x l ih =>
    intro j h
    have e:fB (x::l)=Ag.cs x++fB l:=rfl
    have hl:(Ag.cs x).length=3:=rfl
    cases j with
    | zero=>obtain rfl:x=g:=by simpa using h
            exact ⟨rfl,rfl,rfl⟩
    | succ j =>
      obtain ⟨h1,h2,h3⟩:=ih j (by simpa using h)
      rw [e,List.getElem?_append_right (by omega),List.getElem?_append_right (by omega),List.getElem?_append_right (by omega),hl]
      rw [show (j+1)*3-3=j*3 by omega,show (j+1)*3+1-3=j*3+1 by omega,show (j+1)*3+2-3=j*3+2 by omega]
      exact ⟨h1,h2,h3⟩
 obtain ⟨h1,h2,h3⟩:=key l j hg
 rcases h with h | ⟨b,o,hA,hb,hc⟩
 ·rw [h] at h1;simp at h1
 ·exact ⟨b,o,hA,hb,hc _ _ h1,hc _ _ h2,hc _ _ h3⟩
theorem MR (k:Int)(nm:ByteArray)(ex:List E)(cols left right:List ByteArray)(ag:List Ag)(kids:List P)(hM:∀ p∈kids,GV p):GV (.mk k nm ex cols left right ag kids):=by
 intro hp Ei a w hA
 obtain ⟨_,_,_,_,_,_,_,_,h1,h7,hm,hc,hx,hk1,hs,ll,lr,le,la,lk,hk⟩:=hp
 have htr:aV (.mk k nm ex cols left right ag kids)=kP (fE ⟨(nY k).toArray⟩::(jV k nm ex cols left right ag++iF kids)):=by rw [aV,if_neg (by omega)]
 rw [htr] at Ei ⊢
 have hpk:=OD Ei
 have hsm:=WR Ei
 obtain ⟨W,hW⟩:∃ W,W=nY k:=⟨_,rfl⟩
 obtain ⟨M,hMd⟩:∃ M,M=gp (jV k nm ex cols left right ag):=⟨_,rfl⟩
 obtain ⟨KK,hKK⟩:∃ KK,KK=gp (iF kids):=⟨_,rfl⟩
 obtain ⟨L,hL⟩:∃ L,L=W::(M++KK):=⟨_,rfl⟩
 have hpL:gp (fE ⟨(nY k).toArray⟩::(jV k nm ex cols left right ag++iF kids))=L:=by
  rw [hL,hMd,hKK,hW,gp,iW,iW,iW,List.map_append,Bh]
 rw [hpL] at hsm
 have hpr:dH (kP (fE ⟨(nY k).toArray⟩::(jV k nm ex cols left right ag++iF kids)))=bV L L.length++[41]:=by
  rw [pO,hpL]
  unfold bV
  rw [List.take_length]
  rfl
 rw [hpr]
 have YB:Hid (∀ j x,L[j]?=some x→(bV L j).length+x.length≤100000000000002):=anc (fun j x h=>by have:=OC h;omega)
 have HSL:Hid (∀ j,(bV L j).length≤100000000000002):=anc (fun j=>by have:=CX L j;omega)
 have KA:Hid (L.length=1+M.length+kids.length):=anc (by rw [hL,hKK,List.length_cons,List.length_append,lF,qF,List.length_map];omega)
 have HKP:Hid (∀ (j:Nat)(q:P),kids[j]?=some q→L[M.length+j+1]?=some (dH (aV q))∧oM (aV q)):=anc (fun j q hq=>by
  refine ⟨?_,hpk _ (List.mem_cons_of_mem _ (List.mem_append_right _ ?_))⟩
  ·rw [hL]
   refine WU rfl ?_
   rw [hKK,iW,qF,List.map_map,List.getElem?_map,hq]
   rfl
  ·rw [qF]
   exact List.mem_map.2 ⟨q,anq hq,rfl⟩)
 have HMP:Hid (∀ t∈jV k nm ex cols left right ag,oM t):=anc (fun t ht=>hpk t (List.mem_cons_of_mem _ (List.mem_append_left _ ht)))
 have MC:Hid (∀ (j:Nat)(t:T),(jV k nm ex cols left right ag)[j]?=some t→L[j+1]?=some (dH t)):=anc (fun j t ht=>by
  rw [hL]
  refine WT ?_
  rw [hMd,iW,List.getElem?_map,ht]
  rfl)
 have Fq:Hid (bV L 1=40::nY k):=anc (by rw [hL,WS,hW])
 have CJ:Hid (M.length=(jV k nm ex cols left right ag).length):=anc (by rw [hMd,lF])
 obtain ⟨⟨pe,pc,pl,pr',pg,l1,l2,l3,l4,l5⟩,pk⟩:=hA
 simp only [P.val,P.k,P.nm,P.ex,P.cols,P.left,P.right,P.ag,P.kids] at pe pc pl pr' pg pk l1 l2 l3 l4 l5 ⊢
 obtain ⟨ea,ec,ca,cc,la',lc,ra,rc,ga,gc,ka,kc⟩:=a
 simp only at pe pc pl pr' pg pk ⊢
 obtain ⟨w1,aK⟩:∃ w1,w1=w.alloc (.cells #[.int .i64 k,.string nm,.slice ea ex.length ec,.slice ca cols.length cc,.slice la' left.length lc,.slice ra right.length rc,.slice ga ag.length gc,.slice ka kids.length kc] 27):=⟨_,rfl⟩
 have hb1:Below w.heap.size w w1:=by rw [aK];exact (anl _ _).alloc (ank _) _
 have hs1:w.heap.size<w1.heap.size:=by rw [aK];simp
 have gU:Hid (w1.heap[w.heap.size]?=some (.cells #[.int .i64 k,.string nm,.slice ea ex.length ec,.slice ca cols.length cc,.slice la' left.length lc,.slice ra right.length rc,.slice ga ag.length gc,.slice ka kids.length kc] 27 (0,0))):=anc (by rw [aK];exact anm w _)
 have HW1:=anc aK
 have HB1:=anc hb1
 have Og:=anc pe
 have HPC:=anc pc
 have jI:=anc pl
 have BX:=anc pr'
 have HPG:=anc pg
 have DW:=anc pk
 have HM:=anc hM
 have HME:=anc hm
 have HTK:=anc hk
 have HSZ:=anc hs
 clear Ei htr hpk hsm hW hMd hKK hL hpL hpr pe pc pl pr' pg pk aK hb1 hM hm hk hs
 generalize hl1:ex.length=m1 at *
 generalize hl2:cols.length=m2 at *
 generalize hl3:left.length=m3 at *
 generalize hl4:right.length=m4 at *
 generalize hl5:ag.length=m5 at *
 generalize xH:kids.length=m6 at *
 have HL1:=anc hl1
 have HL2:=anc hl2
 have KF:=anc hl3
 have NY:=anc hl4
 have Ru:=anc hl5
 have HL6:=anc xH
 clear hl1 hl2 hl3 hl4 hl5 xH
 obtain ⟨d0,d1,d2,d3,d4,d5,d6,d7,f0,f1,f2,f3,f4,f5,f6,f7⟩:=az gU.out
 go_enter Tryz.func41,Tryz.ntmps41
 go_upto_region 1 with (fail)
 rw [←HW1.out]
 go_upto_block 0 with (fail)
 clear d0 d1 d2 d3 d4 d5 d6 d7 f0 f1 f2 f3 f4 f5 f6 f7
 go_cut [3] (fun s3 wx=>s3=.string ⟨(bV L (M.length+1)).toArray⟩∧Below w1.heap.size w1 wx)
 case first =>
  have hkc:k=1∨k=2∨k=3∨k=4∨k=5∨k=6∨k=7:=by omega
  obtain ⟨d0,d1,d2,d3,d4,d5,d6,d7,f0,f1,f2,f3,f4,f5,f6,f7⟩:=az gU.out
  rcases hkc with rfl | rfl | rfl | rfl | rfl | rfl | rfl
  ·have hz1:=MC.out 0 (fE nm) rfl
   rw [Bh] at hz1
   have hsg:=YB.out 1 _ hz1
   have hnz:nm.size=nm.data.toList.length:=by rw [Array.length_toList];rfl
   have hkn:m6=0:=by rw [←HL6.out,hk1 rfl];rfl
   have lW:Hid (((⟨#[40,116,97,98,108,101,32]⟩:ByteArray)++nm)++(⟨#[41]⟩:ByteArray)=⟨(bV L L.length++[41]).toArray⟩):=anc (by
    have e:L.length=0+1+1:=by rw [KA.out,CJ.out,hkn];rfl
    rw [e,kR hz1,Fq.out]
    apply ByteArray.ext
    simp [ByteArray.data_append,nY,jU])
   have hz2:¬9223372036854775807<((⟨#[40,116,97,98,108,101,32]⟩:ByteArray)).size+nm.size:=by have h7:((⟨#[40,116,97,98,108,101,32]⟩:ByteArray)).size=7:=rfl;rw [h7,hnz];omega
   have hz3:¬9223372036854775807<((⟨#[40,116,97,98,108,101,32]⟩:ByteArray)++nm).size+(⟨#[41]⟩:ByteArray).size:=by have h7:((⟨#[40,116,97,98,108,101,32]⟩:ByteArray)).size=7:=rfl;have h8:(⟨#[41]⟩:ByteArray).size=1:=rfl;rw [ByteArray.size_append,h7,h8,hnz];omega
   clear hz1 hsg hkn hnz
   go_wp2_with fail
   go_ret
   exact ⟨congrArg (fun x:ByteArray=>Ending.returned (Value.string x)) lW.out,HB1.out⟩
  ·obtain ⟨e,he⟩:∃ e,ex=[e]:=by
    have h:=HL1.out
    rw [hx rfl] at h
    match ex,h with
    | [e],_=>exact ⟨e,rfl⟩
   subst he
   obtain rfl:m1=1:=HL1.out.symm
   have hmd:jV 2 nm [e] cols left right ag=[dm e]:=rfl
   have hz1:=MC.out 0 (dm e) rfl
   have Ei:=HMP.out (dm e) (by rw [hmd];simp)
   have hm1:M.length=1:=by rw [CJ.out,hmd];rfl
   obtain ⟨l9,iL⟩:=HME.out e (by simp)
   have hsg:=YB.out 1 _ hz1
   obtain ⟨b,o,A2,c2,hea,hbS,z0,z1,z2,z3,hKx⟩:=((Og.out.to (B:=w.heap.size) (fun k hk=>hk))).cu w1 HB1.out 0 e rfl
   subst hea
   rw [Nat.zero_mul,Nat.add_zero] at z0 z1 z2 z3
   have hT:=anc (EZ e l9 iL A2 c2 w1 hKx)
   have hP:=anc (fun A' c' w' h1 h2=>CZ (dm e) Ei A' c' w' h1 h2)
   obtain ⟨pt,hpt⟩:∃ pt,pt=dH (dm e):=⟨_,rfl⟩
   rw [←hpt] at hz1 hP hsg
   have lW:Hid (((⟨#[40,102,105,108,116,101,114]⟩:ByteArray)++(⟨#[32]⟩:ByteArray))++⟨pt.toArray⟩=⟨(bV L (M.length+1)).toArray⟩):=anc (by
    rw [hm1,kR hz1,Fq.out,show (⟨#[32]⟩:ByteArray)=⟨[32].toArray⟩ from rfl,show (⟨#[40,102,105,108,116,101,114]⟩:ByteArray)=⟨(40::nY 2).toArray⟩ from rfl,jl,jl])
   have hz2:¬9223372036854775807<((⟨#[40,102,105,108,116,101,114]⟩:ByteArray)++(⟨#[32]⟩:ByteArray)).size+(⟨pt.toArray⟩:ByteArray).size:=by
    have h8:((⟨#[40,102,105,108,116,101,114]⟩:ByteArray)++(⟨#[32]⟩:ByteArray)).size=8:=by rw [ByteArray.size_append];rfl
    rw [h8,jd];omega
   obtain ⟨ek,es,en,el⟩:=e
   generalize htE:dm (.mk ek es en el)=tE at *
   obtain ⟨tk,ts,tn,tl,ta⟩:=tE
   simp only [E.val,E.k,E.s,E.n,E.kids,T.val,T.k,T.s,T.n,T.kids,T.at_] at z0 z1 z2 z3 hT hP
   clear hz1 hsg hpt Ei hmd hKx htE l9 iL
   generalize el.length=em at *
   generalize (⟨pt.toArray⟩:ByteArray)=xb at *
   go_wp2_with fail
   refine (hT.out).mono ?_
   rintro e w2 ⟨⟨A3,c3,rfl,hc3,hX3⟩,hb2⟩
   have HB2:=anc hb2
   have HPC:=anc (hP.out A3 c3 w2 hc3 (hX3.to fun k hk=>hk.2))
   clear hb2 hX3
   go_wp2_with fail
   refine (HPC.out).mono ?_
   rintro e w3 ⟨rfl,hb3⟩
   have HB3:=anc (HB2.out.trans (hb3.mono HB2.out.size))
   clear hb3
   go_wp2_with fail
   go_meet
   case rel=>exact ⟨congrArg Value.string lW.out,HB3.out⟩
  ·have hmd:jV 3 nm ex cols left right ag=pK cols ex:=rfl
   have hm1:M.length=m2:=by rw [CJ.out,hmd,xW (by rw [HL1.out,HL2.out];exact hc),HL2.out]
   have HGZ:Hid (∀ (j:Nat)(c:ByteArray)(e:E),cols[j]?=some c→ex[j]?=some e→L[j+1]?=some (dH (Jc c e))∧oM (dm e)):=anc (fun j c e hc' he=>by
    have hg:(jV 3 nm ex cols left right ag)[j]?=some (Jc c e):=by
     rw [hmd]
     unfold pK
     rw [List.getElem?_zipWith,hc',he]
    exact ⟨MC.out j _ hg,OD (HMP.out _ (anq hg)) _ (by simp)⟩)
   have HHM:=anc hm1
   have afB:Hid ((⟨#[40,112,114,111,106,101,99,116]⟩:ByteArray)=⟨(bV L (0+1)).toArray⟩):=anc (by rw [Fq.out];rfl)
   have HEK:=anc (Og.out.to (B:=w.heap.size) (fun k hk=>hk))
   clear hmd hm1
   have hlc:Hid (m2≤m1):=anc hc
   go_upto_region 12 with (fail)
   clear d0 d1 d2 d3 d4 d5 d6 d7 f0 f1 f2 f3 f4 f5 f6 f7
   go_wp2_with fail
   go_loopw [3,4] (fun s i wr=>∃ j:Nat,j≤m2∧i=.int .i64 j∧s=.string ⟨(bV L (j+1)).toArray⟩∧Below w1.heap.size w1 wr) (fun _ i _=>m2-(intOf i).toNat)
   case atStart=>exact ⟨0,Nat.zero_le _,rfl,by rw [←afB.out],anl _ _⟩
   case round =>
    obtain ⟨j,hj,rfl,rfl,hb⟩:=hrel
    have HB:=anc hb
    have hs:=hb.size
    have dC:=anc (HB1.out.trans (hb.mono (Nat.le_of_lt hs1)))
    have Zv:=anc ((hb.block w.heap.size hs1).trans gU.out)
    clear hb
    obtain ⟨d0,d1,d2,d3,d4,d5,d6,d7,f0,f1,f2,f3,f4,f5,f6,f7⟩:=az Zv.out
    by_cases hlt:j<m2
    ·have hlt1:j<m1:=anp hlt hlc.out
     have hjm:(j:Int)<(m1:Int):=by omega
     obtain ⟨cb,hcb⟩:∃ cb,cols[j]?=some cb:=⟨_,anr (by rw [HL2.out];exact hlt)⟩
     obtain ⟨e,he⟩:∃ e,ex[j]?=some e:=⟨_,anr (by rw [HL1.out];exact hlt1)⟩
     obtain ⟨hgt,Ei⟩:=HGZ.out j cb e hcb he
     obtain ⟨bc,oc,rfl,acB,acC⟩:∃ bc oc,ca=some ⟨bc,oc,none⟩∧bc<w.heap.size∧w.cell? ⟨bc,oc+j,none⟩=some (.string cb):=by
      have hcell:(strs cols)[j]?=some (.string cb):=by unfold strs;rw [List.getElem?_map,hcb];rfl
      rcases HPC.out with h0 | ⟨b,o,hA,hb,hcx⟩
      ·rw [h0] at hcell;simp at hcell
      ·exact ⟨b,o,hA,hb,hcx j _ hcell⟩
     obtain ⟨be,oe,A2,c2,rfl,acD,z0,z1,z2,z3,hKx⟩:=HEK.out.cu wr dC.out j e he
     have WV:be<wr.heap.size:=anp acD dC.out.size
     obtain ⟨l9,iL⟩:=HME.out e (anq he)
     have hsg:=YB.out _ _ hgt
     have hcc:=anc ((dC.out.cell acB).trans acC)
     have afC:bc<wr.heap.size:=anp acB dC.out.size
     have acE:w.heap.size<wr.heap.size:=anp hs1 hs
     have HT:=anc (fun w' (hb:Below wr.heap.size wr w')=>EZ e l9 iL A2 c2 w' ((hKx.low hb).more hb.size))
     have HP:=anc (fun A' c' w' h1 h2=>CZ (dm e) Ei A' c' w' h1 h2)
     obtain ⟨pt,hpt⟩:∃ pt,pt=dH (dm e):=⟨_,rfl⟩
     obtain ⟨pb,hpb⟩:∃ pb:ByteArray,pb=⟨pt.toArray⟩:=⟨_,rfl⟩
     rw [←hpt,←hpb] at HP
     have HEC:=anc (And.intro z0 (And.intro z1 (And.intro z2 z3)))
     obtain ⟨p0,hp0⟩:∃ p0:ByteArray,p0=⟨(bV L (j+1)).toArray⟩:=⟨_,rfl⟩
     rw [←hp0]
     have hps:p0.size=(bV L (j+1)).length:=by rw [hp0];rfl
     have hpz:pb.size=pt.length:=by rw [hpb];rfl
     have lW:Hid ((((((p0++(⟨#[32,40]⟩:ByteArray))++cb)++(⟨#[32]⟩:ByteArray))++pb)++(⟨#[41]⟩:ByteArray))=⟨(bV L (j+1+1)).toArray⟩):=anc (by
      rw [kR hgt,Ue,hp0,hpb,hpt]
      apply ByteArray.ext
      simp [ByteArray.data_append])
     have hsz:p0.size+cb.size+pb.size≤400000000000000:=by
      rw [Ue,←hpt] at hsg
      simp only [List.length_cons,List.length_append,List.length_nil,Array.length_toList] at hsg
      have e1:cb.size=cb.data.size:=rfl
      omega
     have e41:(⟨#[41]⟩:ByteArray).size=1:=rfl
     have e32:(⟨#[32]⟩:ByteArray).size=1:=rfl
     have e34:(⟨#[32,40]⟩:ByteArray).size=2:=rfl
     have hy0:¬9223372036854775807<(p0).size+((⟨#[32,40]⟩:ByteArray)).size:=by (try simp only [ByteArray.size_append]);omega
     have hy1:¬9223372036854775807<((p0++(⟨#[32,40]⟩:ByteArray))).size+(cb).size:=by (try simp only [ByteArray.size_append]);omega
     have hy2:¬9223372036854775807<(((p0++(⟨#[32,40]⟩:ByteArray))++cb)).size+((⟨#[32]⟩:ByteArray)).size:=by (try simp only [ByteArray.size_append]);omega
     have hy3:¬9223372036854775807<((((p0++(⟨#[32,40]⟩:ByteArray))++cb)++(⟨#[32]⟩:ByteArray))).size+(pb).size:=by (try simp only [ByteArray.size_append]);omega
     have hy4:¬9223372036854775807<(((((p0++(⟨#[32,40]⟩:ByteArray))++cb)++(⟨#[32]⟩:ByteArray))++pb)).size+((⟨#[41]⟩:ByteArray)).size:=by (try simp only [ByteArray.size_append]);omega
     have hn1:p0.size≤9223372036854775805:=by omega
     have hn2:p0.size+2+cb.size≤9223372036854775807:=by omega
     have hn3:p0.size+2+cb.size≤9223372036854775806:=by omega
     have hn4:p0.size+2+cb.size+1+pb.size≤9223372036854775807:=by omega
     have WW:p0.size+2+cb.size+1+pb.size≤9223372036854775806:=by omega
     obtain ⟨ek,es,en,el⟩:=e
     generalize htE:dm (.mk ek es en el)=tE at *
     obtain ⟨tk',ts,tn,tl,ta⟩:=tE
     simp only [E.val,E.k,E.s,E.n,E.kids,T.val,T.k,T.s,T.n,T.kids,T.at_] at z0 z1 z2 z3 HT HP HEC
     generalize el.length=em at *
     clear hgt Ei hcb he l9 iL hsg hpt hpb hp0 hps hpz hsz hKx acC htE z0 z1 z2 z3 e41 e32 e34
     go_upto_region 15 with (fail)
     clear d0 d1 d2 d3 d4 d5 d6 d7 f0 f1 f2 f3 f4 f5 f6 f7
     refine wp_region_held_drew (S:=fun w'=>Below wr.heap.size wr w') (by kernel_rfl) ((anl _ _).drew) (fun hHeld=>?_)
     refine wpAnyH_take (i:=0) (v:=.string p0) rfl (by kernel_rfl) (by kernel_rfl) (by kernel_rfl) (fun _ _ _ h=>h) (Or.inl ⟨by rfl,fun w1' hSw=>by (go_simp)⟩) (by assumption) ?_
     simp only [ane,anf,Act.put,anh,ani,anj]
     refine wpAnyH_take (i:=1) (v:=.string (p0++⟨#[32,40]⟩)) rfl (by kernel_rfl) (by kernel_rfl) (by kernel_rfl) (fun _ _ _ h=>h) (Or.inl ⟨by rfl,fun w1' hSw=>by (go_simp)⟩) (by assumption) ?_
     simp only [ane,ang,anf,Act.put,anh,ani,anj]
     refine wpAnyH_take (i:=2) (v:=.pointer (some ⟨w.heap.size,3,none⟩)) rfl (by kernel_rfl) (by kernel_rfl) (by kernel_rfl) (fun _ _ _ h=>h) (Or.inl ⟨by rfl,fun w1' hSw=>by (go_simp)⟩) (by assumption) ?_
     simp only [ane,ang,anf,Act.put,anh,ani,anj]
     refine wpAnyH_take (i:=3) (v:=.slice (some ⟨bc,oc,none⟩) m2 cc) rfl (by kernel_rfl) (by kernel_rfl) (by kernel_rfl) (fun _ _ _ h=>h) (Or.inl ⟨by rfl,fun w1' hSw=>by (obtain ⟨d0,d1,d2,d3,d4,d5,d6,d7,_,_,_,_,_,_,_,_⟩:=az ((hSw.block _ acE).trans Zv.out);go_simp)⟩) (by assumption) ?_
     simp only [ane,ang,anf,Act.put,anh,ani,anj]
     refine wpAnyH_take (i:=4) (v:=.int .i64 j) rfl (by kernel_rfl) (by kernel_rfl) (by kernel_rfl) (fun _ _ _ h=>h) (Or.inl ⟨by rfl,fun w1' hSw=>by (go_simp)⟩) (by assumption) ?_
     simp only [ane,ang,anf,Act.put,anh,ani,anj]
     refine wpAnyH_take (i:=5) (v:=.pointer (some ⟨bc,oc+j,none⟩)) rfl (by kernel_rfl) (by kernel_rfl) (by kernel_rfl) (fun _ _ _ h=>h) (Or.inl ⟨by rfl,fun w1' hSw=>by (go_simp)⟩) (by assumption) ?_
     simp only [ane,ang,anf,Act.put,anh,ani,anj]
     refine wpAnyH_take (i:=6) (v:=.string cb) rfl (by kernel_rfl) (by kernel_rfl) (by kernel_rfl) (fun _ _ _ h=>h) (Or.inl ⟨by rfl,fun w1' hSw=>by (have y0:=(hSw.cell afC).trans hcc.out;go_simp)⟩) (by assumption) ?_
     simp only [ane,ang,anf,Act.put,anh,ani,anj]
     refine wpAnyH_take (i:=7) (v:=.string (p0++⟨#[32,40]⟩++cb)) rfl (by kernel_rfl) (by kernel_rfl) (by kernel_rfl) (fun _ _ _ h=>h) (Or.inl ⟨by rfl,fun w1' hSw=>by (go_simp)⟩) (by assumption) ?_
     simp only [ane,ang,anf,Act.put,anh,ani,anj]
     refine wpAnyH_take (i:=8) (v:=.string (p0++⟨#[32,40]⟩++cb++⟨#[32]⟩)) rfl (by kernel_rfl) (by kernel_rfl) (by kernel_rfl) (fun _ _ _ h=>h) (Or.inl ⟨by rfl,fun w1' hSw=>by (go_simp)⟩) (by assumption) ?_
     simp only [ane,ang,anf,Act.put,anh,ani,anj]
     refine wpAnyH_take (i:=9) (v:=.pointer (some ⟨w.heap.size,2,none⟩)) rfl (by kernel_rfl) (by kernel_rfl) (by kernel_rfl) (fun _ _ _ h=>h) (Or.inl ⟨by rfl,fun w1' hSw=>by (go_simp)⟩) (by assumption) ?_
     simp only [ane,ang,anf,Act.put,anh,ani,anj]
     refine wpAnyH_take (i:=10) (v:=.slice (some ⟨be,oe,none⟩) m1 ec) rfl (by kernel_rfl) (by kernel_rfl) (by kernel_rfl) (fun _ _ _ h=>h) (Or.inl ⟨by rfl,fun w1' hSw=>by (obtain ⟨d0,d1,d2,d3,d4,d5,d6,d7,_,_,_,_,_,_,_,_⟩:=az ((hSw.block _ acE).trans Zv.out);go_simp)⟩) (by assumption) ?_
     simp only [ane,ang,anf,Act.put,anh,ani,anj]
     refine wpAnyH_take (i:=11) (v:=.int .i64 j) rfl (by kernel_rfl) (by kernel_rfl) (by kernel_rfl) (fun _ _ _ h=>h) (Or.inl ⟨by rfl,fun w1' hSw=>by (go_simp)⟩) (by assumption) ?_
     simp only [ane,ang,anf,Act.put,anh,ani,anj]
     refine wpAnyH_take (i:=12) (v:=.pointer (some ⟨be,oe+j*4,none⟩)) rfl (by kernel_rfl) (by kernel_rfl) (by kernel_rfl) (fun _ _ _ h=>h) (Or.inl ⟨by rfl,fun w1' hSw=>by (go_simp)⟩) (by assumption) ?_
     simp only [ane,ang,anf,Act.put,anh,ani,anj]
     refine wpAnyH_take (i:=13) (v:=.agg #[.int .i64 ek,.string es,.int .i64 en,.slice A2 em c2]) rfl (by kernel_rfl) (by kernel_rfl) (by kernel_rfl) (fun _ _ _ h=>h) (Or.inl ⟨by rfl,fun w1' hSw=>by (have y0:=(hSw.cell WV).trans HEC.out.1;have y1:=(hSw.cell WV).trans HEC.out.2.1;have y2:=(hSw.cell WV).trans HEC.out.2.2.1;have y3:=(hSw.cell WV).trans HEC.out.2.2.2;go_simp)⟩) (by assumption) ?_
     simp only [ane,ang,anf,Act.put,anh,ani,anj]
     refine wpAnyH_ready (rs:=[14]) (by kernel_rfl) (by simp) ?_
     refine AllReadyH.cons rfl (fun K hK=>?_) AllReadyH.nil
     simp only [ane,ang,anf]
     go_simp
     refine (HT.out _ hHeld).mono ?_
     rintro r wb ⟨⟨Ao,co,rfl,hco,hXo⟩,hb⟩
     have hH:Below wr.heap.size wr _:=hHeld
     have hHb:Below wr.heap.size wr wb:=hH.trans (hb.mono hH.size)
     have HQ:=anc (HP.out Ao co wb hco (hXo.to fun k hk=>hk.2))
     clear hXo hH hb
     go_wp2_with fail
     refine hK.out _ _ hHb (fun hHeld=>?_)
     clear hK K hHb
     refine wpAnyH_ready (rs:=[15]) (by kernel_rfl) (by simp) ?_
     refine AllReadyH.cons rfl (fun K hK=>?_) AllReadyH.nil
     simp only [ane,ang,anf]
     go_simp
     refine (HQ.out).mono ?_
     rintro r wc ⟨rfl,hb⟩
     have hH:Below wr.heap.size wr _:=hHeld
     have hHb:Below wr.heap.size wr wc:=hH.trans (hb.mono hH.size)
     clear hH hb
     go_wp2_with fail
     refine hK.out _ _ hHb (fun hHeld=>?_)
     clear hK K hHb
     refine wpAnyH_take (i:=16) (v:=.string (p0++⟨#[32,40]⟩++cb++⟨#[32]⟩++pb)) rfl (by kernel_rfl) (by kernel_rfl) (by kernel_rfl) (fun _ _ _ h=>h) (Or.inl ⟨by rfl,fun w1' hSw=>by (go_simp)⟩) (by assumption) ?_
     simp only [ane,ang,anf,Act.put,anh,ani,anj]
     refine wpAnyH_take (i:=17) (v:=.string (p0++⟨#[32,40]⟩++cb++⟨#[32]⟩++pb++⟨#[41]⟩)) rfl (by kernel_rfl) (by kernel_rfl) (by kernel_rfl) (fun _ _ _ h=>h) (Or.inl ⟨by rfl,fun w1' hSw=>by (go_simp)⟩) (by assumption) ?_
     simp only [ane,ang,anf,Act.put,anh,ani,anj]
     refine wpAnyH_take (i:=18) (v:=.string (p0++⟨#[32,40]⟩++cb++⟨#[32]⟩++pb++⟨#[41]⟩)) rfl (by kernel_rfl) (by kernel_rfl) (by kernel_rfl) (fun _ _ _ h=>h) (Or.inl ⟨by rfl,fun w1' hSw=>by (go_simp)⟩) (by assumption) ?_
     simp only [ane,ang,anf,Act.put,anh,ani,anj]
     refine wpAnyH_done (by kernel_rfl) ?_ _
     have Gt:Hid (Below wr.heap.size wr _):=anc hHeld
     clear hHeld
     go_wp2_with fail
     go_roundw
     case rel=>exact ⟨j+1,by omega,by go_num,by rw [lW.out],HB.out.trans (Gt.out.mono hs)⟩
     case measure=>simp [intOf];omega
    ·obtain rfl:j=m2:=by omega
     have hlen:Hid (bV L (M.length+1)=bV L (j+1)):=anc (by rw [HHM.out])
     go_wp2_with fail
     go_meet
     case rel=>exact ⟨by rw [hlen.out],HB.out⟩
  ·have hmd:jV 4 nm ex cols left right ag=[dX left,dX right]:=rfl
   have hz1:=MC.out 0 (dX left) rfl
   have hz2:=MC.out 1 (dX right) rfl
   have hm1:M.length=2:=by rw [CJ.out,hmd];rfl
   have Uf:=YB.out _ _ hz1
   have acH:=YB.out _ _ hz2
   have GY:=anc (fun w' (hb:Below w1.heap.size w1 w')=>sK left (by rw [KF.out];exact ll) (fun x hx=>HSZ.out x (List.mem_append_left _ hx)) la' lc w' ((jI.out.kept (w':=w') fun k hk=>(hb.block k (anp hk HB1.out.size)).trans (HB1.out.block k hk)).mono fun k hk=>anp hk (anv HB1.out.size hb.size)))
   have WX:=anc (fun w' (hb:Below w1.heap.size w1 w')=>sK right (by rw [NY.out];exact lr) (fun x hx=>HSZ.out x (List.mem_append_right _ hx)) ra rc w' ((BX.out.kept (w':=w') fun k hk=>(hb.block k (anp hk HB1.out.size)).trans (HB1.out.block k hk)).mono fun k hk=>anp hk (anv HB1.out.size hb.size)))
   rw [KF.out] at GY
   rw [NY.out] at WX
   obtain ⟨x1,hx1⟩:∃ x1,x1=dH (dX left):=⟨_,rfl⟩
   obtain ⟨x2,hx2⟩:∃ x2,x2=dH (dX right):=⟨_,rfl⟩
   rw [←hx1] at hz1 Uf GY
   rw [←hx2] at hz2 acH WX
   obtain ⟨P0,hP0⟩:∃ P0:ByteArray,P0=(⟨#[40,106,111,105,110,32]⟩:ByteArray):=⟨_,rfl⟩
   obtain ⟨X1,hX1⟩:∃ X1:ByteArray,X1=⟨x1.toArray⟩:=⟨_,rfl⟩
   obtain ⟨X2,hX2⟩:∃ X2:ByteArray,X2=⟨x2.toArray⟩:=⟨_,rfl⟩
   have lW:Hid (P0++X1++(⟨#[32]⟩:ByteArray)++X2=⟨(bV L (M.length+1)).toArray⟩):=anc (by
    have e2:bV L (0+1+1)=_:=kR hz1
    rw [hm1,kR hz2,e2,Fq.out,hP0,hX1,hX2,show (⟨#[32]⟩:ByteArray)=⟨[32].toArray⟩ from rfl,show (⟨#[40,106,111,105,110,32]⟩:ByteArray)=⟨(40::nY 4++[32]).toArray⟩ from rfl,jl,jl,jl])
   have s0:P0.size=6:=by rw [hP0];rfl
   have s1:X1.size=x1.length:=by rw [hX1];rfl
   have s2:X2.size=x2.length:=by rw [hX2];rfl
   have s3:(⟨#[32]⟩:ByteArray).size=1:=rfl
   have hy1:¬9223372036854775807<P0.size+X1.size:=by rw [s0,s1];omega
   have hy2:¬9223372036854775807<(P0++X1).size+(⟨#[32]⟩:ByteArray).size:=by rw [ByteArray.size_append,s0,s1,s3];omega
   have hy3:¬9223372036854775807<(P0++X1++(⟨#[32]⟩:ByteArray)).size+X2.size:=by rw [ByteArray.size_append,ByteArray.size_append,s0,s1,s2,s3];omega
   have hy4:P0.size+X1.size≤9223372036854775806:=by rw [s0,s1];omega
   have hy5:P0.size+X1.size+1+X2.size≤9223372036854775807:=by rw [s0,s1,s2];omega
   rw [←hX1] at GY
   rw [←hX2] at WX
   clear hz1 hz2 Uf acH hmd hx1 hx2 hX1 hX2 s0 s1 s2 s3
   clear d0 d1 d2 d3 d4 d5 d6 d7 f0 f1 f2 f3 f4 f5 f6 f7
   go_upto_region 17 with (fail)
   rw [←hP0]
   clear hP0
   refine wp_region_held_drew (S:=fun w'=>Below w1.heap.size w1 w') (by kernel_rfl) ((anl _ _).drew) (fun hHeld=>?_)
   refine wpAnyH_take (i:=0) (v:=.pointer (some ⟨w.heap.size,4,none⟩)) rfl (by kernel_rfl) (by kernel_rfl) (by kernel_rfl) (fun _ _ _ h=>h) (Or.inl ⟨by rfl,fun w1' hSw=>by (go_simp)⟩) (by assumption) ?_
   simp only [ane,anf,Act.put,anh,ani,anj]
   refine wpAnyH_take (i:=1) (v:=.slice la' m3 lc) rfl (by kernel_rfl) (by kernel_rfl) (by kernel_rfl) (fun _ _ _ h=>h) (Or.inl ⟨by rfl,fun w1' hSw=>by (obtain ⟨d0,d1,d2,d3,d4,d5,d6,d7,_,_,_,_,_,_,_,_⟩:=az ((hSw.block _ hs1).trans gU.out);go_simp)⟩) (by assumption) ?_
   simp only [ane,ang,anf,Act.put,anh,ani,anj]
   refine wpAnyH_take (i:=5) (v:=.pointer (some ⟨w.heap.size,5,none⟩)) rfl (by kernel_rfl) (by kernel_rfl) (by kernel_rfl) (fun _ _ _ h=>h) (Or.inl ⟨by rfl,fun w1' hSw=>by (go_simp)⟩) (by assumption) ?_
   simp only [ane,ang,anf,Act.put,anh,ani,anj]
   refine wpAnyH_take (i:=6) (v:=.slice ra m4 rc) rfl (by kernel_rfl) (by kernel_rfl) (by kernel_rfl) (fun _ _ _ h=>h) (Or.inl ⟨by rfl,fun w1' hSw=>by (obtain ⟨d0,d1,d2,d3,d4,d5,d6,d7,_,_,_,_,_,_,_,_⟩:=az ((hSw.block _ hs1).trans gU.out);go_simp)⟩) (by assumption) ?_
   simp only [ane,ang,anf,Act.put,anh,ani,anj]
   refine wpAnyH_ready (rs:=[2]) (by kernel_rfl) (by simp) ?_
   refine AllReadyH.cons rfl (fun K hK=>?_) AllReadyH.nil
   simp only [ane,ang,anf]
   go_simp
   refine (GY.out _ hHeld).mono ?_
   rintro r wb ⟨rfl,hwb⟩
   subst hwb
   go_wp2_with fail
   refine hK.out _ _ hHeld (fun hHeld=>?_)
   clear hK K
   refine wpAnyH_take (i:=3) (v:=.string (P0++X1)) rfl (by kernel_rfl) (by kernel_rfl) (by kernel_rfl) (fun _ _ _ h=>h) (Or.inl ⟨by rfl,fun w1' hSw=>by (go_simp)⟩) (by assumption) ?_
   simp only [ane,ang,anf,Act.put,anh,ani,anj]
   refine wpAnyH_take (i:=4) (v:=.string (P0++X1++⟨#[32]⟩)) rfl (by kernel_rfl) (by kernel_rfl) (by kernel_rfl) (fun _ _ _ h=>h) (Or.inl ⟨by rfl,fun w1' hSw=>by (go_simp)⟩) (by assumption) ?_
   simp only [ane,ang,anf,Act.put,anh,ani,anj]
   refine wpAnyH_ready (rs:=[7]) (by kernel_rfl) (by simp) ?_
   refine AllReadyH.cons rfl (fun K hK=>?_) AllReadyH.nil
   simp only [ane,ang,anf]
   go_simp
   refine (WX.out _ hHeld).mono ?_
   rintro r wb ⟨rfl,hwb⟩
   subst hwb
   go_wp2_with fail
   refine hK.out _ _ hHeld (fun hHeld=>?_)
   clear hK K
   refine wpAnyH_take (i:=8) (v:=.string (P0++X1++⟨#[32]⟩++X2)) rfl (by kernel_rfl) (by kernel_rfl) (by kernel_rfl) (fun _ _ _ h=>h) (Or.inl ⟨by rfl,fun w1' hSw=>by (go_simp)⟩) (by assumption) ?_
   simp only [ane,ang,anf,Act.put,anh,ani,anj]
   refine wpAnyH_take (i:=9) (v:=.string (P0++X1++⟨#[32]⟩++X2)) rfl (by kernel_rfl) (by kernel_rfl) (by kernel_rfl) (fun _ _ _ h=>h) (Or.inl ⟨by rfl,fun w1' hSw=>by (go_simp)⟩) (by assumption) ?_
   simp only [ane,ang,anf,Act.put,anh,ani,anj]
   refine wpAnyH_done (by kernel_rfl) ?_ _
   have Gt:=anc hHeld
   clear hHeld
   go_wp2_with fail
   go_meet
   case rel=>exact ⟨congrArg Value.string lW.out,Gt.out⟩
  ·have lW:Hid ((⟨#[40,117,110,105,111,110]⟩:ByteArray)=⟨(bV L (M.length+1)).toArray⟩):=anc (by
    rw [CJ.out,show (jV 5 nm ex cols left right ag).length=0 from rfl,Fq.out]
    rfl)
   go_wp2_with fail
   go_meet
   case rel=>exact ⟨congrArg Value.string lW.out,anl _ _⟩
  ·have lW:Hid ((⟨#[40,100,105,115,116,105,110,99,116]⟩:ByteArray)=⟨(bV L (M.length+1)).toArray⟩):=anc (by
    rw [CJ.out,show (jV 6 nm ex cols left right ag).length=0 from rfl,Fq.out]
    rfl)
   go_wp2_with fail
   go_meet
   case rel=>exact ⟨congrArg Value.string lW.out,anl _ _⟩
  ·have hmd:jV 7 nm ex cols left right ag=dX left::ag.map (fun g=>dX (vP g)):=rfl
   have hz1:=MC.out 0 (dX left) rfl
   have hm1:M.length=m5+1:=by rw [CJ.out,hmd,List.length_cons,List.length_map,Ru.out]
   have HGZ:Hid (∀ (j:Nat)(g:Ag),ag[j]?=some g→L[j+1+1]?=some (dH (dX (vP g)))):=anc (fun j g hg=>MC.out (j+1) _ (by rw [hmd,List.getElem?_cons_succ,List.getElem?_map,hg];rfl))
   have Uf:=YB.out _ _ hz1
   have GY:=anc (sK left (by rw [KF.out];exact ll) (fun x hx=>HSZ.out x (List.mem_append_left _ hx)) la' lc w1 ((jI.out.kept (w':=w1) fun k hk=>HB1.out.block k hk).mono fun k hk=>anp hk HB1.out.size))
   rw [KF.out] at GY
   obtain ⟨x1,hx1⟩:∃ x1,x1=dH (dX left):=⟨_,rfl⟩
   rw [←hx1] at hz1 Uf GY
   have lW:Hid ((⟨#[40,103,114,111,117,112,32]⟩:ByteArray)++(⟨x1.toArray⟩:ByteArray)=⟨(bV L (0+1+1)).toArray⟩):=anc (by
    rw [kR hz1,Fq.out,show (⟨#[40,103,114,111,117,112,32]⟩:ByteArray)=⟨(40::nY 7++[32]).toArray⟩ from rfl,jl])
   have hz2:¬9223372036854775807<((⟨#[40,103,114,111,117,112,32]⟩:ByteArray)).size+(⟨x1.toArray⟩:ByteArray).size:=by
    have h7:((⟨#[40,103,114,111,117,112,32]⟩:ByteArray)).size=7:=rfl
    rw [h7,jd];omega
   have HHM:=anc hm1
   have HNE:Hid (∀ (j:Nat)(g:Ag),ag[j]?=some g→∃ b o,ga=some ⟨b,o,none⟩∧b<w.heap.size∧w.cell? ⟨b,o+j*3,none⟩=some (.string g.nm)∧w.cell? ⟨b,o+j*3+1,none⟩=some (.string g.fn)∧w.cell? ⟨b,o+j*3+2,none⟩=some (.string g.vw)):=anc (fun j g hg=>Jw HPG.out hg)
   clear hz1 Uf hx1 hmd hm1
   generalize (⟨x1.toArray⟩:ByteArray)=X1 at *
   go_wp2_with fail
   refine (GY.out).mono ?_
   rintro e wq ⟨rfl,hwq⟩
   subst hwq
   clear GY
   clear d0 d1 d2 d3 d4 d5 d6 d7 f0 f1 f2 f3 f4 f5 f6 f7
   go_wp2_with fail
   go_loopw [3,5] (fun s i wr=>∃ j:Nat,j≤m5∧i=.int .i64 j∧s=.string ⟨(bV L (j+1+1)).toArray⟩∧Below w1.heap.size w1 wr) (fun _ i _=>m5-(intOf i).toNat)
   case atStart=>exact ⟨0,Nat.zero_le _,rfl,by rw [lW.out],anl _ _⟩
   case round =>
    obtain ⟨j,hj,rfl,rfl,hb⟩:=hrel
    have HB:=anc hb
    have hs:=hb.size
    have dC:=anc (HB1.out.trans (hb.mono (Nat.le_of_lt hs1)))
    have Zv:=anc ((hb.block w.heap.size hs1).trans gU.out)
    clear hb
    obtain ⟨d0,d1,d2,d3,d4,d5,d6,d7,f0,f1,f2,f3,f4,f5,f6,f7⟩:=az Zv.out
    by_cases hlt:j<m5
    ·obtain ⟨g,hg⟩:∃ g,ag[j]?=some g:=⟨_,anr (by rw [Ru.out];exact hlt)⟩
     have hgt:=HGZ.out j g hg
     obtain ⟨b,o,rfl,hbl,z0,z1,z2⟩:=HNE.out j g hg
     have hsg:=YB.out _ _ hgt
     have c0:=(dC.out.cell hbl).trans z0
     have c1:=(dC.out.cell hbl).trans z1
     have c2:=(dC.out.cell hbl).trans z2
     obtain ⟨gn,gf,Ej⟩:=g
     simp only at c0 c1 c2
     obtain ⟨wx,dN⟩:∃ wx,wx=wr.alloc (.cells #[.string gn,.string gf,.string Ej] 46):=⟨_,rfl⟩
     have jM:=anc dN
     have HWB:Hid (wx.heap[wr.heap.size]?=some (.cells #[.string gn,.string gf,.string Ej] 46 (0,0))):=anc (by rw [dN];exact anm wr _)
     have iJ:Hid (Below w1.heap.size w1 wx):=anc (by rw [dN];exact HB.out.alloc hs _)
     clear z0 z1 z2 hbl hg dN
     obtain ⟨⟨r0,r1,r2⟩,_,_,_⟩:=oJ HWB.out
     obtain ⟨p0,hp0⟩:∃ p0:ByteArray,p0=⟨(bV L (j+1+1)).toArray⟩:=⟨_,rfl⟩
     rw [←hp0]
     have hps:p0.size=(bV L (j+1+1)).length:=by rw [hp0];rfl
     go_upto_region 28 with (fail)
     rw [←jM.out]
     by_cases hct:gf.toList=dQ
     ·have Ud:(gf.toList==[99,111,117,110,116])=true:=by rw [hct];rfl
      have hsz:p0.size+gn.size+gf.size≤400000000000000:=by
       rw [GX,if_pos hct] at hsg
       simp only [List.length_cons,List.length_append,List.length_nil,Array.length_toList] at hsg
       have e1:gn.size=gn.data.size:=rfl
       have e2:gf.size=gf.data.size:=rfl
       have e3:Ej.size=Ej.data.size:=rfl
       omega
      have e41:(⟨#[41]⟩:ByteArray).size=1:=rfl
      have e32:(⟨#[32]⟩:ByteArray).size=1:=rfl
      have e34:(⟨#[32,40]⟩:ByteArray).size=2:=rfl
      have lW:Hid ((((((p0++(⟨#[32,40]⟩:ByteArray))++gn)++(⟨#[32]⟩:ByteArray))++gf)++(⟨#[41]⟩:ByteArray))=⟨(bV L (j+1+1+1)).toArray⟩):=anc (by
       rw [kR hgt,GX,if_pos hct,hp0]
       apply ByteArray.ext
       simp [ByteArray.data_append])
      have hy0:¬9223372036854775807<(p0).size+((⟨#[32,40]⟩:ByteArray)).size:=by (try simp only [ByteArray.size_append]);omega
      have hy1:¬9223372036854775807<((p0++(⟨#[32,40]⟩:ByteArray))).size+(gn).size:=by (try simp only [ByteArray.size_append]);omega
      have hy2:¬9223372036854775807<(((p0++(⟨#[32,40]⟩:ByteArray))++gn)).size+((⟨#[32]⟩:ByteArray)).size:=by (try simp only [ByteArray.size_append]);omega
      have hy3:¬9223372036854775807<((((p0++(⟨#[32,40]⟩:ByteArray))++gn)++(⟨#[32]⟩:ByteArray))).size+(gf).size:=by (try simp only [ByteArray.size_append]);omega
      have hy4:¬9223372036854775807<(((((p0++(⟨#[32,40]⟩:ByteArray))++gn)++(⟨#[32]⟩:ByteArray))++gf)).size+((⟨#[41]⟩:ByteArray)).size:=by (try simp only [ByteArray.size_append]);omega
      clear hgt hsg hsz hp0 hps e41 e32 e34
      go_wp2_with fail
      go_roundw
      case rel=>exact ⟨j+1,by omega,by go_num,by rw [lW.out],iJ.out⟩
      case measure=>simp [intOf];omega
     ·have Ud:(gf.toList==[99,111,117,110,116])=false:=by rw [beq_eq_false_iff_ne];exact hct
      have hsz:p0.size+gn.size+gf.size+Ej.size≤400000000000000:=by
       rw [GX,if_neg hct] at hsg
       simp only [List.length_cons,List.length_append,List.length_nil,Array.length_toList] at hsg
       have e1:gn.size=gn.data.size:=rfl
       have e2:gf.size=gf.data.size:=rfl
       have e3:Ej.size=Ej.data.size:=rfl
       omega
      have e41:(⟨#[41]⟩:ByteArray).size=1:=rfl
      have e32:(⟨#[32]⟩:ByteArray).size=1:=rfl
      have e34:(⟨#[32,40]⟩:ByteArray).size=2:=rfl
      have lW:Hid ((((((((p0++(⟨#[32,40]⟩:ByteArray))++gn)++(⟨#[32]⟩:ByteArray))++gf)++(⟨#[32]⟩:ByteArray))++Ej)++(⟨#[41]⟩:ByteArray))=⟨(bV L (j+1+1+1)).toArray⟩):=anc (by
       rw [kR hgt,GX,if_neg hct,hp0]
       apply ByteArray.ext
       simp [ByteArray.data_append])
      have hy0:¬9223372036854775807<(p0).size+((⟨#[32,40]⟩:ByteArray)).size:=by (try simp only [ByteArray.size_append]);omega
      have hy1:¬9223372036854775807<((p0++(⟨#[32,40]⟩:ByteArray))).size+(gn).size:=by (try simp only [ByteArray.size_append]);omega
      have hy2:¬9223372036854775807<(((p0++(⟨#[32,40]⟩:ByteArray))++gn)).size+((⟨#[32]⟩:ByteArray)).size:=by (try simp only [ByteArray.size_append]);omega
      have hy3:¬9223372036854775807<((((p0++(⟨#[32,40]⟩:ByteArray))++gn)++(⟨#[32]⟩:ByteArray))).size+(gf).size:=by (try simp only [ByteArray.size_append]);omega
      have hy4:¬9223372036854775807<(((((p0++(⟨#[32,40]⟩:ByteArray))++gn)++(⟨#[32]⟩:ByteArray))++gf)).size+((⟨#[32]⟩:ByteArray)).size:=by (try simp only [ByteArray.size_append]);omega
      have hy5:¬9223372036854775807<((((((p0++(⟨#[32,40]⟩:ByteArray))++gn)++(⟨#[32]⟩:ByteArray))++gf)++(⟨#[32]⟩:ByteArray))).size+(Ej).size:=by (try simp only [ByteArray.size_append]);omega
      have hy6:¬9223372036854775807<(((((((p0++(⟨#[32,40]⟩:ByteArray))++gn)++(⟨#[32]⟩:ByteArray))++gf)++(⟨#[32]⟩:ByteArray))++Ej)).size+((⟨#[41]⟩:ByteArray)).size:=by (try simp only [ByteArray.size_append]);omega
      clear hgt hsg hsz hp0 hps e41 e32 e34
      go_wp2_with fail
      go_roundw
      case rel=>exact ⟨j+1,by omega,by go_num,by rw [lW.out],iJ.out⟩
      case measure=>simp [intOf];omega
    ·obtain rfl:j=m5:=by omega
     have hlen:Hid (bV L (M.length+1)=bV L (j+1+1)):=anc (by rw [HHM.out])
     go_wp2_with fail
     go_meet
     case rel=>exact ⟨by rw [hlen.out],HB.out⟩
 case rest =>
  obtain ⟨rfl,hbc⟩:=hcut
  have HBC:=anc hbc
  have HXC:=anc ((hbc.block w.heap.size hs1).trans gU.out)
  have hsc:=hbc.size
  clear hbc
  go_wp2_with fail
  go_loopw [3,7] (fun s i wr=>∃ j:Nat,j≤m6∧i=.int .i64 j∧s=.string ⟨(bV L (M.length+j+1)).toArray⟩∧Below w1.heap.size w1 wr) (fun _ i _=>m6-(intOf i).toNat)
  case atStart=>exact ⟨0,Nat.zero_le _,rfl,rfl,HBC.out⟩
  case round =>
   obtain ⟨j,hj,rfl,rfl,hb⟩:=hrel
   have HB:=anc hb
   have hs:=hb.size
   have dC:=anc (HB1.out.trans (hb.mono (Nat.le_of_lt hs1)))
   have Zv:=anc ((hb.block w.heap.size hs1).trans gU.out)
   clear hb
   obtain ⟨d0,d1,d2,d3,d4,d5,d6,d7,f0,f1,f2,f3,f4,f5,f6,f7⟩:=az Zv.out
   by_cases hlt:j<m6
   ·obtain ⟨q,hq⟩:∃ q,kids[j]?=some q:=⟨_,anr (by rw [HL6.out];exact hlt)⟩
    obtain ⟨hgt,acJ⟩:=HKP.out j q hq
    have hAq:=(DW.out.kept (w':=wr) (fun k hk=>dC.out.block k hk)).mono (S':=fun k=>k<wr.heap.size) (fun k hk=>anp hk dC.out.size)
    obtain ⟨b,o,aq,rfl,hbS,hcells,hPq⟩:=hAq.at hq
    have hcl:=anc (HM.out q (anq hq) (HTK.out q (anq hq)) acJ aq wr hPq)
    have hsg:=YB.out _ _ hgt
    obtain ⟨pt,hpt⟩:∃ pt,pt=dH (aV q):=⟨_,rfl⟩
    rw [←hpt] at hgt hcl hsg
    have lW:Hid (((⟨(bV L (M.length+j+1)).toArray⟩:ByteArray)++⟨#[32]⟩)++⟨pt.toArray⟩=⟨(bV L (M.length+(j+1)+1)).toArray⟩):=anc (by
     rw [show (⟨#[32]⟩:ByteArray)=⟨[32].toArray⟩ from rfl,jl,jl,←kR hgt]
     rfl)
    have hz:¬9223372036854775807<((⟨(bV L (M.length+j+1)).toArray⟩:ByteArray)++⟨#[32]⟩).size+(⟨pt.toArray⟩:ByteArray).size:=by simp only [ByteArray.size_append,jd,List.length_cons,List.length_nil];omega
    have hz2:¬9223372036854775807<(⟨(bV L (M.length+j+1)).toArray⟩:ByteArray).size+(⟨#[32]⟩:ByteArray).size:=by simp only [ByteArray.size_append,jd,List.length_cons,List.length_nil];omega
    obtain ⟨qk,WY,Zw,C9,Dc,vV,Zx,Df⟩:=q
    obtain ⟨ea2,ec2,ca2,cc2,la2,lc2,ra2,rc2,ga2,gc2,ka2,kc2⟩:=aq
    have z0:=hcells 0 _ rfl
    have z1:=hcells 1 _ rfl
    have z2:=hcells 2 _ rfl
    have z3:=hcells 3 _ rfl
    have z4:=hcells 4 _ rfl
    have z5:=hcells 5 _ rfl
    have z6:=hcells 6 _ rfl
    have z7:=hcells 7 _ rfl
    simp only [P.val,P.k,P.nm,P.ex,P.cols,P.left,P.right,P.ag,P.kids,Nat.add_zero] at z0 z1 z2 z3 z4 z5 z6 z7 hcl
    generalize Zw.length=n1 at *
    generalize C9.length=n2 at *
    generalize Dc.length=n3 at *
    generalize vV.length=n4 at *
    generalize Zx.length=n5 at *
    generalize Df.length=n6 at *
    clear hgt acJ hAq hq hPq hcells hsg hpt
    generalize (⟨(bV L (M.length+j+1)).toArray⟩:ByteArray)=p0 at *
    generalize (⟨pt.toArray⟩:ByteArray)=xb at *
    go_wp2_with fail
    refine (hcl.out).mono ?_
    rintro e w2 ⟨rfl,hb2⟩
    have HB2:=anc (HB.out.trans (hb2.mono hs))
    clear hb2
    go_wp2_with fail
    go_roundw
    case rel=>exact ⟨j+1,by omega,by go_num,by rw [lW.out],HB2.out⟩
    case measure=>simp [intOf];omega
   ·obtain rfl:j=m6:=by omega
    have hlen:=HSL.out (M.length+j+1)
    have lW:Hid ((⟨(bV L (M.length+j+1)).toArray⟩:ByteArray)++⟨#[41]⟩=⟨(bV L L.length++[41]).toArray⟩):=anc (by
     rw [show (⟨#[41]⟩:ByteArray)=⟨[41].toArray⟩ from rfl,jl,KA.out,show 1+M.length+j=M.length+j+1 by omega])
    have hz2:¬9223372036854775807<(⟨(bV L (M.length+j+1)).toArray⟩:ByteArray).size+(⟨#[41]⟩:ByteArray).size:=by simp only [ByteArray.size_append,jd,List.length_cons,List.length_nil];omega
    clear hlen
    generalize (⟨(bV L (M.length+j+1)).toArray⟩:ByteArray)=p0 at *
    go_wp2_with fail
    go_ret
    exact ⟨congrArg (fun x:ByteArray=>Ending.returned (Value.string x)) lW.out,dC.out⟩
theorem Qu:∀ p,GV p:=P.ind fun k nm ex cols left right ag kids ih=>MR k nm ex cols left right ag kids ih
theorem Jy {dK acc:List C} {ag:List Ag} {l:List ByteArray} {k:Nat} {s:ByteArray} (h:l[k]?=some s) :
 iU dK ag acc (l.drop k)=if df dK s=false then je 20 s else if df acc s=true then je 21 s else iU dK ag (acc++[ji dK (dL dK s)]) (l.drop (k+1)):=by
 obtain ⟨h1,e1⟩:=List.getElem?_eq_some_iff.1 h
 rw [List.drop_eq_getElem_cons h1,e1,iU]
theorem MS {dK acc:List C} {ag:List Ag} {l:List ByteArray} {k:Nat} (h:l.length≤k):iU dK ag acc (l.drop k)=fJ dK acc ag:=by
 rw [List.drop_of_length_le h,iU]
theorem Jz {dK acc:List C} {l:List Ag} {k:Nat} {g:Ag} (h:l[k]?=some g) :
 fJ dK acc (l.drop k)=if df acc g.nm=true then je 21 g.nm
 else if g.fn.toList=dQ then fJ dK (acc++[⟨g.nm,1⟩]) (l.drop (k+1))
 else if df dK g.vw=false then je 20 g.vw
 else if g.fn.toList=nz∧(ji dK (dL dK g.vw)).k≠1 then je 22 g.vw
 else fJ dK (acc++[⟨g.nm,(ji dK (dL dK g.vw)).k⟩]) (l.drop (k+1)):=by
 obtain ⟨h1,e1⟩:=List.getElem?_eq_some_iff.1 h
 rw [List.drop_eq_getElem_cons h1,e1,fJ]
theorem MV {dK acc:List C} {l:List Ag} {k:Nat} (h:l.length≤k):fJ dK acc (l.drop k)=eG acc:=by
 rw [List.drop_of_length_le h,fJ]
theorem group_any (p:P)(a:PA)(w:World)(hA:jS w (fun k=>k<w.heap.size) p a)(xH:p.left.length≤600)(hg6:p.ag.length≤600)
 (B:Option Addr)(d:Nat)(dK:List C)(hin:dK.length≤1000)(hI:kG w w.heap.size B dK) :
 Calls Tryz.prog 51 #[p.val a,.slice B dK.length d] w fun e w'=>xe (fun k=>w.heap.size≤k∧k<w'.heap.size) (iU dK p.ag [] p.left) e w'∧Below w.heap.size w w':=by
 obtain ⟨k,nm,ex,cols,left,right,ag,kids⟩:=p
 obtain ⟨⟨pe,pc,pl,pr',pg,l1,l2,l3,l4,l5⟩,pk⟩:=hA
 simp only [P.val,P.k,P.nm,P.ex,P.cols,P.left,P.right,P.ag,P.kids] at pl pg xH hg6 ⊢
 obtain ⟨ea,ec,ca,cc,la',lc,ra,rc,ga,gc,ka,kc⟩:=a
 simp only at pl pg ⊢
 obtain ⟨R,hR⟩:∃ R,R=iU dK ag [] left:=⟨_,rfl⟩
 rw [←hR]
 have jI:=anc pl
 have HPG:=anc pg
 have HFI:=anc (fun s w' (hb:Below w.heap.size w w')=>oP B d dK (by omega) s w' ((hI.below hb).more hb.size))
 have HAT:Hid (∀ s,df dK s=true→∃ (j:Nat),dL dK s=(j:Int)∧j<dK.length∧∃ b o,B=some ⟨b,o,none⟩∧b<w.heap.size∧w.cell? ⟨b,o+j*2,none⟩=some (.string (ji dK (dL dK s)).nm)∧w.cell? ⟨b,o+j*2+1,none⟩=some (.int .i64 (ji dK (dL dK s)).k)):=anc (fun s h=>by
  obtain ⟨j,x,h1,h2,h3⟩:=BU h
  obtain ⟨b,o,hA,hb,hc,hc2⟩:=hI.cu h2
  rw [h3]
  exact ⟨j,h1,(List.getElem?_eq_some_iff.1 h2).1,b,o,hA,hb,hc,hc2⟩)
 have HR:=anc hR
 clear pe pc pl pr' pg pk l1 l2 l3 l4 l5 hI hR
 generalize hm1:ex.length=m1 at *
 generalize hm2:cols.length=m2 at *
 generalize KU:left.length=m3 at *
 generalize hm4:right.length=m4 at *
 generalize Yt:ag.length=m5 at *
 generalize KD:kids.length=m6 at *
 generalize hna:dK.length=na at *
 have SK:=anc hna
 have HM3:=anc KU
 have HM5:=anc Yt
 clear hm1 hm2 KU hm4 Yt KD hna
 obtain ⟨w0,xE⟩:∃ w0,w0=w.alloc (.cells #[.int .i64 k,.string nm,.slice ea m1 ec,.slice ca m2 cc,.slice la' m3 lc,.slice ra m4 rc,.slice ga m5 gc,.slice ka m6 kc] 27):=⟨_,rfl⟩
 have hb0:Below w.heap.size w w0:=by rw [xE];exact (anl _ _).alloc (ank _) _
 have hs0:w0.heap.size=w.heap.size+1:=by rw [xE];simp
 have hx0:w0.heap[w.heap.size]?=some (.cells #[.int .i64 k,.string nm,.slice ea m1 ec,.slice ca m2 cc,.slice la' m3 lc,.slice ra m4 rc,.slice ga m5 gc,.slice ka m6 kc] 27 (0,0)):=by rw [xE];exact anm w _
 obtain ⟨w1,aK⟩:∃ w1,w1=w0.alloc (.cells #[.int .i64 0,.string ⟨#[]⟩] 61):=⟨_,rfl⟩
 have hb1:Below w0.heap.size w0 w1:=by rw [aK];exact (anl _ _).alloc (ank _) _
 have hs1:w.heap.size+1<w1.heap.size:=by rw [aK];simp;omega
 have gU:Hid (w1.heap[w.heap.size]?=some (.cells #[.int .i64 k,.string nm,.slice ea m1 ec,.slice ca m2 cc,.slice la' m3 lc,.slice ra m4 rc,.slice ga m5 gc,.slice ka m6 kc] 27 (0,0))):=anc ((hb1.block _ (by omega)).trans hx0)
 have LG:Hid (w1.heap[w.heap.size+1]?=some (.cells #[.int .i64 0,.string ⟨#[]⟩] 61 (0,0))):=anc (by rw [aK,←hs0];exact anm w0 _)
 have HW1:=anc (show w1=(w.alloc (.cells #[.int .i64 k,.string nm,.slice ea m1 ec,.slice ca m2 cc,.slice la' m3 lc,.slice ra m4 rc,.slice ga m5 gc,.slice ka m6 kc] 27)).alloc (.cells #[.int .i64 0,.string ⟨#[]⟩] 61) by rw [aK,xE])
 have HB1:=anc (hb0.trans (hb1.mono (by omega)))
 clear xE hb0 hs0 hx0 aK hb1
 obtain ⟨i0,hi,hz0,hz1,hz2⟩:=info_parts xg
 obtain ⟨d0,d1,d2,d3,d4,d5,d6,d7,_,_,_,_,_,_,_,_⟩:=az gU.out
 go_enter Tryz.func51,Tryz.ntmps51
 go_upto_region 1 with (fail)
 rw [←HW1.out]
 go_upto_region 3 with (fail)
 clear d0 d1 d2 d3 d4 d5 d6 d7
 go_loopw [6,19] (fun v i wr=>∃ (k:Nat)(A':Option Addr)(c':Nat)(acc:List C),k≤m3∧i=.int .i64 k∧acc.length=k∧v=.slice A' k c'∧wr.ownsRow w1.heap.size 42 2 (.slice A' k c') k (gI acc)∧Below w1.heap.size w1 wr∧Hid (R=iU dK ag acc (left.drop k))) (fun _ i _=>m3-(intOf i).toNat)
 case atStart=>exact ⟨0,none,0,[],Nat.zero_le _,rfl,rfl,rfl,⟨rfl,.inl ⟨rfl,rfl⟩⟩,anl _ _,by simpa using HR⟩
 case round =>
  obtain ⟨j,A',c',acc,hj,rfl,hal,rfl,hown,hb,HL⟩:=hrel
  have HO:=anc hown
  have HB:=anc hb
  have hs:=hb.size
  have dC:=anc (HB1.out.trans (hb.mono (by omega)))
  have yT:=anc ((hb.block w.heap.size (by omega)).trans gU.out)
  have Y9:=anc ((hb.block (w.heap.size+1) (by omega)).trans LG.out)
  have Bf:=anc hal
  obtain ⟨A3,c3,e3,hc3,hCS⟩:=pz (S:=fun k=>w1.heap.size≤k∧k<wr.heap.size) (by rw [Bf.out];exact HO.out) (fun g h1 h2 _=>⟨h1,h2⟩)
  rw [hal] at e3 hc3
  obtain ⟨rfl,rfl⟩:A'=A3∧c'=c3:=by injection e3 with e4 _ e5;exact ⟨e4,e5⟩
  have Pz:=anc hCS
  have HC3:=anc hc3
  clear hown hb hal e3 hCS hc3
  obtain ⟨d0,d1,d2,d3,d4,d5,d6,d7,_,_,_,_,_,_,_,_⟩:=az yT.out
  have KJ:j≤600:=by omega
  by_cases hlt:j<m3
  ·obtain ⟨s,hsx⟩:∃ s,left[j]?=some s:=⟨_,anr (by rw [HM3.out];exact hlt)⟩
   obtain ⟨bl,ol,rfl,hbl,hcl⟩:=xG jI.out hsx
   have afD:=(dC.out.cell (show (⟨bl,ol+j,none⟩:Addr).block<w.heap.size from hbl)).trans hcl
   have hst:=anc (HL.out.trans (Jy hsx))
   have HF:=anc (HFI.out s wr dC.out)
   have HAS:=anc (HAT.out s)
   have KE:=anc (fun w' (hb:Below wr.heap.size wr w')=>Ba A' c' acc (by rw [Bf.out];omega) s w' ((Pz.out.kept fun k hk=>hb.block k hk.2).to fun k hk=>anp hk.2 hb.size))
   rw [Bf.out] at KE
   obtain ⟨xc,RN⟩:∃ xc,xc=ji dK (dL dK s):=⟨_,rfl⟩
   rw [←RN] at hst HAS
   clear RN hcl hsx HL
   generalize dL dK s=fi at *
   generalize df dK s=q at *
   generalize df acc s=f at *
   obtain ⟨xn,xk⟩:=xc
   simp only at HAS
   go_wp2_with fail
   refine (HF.out).mono ?_
   rintro r w3 ⟨rfl,hb3⟩
   have HB3:=anc hb3
   have LC:=anc (dC.out.trans (hb3.mono dC.out.size))
   have SH:=anc ((hb3.block (w.heap.size+1) (by omega)).trans Y9.out)
   have hs3:=hb3.size
   clear hb3 d0 d1 d2 d3 d4 d5 d6 d7 afD
   obtain ⟨⟨r0,r1⟩,g0,g1⟩:=cell2 SH.out
   cases q
   ·have hr:Hid (R=je 20 s):=anc (by rw [hst.out,if_pos rfl])
    go_wp2_with fail
    refine ano (aP rfl rfl rfl (aY SH.out)) rfl ?_
    exact ⟨fC (by decide) hr.out rfl,aQ LC.out (Nat.le_succ _)⟩
   have hst2:Hid (R=if f=true then je 21 s else iU dK ag (acc++[⟨xn,xk⟩]) (left.drop (j+1))):=anc (by rw [hst.out,if_neg (by decide)])
   obtain ⟨fj,rfl,hfj,bi,oi,rfl,hbi,z0,z1⟩:=HAS.out (by first | rfl | trivial)
   have afE:(fj:Int)<(na:Int):=by omega
   clear hst
   go_wp2_with fail
   refine (KE.out w3 HB3.out).mono ?_
   rintro r w4 ⟨rfl,hb4⟩
   have HB4:=anc (HB3.out.trans (hb4.mono hs3))
   have uJ:=anc (dC.out.trans (HB4.out.mono dC.out.size))
   have PG:=anc ((hb4.block (w.heap.size+1) (by omega)).trans SH.out)
   have hs4:=HB4.out.size
   have y0:=(uJ.out.cell hbi).trans z0
   have y1:=(uJ.out.cell hbi).trans z1
   clear hb4 r0 r1 g0 g1 z0 z1
   obtain ⟨⟨r0,r1⟩,g0,g1⟩:=cell2 PG.out
   cases f
   ·have HL2:Hid (R=iU dK ag (acc++[⟨xn,xk⟩]) (left.drop (j+1))):=anc (by rw [hst2.out,if_neg (by decide)])
    have jZ:=anc (own_below HO.out HB4.out)
    clear hst2
    go_wp2_with (at_builtin;refine wpList_append_lies _ rfl _ _ 29 rfl w1.heap.size 42 i0 _ 2 24 Tryz.underlying29 hi hz0 hz1 hz2 rfl (by decide) (.slice A' j c') j (gI acc) rfl (jZ.out.alloc _) ⟨w4.heap.size,0,none⟩ 1 1 [.string xn,.int .i64 xk] rfl rfl ?c1 ?c2 (by decide) ?c3 ?c4 ?c5 _ rfl ?_)
    case c1=>exact World.news_of_block (anm w4 _)
    case c2=>intro u hu;simp only [List.mem_cons,List.not_mem_nil,or_false] at hu;rcases hu with rfl | rfl <;> rfl
    case c3=>exact lJ rfl KJ
    case c4=>exact jP rfl KJ (by decide)
    case c5=>simp;omega
    intro g' cap w5 hown hgrow hat yU
    have fV:=anc hown
    have fP:=anc (((HB.out.trans (HB4.out.mono hs)).alloc (by omega) (.cells #[.string xn,.int .i64 xk] 42)).grown hgrow (by simp;omega) (fun k e=>(jZ.out.lt k e).1))
    clear hown hgrow hat
    go_wp2_with fail
    go_roundw
    case rel=>exact ⟨j+1,_,cap,acc++[⟨xn,xk⟩],by omega,by go_num,by simp [Bf.out],rfl,by rw [jw,mX];exact fV.out,fP.out,HL2⟩
    case measure=>simp [intOf];omega
   ·have hr:Hid (R=je 21 s):=anc (by rw [hst2.out,if_pos rfl])
    clear hst2
    go_wp2_with fail
    refine ano (aP rfl rfl rfl (aY PG.out)) rfl ?_
    exact ⟨fC (by decide) hr.out rfl,aQ uJ.out (Nat.le_succ _)⟩
  ·obtain rfl:j=m3:=by omega
   have HL2:Hid (R=fJ dK acc ag):=anc (by rw [HL.out,MS (by rw [HM3.out];exact ank _)])
   clear HL
   go_upto_region 13 with (fail)
   clear d0 d1 d2 d3 d4 d5 d6 d7
   go_loopw [6,51] (fun v i wr=>∃ (k:Nat)(A':Option Addr)(c':Nat)(acc:List C),k≤m5∧i=.int .i64 k∧acc.length≤600+k∧v=.slice A' acc.length c'∧wr.ownsRow w1.heap.size 42 2 (.slice A' acc.length c') acc.length (gI acc)∧Below w1.heap.size w1 wr∧Hid (R=fJ dK acc (ag.drop k))) (fun _ i _=>m5-(intOf i).toNat)
   case atStart=>exact ⟨0,A',c',acc,Nat.zero_le _,rfl,by rw [Bf.out];omega,by rw [Bf.out],by rw [Bf.out];exact HO.out,HB.out,by simpa using HL2⟩
   case round =>
    clear HO HB dC yT Y9 Bf Pz HC3 HL2
    obtain ⟨j,A',c',acc,hj,rfl,hal,rfl,hown,hb,HL⟩:=hrel
    have HO:=anc hown
    have HB:=anc hb
    have hs:=hb.size
    have dC:=anc (HB1.out.trans (hb.mono (by omega)))
    have yT:=anc ((hb.block w.heap.size (by omega)).trans gU.out)
    have Y9:=anc ((hb.block (w.heap.size+1) (by omega)).trans LG.out)
    obtain ⟨A4,c4,e4,hc4,hCS⟩:=pz (S:=fun k=>w1.heap.size≤k∧k<wr.heap.size) HO.out (fun g h1 h2 _=>⟨h1,h2⟩)
    obtain ⟨rfl,rfl⟩:A'=A4∧c'=c4:=by injection e4 with e5 _ e6;exact ⟨e5,e6⟩
    have Pz:=anc hCS
    have VD:=anc hc4
    have hacc:acc.length≤1200:=by omega
    clear hown hb e4 hCS hc4
    obtain ⟨d0,d1,d2,d3,d4,d5,d6,d7,_,_,_,_,_,_,_,_⟩:=az yT.out
    by_cases hlt:j<m5
    ·obtain ⟨g,hg⟩:∃ g,ag[j]?=some g:=⟨_,anr (by rw [HM5.out];exact hlt)⟩
     obtain ⟨bg,og,rfl,hbg,z0,z1,z2⟩:=Jw HPG.out hg
     have y0:=(dC.out.cell (show (⟨bg,og+j*3,none⟩:Addr).block<w.heap.size from hbg)).trans z0
     have y1:=(dC.out.cell (show (⟨bg,og+j*3+1,none⟩:Addr).block<w.heap.size from hbg)).trans z1
     have y2:=(dC.out.cell (show (⟨bg,og+j*3+2,none⟩:Addr).block<w.heap.size from hbg)).trans z2
     have hst:=anc (HL.out.trans (Jz hg))
     obtain ⟨wx,dN⟩:∃ wx,wx=wr.alloc (.cells #[.string g.nm,.string g.fn,.string g.vw] 46):=⟨_,rfl⟩
     have hbx:Below wr.heap.size wr wx:=by rw [dN];exact (anl _ _).alloc (ank _) _
     have hnx:wx.heap[wr.heap.size]?=some (.cells #[.string g.nm,.string g.fn,.string g.vw] 46 (0,0)):=by rw [dN];exact anm wr _
     have hxs:wr.heap.size<wx.heap.size:=(Array.getElem?_eq_some_iff.1 hnx).1
     have iJ:=anc (HB.out.trans (hbx.mono hs))
     have SL:=anc (HB1.out.trans (iJ.out.mono (by omega)))
     have HF:=anc (HFI.out g.vw wx SL.out)
     have HAS:=anc (HAT.out g.vw)
     have KE:=anc (fun w' (hb:Below wx.heap.size wx w')=>Ba A' c' acc (by omega) g.nm w' ((Pz.out.kept fun k hk=>(hb.block k (anp hk.2 hbx.size)).trans (hbx.block k hk.2)).to fun k hk=>anp hk.2 (anv hbx.size hb.size)))
     have YZ:=anc (own_below HO.out hbx)
     obtain ⟨xc,RN⟩:∃ xc,xc=ji dK (dL dK g.vw):=⟨_,rfl⟩
     rw [←RN] at hst HAS
     have jM:=anc dN
     have Aa:=anc hnx
     obtain ⟨gn,gf,gc'⟩:=g
     simp only at y0 y1 y2 Aa jM hst KE HF HAS
     clear RN z0 z1 z2 hg dN hbx hnx HL
     generalize dL dK gc'=fi at *
     generalize df dK gc'=q at *
     generalize df acc gn=f at *
     obtain ⟨xn,xk⟩:=xc
     simp only at HAS hst
     generalize Gu:acc.length=al at *
     have uK:=anc Gu
     clear Gu
     obtain ⟨⟨n0,n1,n2⟩,_,_,_⟩:=oJ Aa.out
     go_upto_region 15 with (fail)
     rw [←jM.out]
     clear d0 d1 d2 d3 d4 d5 d6 d7 y0 y1 y2
     go_wp2_with fail
     refine (HF.out).mono ?_
     rintro r w3 ⟨rfl,hb3⟩
     have HB3:=anc hb3
     have HN3:=anc ((hb3.block wr.heap.size hxs).trans Aa.out)
     have hs3:=hb3.size
     clear hb3 n0 n1 n2
     obtain ⟨⟨n0,n1,n2⟩,_,_,_⟩:=oJ HN3.out
     go_wp2_with fail
     refine (KE.out w3 HB3.out).mono ?_
     rintro r w4 ⟨rfl,hb4⟩
     have HB4:=anc (iJ.out.trans ((HB3.out.trans (hb4.mono hs3)).mono iJ.out.size))
     have uJ:=anc (HB1.out.trans (HB4.out.mono (by omega)))
     have PG:=anc ((HB4.out.block (w.heap.size+1) (by omega)).trans LG.out)
     have YC:=anc ((hb4.block wr.heap.size (by omega)).trans HN3.out)
     have jZ:=anc (own_below (own_below YZ.out HB3.out) hb4)
     have hs4:=HB4.out.size
     clear hb4 n0 n1 n2
     obtain ⟨⟨n0,n1,n2⟩,_,_,_⟩:=oJ YC.out
     obtain ⟨⟨r0,r1⟩,g0,g1⟩:=cell2 PG.out
     have Zy:Hid (∀ (why:Int)(nm:ByteArray),why≠0→R=je why nm→True):=anc (fun _ _ _ _=>trivial)
     cases f
     rotate_left
     ·have hr:Hid (R=je 21 gn):=anc (by rw [hst.out,if_pos rfl])
      clear hst
      go_upto_region 19 with (fail)
      go_region
      all_goals
       go_wp2_with fail
       refine ano (aP rfl rfl rfl (kD PG.out)) rfl ?_
       exact ⟨fC (by decide) hr.out rfl,(aQ uJ.out (Nat.le_succ _)).drew⟩
     have hst2:Hid (R=if gf.toList=dQ then fJ dK (acc++[⟨gn,1⟩]) (ag.drop (j+1)) else if q=false then je 20 gc' else if gf.toList=nz∧xk≠1 then je 22 gc' else fJ dK (acc++[⟨gn,xk⟩]) (ag.drop (j+1))):=anc (by rw [hst.out,if_neg (by decide)])
     clear hst
     by_cases hct:gf.toList=dQ
     ·have Ud:(gf.toList==[99,111,117,110,116])=true:=by rw [hct];rfl
      have HL2:Hid (R=fJ dK (acc++[⟨gn,1⟩]) (ag.drop (j+1))):=anc (by rw [hst2.out,if_pos hct])
      clear hst2 hct
      go_wp2_with (at_builtin;refine wpList_append_lies _ rfl _ _ 29 rfl w1.heap.size 42 i0 _ 2 24 Tryz.underlying29 hi hz0 hz1 hz2 rfl (by decide) (.slice A' al c') al (gI acc) rfl (jZ.out.alloc _) ⟨w4.heap.size,0,none⟩ 1 1 [.string gn,.int .i64 1] rfl rfl ?afF ?afG (by decide) ?afH ?afI ?afJ _ rfl ?_)
      case afF=>exact World.news_of_block (anm w4 _)
      case afG=>intro u hu;simp only [List.mem_cons,List.not_mem_nil,or_false] at hu;rcases hu with rfl | rfl <;> rfl
      case afH=>unfold maxLen;omega
      case afI=>omega
      case afJ=>simp;omega
      intro g' cap w6 hown hgrow hat Za
      have nU:=anc hown
      have iP:=anc ((HB4.out.alloc (by omega) (.cells #[.string gn,.int .i64 1] 42)).grown hgrow (by simp;omega) (fun k e=>(jZ.out.lt k e).1))
      clear hown hgrow hat
      go_wp2_with fail
      go_roundw
      case rel=>exact ⟨j+1,some ⟨g',0,none⟩,cap,acc++[⟨gn,1⟩],by omega,by go_num,by rw [List.length_append,uK.out];simp;omega,by rw [List.length_append,uK.out];rfl,by rw [List.length_append,uK.out,jw,mX];exact nU.out,iP.out,HL2⟩
      case measure=>simp [intOf];omega
     have Ud:(gf.toList==[99,111,117,110,116])=false:=by rw [beq_eq_false_iff_ne];exact hct
     have hst3:Hid (R=if q=false then je 20 gc' else if gf.toList=nz∧xk≠1 then je 22 gc' else fJ dK (acc++[⟨gn,xk⟩]) (ag.drop (j+1))):=anc (by rw [hst2.out,if_neg hct])
     clear hst2 hct
     cases q
     ·have hr:Hid (R=je 20 gc'):=anc (by rw [hst3.out,if_pos rfl])
      clear hst3
      go_upto_region 22 with (fail)
      go_region
      all_goals
       go_wp2_with fail
       refine ano (aP rfl rfl rfl (kD PG.out)) rfl ?_
       exact ⟨fC (by decide) hr.out rfl,(aQ uJ.out (Nat.le_succ _)).drew⟩
     have Qv:Hid (R=if gf.toList=nz∧xk≠1 then je 22 gc' else fJ dK (acc++[⟨gn,xk⟩]) (ag.drop (j+1))):=anc (by rw [hst3.out,if_neg (by decide)])
     obtain ⟨fj,rfl,hfj,bi,oi,rfl,hbi,u0,u1⟩:=HAS.out (by first | rfl | trivial)
     have afE:(fj:Int)<(na:Int):=by omega
     have u1':=(uJ.out.cell hbi).trans u1
     clear hst3 u0 u1
     by_cases hsm:gf.toList=nz
     ·have afK:(gf.toList==[115,117,109])=true:=by rw [hsm];rfl
      by_cases hk1:xk=1
      ·subst hk1
       have HL2:Hid (R=fJ dK (acc++[⟨gn,1⟩]) (ag.drop (j+1))):=anc (by rw [Qv.out,if_neg (fun h=>h.2 rfl)])
       clear Qv hsm
       go_wp2_with (at_builtin;refine wpList_append_lies _ rfl _ _ 29 rfl w1.heap.size 42 i0 _ 2 24 Tryz.underlying29 hi hz0 hz1 hz2 rfl (by decide) (.slice A' al c') al (gI acc) rfl (jZ.out.alloc _) ⟨w4.heap.size,0,none⟩ 1 1 [.string gn,.int .i64 1] rfl rfl ?afL ?afM (by decide) ?afN ?afO ?afP _ rfl ?_)
       case afL=>exact World.news_of_block (anm w4 _)
       case afM=>intro u hu;simp only [List.mem_cons,List.not_mem_nil,or_false] at hu;rcases hu with rfl | rfl <;> rfl
       case afN=>unfold maxLen;omega
       case afO=>omega
       case afP=>simp;omega
       intro g' cap w6 hown hgrow hat Za
       have nU:=anc hown
       have iP:=anc ((HB4.out.alloc (by omega) (.cells #[.string gn,.int .i64 1] 42)).grown hgrow (by simp;omega) (fun k e=>(jZ.out.lt k e).1))
       clear hown hgrow hat
       go_wp2_with fail
       go_roundw
       case rel=>exact ⟨j+1,some ⟨g',0,none⟩,cap,acc++[⟨gn,1⟩],by omega,by go_num,by rw [List.length_append,uK.out];simp;omega,by rw [List.length_append,uK.out];rfl,by rw [List.length_append,uK.out,jw,mX];exact nU.out,iP.out,HL2⟩
       case measure=>simp [intOf];omega
      ·have abD:(xk != 1)=true:=by simpa using hk1
       have hr:Hid (R=je 22 gc'):=anc (by rw [Qv.out,if_pos ⟨hsm,hk1⟩])
       clear Qv hsm hk1
       go_upto_region 24 with (fail)
       go_region
       all_goals
        go_wp2_with fail
        refine ano (aP rfl rfl rfl (kD PG.out)) rfl ?_
        exact ⟨fC (by decide) hr.out rfl,(aQ uJ.out (Nat.le_succ _)).drew⟩
     ·have afK:(gf.toList==[115,117,109])=false:=by rw [beq_eq_false_iff_ne];exact hsm
      have HL2:Hid (R=fJ dK (acc++[⟨gn,xk⟩]) (ag.drop (j+1))):=anc (by rw [Qv.out,if_neg (fun h=>hsm h.1)])
      clear Qv hsm
      go_wp2_with (at_builtin;refine wpList_append_lies _ rfl _ _ 29 rfl w1.heap.size 42 i0 _ 2 24 Tryz.underlying29 hi hz0 hz1 hz2 rfl (by decide) (.slice A' al c') al (gI acc) rfl (jZ.out.alloc _) ⟨w4.heap.size,0,none⟩ 1 1 [.string gn,.int .i64 xk] rfl rfl ?afQ ?afR (by decide) ?afS ?afT ?afU _ rfl ?_)
      case afQ=>exact World.news_of_block (anm w4 _)
      case afR=>intro u hu;simp only [List.mem_cons,List.not_mem_nil,or_false] at hu;rcases hu with rfl | rfl <;> rfl
      case afS=>unfold maxLen;omega
      case afT=>omega
      case afU=>simp;omega
      intro g' cap w6 hown hgrow hat Za
      have nU:=anc hown
      have iP:=anc ((HB4.out.alloc (by omega) (.cells #[.string gn,.int .i64 xk] 42)).grown hgrow (by simp;omega) (fun k e=>(jZ.out.lt k e).1))
      clear hown hgrow hat
      go_wp2_with fail
      go_roundw
      case rel=>exact ⟨j+1,some ⟨g',0,none⟩,cap,acc++[⟨gn,xk⟩],by omega,by go_num,by rw [List.length_append,uK.out];simp;omega,by rw [List.length_append,uK.out];rfl,by rw [List.length_append,uK.out,jw,mX];exact nU.out,iP.out,HL2⟩
      case measure=>simp [intOf];omega
    ·obtain rfl:j=m5:=by omega
     have KF:Hid (R=eG acc):=anc (by rw [HL.out,MV (by rw [HM5.out];exact ank _)])
     have EX:=anc (rP A' c' acc (by omega) VD.out wr Pz.out (fun k hk=>hk.2))
     rw [←KF.out] at EX
     clear HL KF
     generalize Gu:acc.length=al at *
     clear Gu
     go_wp2_with fail
     refine (EX.out).mono ?_
     rintro r w4 ⟨⟨A9,n9,c9,rfl,ET⟩,hb4⟩
     have IC:=anc ET
     have uJ:=anc (dC.out.trans (hb4.mono dC.out.size))
     have PG:=anc ((hb4.block (w.heap.size+1) (by omega)).trans Y9.out)
     have hs4:=hb4.size
     clear hb4 ET
     obtain ⟨⟨r0,r1⟩,g0,g1⟩:=cell2 PG.out
     go_wp2_with fail
     refine ano (aP rfl rfl rfl (aY PG.out)) rfl ?_
     refine ⟨⟨A9,n9,c9,rfl,fun h=>?_⟩,aQ uJ.out (Nat.le_succ _)⟩
     obtain ⟨h1,h2,h3⟩:=IC.out h
     refine ⟨h1,h2,(h3.kept fun k hk=>iC (by omega)).mono fun k hk=>⟨by omega,by have:=hk.2;simp [World.setCell];omega⟩⟩
def Em (D:List DM)(nm:ByteArray):wY:=if idx (DM.mO nm) D 0<0 then je 20 nm else ((D.getD (idx (DM.mO nm) D 0).toNat ⟨⟨#[]⟩,none,0,[]⟩).cols,0,⟨#[]⟩)
def FT (a:List C)(e:E):wY:=(a,if (ed a e).2=0∧(ed a e).1≠1 then 22 else (ed a e).2,⟨#[]⟩)
def JA (D:List DM)(k:Int)(nm:ByteArray)(ex:List E)(cols left right:List ByteArray)(ag:List Ag)(a b:List C):wY :=
 if k=1 then Em D nm else if k=2 then FT a (ex.getD 0 zeroE) else if k=3 then dR a [] (cols.zip ex) else if k=4 then uQ a b left right
 else if k=5 then lC a b else if k=7 then iU a ag [] left else (a,0,⟨#[]⟩)
def uM (l:List wY)(i:Nat):List C:=(l.getD i ([],0,⟨#[]⟩)).1
def badR:List wY→Option (Int×ByteArray)
 | []=>none
 | r::l=>if r.2.1=0 then badR l else some r.2
def yh (D:List DM)(k:Int)(nm:ByteArray)(ex:List E)(cols left right:List ByteArray)(ag:List Ag)(l:List wY):wY :=
 match badR l with
 | some r=>([],r)
 | none=>JA D k nm ex cols left right ag (uM l 0) (uM l 1)
mutual
def bZ (D:List DM):P→wY
 | .mk k nm ex cols left right ag kids=>yh D k nm ex cols left right ag (qV D kids)
def qV (D:List DM):List P→List wY
 | []=>[]
 | x::l=>bZ D x::qV D l
end
theorem ni (D:List DM)(l:List P):qV D l=l.map (bZ D):=by
 induction l with
 | nil=>rw [qV];rfl
 | cons x l ih=>rw [qV,ih];rfl
theorem Qw {l:List wY} (h:∀ (i:Nat)(r:wY),l[i]?=some r→r.2.1=0):badR l=none:=by
 induction l with
 | nil=>rfl
 | cons x l ih=>rw [badR,if_pos (h 0 x rfl)];exact ih fun i r hr=>h (i+1) r hr
theorem Qx {l:List wY} {j:Nat} {r:wY} (hr:l[j]?=some r)(hb:r.2.1≠0)(h:∀ (i:Nat)(x:wY),i<j→l[i]?=some x→x.2.1=0):badR l=some r.2:=by
 induction l generalizing j with
 | nil=>simp at hr
 | cons x l ih =>
   cases j with
   | zero =>
     obtain rfl:x=r:=by simpa using hr
     rw [badR,if_neg hb]
   | succ j =>
     rw [badR,if_pos (h 0 x (Nat.succ_pos _) rfl)]
     exact ih hr fun i y hi hy=>h (i+1) y (Nat.succ_lt_succ hi) hy
theorem Ug {D:List DM} {k:Int} {nm:ByteArray} {ex:List E} {cols left right:List ByteArray} {ag:List Ag} {kids:List P} {j:Nat} {x:P} (hx:kids[j]?=some x)(hb:(bZ D x).2.1≠0)
 (h:∀ (i:Nat)(y:P),i<j→kids[i]?=some y→(bZ D y).2.1=0):bZ D (.mk k nm ex cols left right ag kids)=([],(bZ D x).2):=by
 rw [bZ,ni,yh,Qx (r:=bZ D x) (j:=j) (by rw [List.getElem?_map,hx];rfl) hb]
 intro i y hi hy
 rw [List.getElem?_map] at hy
 cases hz:kids[i]? with
 | none=>rw [hz] at hy;cases hy
 | some z =>
   rw [hz] at hy
   obtain rfl:bZ D z=y:=by simpa using hy
   exact h i z hi hz
theorem Qy {D:List DM} {k:Int} {nm:ByteArray} {ex:List E} {cols left right:List ByteArray} {ag:List Ag} {kids:List P}
 (h:∀ (i:Nat)(y:P),kids[i]?=some y→(bZ D y).2.1=0):bZ D (.mk k nm ex cols left right ag kids)=JA D k nm ex cols left right ag (uM (kids.map (bZ D)) 0) (uM (kids.map (bZ D)) 1):=by
 rw [bZ,ni,yh,Qw]
 intro i y hy
 rw [List.getElem?_map] at hy
 cases hz:kids[i]? with
 | none=>rw [hz] at hy;cases hy
 | some z =>
   rw [hz] at hy
   obtain rfl:bZ D z=y:=by simpa using hy
   exact h i z hz
theorem sO (l:List C):(eG l).1.length≤6:=by
 unfold eG
 split
 ·simp [je]
 ·show l.length≤6
  omega
theorem Ak (dK:List C):∀ (l:List (ByteArray×E))(acc:List C),(dR dK acc l).1.length≤6
 | [],acc=>sO acc
 | (c,e)::r,acc=>by
   rw [dR]
   split
   ·split
    ·simp [je]
    ·exact Ak dK r _
   ·simp [je]
theorem zH (right:List ByteArray):∀ (l acc:List C),(jO right acc l).1.length≤6
 | [],acc=>sO acc
 | c::r,acc=>by
   rw [jO]
   split
   ·exact zH right r _
   ·split
    ·simp [je]
    ·exact zH right r _
theorem Qz (a b:List C)(l r:List ByteArray):(uQ a b l r).1.length≤6:=by
 unfold uQ
 split
 ·simp [je]
 ·split
  ·exact zH r b a
  ·simp
theorem Dh (a:List C):∀ (l r:List C),(iy a l r).1.length≤a.length
 | [],_=>by rw [iy];exact ank _;intro _ _ _ _ h;cases h
 | _::_,[]=>by rw [iy];exact ank _;intro _ _ _ _ _ h;cases h
 | x::l,y::r=>by
   rw [iy]
   split
   ·exact Dh a l r
   ·simp [je]
theorem MW (a b:List C):(lC a b).1.length≤a.length:=by
 unfold lC
 split
 ·exact Dh a a b
 ·simp [je]
theorem vW (dK:List C):∀ (l:List Ag)(acc:List C),(fJ dK acc l).1.length≤6
 | [],acc=>sO acc
 | g::r,acc=>by
   rw [fJ]
   split
   ·simp [je]
   ·split
    ·exact vW dK r _
    ·split
     ·simp [je]
     ·split
      ·simp [je]
      ·exact vW dK r _
theorem Di (dK:List C)(ag:List Ag):∀ (l:List ByteArray)(acc:List C),(iU dK ag acc l).1.length≤6
 | [],acc=>vW dK ag acc
 | s::r,acc=>by
   rw [iU]
   split
   ·simp [je]
   ·split
    ·simp [je]
    ·exact Di dK ag r _
theorem Uh {D:List DM} (hD:∀ d∈D,d.cols.length≤6)(k:Int)(nm:ByteArray)(ex:List E)(cols left right:List ByteArray)(ag:List Ag)(a b:List C)(ha:a.length≤6):(JA D k nm ex cols left right ag a b).1.length≤6:=by
 unfold JA
 split
 ·unfold Em
  split
  ·simp [je]
  ·show (List.getD D _ _).cols.length≤6
   rw [List.getD_eq_getElem?_getD]
   cases h:D[(idx (DM.mO nm) D 0).toNat]? with
   | none=>simp
   | some d=>exact hD d (anq h)
 ·split
  ·exact ha
  ·split
   ·exact Ak _ _ _
   ·split
    ·exact Qz _ _ _ _
    ·split
     ·exact anv (MW _ _) ha
     ·split
      ·exact Di _ _ _ _
      ·exact ha
theorem JB {D:List DM} (hD:∀ d∈D,d.cols.length≤6):∀ p,(bZ D p).1.length≤6:=P.ind fun k nm ex cols left right ag kids ih=>by
 rw [bZ,ni,yh]
 split
 ·simp
 ·refine Uh hD _ _ _ _ _ _ _ _ _ ?_
  unfold uM
  rw [List.getD_eq_getElem?_getD,List.getElem?_map]
  cases h:kids[0]? with
  | none=>simp
  | some x=>exact ih x (anq h)
def OE (w:World)(S:Nat→Prop)(us:List Value)(ks:List (List C)):Prop:=∀ (i:Nat)(k:List C),ks[i]?=some k→∃ (A:Option Addr)(c:Nat),us[i]?=some (Value.slice A k.length c)∧k.length≤c∧gV w S A k
theorem OE.kept {w w':World} {S:Nat→Prop} {us:List Value} {ks:List (List C)} (h:OE w S us ks)(hw:∀ k,S k→w'.heap[k]?=w.heap[k]?):OE w' S us ks:=fun i k hk=>by
 obtain ⟨A,c,h1,h2,h3⟩:=h i k hk
 exact ⟨A,c,h1,h2,h3.kept hw⟩
theorem OE.mono {w:World} {S S':Nat→Prop} {us:List Value} {ks:List (List C)} (h:OE w S us ks)(hS:∀ k,S k→S' k):OE w S' us ks:=fun i k hk=>by
 obtain ⟨A,c,h1,h2,h3⟩:=h i k hk
 exact ⟨A,c,h1,h2,h3.mono hS⟩
theorem OE.snoc {w:World} {S:Nat→Prop} {us:List Value} {ks:List (List C)} (h:OE w S us ks)(hl:us.length=ks.length) {A:Option Addr} {k:List C} {c:Nat} (hc:k.length≤c)(hk:gV w S A k):OE w S (us++[.slice A k.length c]) (ks++[k]):=fun i x hx=>by
 rcases Nat.lt_trichotomy i ks.length with h1 | h1 | h1
 ·rw [List.getElem?_append_left h1] at hx
  rw [List.getElem?_append_left (by omega)]
  exact h i x hx
 ·subst h1
  rw [List.getElem?_append_right (ank _),Nat.sub_self] at hx
  obtain rfl:k=x:=by simpa using hx
  exact ⟨A,c,by rw [List.getElem?_append_right (by omega),hl,Nat.sub_self];rfl,hc,hk⟩
 ·rw [List.getElem?_eq_none (by simp;omega)] at hx
  cases hx
theorem Ui {B n:Nat} {wr w4 w5:World} {v v':Value} {us:List Value} {ks:List (List C)} {A:Option Addr} {c:Nat} {k:List C} (hK:OE wr (fun g=>B≤g∧g<wr.heap.size∧v.ownBlock≠some g) us ks)(hl:us.length=ks.length)
 (hv:∀ g,v.ownBlock=some g→B≤g∧g<wr.heap.size)(h4:Below wr.heap.size wr w4)(hR:gV w4 (fun g=>wr.heap.size≤g∧g<w4.heap.size) A k)(hgrow:w4.grownBy w5 v.ownBlock)
 (hat:v'.ownBlock=v.ownBlock∨∃ n,v'.ownBlock=some n∧w4.heap.size≤n)(hs:w4.heap.size≤w5.heap.size)(hkc:k.length≤c)(hB:B≤wr.heap.size) :
 OE w5 (fun g=>B≤g∧g<w5.heap.size∧v'.ownBlock≠some g) (us++[.slice A k.length c]) (ks++[k]):=by
 have hs4:=h4.size
 have hne:∀ g,g<w4.heap.size→v.ownBlock≠some g→v'.ownBlock≠some g:=fun g hg hn e=>by
  rcases hat with h | ⟨n,h,hn⟩
  ·exact hn (h.symm.trans e)
  ·rw [h] at e
   have:=Option.some.inj e
   omega
 have hnew:∀ g,wr.heap.size≤g→v.ownBlock≠some g:=fun g hg e=>by have:=(hv g e).2;omega
 refine OE.snoc ?_ hl hkc ?_
 ·exact (hK.kept fun g hg=>(hgrow.block g (by omega) (fun e=>hg.2.2 e.symm)).trans (h4.block g hg.2.1)).mono fun g hg=>⟨hg.1,by omega,hne g (by omega) hg.2.2⟩
 ·exact (hR.kept fun g hg=>hgrow.block g hg.2 (fun e=>hnew g hg.1 e.symm)).mono fun g hg=>⟨by omega,by omega,hne g hg.2 (hnew g hg.1)⟩
theorem Uj:(Tryz.prog.info? 29).map (fun i=>(i.zero,i.size,i.bytes))=some (some (.slice none 0 0),1,24):=by kernel_rfl
theorem GZ (tn nm:ByteArray)(c1:Option Addr)(n1 m1:Nat)(p:Nat) {x0 x2 x3 x4 x5 x6 x7:Value} (w:World)(h0:w.heap[p]?=some (.cells #[x0,.string nm,x2,x3,x4,x5,x6,x7] 27 (0,0))) :
 Calls Tryz.prog 45 #[.agg #[.string tn,.slice c1 n1 m1],.pointer (some ⟨p,0,none⟩)] w fun e w'=>e=.returned (.bool (tn.toList==nm.toList))∧w.alloc (.cells #[.string tn,.slice c1 n1 m1] 66)=w':=by
 have hp:=(Array.getElem?_eq_some_iff.1 h0).1
 obtain ⟨d0,d1,d2,d3,d4,d5,d6,d7,f0,f1,f2,f3,f4,f5,f6,f7⟩:=az h0
 clear h0
 go_enter Tryz.func45,Tryz.ntmps45
 go_wp2
 go_ret
 exact ⟨rfl,rfl⟩
theorem En (A:Option Addr)(c:Nat)(l:List DM)(nm:ByteArray)(pb:Nat)(w:World) {x0 x2 x3 x4 x5 x6 x7:Value} {S:Nat→Prop} (hA:kS w S A l)(hS:∀ k,S k→k<w.heap.size)(hl:l.length≤1073741824)(hP:w.heap[pb]?=some (.cells #[x0,.string nm,x2,x3,x4,x5,x6,x7] 27 (0,0))) :
 Calls Tryz.prog 44 #[.slice A l.length c,.func (.func 45) #[] #[.pointer (some ⟨pb,0,none⟩)]] w fun e w'=>e=.returned (.int .i64 (idx (DM.mO nm) l 0))∧Below w.heap.size w w':=by
 obtain ⟨n,hn⟩:∃ n,l.length=n:=⟨_,rfl⟩
 have HN:=anc hn
 have HA:=anc hA
 have HS:=anc hS
 have hp:=(Array.getElem?_eq_some_iff.1 hP).1
 have H0:=anc hP
 rw [hn] at hl ⊢
 clear hA hS hn hP
 go_enter Tryz.func44,Tryz.ntmps44
 go_wp2_with fail
 go_loopw [8] (fun i wr=>∃ k:Nat,k≤n∧i=.int .i64 k∧Below w.heap.size w wr∧Hid (idx (DM.mO nm) l 0=idx (DM.mO nm) (l.drop k) k)) (fun i _=>n-(intOf i).toNat)
 case atStart=>exact ⟨0,Nat.zero_le _,rfl,anl _ _,anc (by simp)⟩
 case round =>
  obtain ⟨k,hk,rfl,hb,HL⟩:=hrel
  have HB:=anc hb
  have hs:=hb.size
  clear hb
  by_cases hlt:k<n
  ·obtain ⟨x,hx⟩:∃ x,l[k]?=some x:=⟨_,anr (by rw [HN.out];exact hlt)⟩
   obtain ⟨b1,aeu,rfl,_,hc1,hc2⟩:=(HA.out.below HB.out HS.out).get hx
   have hq:=anc (GZ x.nm nm x.cA x.cols.length x.cc pb wr ((HB.out.block _ hp).trans H0.out))
   have HD:=anc (HL.out.trans (kH (p:=DM.mO nm) hx))
   rw [show DM.mO nm x=(x.nm.toList==nm.toList) from rfl] at HD
   generalize (x.nm.toList==nm.toList)=z at hq HD
   obtain ⟨xn,cA,cc,cl⟩:=x
   dsimp only at hc1 hc2 hq
   generalize cl.length=n1 at hc2 hq
   clear hx HL
   cases z
   ·go_wp2_with fail
    refine hq.out.mono ?_
    rintro e w3 ⟨rfl,rfl⟩
    have NY:Hid (idx (DM.mO nm) l 0=idx (DM.mO nm) (l.drop (k+1)) (k+1)):=anc (by rw [HD.out];rfl)
    clear HD
    go_wp2_with fail
    go_roundw
    case rel=>exact ⟨k+1,by omega,by go_num,HB.out.alloc hs _,NY⟩
    case measure=>simp [intOf];omega
   ·go_wp2_with fail
    refine hq.out.mono ?_
    rintro e w3 ⟨rfl,rfl⟩
    have HF:Hid (idx (DM.mO nm) l 0=(k:Int)):=anc (by rw [HD.out];rfl)
    clear HD
    go_wp2_with fail
    go_ret
    exact ⟨by rw [HF.out];rfl,HB.out.alloc hs _⟩
  ·obtain rfl:k=n:=by omega
   have HF:Hid (idx (DM.mO nm) l 0=-1):=anc (by
    rw [HL.out,List.drop_of_length_le (by rw [HN.out];exact ank _)]
    rfl)
   go_wp2_with fail
   go_ret
   exact ⟨by rw [HF.out];rfl,HB.out⟩
theorem FU:∀ t:T,t.Good→t.Fine:=T.ind fun k s n l a ih h=>by
 obtain ⟨_,_,_,_,_,h1,h2,h3,_,_,hk⟩:=h
 exact .mk k s n l a h1 h2 (by omega) fun e he=>ih e he (hk e he)
theorem MX:zeroE.Fine:=.mk _ _ _ _ (by decide) (by decide) (by decide) (fun e he=>by cases he)
theorem JC:zeroE.Texts:=.mk _ _ _ _ (fun h=>by simp at h) (fun e he=>by cases he)
def Dj (q:E×Int×Int):Prop:=q.1.Fine∧q.1.Texts∧(q.2.1=0→cZ q.1=true)∧(q.2.1≠0→q.1=zeroE)
theorem jE (why at_:Int)(h:why≠0):Dj (zeroE,why,at_):=⟨MX,JC,fun e=>absurd e h,fun _=>rfl⟩
theorem Dk:∀ l:List T,(∀ t∈l,Dj (aI t))→(∀ e∈(aN l).1,e.Fine∧e.Texts)∧((aN l).2.1=0→(aN l).1.length=l.length∧jH (aN l).1=true)
 | [],_=>⟨fun e he=>by simp [aN] at he,fun _=>by simp [aN,jH]⟩
 | x::l,h=>by
   obtain ⟨i1,i2⟩:=Dk l fun t ht=>h t (List.mem_cons_of_mem _ ht)
   obtain ⟨x1,x2,x3,_⟩:=h x List.mem_cons_self
   rw [aN]
   by_cases hx:(aI x).2.1=0
   ·rw [if_pos hx]
    refine ⟨fun e he=>?_,fun h0=>?_⟩
    ·rcases List.mem_cons.1 he with rfl | he
     ·exact ⟨x1,x2⟩
     ·exact i1 e he
    ·obtain ⟨j1,j2⟩:=i2 h0
     refine ⟨by simp only [List.length_cons,j1],?_⟩
     rw [jH,x3 hx,j2];rfl
   ·rw [if_neg hx]
    exact ⟨fun e he=>absurd (show e∈([]:List E) from he) (by simp),fun h0=>absurd h0 hx⟩
theorem QA:∀ t:T,t.Good→Dj (aI t):=T.ind fun k s n l a ih h=>by
 obtain ⟨_,_,_,_,_,h1,h2,h3,h4,hl,hk⟩:=h
 rw [aI.eq_def]
 simp only
 by_cases k2:k=2
 ·rw [if_pos k2]
  cases hn:nameB s
  ·exact jE 20 a (by decide)
  ·refine ⟨.mk _ _ _ _ (by decide) (by decide) (by show s.size≤_;omega) (fun e he=>by cases he),.mk _ _ _ _ (fun h=>by simp at h) (fun e he=>by cases he),fun _=>?_,fun h=>absurd rfl h⟩
   show cZ (.mk 1 s 0 [])=true
   rw [cZ,if_pos rfl,hn];rfl
 rw [if_neg k2]
 by_cases k3:k=3
 ·rw [if_pos k3]
  refine ⟨.mk _ _ _ _ h1 h2 (by decide) (fun e he=>by cases he),.mk _ _ _ _ (fun h=>by simp at h) (fun e he=>by cases he),fun _=>?_,fun h=>absurd rfl h⟩
  show cZ (.mk 2 ⟨#[]⟩ n [])=true
  rw [cZ,if_neg (by decide),if_pos rfl,ByteArray.toList_eq];rfl
 rw [if_neg k3]
 by_cases k4:k=4
 ·rw [if_pos k4]
  refine ⟨.mk _ _ _ _ (by decide) (by decide) (by show s.size≤_;omega) (fun e he=>by cases he),.mk _ _ _ _ (fun _=>h4 k4) (fun e he=>by cases he),fun _=>?_,fun h=>absurd rfl h⟩
  show cZ (.mk 3 s 0 [])=true
  rw [cZ,if_neg (by decide),if_neg (by decide),if_pos rfl];rfl
 rw [if_neg k4]
 by_cases k1:k=1
 ·rw [if_pos k1]
  match l with
  | []=>exact jE 12 a (by decide)
  | x::ks =>
    simp only
    by_cases hx:x.k=2∧dB x.s.toList≠0
    ·rw [if_pos hx]
     by_cases hc:ks.length=dB x.s.toList
     ·rw [if_pos hc]
      obtain ⟨i1,i2⟩:=Dk ks fun t ht=>ih t (List.mem_cons_of_mem _ ht) (hk t (List.mem_cons_of_mem _ ht))
      obtain ⟨_,_,_,_,_,_,_,g3,_⟩:=hk x List.mem_cons_self
      by_cases h0:(aN ks).2.1=0
      ·rw [if_pos h0]
       obtain ⟨j1,j2⟩:=i2 h0
       refine ⟨.mk _ _ _ _ (by decide) (by decide) (by show ByteArray.size _≤_;simp only [T.s];omega) (fun e he=>(i1 e he).1),.mk _ _ _ _ (fun h=>by simp at h) (fun e he=>(i1 e he).2),fun _=>?_,fun h=>absurd rfl h⟩
       show cZ (.mk 4 _ 0 (aN ks).1)=true
       rw [cZ,if_neg (by decide),if_neg (by decide),if_neg (by decide),if_pos rfl,j1,j2,hc]
       simp
       have:=hx.2
       omega
      ·rw [if_neg h0];exact jE _ _ h0
     ·rw [if_neg hc];exact jE 23 a (by decide)
    ·rw [if_neg hx];exact jE 12 a (by decide)
 ·rw [if_neg k1];exact jE 12 a (by decide)
inductive fH:P→Prop
 | mk (k:Int)(nm:ByteArray)(ex:List E)(cols left right:List ByteArray)(ag:List Ag)(kids:List P)(h1:1≤k)(h7:k≤7)(hm:∀ e∈ex,E.Fine e∧nD e)(hx:k=2→ex.length=1)(h3:k=3→cols.length=ex.length)
    (hc:cols.length≤ex.length)(hn:∀ x∈cols,nameB x=true)(hg:∀ g∈ag,nameB g.nm=true)(hkn:kids.length=aJ k)
    (hs:∀ x∈left++right,x.size≤600)(ll:left.length≤600)(lr:right.length≤600)(le:ex.length≤600)(la:ag.length≤600)(hk:∀ p∈kids,fH p):fH (.mk k nm ex cols left right ag kids)
theorem Uk:∀ p,fH p→TxP p:=P.ind fun k nm ex cols left right ag kids ih h=>by
 obtain ⟨_,_,_,_,_,_,_,_,h1,h7,hm,hx,h3,hc,hn,hg,hkn,hs,ll,lr,le,la,hk⟩:=h
 refine .mk _ _ _ _ _ _ _ _ h1 h7 hm hc hx (fun e=>?_) hs ll lr le la ?_ (fun p hp=>ih p hp (hk p hp))
 ·subst e
  exact List.eq_nil_of_length_eq_zero (by rw [hkn];rfl)
 ·rw [hkn];unfold aJ;repeat' split
  all_goals omega
theorem QB:∀ p,fH p→Ai p:=P.ind fun k nm ex cols left right ag kids ih h=>by
 obtain ⟨_,_,_,_,_,_,_,_,h1,h7,hm,hx,h3,hc,hn,hg,hkn,hs,ll,lr,le,la,hk⟩:=h
 exact .mk _ _ _ _ _ _ _ _ h1 h7 (fun e he=>(hm e he).2) hc (fun p hp=>ih p hp (hk p hp))
theorem QC:∀ p,fH p→Cj p:=P.ind fun k nm ex cols left right ag kids ih h=>by
 obtain ⟨_,_,_,_,_,_,_,_,h1,h7,hm,hx,h3,hc,hn,hg,hkn,hs,ll,lr,le,la,hk⟩:=h
 refine .mk _ _ _ _ _ _ _ _ le (by omega) ll lr la ?_ (fun p hp=>ih p hp (hk p hp))
 rw [hkn];unfold aJ;repeat' split
 all_goals omega
end Go.Proofs.YtjhkihkiebnpaaaGreatDoor
