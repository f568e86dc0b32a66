/-
  The reference's Read of expressions: the kids.
-/
import Derived.Test.YtjhkihkiebnpaaaGreatDoorMj0
import Derived.Test.YtjhkihkiebnpaaaGreatDoorMj7
import Derived.Maps.AppendAt
import Derived.Deep.AppendLies
import Derived.Test.YtjhkihkiebnpaaaGreatDoorMj4
set_option linter.unusedVariables false
set_option linter.unusedSimpArgs false
set_option maxRecDepth 100000
set_option maxHeartbeats 40000000
namespace Go.Proofs.YtjhkihkiebnpaaaGreatDoor
open Go.RowKit
theorem Jz (s:ByteArray)(n:Int)(x:T)(ks:List T)(a:Int)(hk2:x.k=2)(hc0:gX x.s.toList≠0)(heq:ks.length=gX x.s.toList)(hM:∀ t∈ks,qI t)(hF:∀ t∈ks,t.Fine)(A:Option Addr)(c:Nat)(w:World)(hcap:(x::ks).length≤c)(hA:fA w w.heap.size A (x::ks)) :
 Calls Tryz.prog 84 #[.agg #[.int .i64 1,.string s,.int .i64 n,.slice A (x::ks).length c,.int .i64 a]] w (nC (if (eH ks).2.1=0 then (.mk 4 x.s 0 (eH ks).1,0,0) else (zeroE,(eH ks).2.1,(eH ks).2.2)) w):=by
 obtain⟨m,em⟩:∃ m,m=ks.length:=⟨_,rfl⟩
 have hlen:(x::ks).length≤9223372036854775807:=hA.len
 rw[←em] at heq
 simp only[bf,←em] at hlen hcap ⊢
 obtain⟨w1,dZ⟩:∃ w1,w1=(w.alloc (.cells #[.int .i64 1,.string s,.int .i64 n,.slice A (m+1) c,.int .i64 a] 86)).alloc (.cells #[.int .i64 0,.string ⟨#[]⟩,.int .i64 0,.slice none 0 0] 38):=⟨_,rfl⟩
 have hb1:Below w.heap.size w w1:=by rw[dZ];exact ((aG _ _).alloc (aF _) _).alloc (by simp) _
 have hws:w1.heap.size=w.heap.size+2:=by rw[dZ];simp
 have HB1:=ae hb1
 have hB:Hid (w1.heap[w.heap.size+1]?=some (.cells #[.int .i64 0,.string ⟨#[]⟩,.int .i64 0,.slice none 0 0] 38 (0,0))):=ae (by
  rw[dZ]
  have:=aH (w.alloc (.cells #[.int .i64 1,.string s,.int .i64 n,.slice A (m+1) c,.int .i64 a] 86)) (.cells #[.int .i64 0,.string ⟨#[]⟩,.int .i64 0,.slice none 0 0] 38)
  simpa using this)
 have rq:Hid (w1.cell? ⟨w.heap.size,3,none⟩=some (.slice A (m+1) c)∧w1.cell? ⟨w.heap.size,4,none⟩=some (.int .i64 a)):=ae (by rw[dZ];simp)
 have d0:w1.cell? ⟨w.heap.size,0,none⟩=some (.int .i64 1):=by rw[dZ];simp
 have HW1:=ae dZ
 have HK:=ae ((hA.low hb1).more hb1.size)
 obtain⟨b,o,A',c',rfl,hlt,x0,x1,_,_,_,_,_⟩:=((hA.low hb1).more hb1.size).gy w1 (aG _ _) 0 x rfl
 rw[Nat.zero_mul,Nat.add_zero] at x0 x1
 have hm0:(0:Int)<((m+1:Nat):Int):=by omega
 have hm1:(((m+1:Nat):Int)==0)=false:=by simp;omega
 obtain⟨xk,xs,xn,xl,xa⟩:=x
 simp only[T.k,T.s] at x0 x1 hk2 hc0 heq ⊢
 subst hk2
 have hC:=ae (wO xs)
 have NI:m≤3:=by
  have hcb:gX xs.toList≤3:=by
   unfold gX
   repeat' split
   all_goals omega
  omega
 generalize gX xs.toList=cn at *
 have hcz:((cn:Int)==0)=false:=by simp;omega
 have hn1:((m:Int) != (cn:Int))=false:=by simp;omega
 have HM:=ae (fun t ht=>hM t ht (hF t ht))
 have yt:=ae em
 have ada:0<m:=by omega
 obtain⟨Q,hQ⟩:∃ Q:E×Int×Int,Q=(if (eH ks).2.1=0 then (.mk 4 xs 0 (eH ks).1,0,0) else (zeroE,(eH ks).2.1,(eH ks).2.2)):=⟨_,rfl⟩
 have HQ:=ae hQ
 rw[←hQ]
 clear hA em dZ hb1 hc0 heq hM hF hQ
 go_enter Tryz.func84,Tryz.ntmps84
 go_upto_region 1 with (fail)
 rw[←HW1.o]
 obtain⟨d3,d4⟩:=rq.o
 go_wp2_with fail
 refine (hC.o _).mono ?_
 rintro e w2 ⟨rfl,rfl⟩
 go_upto_region 12 with (fail)
 obtain⟨⟨k0,k1,k2,k3⟩,f0,f1,f2,f3⟩:=fQ hB.o
 go_quiet ((go_at_call 127;exact Calls.quiet_of_same ((hC.o _).mono fun e w' ⟨h1,h2⟩=>⟨h1,h2.symm⟩)))
 generalize hwx:w1.drewN nq=wx at *
 have hbx:Below w1.heap.size w1 wx:=by rw[←hwx];exact below_drewN (aG _ _) _
 have hsx:wx.heap.size=w.heap.size+2:=by rw[←hwx];exact hws
 have hbq:Below wx.heap.size wx (wx.alloc (.cells #[.int .i64 4,.string xs,.int .i64 0,.slice none 0 0] 38)):=(aG _ _).alloc (aF _) _
 have hsq:(wx.alloc (.cells #[.int .i64 4,.string xs,.int .i64 0,.slice none 0 0] 38)).heap.size=w.heap.size+3:=by simp;omega
 have HXQ:Hid ((wx.alloc (.cells #[.int .i64 4,.string xs,.int .i64 0,.slice none 0 0] 38)).heap[w.heap.size+2]?=some (.cells #[.int .i64 4,.string xs,.int .i64 0,.slice none 0 0] 38 (0,0))):=ae (by rw[←hsx];exact aH wx _)
 have HRQ:Hid ((wx.alloc (.cells #[.int .i64 4,.string xs,.int .i64 0,.slice none 0 0] 38)).heap[w.heap.size+1]?=some (.cells #[.int .i64 0,.string ⟨#[]⟩,.int .i64 0,.slice none 0 0] 38 (0,0))):=ae ((hbq.block _ (by omega)).trans ((hbx.block _ (by omega)).trans hB.o))
 have Xt:Hid (Below w1.heap.size w1 (wx.alloc (.cells #[.int .i64 4,.string xs,.int .i64 0,.slice none 0 0] 38))):=ae (hbx.trans (hbq.mono (by omega)))
 have uI:Hid (Below w.heap.size w (wx.alloc (.cells #[.int .i64 4,.string xs,.int .i64 0,.slice none 0 0] 38))):=ae (HB1.o.trans (Xt.o.mono (by omega)))
 have x1:wx.cell? ⟨b,o+1,none⟩=some (.string xs):=(hbx.cell (p:=⟨b,o+1,none⟩) hlt).trans x1
 have dx3:wx.cell? ⟨w.heap.size,3,none⟩=some (.slice (some ⟨b,o,none⟩) (m+1) c):=(hbx.cell (p:=⟨w.heap.size,3,none⟩) (show w.heap.size<_ by omega)).trans rq.o.1
 have ZD:Hid ((wx.alloc (.cells #[.int .i64 4,.string xs,.int .i64 0,.slice none 0 0] 38)).cell? ⟨w.heap.size,3,none⟩=some (.slice (some ⟨b,o,none⟩) (m+1) c)):=ae ((hbq.cell (p:=⟨w.heap.size,3,none⟩) (show w.heap.size<_ by omega)).trans dx3)
 clear hwx hbx hbq x0 d3 d4 k0 k1 k2 k3 f0 f1 f2 f3
 have hcc:m+1≤c:=hcap
 have hc1:(1:Int)≤((m+1:Nat):Int):=by omega
 go_upto_region 15 with (fail)
 generalize (wx.alloc (.cells #[.int .i64 4,.string xs,.int .i64 0,.slice none 0 0] 38))=wq at *
 clear x1 dx3 hlt hsx
 go_wp2_with fail
 go_loopw [6] (fun i wr=>∃ (j:Nat)(ps:List EP)(v:Value),j≤m∧ps.length=j∧i=.int .i64 ((j+1:Nat):Int)∧wr.heap[w.heap.size+2]?=some (.cells #[.int .i64 4,.string xs,.int .i64 0,v] 38 (0,0)) ∧
  wr.ownsRow wq.heap.size 38 4 v j (kN ps)∧Hid (∀ p∈ps,jG wr (fun k=>wq.heap.size≤k∧k<wr.heap.size∧v.ownBlock≠some k) p.2.1 p.1.kids)∧Below (w.heap.size+2) wq wr ∧
  Hid (eH ks=(ps.map Prod.fst++(eH (ks.drop j)).1,(eH (ks.drop j)).2.1,(eH (ks.drop j)).2.2))) (fun i _=>m+1-(intOf i).toNat)
 case atStart=>exact⟨0,[],.slice none 0 0,aX _,rfl,rfl,HXQ.o,World.ownsRow_nil _ _ _ _,ae (fun p hp=>by cases hp),aG _ _,ae rfl⟩
 case round =>
  obtain⟨j,ps,v,hj,hpl,rfl,hbox,hown,hxk,hb,hzl⟩:=hrel
  have HO:=ae hown
  have HB:=ae hb
  have hs:=hb.size
  have lV:=ae hpl
  have jW:=ae hbox
  have z3:wr.cell? ⟨w.heap.size,3,none⟩=some (.slice (some ⟨b,o,none⟩) (m+1) c):=(hb.cell (p:=⟨w.heap.size,3,none⟩) (show w.heap.size<_ by omega)).trans ZD.o
  clear hown hpl
  by_cases hlt2:j<m
  ·obtain⟨x,hx⟩:∃ x,ks[j]?=some x:=⟨_,aO (by rw[←yt.o];exact hlt2)⟩
   have Uj:Below w1.heap.size w1 wr:=Xt.o.trans (hb.mono (by omega))
   obtain⟨b',o',A',c',hb',_,c1,c2,c3,c4,c5,hcx,hKx⟩:=HK.o.gy wr Uj (j+1) x (by simpa using hx)
   injection hb' with hb'
   injection hb' with hbb hoo
   subst hbb hoo
   have Dv:=HM.o x (aN hx)
   have hst:Hid (eH (ks.drop j)=if (dX x).2.1=0 then ((dX x).1::(eH (ks.drop (j+1))).1,(eH (ks.drop (j+1))).2.1,(eH (ks.drop (j+1))).2.2) else ([],(dX x).2.1,(dX x).2.2)):=ae (by
    obtain⟨g1,g2⟩:=aV.1 hx
    rw[bY g1,g2,eH])
   clear hx
   obtain⟨tk,ts,tn,tl,ta⟩:=x
   simp only[T.k,T.s,T.n,T.kids,T.at_] at c1 c2 c3 c4 c5 hKx hcx
   have hcl:=ae (Dv A' c' wr hcx hKx)
   have hlt3:((j+1:Nat):Int)<((m+1:Nat):Int):=by omega
   simp only[T.val,T.k,T.s,T.n,T.kids,T.at_] at hcl
   generalize hq:dX (.mk tk ts tn tl ta)=tq at *
   generalize tl.length=tm at *
   obtain⟨⟨ek,es,en,el⟩,wy,at2⟩:=tq
   simp only[E.val,E.k,E.s,E.n,E.kids] at hcl hst
   have Xu:=hzl
   clear hKx Dv hbox hcx hq hzl Uj
   go_wp2_with fail
   refine (hcl.o).mono ?_
   rintro e w3 ⟨⟨A3,c3',rfl,hX⟩,hb3⟩
   have II:Below wr.heap.size wr w3:=hb3
   have hx3:Below w3.heap.size w3 (w3.alloc (.cells #[.int .i64 ek,.string es,.int .i64 en,.slice A3 el.length c3'] 38)):=(aG _ _).alloc (aF _) _
   have hw3:Hid (Below wr.heap.size wr (w3.alloc (.cells #[.int .i64 ek,.string es,.int .i64 en,.slice A3 el.length c3'] 38))):=ae (II.trans (hx3.mono II.size))
   have hN3:Hid ((w3.alloc (.cells #[.int .i64 ek,.string es,.int .i64 en,.slice A3 el.length c3'] 38)).heap[w3.heap.size]?=some (.cells #[.int .i64 ek,.string es,.int .i64 en,.slice A3 el.length c3'] 38 (0,0))):=ae (aH w3 _)
   have Xv:Hid ((w3.alloc (.cells #[.int .i64 ek,.string es,.int .i64 en,.slice A3 el.length c3'] 38)).heap[w.heap.size+1]?=some (.cells #[.int .i64 0,.string ⟨#[]⟩,.int .i64 0,.slice none 0 0] 38 (0,0))):=ae ((hw3.o.block _ (by omega)).trans ((HB.o.block _ (by omega)).trans HRQ.o))
   have Xw:Hid ((w3.alloc (.cells #[.int .i64 ek,.string es,.int .i64 en,.slice A3 el.length c3'] 38)).heap[w.heap.size+2]?=some (.cells #[.int .i64 4,.string xs,.int .i64 0,v] 38 (0,0))):=ae ((hw3.o.block _ (by omega)).trans jW.o)
   have hS3:Hid ((w3.alloc (.cells #[.int .i64 ek,.string es,.int .i64 en,.slice A3 el.length c3'] 38)).heap.size=w3.heap.size+1∧wr.heap.size≤w3.heap.size):=ae ⟨by simp,II.size⟩
   clear II hx3
   have hs3:=hw3.o.size
   have nO:=ae hX
   clear hX hb3
   by_cases hw0:wy=0
   ·subst hw0
    obtain⟨⟨k0,k1,k2,k3⟩,g0,g1,g2,g3⟩:=fQ Xw.o
    obtain⟨⟨n0,n1,n2,n3⟩,m0,m1,m2,m3⟩:=fQ hN3.o
    have hrl:Hid (eH ks=((ps++[((.mk ek es en el:E),A3,c3')]).map Prod.fst++(eH (ks.drop (j+1))).1,(eH (ks.drop (j+1))).2.1,(eH (ks.drop (j+1))).2.2)):=ae (by
     rw[Xu.o,hst.o,if_pos rfl];simp)
    have Nj:=ae (own_below HO.o hw3.o)
    clear hst Xu hs3
    obtain⟨i0,hi,hz0,hz1,hz2⟩:=info_parts wH
    go_wp2_with (at_builtin;refine wpList_append_own_at _ rfl _ _ 22 rfl wq.heap.size 38 i0 _ 4 56 Tryz.underlying22 hi hz0 hz1 hz2 rfl (by decide) _ _ _ rfl (Nj.o.alloc _) ⟨w3.heap.size+1,0,none⟩ 1 1 (EP.cs ((.mk ek es en el:E),A3,c3')) rfl rfl ?c1 ?c2 ?c3 ?c4 ?c5 ?_)
    case c1 =>
     intro i u hu
     match i,hu with
     | 0,hu=>simp[EP.cs,E.k] at hu;subst hu;simp[Addr.add]
     | 1,hu=>simp[EP.cs,E.s] at hu;subst hu;simp[Addr.add]
     | 2,hu=>simp[EP.cs,E.n] at hu;subst hu;simp[Addr.add]
     | 3,hu=>simp[EP.cs,E.kids] at hu;subst hu;simp[Addr.add]
    case c2=>rw[←nR];exact xE _
    case c3=>unfold maxLen;omega
    case c4=>omega
    case c5=>simp;have:=hS3.o.2;omega
    intro v' w5 hown' hgrow _ hat
    have fJ:Hid ((w3.alloc (.cells #[.int .i64 ek,.string es,.int .i64 en,.slice A3 el.length c3'] 38)).grownBy w5 v.ownBlock):=ae ((World.grownBy_alloc _ _ _).trans hgrow)
    have jP:Hid (v'.ownBlock=v.ownBlock∨∃ n,v'.ownBlock=some n∧w3.heap.size≤n):=ae (hat.imp_right fun h=>⟨_,h,by first|omega|(simp;omega)⟩)
    obtain⟨g',cap',rfl,hg1,hg2⟩:=hown'.form (by omega)
    have jq:Hid (w5.ownsRow wq.heap.size 38 4 (.slice (some ⟨g',0,none⟩) (j+1) cap') (j+1) (kN (ps++[((.mk ek es en el:E),A3,c3')]))):=ae (by rw[o8,nR,hsq];exact hown')
    clear hown' hgrow hat k0 k1 k2 k3 g0 g1 g2 g3 n0 n1 n2 n3 m0 m1 m2 m3
    have hE5:Hid (w5.heap[w.heap.size+2]?=some (.cells #[.int .i64 4,.string xs,.int .i64 0,v] 38 (0,0))):=ae ((fJ.o.block _ (by have:=hS3.o;omega) (fun e=>by have:=(HO.o.lt _ e.symm).1;omega)).trans Xw.o)
    obtain⟨⟨k0,k1,k2,k3⟩,g0,g1,g2,g3⟩:=fQ hE5.o
    go_wp2_with fail
    go_roundw
    case rel =>
     refine⟨_,_,_,_,_,_,_,_,_,_,_,_,_,_,_,_,_,_,_,_,_,_,_,_,_,_,_,_,_,_,_,_,_,_,?_,rfl⟩
     have hs5:=fJ.o.size
     have agB:=hS3.o.1
     have aak:=hS3.o.2
     have hother:∀ k,k≠w.heap.size+2→k<w3.heap.size+1→v.ownBlock≠some k→(w5.setCell ⟨w.heap.size+2,3,none⟩ (.slice (some ⟨g',0,none⟩) (j+1) cap')).heap[k]?=(w3.alloc (.cells #[.int .i64 ek,.string es,.int .i64 en,.slice A3 el.length c3'] 38)).heap[k]?:=fun k h1 h2 h3 =>
      (aI w5 ⟨w.heap.size+2,3,none⟩ _ k h1).trans (fJ.o.block k (by omega) fun e=>h3 e.symm)
     refine⟨j+1,ps++[((.mk ek es en el:E),A3,c3')],.slice (some ⟨g',0,none⟩) (j+1) cap',by omega,by rw[aZ,lV.o];rfl,by go_num,GG (k:=3) hE5.o,P8 jq.o _ (by show w.heap.size+2<wq.heap.size;omega),ae ?_,?_,hrl⟩
     ·refine JZ hxk.o nO.o hs (fun k h1 h2 h3=>(hother k (by omega) (by omega) h3).trans (hw3.o.block k h2)) (fun k h1 h2=>(hother k (by omega) (by omega) fun e=>by have:=(HO.o.lt _ e).2;omega).trans (heap_alloc_old _ _ h2)) aak ?_ (fun k e=>(HO.o.lt _ e).2) jP.o
      simp only[World.setCell,Array.size_modify]
      omega
     ·exact ((HB.o.trans (hw3.o.mono (by omega))).grown fJ.o (by omega) (fun g hg=>by have:=(HO.o.lt g hg).1;omega)).setCell (p:=⟨w.heap.size+2,3,none⟩) (aF _) _
    case measure=>simp[intOf];omega
   ·have hy:(wy != 0)=true:=by simpa using hw0
    have hy':(wy==0)=false:=by simpa using hw0
    have h1:(eH ks).2=(wy,at2):=by rw[Xu.o,hst.o,if_neg hw0]
    have hq:Hid (Q=(zeroE,wy,at2)):=ae (by rw[HQ.o,h1,if_neg hw0])
    obtain⟨⟨q0,q1,q2,q3⟩,f0,f1,f2,f3⟩:=fQ Xv.o
    clear h1 hst hs3 Xu
    go_wp2_with fail
    refine aJ (eP rfl rfl rfl rfl (eY Xv.o)) rfl ?_
    refine⟨⟨none,0,by rw[hq.o];rfl,by rw[hq.o];exact .nil _⟩,fC (uI.o.trans ((HB.o.mono (by omega)).trans (hw3.o.mono (by omega)))) (aW _)⟩
  ·obtain rfl:j=m:=by omega
   obtain⟨k0,k1,k2,k3⟩:=(fQ jW.o).1
   have hd:ks.drop j=[]:=List.drop_eq_nil_of_le (by rw[←yt.o];exact aF _)
   have h1:eH ks=(ps.map Prod.fst,0,0):=by rw[hzl.o,hd];simp[eH]
   have hq:Hid (Q=(.mk 4 xs 0 (ps.map Prod.fst),0,0)):=ae (by rw[HQ.o,h1,if_pos rfl])
   have hO2:wr.ownsRow wq.heap.size 38 4 v ps.length (kN ps):=by rw[lV.o];exact HO.o
   have hlj:ps.length≤9223372036854775807:=by rw[lV.o];omega
   obtain⟨A9,c9,rfl,yu⟩:=wF hO2 hlj (S:=fun k=>wq.heap.size≤k∧k<wr.heap.size) (fun g u1 u2=>⟨u1,u2⟩) (fun p hp=>(hxk.o p hp).mono (fun k hk=>⟨hk.1,hk.2.1⟩))
   have GI:=ae yu
   have hB9:Hid (wr.heap[w.heap.size+1]?=some (.cells #[.int .i64 0,.string ⟨#[]⟩,.int .i64 0,.slice none 0 0] 38 (0,0))):=ae ((HB.o.block _ (by omega)).trans HRQ.o)
   obtain⟨⟨q0,q1,q2,q3⟩,f0,f1,f2,f3⟩:=fQ hB9.o
   clear hd h1 hO2 hlj yu hxk hzl
   go_wp2_with fail
   refine aJ (eP rfl rfl rfl rfl (eY hB9.o)) rfl ?_
   have hsz:=HB.o.size
   refine⟨⟨A9,c9,by rw[hq.o];simp[E.val,E.k,E.s,E.n,E.kids],?_⟩,fC (uI.o.trans (HB.o.mono (by omega))) (aW _)⟩
   rw[hq.o]
   exact (GI.o.kept (fun k hk=>kF (by have:=hk.1;omega))).mono (fun k hk=>⟨by have:=hk.1;omega,aQ hk.2 rO.symm⟩)
theorem JA (s:ByteArray)(n:Int)(l:List T)(a:Int)(hM:∀ t∈l,qI t):qI (.mk 1 s n l a):=by
 intro oZ A c w hcap hA
 obtain⟨_,_,_,_,_,_,_,_,hF⟩:=oZ
 have hr:=GK s n l a
 simp only[T.val,T.k,T.s,T.n,T.kids,T.at_] at hcap hA ⊢
 show Calls _ _ _ _ (nC (dX (.mk 1 s n l a)) w)
 match l with
 | []=>rw[hr];exact BU s n [] a (.inl rfl) A c w hA
 | x::ks =>
   simp only at hr
   by_cases h1:x.k=2∧gX x.s.toList≠0
   ·rw[if_pos h1] at hr
    by_cases h2:ks.length=gX x.s.toList
    ·rw[if_pos h2] at hr
     rw[hr]
     exact Jz s n x ks a h1.1 h1.2 h2 (fun t ht=>hM t (bG _ ht)) (fun t ht=>hF t (bG _ ht)) A c w hcap hA
    ·rw[if_neg h2] at hr
     rw[hr]
     exact Gu s n x ks a h1.1 h1.2 h2 A c w hA
   ·rw[if_neg h1] at hr
    rw[hr]
    exact BU s n (x::ks) a (.inr ⟨x,ks,rfl,by
     by_cases h3:x.k=2
     ·exact .inr (Decidable.byContradiction fun h4=>h1 ⟨h3,h4⟩)
     ·exact .inl h3⟩) A c w hA
theorem BV:∀ t,qI t:=T.ind fun k s n l a ih=>by
 by_cases hk:k=1
 ·subst hk
  exact JA s n l a ih
 ·exact Jy k s n l a hk
theorem Le:∀ i:Fin 16,(ByteArray.mk #[48,49,50,51,52,53,54,55,56,57,97,98,99,100,101,102]).extract i.val (i.val+1)=⟨#[hexD i.val]⟩:=by decide +kernel
theorem ad2 (cs:List UInt8)(c:UInt8):(ByteArray.mk cs.toArray)++⟨#[92]⟩++(ByteArray.mk #[48,49,50,51,52,53,54,55,56,57,97,98,99,100,101,102]).extract (c.toNat / 16) (c.toNat / 16+1)++(ByteArray.mk #[48,49,50,51,52,53,54,55,56,57,97,98,99,100,101,102]).extract (c.toNat % 16) (c.toNat % 16+1)=⟨(cs++[92,hexD (c.toNat / 16),hexD (c.toNat % 16)]).toArray⟩:=by
 rw[Le ⟨c.toNat / 16,by have:=c.toNat_lt;omega⟩,Le ⟨c.toNat % 16,by omega⟩]
 apply ByteArray.ext
 simp
theorem Lh (s:ByteArray)(j:Nat)(h:j<s.size):s.extract j (j+1)=⟨#[s[j]]⟩:=by
 apply ByteArray.ext
 rw[ByteArray.data_extract]
 apply Array.ext'
 have h':j<s.data.toList.length:=h
 simp[List.extract,bY h']
 rfl
theorem ad3 (cs:List UInt8)(s:ByteArray)(j:Nat)(h:j<s.size):(ByteArray.mk cs.toArray)++s.extract j (j+1)=⟨(cs++[s[j]]).toArray⟩:=by
 rw[Lh s j h]
 apply ByteArray.ext
 simp
theorem Sv (s:ByteArray)(hs:s.size≤100)(w:World) :
 Calls Tryz.prog 170 #[.string s] w fun e w'=>e=.returned (.string ⟨(tu s.data.toList).toArray⟩)∧Below w.heap.size w w':=by
 go_enter Tryz.func170,Tryz.ntmps170
 go_wp2_with fail
 go_loopw [3,4] (fun o i wr=>∃ (j:Nat)(cs:List UInt8),j≤s.size∧i=.int .i64 j∧o=.string ⟨cs.toArray⟩∧Hid (cs=34::(s.data.toList.take j).flatMap qB)∧Below w.heap.size w wr) (fun _ i _=>s.size-(intOf i).toNat)
 case atStart=>exact⟨0,[34],aX _,rfl,rfl,ae rfl,aG _ _⟩
 case round =>
  obtain⟨j,cs,hj,rfl,rfl,hcs,hb⟩:=hrel
  have HB:=ae hb
  have hlen:cs.length≤400:=by
   rw[hcs.o]
   have:=Qc (s.data.toList.take j)
   have h2:(s.data.toList.take j).length≤j:=List.length_take_le _ _
   simp only[bf]
   omega
  clear hb
  by_cases hlt:j<s.size
  ·have hst:Hid (cs++qB s[j]=34::(s.data.toList.take (j+1)).flatMap qB):=ae (by rw[hcs.o,UE s j hlt];rfl)
   clear hcs
   obtain⟨pc,hpc⟩:∃ pc,pc=qF s[j]:=⟨_,rfl⟩
   have F7:=ae hpc
   clear hpc
   have hi0:(0:Int)≤(j:Int):=by omega
   have hi1:(j:Int)<(s.size:Int):=by omega
   go_upto_region 6 with (fail)
   go_cut [28] (fun s28 wx=>s28=.bool (!pc)∧wx=wr)
   case first =>
    by_cases p1:(s[j].toNat:Int)<32
    ·obtain rfl:pc=false:=by rw[F7.o,qF,decide_eq_false (by omega:¬32≤(s[j].toNat:Int))];rfl
     clear F7
     go_wp2_with fail
     go_meet
     exact⟨rfl,rfl⟩
    ·by_cases p2:126<(s[j].toNat:Int)
     ·obtain rfl:pc=false:=by rw[F7.o,qF,decide_eq_false (by omega:¬(s[j].toNat:Int)≤126)];simp
      clear F7
      go_wp2_with fail
      go_meet
      exact⟨rfl,rfl⟩
     ·by_cases p3:((s[j].toNat:Int)==34)=true
      ·obtain rfl:pc=false:=by rw[F7.o,qF,bne,p3];simp
       clear F7
       go_wp2_with fail
       go_meet
       exact⟨rfl,rfl⟩
      ·have p3':((s[j].toNat:Int)==34)=false:=by simpa using p3
       obtain rfl:pc=!((s[j].toNat:Int)==92):=by rw[F7.o,qF,decide_eq_true (by omega:32≤(s[j].toNat:Int)),decide_eq_true (by omega:(s[j].toNat:Int)≤126),bne,bne,p3'];rfl
       clear F7 p3
       go_wp2_with fail
       go_meet
       exact⟨by rw[Bool.not_not],rfl⟩
   case rest =>
   obtain⟨rfl,hwc⟩:=hcut
   obtain rfl:wr=wc:=hwc.symm
   clear hwc
   cases pc
   ·have hq:Hid (qB s[j]=[92,hexD (s[j].toNat / 16),hexD (s[j].toNat % 16)]):=ae (by unfold qB;rw[←F7.o];rfl)
    have c0:(0:Int)≤(s[j].toNat:Int):=by omega
    have c1:(s[j].toNat:Int)<256:=by have:=s[j].toNat_lt;omega
    have c2:(0:Int)≤(s[j].toNat:Int) / 16:=by omega
    have c3:(s[j].toNat:Int) / 16<16:=by omega
    have c4:(0:Int)≤(s[j].toNat:Int) % 16:=by omega
    have c5:(s[j].toNat:Int) % 16<16:=by omega
    have x3:=ZI s[j]
    go_wp2_with fail
    go_quiet (fail)
    go_wp2_with fail
    go_roundw
    case rel=>exact⟨j+1,cs++qB s[j],by omega,by go_num,by rw[hq.o,ad2],hst,below_drewN HB.o _⟩
    case measure=>simp[intOf];omega
   ·have hq:Hid (qB s[j]=[s[j]]):=ae (by unfold qB;rw[←F7.o];rfl)
    go_wp2_with fail
    go_roundw
    case rel=>exact⟨j+1,cs++qB s[j],by omega,by go_num,by rw[hq.o,ad3],hst,HB.o⟩
    case measure=>simp[intOf];omega
  ·obtain rfl:j=s.size:=by omega
   have hend:Hid (cs++[34]=tu s.data.toList):=ae (by rw[hcs.o,bJ (by simp)];rfl)
   clear hcs
   go_wp2_with fail
   go_ret
   refine⟨?_,HB.o⟩
   show Ending.returned (Value.string (_++_))=_
   rw[←hend.o]
   have e:(ByteArray.mk cs.toArray)++⟨#[34]⟩=⟨(cs++[34]).toArray⟩:=by apply ByteArray.ext;simp
   rw[e]
theorem Yg {k n:Int} {s:ByteArray} (hok:V.okB ⟨k,n,s⟩=true)(hk:(k==1)=false):(k==2)=true∧s.size≤40:=by
 unfold V.okB at hok
 rw[show ((V.mk k n s).k==1)=false from hk,Bool.false_and,Bool.false_or] at hok
 simp only[Bool.and_eq_true,decide_eq_true_eq] at hok
 exact⟨hok.1,by have:=hok.2.2;omega⟩
theorem Sz (k n:Int)(s:ByteArray)(h0:-9223372036854775808≤n)(h1:n≤9223372036854775807)(w:World) :
 Calls Tryz.prog 155 #[.agg #[.int .i64 k,.int .i64 n,.string s]] w fun e w'=>e=.returned (.string ⟨(y8 ⟨k,n,s⟩).toArray⟩)∧Below w.heap.size w w':=by
 have hr:=ae (OA k n s)
 cases hok:V.okB ⟨k,n,s⟩
 ·have e0:y8 ⟨k,n,s⟩=[63]:=by unfold y8;rw[hok];rfl
  rw[hok] at hr
  rw[e0]
  clear hok e0
  go_enter Tryz.func155,Tryz.ntmps155
  go_wp2_with fail
  refine (hr.o _).mono ?_
  rintro e w' ⟨rfl,rfl⟩
  go_wp2_with fail
  go_ret
  exact⟨rfl,((aG _ _).alloc (aF _) _).alloc (by simp) _⟩
 ·cases hk:(k==1)
  ·have e0:Hid (y8 ⟨k,n,s⟩=tu s.data.toList):=ae (by unfold y8;rw[hok];simp only[hk];rfl)
   have hq:=ae (Sv s (by have:=(Yg hok hk).2;omega))
   rw[hok] at hr
   clear hok
   go_enter Tryz.func155,Tryz.ntmps155
   go_wp2_with fail
   refine (hr.o _).mono ?_
   rintro e w' ⟨rfl,rfl⟩
   go_wp2_with fail
   refine (hq.o _).mono ?_
   rintro e w2 ⟨rfl,b2⟩
   have B2:=ae ((((aG w.heap.size w).alloc (aF _) _).alloc (by simp) _).trans (b2.mono (by simp;omega)))
   clear b2
   go_wp2_with fail
   go_ret
   exact⟨by rw[e0.o];rfl,B2.o⟩
  ·have e0:Hid (y8 ⟨k,n,s⟩=Lib.itoa n):=ae (by unfold y8;rw[hok];simp only[hk];rfl)
   have hq:=ae (Et n h0 h1)
   rw[hok] at hr
   clear hok
   go_enter Tryz.func155,Tryz.ntmps155
   go_wp2_with fail
   refine (hr.o _).mono ?_
   rintro e w' ⟨rfl,rfl⟩
   go_wp2_with fail
   refine (hq.o _).mono ?_
   rintro e w2 ⟨rfl,rfl⟩
   go_wp2_with fail
   go_ret
   exact⟨by rw[e0.o];rfl,((aG w.heap.size w).alloc (aF _) _).alloc (by simp) _⟩
end Go.Proofs.YtjhkihkiebnpaaaGreatDoor
